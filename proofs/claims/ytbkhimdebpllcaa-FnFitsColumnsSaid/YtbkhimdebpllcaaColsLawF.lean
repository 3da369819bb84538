/- The law on wider columns answers true: FnFitsColumns; the generator DrawFitsColumns. Conditions: the code is a slice of bytes. -/
import Derived.Test.YtbkhimdebpllcaaColsLawM
import Derived.Test.YtbkhimdebpllcaaAppend2
import Derived.Test.YtbkhimdebpllcaaFitsS
import Derived.Test.YtbkhimdebpllcaaDrawInts
import Derived.Laws.AppendOwnNone
namespace Go.Proofs.Ytbkhimdebpllcaa
open Go.RowKit

/-- append of numbers of the call's own, or of none, behind an empty slice. -/
theorem wpList_append_ints {P : Program} (w : World) {ops : Array Oper} {rest : List Oper} {o : Oper} {a : Act} {Q : Exit → Act → World → Prop} (hgd : o.guard = none) (s x : Operand) (t : TypeId)
    (ho : o.op = .call { callee := .builtin .append, args := #[s, x], argTypes := #[t, t] })
    (base : Nat) (i : TypeInfo) (z : Value) (ht : P.underlying t = some (.slice 3)) (hi : P.info? 3 = some i) (hz : i.zero = some z) (hsize : i.size = 1) (hby : i.bytes = 8) (hzs : z.cells.size = 1)
    (gs : Nat) (hs : a.eval s = .slice (some ⟨gs, 0, none⟩) 0 0) (hown : OwnI w base (some ⟨gs, 0, none⟩) 0 0 [])
    (B : Option Addr) (m d base2 : Nat) (ys : List Int) (hx : a.eval x = .slice B m d) (hown2 : OwnI w base2 B m d ys) (hm : m ≤ 1048576) (hbase : base ≤ w.heap.size)
    (h : ∀ g c' w', OwnI w' base (some ⟨g, 0, none⟩) m c' ys → w.grownBy w' (some gs) → wpList P ops Q rest (a.put o.dst (.slice (some ⟨g, 0, none⟩) m c')) w') : wpList P ops Q (o :: rest) a w := by
  rcases hown2.2 with ⟨hv, h0⟩ | ⟨g', cap, cur, hv, _⟩
  · cases hv
    have e : ys = [] := List.eq_nil_of_length_eq_zero (OwnI.len hown2)
    subst e
    exact wpList_append_own_none hgd s x t ho base 3 i 1 ht hi _ 0 [] hs hown hx (h gs 0 w hown (only_refl w gs))
  · cases hv
    refine wpList_append_two w hgd s x t ho base 3 i z 1 8 ht hi hz hsize hby hzs (by omega) gs 0 0 [] hs hown g' m d base2 (inl ys) hx hown2 (inl_one _) (by omega) (by omega) hbase fun g c' w' h1 h2 => ?_
    simp only [Nat.zero_add, List.nil_append] at h1 ⊢
    exact h g c' w' h1 h2

/-- What the generator of a table and widths leaves. -/
def FitsOut (w : World) (e : Ending) (w' : World) : Prop :=
  ∃ (g n c : Nat) (rs : List (List Cl)) (B k d : Nat) (ws : List Int), e = .returned (.tuple #[.slice (some ⟨g, 0, none⟩) n c, .slice (some ⟨B, 0, none⟩) k d]) ∧ n ≤ 4 ∧ (n ≤ c ∧ c ≤ maxLen) ∧ TabR w' w.heap.size (some ⟨g, 0, none⟩) n rs ∧ k ≤ 8 ∧ OwnI w' w.heap.size (some ⟨B, 0, none⟩) k d ws ∧ Below w.heap.size w w'

set_option maxRecDepth 100000 in
set_option maxHeartbeats 4000000 in
theorem DrawFitsColumns_any (A : Option Addr) (n cap : Nat) (cs : List Int) (w : World) (hc : Code w A n cap cs) :
    Calls Try.prog 31 #[.slice A n cap] w (FitsOut w) := by
  obtain ⟨t0, ti, tz0, tz1, tz2⟩ := info_parts int_info
  obtain ⟨h1, h2, h3, h4, h5⟩ := hc
  have HH := Lib.hid h4; clear h4
  go_enter Try.func31, Try.ntmps31
  go_wp2_with fail
  ((with_reducible refine (newReader_any _ _ _ cs _ h1 h2 h3 HH.out h5).mono ?_); rintro e w1 ⟨rfl, hr1, hb1⟩)
  have hs1 := hb1.size
  have hl1 := hr1.lt
  go_wp2_with fail
  ((with_reducible refine (pick_z _ _ _ 5 _ hr1 (by omega) (by omega) (by omega)).mono ?_); rintro e w2 ⟨m, rfl, hm, hr2, ho2⟩)
  have hO2 := ho2
  have hs2 := hO2.size
  clear ho2
  go_wp2_with fail
  rw [show (1 : Int) + (m : Int) = ((1 + m : Nat) : Int) by omega]
  ((with_reducible refine (anyTable_any _ _ (1 + m) _ hr2 (by omega) (by omega) (by omega)).mono ?_); rintro e w3 ⟨g, q, c, rs, p3, rfl, hq, hqc, hT3, hp3, hr3, ho3⟩)
  have hO3 := only_trans hO2 ho3
  have hs3 := hO3.size
  clear ho3
  obtain ⟨M, hM⟩ : ∃ M, M = 1 + m := ⟨_, rfl⟩
  rw [← hM]
  have hM1 : 1 ≤ M := by omega
  have hM5 : M ≤ 5 := by omega
  clear hM
  have hqx : q ≤ maxLen := by omega
  obtain ⟨L, hL⟩ : ∃ L, colsV rs (M : Int) = L := ⟨_, rfl⟩
  obtain ⟨u, hu⟩ : ∃ u, L.length = u := ⟨_, rfl⟩
  have hu8 : u ≤ 8 := by rw [← hu, ← hL]; exact colsV_len _ _
  have HL := Lib.hid hL
  have HU := Lib.hid hu
  have hT3a := hT3.alloc (.cells #[] 3)
  have HN3 := Lib.hid (own_nil (w3.alloc (.cells #[] 3)) w3.heap.size w3.heap.size (Blk.new w3 3 #[]) (Nat.le_refl _))
  have hb3 := (Below.refl w3.heap.size w3).alloc (Nat.le_refl _) (.cells #[] 3)
  clear hL hu
  go_wp2_with fail
  ((with_reducible refine ((columnWidths_S _ _ _ (M : Int) rs _ hqx ?_).mono fun _ _ h => ints_form HL.out HU.out h).mono ?_); (exact hT3a.tab); rintro e w4 ⟨P4, d4, rfl, o4, hb4⟩)
  have HB4 := Lib.hid (below_then (Nat.le_refl _) hb3 hb4)
  have HN4 := Lib.hid (OwnI.then_ HN3.out hb4)
  have HO4 := Lib.hid o4
  have HS4 := Lib.hid HB4.out.size
  have hrl := hr3.lt
  by_cases hu0 : u = 0
  · subst hu0
    go_wp2_with (at_builtin; (refine wpList_append_ints _ rfl _ _ 22 rfl w3.heap.size t0 _ Try.underlying22 ti tz0 tz1 tz2 rfl w3.heap.size rfl HN4.out P4 0 d4 _ L rfl HO4.out (by omega) HS4.out ?_); intro gl cl w5 hown5 hgr5; (have HO5 := Lib.hid hown5); (have hB5 := HB4.out.grown hgr5 HS4.out (fun k hk => by cases hk; exact Nat.le_refl _)); clear hown5 hgr5)
    have hT5 := hT3.then_ hB5
    have hr5 := hr3.below hB5 hrl
    have hO5 := only_trans hO3 (only_of_below hB5 (some w.heap.size))
    have hs5 := hB5.size
    obtain ⟨wo, hwo⟩ : ∃ wo : World, wo = w5 := ⟨_, rfl⟩
    subst hwo
    have HE := Lib.hid (own_nil (wo.alloc (.cells #[] 3)) wo.heap.size wo.heap.size (Blk.new wo 3 #[]) (Nat.le_refl _))
    have hOE : wo.grownBy (wo.alloc (.cells #[] 3)) (some w.heap.size) := only_alloc (only_refl _ _) _
    go_loopg [7, 8] M (fun kk o i wr => ∃ (j gx cx p' : Nat) (xs : List Int), j ≤ M ∧ kk = M - j ∧ o = .slice (some ⟨gx, 0, none⟩) j cx ∧ i = .int .i64 (j : Int) ∧ Hid (OwnI wr wo.heap.size (some ⟨gx, 0, none⟩) j cx xs) ∧ p' ≤ p3 + 2 * j ∧ Rd wr w.heap.size p' ∧ wo.grownBy wr (some w.heap.size))
    case atStart => exact ⟨0, wo.heap.size, 0, p3, [], Nat.zero_le _, rfl, rfl, by go_num, HE.out, by omega, hr5.alloc _, hOE⟩
    case round =>
      obtain ⟨j, gx, cx, p', xs, hj, hkk, rfl, rfl, hown, hp', hrd, hOr⟩ := hrel
      have HK := Lib.hid hkk; clear hkk
      have hsr := hOr.size
      have hgb := hown.out.lt gx rfl
      by_cases hlt : j < M
      · have hltI : (j : Int) < (M : Int) := by omega
        go_wp2_with fail
        ((with_reducible refine (pick_z _ _ _ 25 _ hrd (by omega) (by omega) (by omega)).mono ?_); rintro e w7 ⟨y, rfl, hy, hr7, ho7⟩)
        have o7 := World.ownsRow.kept hown.out ho7 (.inr (by simp [Value.ownBlock]; omega))
        have O7 := only_trans hOr ho7
        have hs7 := O7.size
        clear ho7
        go_wp2_with fail
        ((with_reducible refine (pick_z _ _ _ 2 _ hr7 (by omega) (by omega) (by omega)).mono ?_); rintro e w8 ⟨z, rfl, hz, hr8, ho8⟩)
        have o8 := World.ownsRow.kept o7 ho8 (.inr (by simp [Value.ownBlock]; omega))
        have O8 := only_trans O7 ho8
        have hs8 := O8.size
        clear ho8 o7
        have HO := Lib.hid (World.ownsRow.alloc o8 (.cells #[.int .i64 ((y : Int) - (z : Int))] 3))
        have HB := Lib.hid (Blk.new w8 3 #[.int .i64 ((y : Int) - (z : Int))])
        have HBASE := Lib.hid (show wo.heap.size ≤ (w8.alloc (.cells #[.int .i64 ((y : Int) - (z : Int))] 3)).heap.size by simp; omega)
        have HO8 := Lib.hid (only_alloc O8 (.cells #[.int .i64 ((y : Int) - (z : Int))] 3))
        have HR8 := Lib.hid (hr8.alloc (.cells #[.int .i64 ((y : Int) - (z : Int))] 3))
        clear o8
        go_wp2_with (at_builtin; (refine wpList_append_one _ rfl _ _ 22 rfl wo.heap.size 3 t0 _ 1 8 Try.underlying22 ti tz0 tz1 tz2 rfl (by omega) (some ⟨gx, 0, none⟩) j cx (inl xs) rfl HO.out w8.heap.size (inl [(y : Int) - (z : Int)]) rfl rfl HB.out (inl_one _) (by omega) (by omega) HBASE.out ?_); intro g9 c9 w9 hown9 hgr9; (have HO9 := Lib.hid hown9); (have HG9 := Lib.hid hgr9); clear hown9 hgr9)
        go_roundg (M - (j + 1))
        case measure => have := HK.out; omega
        case rel =>
          have hgg := (HO.out.lt gx rfl).1
          refine ⟨j + 1, g9, c9, p' + 1 + 1, xs ++ [(y : Int) - (z : Int)], by omega, rfl, rfl, by go_num, ?_, by omega, HR8.out.own HG9.out (by intro x hx; cases hx; simp; omega), only_own HO8.out HG9.out (by intro x hx; cases hx; simp; omega)⟩
          show World.ownsRow _ _ _ _ _ _ _
          rw [inl_snoc]; exact HO9.out
      · have hTr := hT5.only hOr (by omega)
        have hOw := only_trans hO5 hOr
        have hbw : Below w.heap.size w wr := hb1.trans (below_of_only hOw (Nat.le_refl _) hs1)
        have HOW := Lib.hid (OwnI.mono (base' := w.heap.size) hown.out (by omega))
        have HTR := Lib.hid (hTr.mono (base' := w.heap.size) (by omega))
        go_wp2_with fail
        go_ret2
        exact ⟨g, q, c, rs, gx, j, cx, xs, rfl, hq, hqc, HTR.out, by omega, HOW.out, hbw⟩
  have hub : ((u : Int) == 0) = false := by simp; omega
  go_wp2_with (at_builtin; (refine wpList_append_ints _ rfl _ _ 22 rfl w3.heap.size t0 _ Try.underlying22 ti tz0 tz1 tz2 rfl w3.heap.size rfl HN4.out P4 u d4 _ L rfl HO4.out (by omega) HS4.out ?_); intro gl cl w5 hown5 hgr5; (have HO5 := Lib.hid hown5); (have hB5 := HB4.out.grown hgr5 HS4.out (fun k hk => by cases hk; exact Nat.le_refl _)); clear hown5 hgr5)
  have hT5 := hT3.then_ hB5
  have hr5 := hr3.below hB5 hrl
  have hO5 := only_trans hO3 (only_of_below hB5 (some w.heap.size))
  have hs5 := hB5.size
  ((with_reducible refine (pick_z _ _ _ 3 _ hr5 (by omega) (by omega) (by omega)).mono ?_); rintro e w6 ⟨x, rfl, hx, hr6, ho6⟩)
  have hT6 := hT5.only ho6 (by omega)
  have hO6 := only_trans hO5 ho6
  have hs6 := hO6.size
  have hgl := HO5.out.lt gl rfl
  have HO6 := Lib.hid (World.ownsRow.kept HO5.out ho6 (.inr (by simp [Value.ownBlock]; omega)))
  clear ho6
  by_cases x0 : x = 0
  · subst x0
    go_wp2_with fail
    obtain ⟨wo, hwo⟩ : ∃ wo : World, wo = w6 := ⟨_, rfl⟩
    subst hwo
    have HE := Lib.hid (own_nil (wo.alloc (.cells #[] 3)) wo.heap.size wo.heap.size (Blk.new wo 3 #[]) (Nat.le_refl _))
    have hOE : wo.grownBy (wo.alloc (.cells #[] 3)) (some w.heap.size) := only_alloc (only_refl _ _) _
    go_loopg [7, 8] M (fun kk o i wr => ∃ (j gx cx p' : Nat) (xs : List Int), j ≤ M ∧ kk = M - j ∧ o = .slice (some ⟨gx, 0, none⟩) j cx ∧ i = .int .i64 (j : Int) ∧ Hid (OwnI wr wo.heap.size (some ⟨gx, 0, none⟩) j cx xs) ∧ p' ≤ (p3 + 1) + 2 * j ∧ Rd wr w.heap.size p' ∧ wo.grownBy wr (some w.heap.size))
    case atStart => exact ⟨0, wo.heap.size, 0, (p3 + 1), [], Nat.zero_le _, rfl, rfl, by go_num, HE.out, by omega, hr6.alloc _, hOE⟩
    case round =>
      obtain ⟨j, gx, cx, p', xs, hj, hkk, rfl, rfl, hown, hp', hrd, hOr⟩ := hrel
      have HK := Lib.hid hkk; clear hkk
      have hsr := hOr.size
      have hgb := hown.out.lt gx rfl
      by_cases hlt : j < M
      · have hltI : (j : Int) < (M : Int) := by omega
        go_wp2_with fail
        ((with_reducible refine (pick_z _ _ _ 25 _ hrd (by omega) (by omega) (by omega)).mono ?_); rintro e w7 ⟨y, rfl, hy, hr7, ho7⟩)
        have o7 := World.ownsRow.kept hown.out ho7 (.inr (by simp [Value.ownBlock]; omega))
        have O7 := only_trans hOr ho7
        have hs7 := O7.size
        clear ho7
        go_wp2_with fail
        ((with_reducible refine (pick_z _ _ _ 2 _ hr7 (by omega) (by omega) (by omega)).mono ?_); rintro e w8 ⟨z, rfl, hz, hr8, ho8⟩)
        have o8 := World.ownsRow.kept o7 ho8 (.inr (by simp [Value.ownBlock]; omega))
        have O8 := only_trans O7 ho8
        have hs8 := O8.size
        clear ho8 o7
        have HO := Lib.hid (World.ownsRow.alloc o8 (.cells #[.int .i64 ((y : Int) - (z : Int))] 3))
        have HB := Lib.hid (Blk.new w8 3 #[.int .i64 ((y : Int) - (z : Int))])
        have HBASE := Lib.hid (show wo.heap.size ≤ (w8.alloc (.cells #[.int .i64 ((y : Int) - (z : Int))] 3)).heap.size by simp; omega)
        have HO8 := Lib.hid (only_alloc O8 (.cells #[.int .i64 ((y : Int) - (z : Int))] 3))
        have HR8 := Lib.hid (hr8.alloc (.cells #[.int .i64 ((y : Int) - (z : Int))] 3))
        clear o8
        go_wp2_with (at_builtin; (refine wpList_append_one _ rfl _ _ 22 rfl wo.heap.size 3 t0 _ 1 8 Try.underlying22 ti tz0 tz1 tz2 rfl (by omega) (some ⟨gx, 0, none⟩) j cx (inl xs) rfl HO.out w8.heap.size (inl [(y : Int) - (z : Int)]) rfl rfl HB.out (inl_one _) (by omega) (by omega) HBASE.out ?_); intro g9 c9 w9 hown9 hgr9; (have HO9 := Lib.hid hown9); (have HG9 := Lib.hid hgr9); clear hown9 hgr9)
        go_roundg (M - (j + 1))
        case measure => have := HK.out; omega
        case rel =>
          have hgg := (HO.out.lt gx rfl).1
          refine ⟨j + 1, g9, c9, p' + 1 + 1, xs ++ [(y : Int) - (z : Int)], by omega, rfl, rfl, by go_num, ?_, by omega, HR8.out.own HG9.out (by intro x hx; cases hx; simp; omega), only_own HO8.out HG9.out (by intro x hx; cases hx; simp; omega)⟩
          show World.ownsRow _ _ _ _ _ _ _
          rw [inl_snoc]; exact HO9.out
      · have hTr := hT6.only hOr (by omega)
        have hOw := only_trans hO6 hOr
        have hbw : Below w.heap.size w wr := hb1.trans (below_of_only hOw (Nat.le_refl _) hs1)
        have HOW := Lib.hid (OwnI.mono (base' := w.heap.size) hown.out (by omega))
        have HTR := Lib.hid (hTr.mono (base' := w.heap.size) (by omega))
        go_wp2_with fail
        go_ret2
        exact ⟨g, q, c, rs, gx, j, cx, xs, rfl, hq, hqc, HTR.out, by omega, HOW.out, hbw⟩
  · have xb : ((x : Int) == 0) = false := by simp; omega
    have hbw : Below w.heap.size w w6 := hb1.trans (below_of_only hO6 (Nat.le_refl _) hs1)
    have HOW := Lib.hid (OwnI.mono (base' := w.heap.size) HO6.out (by omega))
    have HTR := Lib.hid (hT6.mono (base' := w.heap.size) (by omega))
    go_wp2_with fail
    go_ret2
    exact ⟨g, q, c, rs, gl, u, cl, L, rfl, hq, hqc, HTR.out, hu8, HOW.out, hbw⟩
end Go.Proofs.Ytbkhimdebpllcaa
