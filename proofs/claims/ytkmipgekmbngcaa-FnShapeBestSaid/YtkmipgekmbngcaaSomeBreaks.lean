/- someBreaks of the reference draws some numbers, at most as many as there are items. Conditions: the reader has yielded fewer than 2^46 numbers; the slice reads as the list. -/
import Derived.Test.YtkmipgekmbngcaaBestBreaksS
import Derived.Test.YtkmipgekmbngcaaFirstFit
import Derived.Test.YtkmipgekmbngcaaMSb2
import Derived.Test.YtkmipgekmbngcaaReader
namespace Go.Proofs.Ytkmipgekmbngcaa
open Go.RowKit

theorem dpath_len {c : Nat → Nat → Option Int} : ∀ i, (Dp.path c i).length ≤ i := by
  intro i
  induction i using Nat.strongRecOn with
  | _ i ih =>
    rcases Nat.eq_zero_or_pos i with rfl | hp
    · rw [Dp.path_zero]; exact Nat.zero_le _
    · rcases hs : Dp.tbl c i with _ | ⟨v, k⟩
      · obtain ⟨j, rfl⟩ : ∃ j, i = j + 1 := ⟨i - 1, by omega⟩
        have : Dp.path c (j + 1) = [] := by
          show (if j + 1 = 0 then [] else match Dp.tbl c (j + 1) with | some (_, k) => Dp.pathF c j k ++ [j + 1] | none => []) = _
          rw [if_neg (by omega), hs]
        rw [this]; exact Nat.zero_le _
      · have hk := (Dp.tbl_some hp hs).1
        have := ih k hk
        rw [Dp.path_pos hp hs, List.length_append, List.length_singleton]
        omega
theorem bbS_len (xs : List It) (d tol : Int) : (bbS xs d tol).1.length ≤ xs.length := by
  unfold bbS
  split
  · unfold bbN
    split
    · exact Nat.zero_le _
    · simp only [List.length_map]; exact dpath_len _
  · exact Nat.zero_le _
theorem brksV_at {xs : List It} {n j : Nat} {y : Int} (hn : xs.length = n) (hj : j < (brksV xs).length) (hy : (brksV xs).getD j default = y) : ∃ i : Nat, y = (i : Int) ∧ i < n := by
  rcases hok : itemsOk xs with _ | _
  · rw [brksV_no hok] at hj; exact absurd hj (by simp)
  · have hm : y ∈ brksV xs := by
      rw [← hy, List.getD_eq_getElem?_getD, List.getElem?_eq_getElem hj]
      exact List.getElem_mem hj
    rw [brksV_yes hok hn, brksP, List.mem_map] at hm
    obtain ⟨i, hi, rfl⟩ := hm
    rw [List.mem_filter, List.mem_range] at hi
    exact ⟨i, rfl, hi.1⟩
theorem row_cell {w : World} {B sz n b off : Nat} {f : Nat → Nat → Value} (h : Row w B sz (some ⟨b, off, none⟩) n f) {i j : Nat} (hi : i < n) (hj : j < sz) : w.cell? ⟨b, off + i * sz + j, none⟩ = some (f i j) := by
  obtain ⟨b', off', hA, _, hc⟩ := h (by omega)
  injection hA with hA
  injection hA with h1 h2
  subst h1 h2
  exact hc i j hi hj
theorem OwnI.form {w : World} {base n c : Nat} {A : Option Addr} {xs : List Int} (h : OwnI w base A n c xs) (hn : 0 < n) : ∃ b, A = some ⟨b, 0, none⟩ := by
  rcases h.2 with ⟨_, h0⟩ | ⟨g, cap, cur, hv, _⟩
  · omega
  · cases hv; exact ⟨g, rfl⟩

theorem only_below' {a w w1 : World} {rb : Nat} (h : a.grownBy w (some rb)) (hb : Below w.heap.size w w1) : a.grownBy w1 (some rb) := only_trans h (only_of_below hb _)
theorem below_less {B B' : Nat} {w w' : World} (h : Below B w w') (hB : B' ≤ B) : Below B' w w' := ⟨h.os, h.tape, h.output, h.size, fun i hi => h.block i (by omega)⟩
/-- The memory while breaks are drawn. -/
def BrS (w wr : World) (rb n q c m d g p : Nat) (A D : Option Addr) (xs : List It) (ys L : List Int) : Prop :=
  OwnI wr w.heap.size (some ⟨g, 0, none⟩) q c L ∧ OwnI wr w.heap.size D m d ys ∧ (∀ x, D = some x → x.block ≠ g) ∧ Row wr w.heap.size 6 A n (itc xs) ∧ Rd wr rb p ∧ w.grownBy wr (some rb) ∧ rb < w.heap.size ∧ ∀ x, A = some x → rb < x.block
section
variable {w wr w' : World} {rb n q c m d g p p' : Nat} {A D : Option Addr} {xs : List It} {ys L : List Int}
theorem keep_rb {k x : Nat} {A : Option Addr} {n c : Nat} (hk : ∀ y, A = some y → k ≤ y.block) (hx : x < k) : Value.ownBlock (.slice A n c) = none ∨ Value.ownBlock (.slice A n c) ≠ some x := by
  cases A with
  | none => exact .inl rfl
  | some y => exact .inr (by have := hk y rfl; simp [Value.ownBlock]; omega)
theorem BrS.rd (h : BrS w wr rb n q c m d g p A D xs ys L) : Rd wr rb p := h.2.2.2.2.1
theorem BrS.pick (h : BrS w wr rb n q c m d g p A D xs ys L) (hr : Rd w' rb p') (ho : wr.grownBy w' (some rb)) : BrS w w' rb n q c m d g p' A D xs ys L := by
  obtain ⟨h1, h2, h3, h4, h5, h6, h7, h8⟩ := h
  exact ⟨h1.kept ho (keep_rb (fun y hy => (h1.blk y hy).1) h7), h2.kept ho (keep_rb (fun y hy => (h2.blk y hy).1) h7), h3, Row.only h4 ho h8 h6.size, hr, only_trans h6 ho, h7, h8⟩
theorem BrS.alloc (h : BrS w wr rb n q c m d g p A D xs ys L) (o : Obj) : BrS w (wr.alloc o) rb n q c m d g p A D xs ys L := by
  obtain ⟨h1, h2, h3, h4, h5, h6, h7, h8⟩ := h
  exact ⟨h1.alloc o, h2.alloc o, h3, h4.below ((Below.refl _ _).alloc h6.size o), h5.alloc o, only_alloc h6 o, h7, h8⟩
theorem BrS.app {g' c' : Nat} {v : Int} (h : BrS w wr rb n q c m d g p A D xs ys L) (hown : w'.ownsRow w.heap.size 3 1 (.slice (some ⟨g', 0, none⟩) (q + 1) c') (q + 1) (inl L ++ inl [v])) (hg : wr.grownBy w' (Value.ownBlock (.slice (some ⟨g, 0, none⟩) q c)))
    (hat : Value.ownBlock (.slice (some ⟨g, 0, none⟩) q c) = some g' ∨ g' = wr.heap.size) : BrS w w' rb n (q + 1) c' m d g' p A D xs ys (L ++ [v]) := by
  obtain ⟨h1, h2, h3, h4, h5, h6, h7, h8⟩ := h
  have hgb : w.heap.size ≤ g ∧ g < wr.heap.size := h1.blk _ rfl
  refine ⟨?_, ?_, ?_, ?_, ?_, ?_, h7, h8⟩
  · show World.ownsRow _ _ _ _ _ _ _
    rw [inl_snoc]; exact hown
  · exact h2.apart hg fun x hx y hy => by cases hy; exact h3 x hx
  · intro x hx
    rcases hat with e | e
    · injection e with e; rw [← e]; exact h3 x hx
    · have := (h2.blk x hx).2; omega
  · exact h4.grown hg h6.size fun k hk => by injection hk with hk; rw [← hk]; exact hgb.1
  · exact h5.own hg fun x hx => by cases hx; simp only; omega
  · exact only_own h6 hg fun x hx => by cases hx; simp only; omega
end
/-- What a call leaves that draws some numbers, at most n. -/
def SomeBreaks (w : World) (rb p K n : Nat) (e : Ending) (w' : World) : Prop :=
  ∃ (A : Option Addr) (q c : Nat) (bs : List Int) (p' : Nat), e = .returned (.slice A q c) ∧ bs.length = q ∧ q ≤ n ∧ OwnI w' w.heap.size A q c bs ∧ p' ≤ p + K ∧ Rd w' rb p' ∧ w.grownBy w' (some rb)

set_option maxRecDepth 100000 in
set_option maxHeartbeats 8000000 in
theorem someBreaks_any (rb p : Nat) (A : Option Addr) (n cap : Nat) (d tol : Int) (xs : List It) (w : World) (hn : xs.length = n) (hm : n ≤ 1000) (hr : Row w w.heap.size 6 A n (itc xs)) (hA : ∀ x, A = some x → rb < x.block) (hrd : Rd w rb p) (hp : p ≤ 70368744177664) :
    Calls Try.prog 51 #[.pointer (some ⟨rb, 0, none⟩), .slice A n cap, .int .i64 d, .int .i64 tol] w (SomeBreaks w rb p (2 + 2 * n) n) := by
  have HN := Lib.hid hn
  have HR := Lib.hid hr
  have hmx : n ≤ maxLen := by unfold maxLen; omega
  obtain ⟨i0, hi, hz0, hz1, hz2⟩ := info_parts int_info
  have hlt := hrd.lt
  obtain ⟨R, hR⟩ : ∃ R, bbS xs d tol = R := ⟨_, rfl⟩
  obtain ⟨R1, R2, R3⟩ := R
  have hRl : R1.length ≤ n := by have := bbS_len xs d tol; rw [hR, hn] at this; exact this
  have HRR := Lib.hid hR
  have HA := Lib.hid hA
  obtain ⟨rq, hrq⟩ : ∃ rq, R1.length = rq := ⟨_, rfl⟩
  rw [hrq] at hRl
  have HRQ := Lib.hid hrq
  clear hn hR hA hrq
  rcases R3 with _ | _
  · go_enter Try.func51, Try.ntmps51
    go_wp2_with fail
    ((with_reducible refine (bestBreaks_S _ _ _ _ _ xs _ HN.out hmx ?_).mono ?_); (exact HR.out); rintro e w1 ⟨E, ec, rfl, hE, hb1⟩)
    rw [HRR.out] at hE ⊢
    simp only [HRQ.out] at hE ⊢
    have hO1 : w.grownBy w1 (some rb) := only_of_below hb1 _
    have hr1 : Rd w1 rb p := hrd.below hb1 hlt
    have hw1 : Row w1 w.heap.size 6 A n (itc xs) := HR.out.below hb1
    have HE := Lib.hid hE
    clear hE
    have hOc := hO1
    have hrc := hr1
    have hwc := Lib.hid hw1
    clear hr1 hO1 hw1
    have hzc := hOc.size
    go_wp2_with fail
    ((with_reducible refine (pick_any _ _ _ _ hrc (by omega)).mono ?_); rintro e wa ⟨y, rfl, hy0, hy1, hra, hoa⟩)
    have hOa := only_trans hOc hoa
    have hza := hOa.size
    have hwa := Lib.hid (Row.only hwc.out hoa HA.out hzc)
    clear hy1
    by_cases hy : y = 0
    · subst hy
      go_wp2_with fail
      ((with_reducible refine (firstFit_s _ _ _ _ xs _ HN.out hmx ?_).mono ?_); (exact (hwa.out.more hza).alloc' _); rintro e wb ⟨bs, hbl, D, dc, rfl, hD, hbb⟩)
      obtain ⟨bq, hbq⟩ : ∃ bq, bs.length = bq := ⟨_, rfl⟩
      rw [hbq] at hD hbl ⊢
      have hzb := hbb.size
      simp only [World.size_alloc] at hzb
      have HD := Lib.hid hD
      have HBQ := Lib.hid hbq
      have HO0 := Lib.hid (show OwnI wb wa.heap.size (some ⟨wa.heap.size, 0, none⟩) 0 0 [] from owns_nil _ _ _ _ _ _ _ ((Blk.new wa 3 #[]).then_ hbb) (Nat.le_refl _) (by unfold maxLen; omega) rfl)
      have hOb := only_below' (only_alloc hOa (.cells #[] 3)) hbb
      have hrb' := (hra.alloc (.cells #[] 3)).below hbb (hra.alloc _).lt
      clear hD hbq
      go_wp2_with (at_builtin; (refine wpList_append_ints _ rfl _ _ rfl wa.heap.size (wa.alloc (.cells #[] 3)).heap.size wa.heap.size 0 0 bq dc D [] bs rfl HO0.out rfl HD.out (by omega) (by omega) ?_); intro g3 c3 w3 hown3 hgr3; (have HO3 := Lib.hid hown3); (have hO3 := only_own (A := some ⟨wa.heap.size, 0, none⟩) (n := 0) (m := 0) hOb hgr3 (by intro x hx; cases hx; simp; omega)); (have hr3 := hrb'.own (A := some ⟨wa.heap.size, 0, none⟩) (n := 0) (m := 0) hgr3 (by intro x hx; cases hx; simp; omega)); clear hown3 hgr3)
      go_ret
      exact ⟨some ⟨g3, 0, none⟩, bq, c3, bs, _, rfl, HBQ.out, hbl, OwnI.mono (by have := HO3.out; rwa [Nat.zero_add, List.nil_append] at this) (by omega), by omega, hr3, hO3⟩
    · have hyf : (y == 0) = false := by simpa using hy
      clear hy
      go_wp2_with fail
      ((with_reducible refine (breaksOf_s _ _ _ xs _ HN.out hmx ?_).mono ?_); (exact (hwa.out.more hza).alloc' _); rintro e wb ⟨D, dc, rfl, hD, hbb⟩)
      obtain ⟨ys, hys⟩ : ∃ ys, brksV xs = ys := ⟨_, rfl⟩
      obtain ⟨m, hmy⟩ : ∃ m, ys.length = m := ⟨_, rfl⟩
      have hmn : m ≤ n := by have := brksV_len xs; rw [hys, hmy, HN.out] at this; exact this
      have HYA : Hid (∀ j y, j < m → ys.getD j default = y → ∃ i : Nat, y = (i : Int) ∧ i < n) := fun j y hj hy => by
        rw [← hys] at hy hmy
        exact brksV_at HN.out (by omega) hy
      rw [hys, hmy] at hD
      rw [hys, hmy]
      have hzb := hbb.size
      simp only [World.size_alloc] at hzb
      have hS : BrS w wb rb n 0 0 m dc wa.heap.size (p + 1) A D xs ys [] := ⟨owns_nil _ _ _ _ _ _ _ ((Blk.new wa 3 #[]).then_ hbb) (by omega) (by unfold maxLen; omega) rfl, OwnI.mono hD (by simp; omega), fun x hx => by have := (hD.blk x hx).1; simp only [World.size_alloc] at this; omega, (hwa.out.below ((Below.refl _ _).alloc hza _)).below (below_less hbb (by simp; omega)), (hra.alloc (.cells #[] 3)).below hbb (hra.alloc _).lt, only_below' (only_alloc hOa (.cells #[] 3)) hbb, hlt, HA.out⟩
      have HS := Lib.hid hS
      clear hD hys hmy hS hra hoa
      go_wp2_with fail
      go_loopg [12, 14] m (fun k ov iv wr => ∃ (j q c g pp : Nat) (L : List Int), j ≤ m ∧ q ≤ j ∧ k = m - j ∧ pp ≤ (p + 1) + 2 * j ∧ iv = .int .i64 (j : Int) ∧ ov = .slice (some ⟨g, 0, none⟩) q c ∧ Hid (BrS w wr rb n q c m dc g pp A D xs ys L))
      case atStart => exact ⟨0, 0, 0, wa.heap.size, _, [], Nat.zero_le _, Nat.le_refl _, rfl, by omega, by go_num, rfl, HS.out⟩
      case round =>
        obtain ⟨j, q, c, g, pp, L, hjm, hqj, hk, hpp, rfl, rfl, hst⟩ := hrel
        have HK := Lib.hid hk; clear hk
        by_cases hlt2 : j < m
        · have hltI : (j : Int) < (m : Int) := by omega
          obtain ⟨v, hv⟩ : ∃ v, ys.getD j default = v := ⟨_, rfl⟩
          obtain ⟨i, rfl, hin⟩ := HYA.out j v hlt2 hv
          have hinI : (i : Int) < (n : Int) := by omega
          obtain ⟨b, rfl⟩ := OwnI.form hst.out.2.1 (by omega)
          obtain ⟨ab, ao, rfl, _, _⟩ := hst.out.2.2.2.1 (by omega)
          have HV := Lib.hid hv
          clear hv
          have CELLS : Hid (∀ wx px, BrS w wx rb n q c m dc g px (some ⟨ab, ao, none⟩) (some ⟨b, 0, none⟩) xs ys L → wx.cell? ⟨b, j, none⟩ = some (.int .i64 (i : Int)) ∧ wx.cell? ⟨ab, ao + i * 6 + 4, none⟩ = some (.int .i64 (xs.getD i default).pen) ∧ b < wx.heap.size ∧ w.heap.size ≤ wx.heap.size) := fun wx px hx => by
            refine ⟨?_, ?_, (hx.2.1.blk _ rfl).2, hx.2.2.2.2.2.1.size⟩
            · have := hx.2.1.cellI (j := j) hlt2
              rwa [HV.out] at this
            · exact row_cell hx.2.2.2.1 (i := i) (j := 4) hin (by omega)
          obtain ⟨pen, hpen⟩ : ∃ pen, (xs.getD i default).pen = pen := ⟨_, rfl⟩
          rw [hpen] at CELLS
          clear hpen
          go_wp2_with fail
          ((with_reducible refine (pick_any _ _ _ _ hst.out.rd (by omega)).mono ?_); rintro e we ⟨x1, rfl, hx0, hx1, hre, hoe⟩)
          have HSE := Lib.hid (hst.out.pick hre hoe)
          obtain ⟨ce1, ce2, hbe, hze⟩ := CELLS.out _ _ HSE.out
          clear hx1 hre hoe
          by_cases hxz : x1 = 0
          · subst hxz
            have HSA := Lib.hid (HSE.out.alloc (.cells #[.int .i64 (i : Int)] 3))
            have HB := Lib.hid (Blk.new we 3 #[.int .i64 (i : Int)])
            have hbase : w.heap.size ≤ (we.alloc (.cells #[.int .i64 (i : Int)] 3)).heap.size := by simp; omega
            go_wp2_with (at_builtin; (refine wpList_append_one_at _ rfl _ _ 24 rfl w.heap.size 3 i0 _ 1 8 Try.underlying24 hi hz0 hz1 hz2 rfl (by omega) (some ⟨g, 0, none⟩) q c (inl L) rfl HSA.out.1 we.heap.size (inl [(i : Int)]) rfl rfl HB.out (inl_one _) (by omega) (by omega) hbase ?_); intro g4 c4 w4 hown4 hgr4 hat4; (have HS4 := Lib.hid (HSA.out.app hown4 hgr4 hat4)); clear hown4 hgr4 hat4)
            go_roundg (m - (j + 1))
            case measure => have := HK.out; omega
            case rel => exact ⟨j + 1, q + 1, c4, g4, _, L ++ [(i : Int)], by omega, by omega, rfl, by omega, by go_num, rfl, HS4.out⟩
          · have hxf : (x1 == 0) = false := by simpa using hxz
            clear hxz
            by_cases hjl : j + 1 = m
            · have hjd : ((j : Int) == (m : Int) - 1) = true := by simp; omega
              have wj : IntKind.i64.wrap ((m : Int) - 1) = (j : Int) := by rw [show (m : Int) - 1 = (j : Int) by omega]; exact IntWalk.i64_in _ (by omega)
              go_wp2_with fail
              ((with_reducible refine (pick_any _ _ _ _ HSE.out.rd (by omega)).mono ?_); rintro e wf ⟨x2, rfl, hu0, hu1, hrf, hof⟩)
              have HSF := Lib.hid (HSE.out.pick hrf hof)
              obtain ⟨cf1, cf2, hbf, hzf⟩ := CELLS.out _ _ HSF.out
              clear hu1 hrf hof
              by_cases hup : 0 < x2
              · have hupd : decide (0 < x2) = true := decide_eq_true hup
                have HSA := Lib.hid (HSF.out.alloc (.cells #[.int .i64 (i : Int)] 3))
                have HB := Lib.hid (Blk.new wf 3 #[.int .i64 (i : Int)])
                have hbase : w.heap.size ≤ (wf.alloc (.cells #[.int .i64 (i : Int)] 3)).heap.size := by simp; omega
                go_wp2_with (at_builtin; (refine wpList_append_one_at _ rfl _ _ 24 rfl w.heap.size 3 i0 _ 1 8 Try.underlying24 hi hz0 hz1 hz2 rfl (by omega) (some ⟨g, 0, none⟩) q c (inl L) rfl HSA.out.1 wf.heap.size (inl [(i : Int)]) rfl rfl HB.out (inl_one _) (by omega) (by omega) hbase ?_); intro g4 c4 w4 hown4 hgr4 hat4; (have HS4 := Lib.hid (HSA.out.app hown4 hgr4 hat4)); clear hown4 hgr4 hat4)
                go_roundg (m - (j + 1))
                case measure => have := HK.out; omega
                case rel => exact ⟨j + 1, q + 1, c4, g4, _, L ++ [(i : Int)], by omega, by omega, rfl, by omega, by go_num, rfl, HS4.out⟩
              · have hupd : decide (0 < x2) = false := decide_eq_false hup
                by_cases hpq : pen = -1000
                · subst hpq
                  have HSA := Lib.hid (HSF.out.alloc (.cells #[.int .i64 (i : Int)] 3))
                  have HB := Lib.hid (Blk.new wf 3 #[.int .i64 (i : Int)])
                  have hbase : w.heap.size ≤ (wf.alloc (.cells #[.int .i64 (i : Int)] 3)).heap.size := by simp; omega
                  go_wp2_with (at_builtin; (refine wpList_append_one_at _ rfl _ _ 24 rfl w.heap.size 3 i0 _ 1 8 Try.underlying24 hi hz0 hz1 hz2 rfl (by omega) (some ⟨g, 0, none⟩) q c (inl L) rfl HSA.out.1 wf.heap.size (inl [(i : Int)]) rfl rfl HB.out (inl_one _) (by omega) (by omega) hbase ?_); intro g4 c4 w4 hown4 hgr4 hat4; (have HS4 := Lib.hid (HSA.out.app hown4 hgr4 hat4)); clear hown4 hgr4 hat4)
                  go_roundg (m - (j + 1))
                  case measure => have := HK.out; omega
                  case rel => exact ⟨j + 1, q + 1, c4, g4, _, L ++ [(i : Int)], by omega, by omega, rfl, by omega, by go_num, rfl, HS4.out⟩
                · have hpf : (pen == -1000) = false := by simpa using hpq
                  go_wp2_with fail
                  go_roundg (m - (j + 1))
                  case measure => have := HK.out; omega
                  case rel => exact ⟨j + 1, q, c, g, _, L, by omega, by omega, rfl, by omega, by go_num, rfl, HSF.out⟩
            · have hjd : ((j : Int) == (m : Int) - 1) = false := by simp; omega
              have wj : IntKind.i64.wrap ((m : Int) - 1) = (m : Int) - 1 := IntWalk.i64_in _ (by omega)
              by_cases hpq : pen = -1000
              · subst hpq
                have HSA := Lib.hid (HSE.out.alloc (.cells #[.int .i64 (i : Int)] 3))
                have HB := Lib.hid (Blk.new we 3 #[.int .i64 (i : Int)])
                have hbase : w.heap.size ≤ (we.alloc (.cells #[.int .i64 (i : Int)] 3)).heap.size := by simp; omega
                go_wp2_with (at_builtin; (refine wpList_append_one_at _ rfl _ _ 24 rfl w.heap.size 3 i0 _ 1 8 Try.underlying24 hi hz0 hz1 hz2 rfl (by omega) (some ⟨g, 0, none⟩) q c (inl L) rfl HSA.out.1 we.heap.size (inl [(i : Int)]) rfl rfl HB.out (inl_one _) (by omega) (by omega) hbase ?_); intro g4 c4 w4 hown4 hgr4 hat4; (have HS4 := Lib.hid (HSA.out.app hown4 hgr4 hat4)); clear hown4 hgr4 hat4)
                go_roundg (m - (j + 1))
                case measure => have := HK.out; omega
                case rel => exact ⟨j + 1, q + 1, c4, g4, _, L ++ [(i : Int)], by omega, by omega, rfl, by omega, by go_num, rfl, HS4.out⟩
              · have hpf : (pen == -1000) = false := by simpa using hpq
                go_wp2_with fail
                go_roundg (m - (j + 1))
                case measure => have := HK.out; omega
                case rel => exact ⟨j + 1, q, c, g, _, L, by omega, by omega, rfl, by omega, by go_num, rfl, HSE.out⟩
        · obtain rfl : j = m := by omega
          go_wp2_with fail
          go_ret
          exact ⟨_, _, _, _, _, rfl, hst.out.1.len, by omega, hst.out.1, by omega, hst.out.rd, hst.out.2.2.2.2.2.1⟩
  · go_enter Try.func51, Try.ntmps51
    go_wp2_with fail
    ((with_reducible refine (bestBreaks_S _ _ _ _ _ xs _ HN.out hmx ?_).mono ?_); (exact HR.out); rintro e w1 ⟨E, ec, rfl, hE, hb1⟩)
    rw [HRR.out] at hE ⊢
    simp only [HRQ.out] at hE ⊢
    have hO1 : w.grownBy w1 (some rb) := only_of_below hb1 _
    have hr1 : Rd w1 rb p := hrd.below hb1 hlt
    have hw1 : Row w1 w.heap.size 6 A n (itc xs) := HR.out.below hb1
    have HE := Lib.hid hE
    clear hE
    have hz1' := hO1.size
    go_wp2_with fail
    ((with_reducible refine (pick_any _ _ _ _ hr1 (by omega)).mono ?_); rintro e w2 ⟨x, rfl, hx0, hx1, hr2, ho2⟩)
    have hO2 := only_trans hO1 ho2
    have hz2' := hO2.size
    clear hx1
    by_cases hxp : 0 < x
    · have hxd : decide (0 < x) = true := decide_eq_true hxp
      have HE2 := Lib.hid ((HE.out.kept ho2 (keep_rb (fun y hy => (HE.out.blk y hy).1) hlt)).alloc (.cells #[] 3))
      have HO0 := Lib.hid (show OwnI (w2.alloc (.cells #[] 3)) w2.heap.size (some ⟨w2.heap.size, 0, none⟩) 0 0 [] from owns_nil _ _ _ _ _ _ _ (Blk.new w2 3 #[]) (Nat.le_refl _) (by unfold maxLen; omega) rfl)
      go_wp2_with (at_builtin; (refine wpList_append_ints _ rfl _ _ rfl w2.heap.size w.heap.size w2.heap.size 0 0 rq ec E [] R1 rfl HO0.out rfl HE2.out (by omega) (by simp) ?_); intro g3 c3 w3 hown3 hgr3; (have HO3 := Lib.hid hown3); (have hO3 := only_own (A := some ⟨w2.heap.size, 0, none⟩) (n := 0) (m := 0) (only_alloc hO2 (.cells #[] 3)) hgr3 (by intro x hx; cases hx; simp; omega)); (have hr3 := (hr2.alloc (.cells #[] 3)).own (A := some ⟨w2.heap.size, 0, none⟩) (n := 0) (m := 0) hgr3 (by intro x hx; cases hx; simp; omega)); clear hown3 hgr3)
      go_ret
      exact ⟨some ⟨g3, 0, none⟩, rq, c3, R1, _, rfl, HRQ.out, hRl, OwnI.mono (by have := HO3.out; rwa [Nat.zero_add, List.nil_append] at this) (by omega), by omega, hr3, hO3⟩
    · have hxd : decide (0 < x) = false := decide_eq_false hxp
      have hOc := hO2
      have hrc := hr2
      have hwc := Lib.hid (Row.only hw1 ho2 HA.out hz1')
      clear hr1 hO1 hw1 hr2 hO2 ho2 hxp
      have hzc := hOc.size
      go_wp2_with fail
      ((with_reducible refine (pick_any _ _ _ _ hrc (by omega)).mono ?_); rintro e wa ⟨y, rfl, hy0, hy1, hra, hoa⟩)
      have hOa := only_trans hOc hoa
      have hza := hOa.size
      have hwa := Lib.hid (Row.only hwc.out hoa HA.out hzc)
      clear hy1
      by_cases hy : y = 0
      · subst hy
        go_wp2_with fail
        ((with_reducible refine (firstFit_s _ _ _ _ xs _ HN.out hmx ?_).mono ?_); (exact (hwa.out.more hza).alloc' _); rintro e wb ⟨bs, hbl, D, dc, rfl, hD, hbb⟩)
        obtain ⟨bq, hbq⟩ : ∃ bq, bs.length = bq := ⟨_, rfl⟩
        rw [hbq] at hD hbl ⊢
        have hzb := hbb.size
        simp only [World.size_alloc] at hzb
        have HD := Lib.hid hD
        have HBQ := Lib.hid hbq
        have HO0 := Lib.hid (show OwnI wb wa.heap.size (some ⟨wa.heap.size, 0, none⟩) 0 0 [] from owns_nil _ _ _ _ _ _ _ ((Blk.new wa 3 #[]).then_ hbb) (Nat.le_refl _) (by unfold maxLen; omega) rfl)
        have hOb := only_below' (only_alloc hOa (.cells #[] 3)) hbb
        have hrb' := (hra.alloc (.cells #[] 3)).below hbb (hra.alloc _).lt
        clear hD hbq
        go_wp2_with (at_builtin; (refine wpList_append_ints _ rfl _ _ rfl wa.heap.size (wa.alloc (.cells #[] 3)).heap.size wa.heap.size 0 0 bq dc D [] bs rfl HO0.out rfl HD.out (by omega) (by omega) ?_); intro g3 c3 w3 hown3 hgr3; (have HO3 := Lib.hid hown3); (have hO3 := only_own (A := some ⟨wa.heap.size, 0, none⟩) (n := 0) (m := 0) hOb hgr3 (by intro x hx; cases hx; simp; omega)); (have hr3 := hrb'.own (A := some ⟨wa.heap.size, 0, none⟩) (n := 0) (m := 0) hgr3 (by intro x hx; cases hx; simp; omega)); clear hown3 hgr3)
        go_ret
        exact ⟨some ⟨g3, 0, none⟩, bq, c3, bs, _, rfl, HBQ.out, hbl, OwnI.mono (by have := HO3.out; rwa [Nat.zero_add, List.nil_append] at this) (by omega), by omega, hr3, hO3⟩
      · have hyf : (y == 0) = false := by simpa using hy
        clear hy
        go_wp2_with fail
        ((with_reducible refine (breaksOf_s _ _ _ xs _ HN.out hmx ?_).mono ?_); (exact (hwa.out.more hza).alloc' _); rintro e wb ⟨D, dc, rfl, hD, hbb⟩)
        obtain ⟨ys, hys⟩ : ∃ ys, brksV xs = ys := ⟨_, rfl⟩
        obtain ⟨m, hmy⟩ : ∃ m, ys.length = m := ⟨_, rfl⟩
        have hmn : m ≤ n := by have := brksV_len xs; rw [hys, hmy, HN.out] at this; exact this
        have HYA : Hid (∀ j y, j < m → ys.getD j default = y → ∃ i : Nat, y = (i : Int) ∧ i < n) := fun j y hj hy => by
          rw [← hys] at hy hmy
          exact brksV_at HN.out (by omega) hy
        rw [hys, hmy] at hD
        rw [hys, hmy]
        have hzb := hbb.size
        simp only [World.size_alloc] at hzb
        have hS : BrS w wb rb n 0 0 m dc wa.heap.size ((p + 1) + 1) A D xs ys [] := ⟨owns_nil _ _ _ _ _ _ _ ((Blk.new wa 3 #[]).then_ hbb) (by omega) (by unfold maxLen; omega) rfl, OwnI.mono hD (by simp; omega), fun x hx => by have := (hD.blk x hx).1; simp only [World.size_alloc] at this; omega, (hwa.out.below ((Below.refl _ _).alloc hza _)).below (below_less hbb (by simp; omega)), (hra.alloc (.cells #[] 3)).below hbb (hra.alloc _).lt, only_below' (only_alloc hOa (.cells #[] 3)) hbb, hlt, HA.out⟩
        have HS := Lib.hid hS
        clear hD hys hmy hS hra hoa
        go_wp2_with fail
        go_loopg [12, 14] m (fun k ov iv wr => ∃ (j q c g pp : Nat) (L : List Int), j ≤ m ∧ q ≤ j ∧ k = m - j ∧ pp ≤ ((p + 1) + 1) + 2 * j ∧ iv = .int .i64 (j : Int) ∧ ov = .slice (some ⟨g, 0, none⟩) q c ∧ Hid (BrS w wr rb n q c m dc g pp A D xs ys L))
        case atStart => exact ⟨0, 0, 0, wa.heap.size, _, [], Nat.zero_le _, Nat.le_refl _, rfl, by omega, by go_num, rfl, HS.out⟩
        case round =>
          obtain ⟨j, q, c, g, pp, L, hjm, hqj, hk, hpp, rfl, rfl, hst⟩ := hrel
          have HK := Lib.hid hk; clear hk
          by_cases hlt2 : j < m
          · have hltI : (j : Int) < (m : Int) := by omega
            obtain ⟨v, hv⟩ : ∃ v, ys.getD j default = v := ⟨_, rfl⟩
            obtain ⟨i, rfl, hin⟩ := HYA.out j v hlt2 hv
            have hinI : (i : Int) < (n : Int) := by omega
            obtain ⟨b, rfl⟩ := OwnI.form hst.out.2.1 (by omega)
            obtain ⟨ab, ao, rfl, _, _⟩ := hst.out.2.2.2.1 (by omega)
            have HV := Lib.hid hv
            clear hv
            have CELLS : Hid (∀ wx px, BrS w wx rb n q c m dc g px (some ⟨ab, ao, none⟩) (some ⟨b, 0, none⟩) xs ys L → wx.cell? ⟨b, j, none⟩ = some (.int .i64 (i : Int)) ∧ wx.cell? ⟨ab, ao + i * 6 + 4, none⟩ = some (.int .i64 (xs.getD i default).pen) ∧ b < wx.heap.size ∧ w.heap.size ≤ wx.heap.size) := fun wx px hx => by
              refine ⟨?_, ?_, (hx.2.1.blk _ rfl).2, hx.2.2.2.2.2.1.size⟩
              · have := hx.2.1.cellI (j := j) hlt2
                rwa [HV.out] at this
              · exact row_cell hx.2.2.2.1 (i := i) (j := 4) hin (by omega)
            obtain ⟨pen, hpen⟩ : ∃ pen, (xs.getD i default).pen = pen := ⟨_, rfl⟩
            rw [hpen] at CELLS
            clear hpen
            go_wp2_with fail
            ((with_reducible refine (pick_any _ _ _ _ hst.out.rd (by omega)).mono ?_); rintro e we ⟨x1, rfl, hx0, hx1, hre, hoe⟩)
            have HSE := Lib.hid (hst.out.pick hre hoe)
            obtain ⟨ce1, ce2, hbe, hze⟩ := CELLS.out _ _ HSE.out
            clear hx1 hre hoe
            by_cases hxz : x1 = 0
            · subst hxz
              have HSA := Lib.hid (HSE.out.alloc (.cells #[.int .i64 (i : Int)] 3))
              have HB := Lib.hid (Blk.new we 3 #[.int .i64 (i : Int)])
              have hbase : w.heap.size ≤ (we.alloc (.cells #[.int .i64 (i : Int)] 3)).heap.size := by simp; omega
              go_wp2_with (at_builtin; (refine wpList_append_one_at _ rfl _ _ 24 rfl w.heap.size 3 i0 _ 1 8 Try.underlying24 hi hz0 hz1 hz2 rfl (by omega) (some ⟨g, 0, none⟩) q c (inl L) rfl HSA.out.1 we.heap.size (inl [(i : Int)]) rfl rfl HB.out (inl_one _) (by omega) (by omega) hbase ?_); intro g4 c4 w4 hown4 hgr4 hat4; (have HS4 := Lib.hid (HSA.out.app hown4 hgr4 hat4)); clear hown4 hgr4 hat4)
              go_roundg (m - (j + 1))
              case measure => have := HK.out; omega
              case rel => exact ⟨j + 1, q + 1, c4, g4, _, L ++ [(i : Int)], by omega, by omega, rfl, by omega, by go_num, rfl, HS4.out⟩
            · have hxf : (x1 == 0) = false := by simpa using hxz
              clear hxz
              by_cases hjl : j + 1 = m
              · have hjd : ((j : Int) == (m : Int) - 1) = true := by simp; omega
                have wj : IntKind.i64.wrap ((m : Int) - 1) = (j : Int) := by rw [show (m : Int) - 1 = (j : Int) by omega]; exact IntWalk.i64_in _ (by omega)
                go_wp2_with fail
                ((with_reducible refine (pick_any _ _ _ _ HSE.out.rd (by omega)).mono ?_); rintro e wf ⟨x2, rfl, hu0, hu1, hrf, hof⟩)
                have HSF := Lib.hid (HSE.out.pick hrf hof)
                obtain ⟨cf1, cf2, hbf, hzf⟩ := CELLS.out _ _ HSF.out
                clear hu1 hrf hof
                by_cases hup : 0 < x2
                · have hupd : decide (0 < x2) = true := decide_eq_true hup
                  have HSA := Lib.hid (HSF.out.alloc (.cells #[.int .i64 (i : Int)] 3))
                  have HB := Lib.hid (Blk.new wf 3 #[.int .i64 (i : Int)])
                  have hbase : w.heap.size ≤ (wf.alloc (.cells #[.int .i64 (i : Int)] 3)).heap.size := by simp; omega
                  go_wp2_with (at_builtin; (refine wpList_append_one_at _ rfl _ _ 24 rfl w.heap.size 3 i0 _ 1 8 Try.underlying24 hi hz0 hz1 hz2 rfl (by omega) (some ⟨g, 0, none⟩) q c (inl L) rfl HSA.out.1 wf.heap.size (inl [(i : Int)]) rfl rfl HB.out (inl_one _) (by omega) (by omega) hbase ?_); intro g4 c4 w4 hown4 hgr4 hat4; (have HS4 := Lib.hid (HSA.out.app hown4 hgr4 hat4)); clear hown4 hgr4 hat4)
                  go_roundg (m - (j + 1))
                  case measure => have := HK.out; omega
                  case rel => exact ⟨j + 1, q + 1, c4, g4, _, L ++ [(i : Int)], by omega, by omega, rfl, by omega, by go_num, rfl, HS4.out⟩
                · have hupd : decide (0 < x2) = false := decide_eq_false hup
                  by_cases hpq : pen = -1000
                  · subst hpq
                    have HSA := Lib.hid (HSF.out.alloc (.cells #[.int .i64 (i : Int)] 3))
                    have HB := Lib.hid (Blk.new wf 3 #[.int .i64 (i : Int)])
                    have hbase : w.heap.size ≤ (wf.alloc (.cells #[.int .i64 (i : Int)] 3)).heap.size := by simp; omega
                    go_wp2_with (at_builtin; (refine wpList_append_one_at _ rfl _ _ 24 rfl w.heap.size 3 i0 _ 1 8 Try.underlying24 hi hz0 hz1 hz2 rfl (by omega) (some ⟨g, 0, none⟩) q c (inl L) rfl HSA.out.1 wf.heap.size (inl [(i : Int)]) rfl rfl HB.out (inl_one _) (by omega) (by omega) hbase ?_); intro g4 c4 w4 hown4 hgr4 hat4; (have HS4 := Lib.hid (HSA.out.app hown4 hgr4 hat4)); clear hown4 hgr4 hat4)
                    go_roundg (m - (j + 1))
                    case measure => have := HK.out; omega
                    case rel => exact ⟨j + 1, q + 1, c4, g4, _, L ++ [(i : Int)], by omega, by omega, rfl, by omega, by go_num, rfl, HS4.out⟩
                  · have hpf : (pen == -1000) = false := by simpa using hpq
                    go_wp2_with fail
                    go_roundg (m - (j + 1))
                    case measure => have := HK.out; omega
                    case rel => exact ⟨j + 1, q, c, g, _, L, by omega, by omega, rfl, by omega, by go_num, rfl, HSF.out⟩
              · have hjd : ((j : Int) == (m : Int) - 1) = false := by simp; omega
                have wj : IntKind.i64.wrap ((m : Int) - 1) = (m : Int) - 1 := IntWalk.i64_in _ (by omega)
                by_cases hpq : pen = -1000
                · subst hpq
                  have HSA := Lib.hid (HSE.out.alloc (.cells #[.int .i64 (i : Int)] 3))
                  have HB := Lib.hid (Blk.new we 3 #[.int .i64 (i : Int)])
                  have hbase : w.heap.size ≤ (we.alloc (.cells #[.int .i64 (i : Int)] 3)).heap.size := by simp; omega
                  go_wp2_with (at_builtin; (refine wpList_append_one_at _ rfl _ _ 24 rfl w.heap.size 3 i0 _ 1 8 Try.underlying24 hi hz0 hz1 hz2 rfl (by omega) (some ⟨g, 0, none⟩) q c (inl L) rfl HSA.out.1 we.heap.size (inl [(i : Int)]) rfl rfl HB.out (inl_one _) (by omega) (by omega) hbase ?_); intro g4 c4 w4 hown4 hgr4 hat4; (have HS4 := Lib.hid (HSA.out.app hown4 hgr4 hat4)); clear hown4 hgr4 hat4)
                  go_roundg (m - (j + 1))
                  case measure => have := HK.out; omega
                  case rel => exact ⟨j + 1, q + 1, c4, g4, _, L ++ [(i : Int)], by omega, by omega, rfl, by omega, by go_num, rfl, HS4.out⟩
                · have hpf : (pen == -1000) = false := by simpa using hpq
                  go_wp2_with fail
                  go_roundg (m - (j + 1))
                  case measure => have := HK.out; omega
                  case rel => exact ⟨j + 1, q, c, g, _, L, by omega, by omega, rfl, by omega, by go_num, rfl, HSE.out⟩
          · obtain rfl : j = m := by omega
            go_wp2_with fail
            go_ret
            exact ⟨_, _, _, _, _, rfl, hst.out.1.len, by omega, hst.out.1, by omega, hst.out.rd, hst.out.2.2.2.2.2.1⟩
end Go.Proofs.Ytkmipgekmbngcaa
