/- The generator of columns to stretch returns some widths and a total. Conditions: the code is a slice of bytes. -/
import Derived.Test.YtbkhimdebpllcaaDrawInts
namespace Go.Proofs.Ytbkhimdebpllcaa
open Go.RowKit

def ColsOut (w : World) (e : Ending) (w' : World) : Prop :=
  ∃ (A : Option Addr) (n c : Nat) (xs : List Int) (t : Int), e = .returned (.tuple #[.slice A n c, .int .i64 t]) ∧ xs.length = n ∧ n ≤ 9 ∧ Row w' w'.heap.size 1 A n (inc xs) ∧ Below w.heap.size w w'

set_option maxHeartbeats 2000000 in
theorem DrawStretchColumns_any (A : Option Addr) (n cap : Nat) (cs : List Int) (w : World) (hc : Code w A n cap cs) :
    Calls Try.prog 23 #[.slice A n cap] w (ColsOut w) := by
  obtain ⟨i0, hi, hz0, hz1, hz2⟩ := info_parts int_info
  obtain ⟨h1, h2, h3, h4, h5⟩ := hc
  have HH := Lib.hid h4; clear h4
  go_enter Try.func23, Try.ntmps23
  go_wp2_with fail
  ((with_reducible refine (newReader_any _ _ _ cs _ h1 h2 h3 HH.out h5).mono ?_); rintro e w1 ⟨rfl, hr1, hb1⟩)
  have hs1 := hb1.size
  have hl1 := hr1.lt
  go_wp2_with fail
  ((with_reducible refine (one_any _ _ (w1.heap.size + 1) 7 7 (fun i => [1, 2, 3, 5, 8, 0, 9].getD i 0) _ ((hr1.alloc _).alloc _) (by omega) (by omega) (by omega) (by omega) (lit_cells [1, 2, 3, 5, 8, 0, 9] (Blk.new_at _ _ _ _ (by simp)) rfl)).mono ?_); rintro e w2 ⟨v, hv, rfl, hr2, ho2⟩)
  have hv' := lit_bound [1, 2, 3, 5, 8, 0, 9] 0 9 (by decide) (by decide) hv
  clear hv
  obtain ⟨m0, rfl⟩ := Int.eq_ofNat_of_zero_le hv'.1
  have hm0 : m0 ≤ 9 := by omega
  have ho0 : w1.grownBy ((w1.alloc (.cells #[] 3)).alloc (.cells #[.int .i64 1, .int .i64 2, .int .i64 3, .int .i64 5, .int .i64 8, .int .i64 0, .int .i64 9] 3)) (some w.heap.size) := only_alloc (only_alloc (only_refl _ _) _) _
  have hb2 : Below w.heap.size w w2 := hb1.trans (below_of_only (only_trans ho0 ho2) (Nat.le_refl _) hs1)
  have hs2 := hb2.size
  have hown2 := Lib.hid (own_nil w2 w1.heap.size w1.heap.size (((Blk.new w1 3 #[]).alloc _).grown ho2 (by simp; omega)) (Nat.le_refl _))
  clear ho0 ho2 hv'
  go_wp2_with fail
  go_loopg [5, 6, 7] m0 (fun k o sm cnt wr => ∃ (m g c q p' : Nat) (xs : List Int) (s : Int), o = .slice (some ⟨g, 0, none⟩) q c ∧ cnt = .int .i64 (m : Int) ∧ sm = .int .i64 s ∧ k = m ∧ m + q = m0 ∧ 0 ≤ s ∧ s ≤ 10 * q ∧ Hid (OwnI wr w1.heap.size (some ⟨g, 0, none⟩) q c xs) ∧ p' + m ≤ 1 + m0 ∧ Rd wr w.heap.size p' ∧ Below w.heap.size w wr)
  case atStart => exact ⟨m0, w1.heap.size, 0, 0, 1, [], 0, rfl, rfl, rfl, rfl, by omega, by omega, by omega, hown2.out, by omega, hr2, hb2⟩
  case round =>
    obtain ⟨m, g, c, q, p', xs, s, rfl, rfl, rfl, hk, hmq, hs0, hs9, hown, hp', hrd, hbr⟩ := hrel
    have HK := Lib.hid hk; clear hk
    have hgb := (hown.out.lt g rfl).1
    have hsr := hbr.size
    by_cases hm : 0 < m
    · go_wp2_with fail
      ((with_reducible refine (one_any _ _ wr.heap.size 5 5 (fun i => [0, 0, 3, 10, 7].getD i 0) _ (hrd.alloc _) (by omega) hrd.lt (by omega) (by omega) (lit_cells [0, 0, 3, 10, 7] (Blk.new _ _ _) rfl)).mono ?_); rintro e w3 ⟨a, ha, rfl, hr3, ho3⟩)
      have ha' := lit_bound [0, 0, 3, 10, 7] 0 10 (by decide) (by decide) ha
      clear ha
      have hO3 := only_trans (only_alloc (only_refl wr w.heap.size) _) ho3
      have hb3 : Below w.heap.size w w3 := hbr.trans (below_of_only hO3 (Nat.le_refl _) hsr)
      have HO := Lib.hid (((hown.out.alloc _).kept ho3 (.inr (by simp [Value.ownBlock]; omega))).alloc (.cells #[.int .i64 a] 3))
      have HB := Lib.hid (Blk.new w3 3 #[.int .i64 a])
      have hs3 := hO3.size
      have hg3 := (hown.out.lt g rfl).2
      have HS3 := Lib.hid (show w1.heap.size ≤ (w3.alloc (.cells #[.int .i64 a] 3)).heap.size by simp; omega)
      go_wp2_with (at_builtin; (refine wpList_append_one _ rfl _ _ 22 rfl w1.heap.size 3 i0 _ 1 8 Try.underlying22 hi hz0 hz1 hz2 rfl (by omega) (some ⟨g, 0, none⟩) q c (inl xs) rfl HO.out w3.heap.size (inl [a]) rfl rfl HB.out (inl_one _) (by omega) (by omega) HS3.out ?_); intro g' c' w4 hown4 hgr4)
      have HO4 := Lib.hid hown4
      have hr4 := (hr3.alloc (.cells #[.int .i64 a] 3)).own hgr4 (by intro x hx; cases hx; simp; omega)
      have hb4 : Below w.heap.size w w4 := (hb3.alloc (Nat.le_trans hsr (by omega)) _).grown hgr4 (by simp; omega) (fun k hk => by have := (HO.out.lt k hk).1; omega)
      clear hown4
      go_wp2_with fail
      go_roundg (m - 1)
      case measure => have := HK.out; omega
      case rel =>
        refine ⟨m - 1, g', c', q + 1, p' + 1, xs ++ [a], s + a, rfl, by go_num, by go_num, rfl, by omega, by omega, by omega, ?_, by omega, hr4, hb4⟩
        show World.ownsRow _ _ _ _ _ _ _
        rw [inl_snoc]; exact HO4.out
    · have hq : q ≤ 9 := by omega
      go_wp2_with fail
      ((with_reducible refine (one_any _ _ wr.heap.size 7 7 (fun i => [0, 1, 5, 20, 100, -1, 10000].getD i 0) _ (hrd.alloc _) (by omega) hrd.lt (by omega) (by omega) (lit_cells [0, 1, 5, 20, 100, -1, 10000] (Blk.new _ _ _) rfl)).mono ?_); rintro e w3 ⟨a, ha, rfl, hr3, ho3⟩)
      have ha' := lit_bound [0, 1, 5, 20, 100, -1, 10000] (-1) 10000 (by decide) (by decide) ha
      clear ha
      have hO3 := only_trans (only_alloc (only_refl wr w.heap.size) _) ho3
      have hb3 : Below w.heap.size w w3 := hbr.trans (below_of_only hO3 (Nat.le_refl _) hsr)
      have HO := Lib.hid ((hown.out.alloc _).kept ho3 (.inr (by simp [Value.ownBlock]; omega)))
      go_wp2_with fail
      go_ret2
      exact ⟨some ⟨g, 0, none⟩, q, c, xs, s + a, rfl, OwnI.len HO.out, hq, OwnI.row HO.out, hb3⟩
end Go.Proofs.Ytbkhimdebpllcaa
