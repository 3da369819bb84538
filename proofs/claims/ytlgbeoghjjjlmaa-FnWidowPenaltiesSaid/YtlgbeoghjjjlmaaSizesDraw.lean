/- The generator of sizes of paragraphs returns some numbers, in memory of their own; the generator of sizes and ends. Conditions: the reader has yielded fewer than 2^49 numbers. -/
import Derived.Test.YtlgbeoghjjjlmaaEndsDraw
namespace Go.Proofs.Ytlgbeoghjjjlmaa
open Go.RowKit

set_option maxHeartbeats 1000000 in
theorem someSizes_any (rb p : Nat) (w : World) (h : Rd w rb p) (hp : p ≤ 140737488355328) : Calls Try.prog 52 #[.pointer (some ⟨rb, 0, none⟩)] w (DrawnInts w rb p 10 6 (-1) 41) := by
  obtain ⟨i0, hi, hz0, hz1, hz2⟩ := info_parts int_info
  have hlt := h.lt
  go_enter Try.func52, Try.ntmps52
  go_wp2_with fail
  ((with_reducible refine (pick_any rb _ _ _ (h.alloc _) (by omega)).mono ?_); rintro e w1 ⟨v, rfl, hv1, hv2, hr1, ho1⟩)
  have hv3 := hv2 (by omega)
  clear hv2
  obtain ⟨m0, rfl⟩ := Int.eq_ofNat_of_zero_le hv1
  have hown1 := Lib.hid (own_nil w1 w.heap.size w.heap.size ((Blk.new w 3 #[]).grown ho1 (by simp; omega)) (Nat.le_refl _))
  have hO1 : w.grownBy w1 (some rb) := by (repeat' (first | (with_reducible exact only_refl _ _) | (with_reducible assumption) | (with_reducible refine only_alloc ?_ _) | (with_reducible refine only_drew ?_) | (with_reducible refine only_drewN ?_ _) | (with_reducible refine only_setCell ?_ ?_ _) | (with_reducible refine only_trans ?_ (by with_reducible assumption)) | (with_reducible exact Or.inl rfl) | (refine Or.inr ?_; first | (simp; done) | omega | (simp; omega)) | omega))
  have hs1 := hO1.size
  clear ho1
  go_wp2_with fail
  go_loopg [3, 4] m0 (fun k o cnt wr => ∃ (m g c q p' : Nat) (xs : List Int), o = .slice (some ⟨g, 0, none⟩) q c ∧ cnt = .int .i64 (m : Int) ∧ k = m ∧ m + q = m0 ∧ Hid (∀ x ∈ xs, -1 ≤ x ∧ x ≤ 41) ∧ Hid (OwnI wr w.heap.size (some ⟨g, 0, none⟩) q c xs) ∧ p' + m ≤ p + 7 ∧ Rd wr rb p' ∧ w.grownBy wr (some rb))
  case atStart => exact ⟨m0, w.heap.size, 0, 0, p + 1, [], rfl, rfl, rfl, by omega, (by intro x hx; cases hx), hown1.out, by omega, hr1, hO1⟩
  case round =>
    obtain ⟨m, g, c, q, p', xs, rfl, rfl, hk, hmq, hxb, hown, hp', hrd, hO⟩ := hrel
    have HK := Lib.hid hk; clear hk
    have hgb := (hown.out.lt g rfl).1
    have hs0 := hO.size
    by_cases hm : 0 < m
    · go_wp2_with fail
      ((with_reducible refine (pick_any rb _ _ _ hrd (by omega)).mono ?_); rintro e w2 ⟨a, rfl, ha0, ha1, hr2, ho2⟩)
      have ha2 := ha1 (by omega)
      clear ha1
      have ha' : -1 ≤ 1 + a ∧ 1 + a ≤ 41 := by omega
      have hO2 := only_trans hO ho2
      have HO := Lib.hid ((hown.out.kept ho2 (.inr (by simp [Value.ownBlock]; omega))).alloc (.cells #[.int .i64 (1 + a)] 3))
      have HB := Lib.hid (Blk.new w2 3 #[.int .i64 (1 + a)])
      have hs2 := hO2.size
      have HS2 := Lib.hid (show w.heap.size ≤ (w2.alloc (.cells #[.int .i64 (1 + a)] 3)).heap.size by simp; omega)
      go_wp2_with (at_builtin; (refine wpList_append_one _ rfl _ _ 22 rfl w.heap.size 3 i0 _ 1 8 Try.underlying22 hi hz0 hz1 hz2 rfl (by omega) (some ⟨g, 0, none⟩) q c (inl xs) rfl HO.out w2.heap.size (inl [1 + a]) rfl rfl HB.out (inl_one _) (by omega) (by omega) HS2.out ?_); intro g' c' w3 hown3 hgr3)
      go_wp2_with fail
      go_roundg (m - 1)
      case measure => have := HK.out; omega
      case rel =>
        refine ⟨m - 1, g', c', q + 1, p' + 1, xs ++ [1 + a], rfl, by go_num, rfl, by omega, mem_snoc hxb.out ha', ?_, by omega, (hr2.alloc _).own hgr3 (by intro x hx; cases hx; simp; omega), only_own (only_alloc hO2 _) hgr3 (by intro x hx; cases hx; simp; omega)⟩
        show World.ownsRow _ _ _ _ _ _ _
        rw [inl_snoc]; exact hown3
    · by_cases hq : 0 < q
      · have hqi : (0 : Int) < (q : Int) := by omega
        go_wp2_with fail
        ((with_reducible refine (pick_any _ _ _ _ hrd (by omega)).mono ?_); rintro e w2 ⟨x, rfl, hx0, hx1, hr2, ho2⟩)
        have HO2 := Lib.hid (hown.out.kept ho2 (.inr (by simp [Value.ownBlock]; omega)))
        have hO2 := only_trans hO ho2
        have hs2 := hO2.size
        clear hx1
        by_cases x0 : x = 0
        · subst x0
          go_wp2_with fail
          ((with_reducible refine (one_any rb _ w2.heap.size 4 4 (fun i => [0, -1, 40, 41].getD i 0) _ (hr2.alloc _) (by omega) (by omega) (by omega) (by omega) (lit_cells [0, -1, 40, 41] (Blk.new _ _ _) rfl)).mono ?_); rintro e w3 ⟨v, hv, rfl, hr3, ho3⟩)
          have hv' := lit_bound [0, -1, 40, 41] (-1) 41 (by decide) (by decide) hv
          clear hv
          have ho3' := (HO2.out.alloc (.cells #[.int .i64 0, .int .i64 (-1), .int .i64 40, .int .i64 41] 3)).kept ho3 (.inr (by simp [Value.ownBlock]; omega))
          have hO3 := only_trans (only_alloc hO2 _) ho3
          have hlg := (ho3'.lt g rfl).2
          have k0 := OwnI.cellI ho3' hq
          have l0 := ho3'.frozenAt 0
          have HO3 := Lib.hid ho3'
          clear ho3' HO2 hown
          have hq' : (0 : Int) < (q : Int) := by omega
          go_wp2_with fail
          go_ret
          have hfin : OwnI _ w.heap.size (some ⟨g, 0, none⟩) q c (xs.set 0 v) := OwnI.stored (j := 0) HO3.out v
          exact ⟨_, q, c, xs.set 0 v, p' + 1 + 1, rfl, hfin.len, by omega, mem_set hxb.out hv', hfin.row, (by intro x hx; cases hx; simp; omega), by omega, hr3.setCell (by simp; omega) _, by (repeat' (first | (with_reducible exact only_refl _ _) | (with_reducible assumption) | (with_reducible refine only_alloc ?_ _) | (with_reducible refine only_drew ?_) | (with_reducible refine only_drewN ?_ _) | (with_reducible refine only_setCell ?_ ?_ _) | (with_reducible refine only_trans ?_ (by with_reducible assumption)) | (with_reducible exact Or.inl rfl) | (refine Or.inr ?_; first | (simp; done) | omega | (simp; omega)) | omega))⟩
        · have y0 : (x == 0) = false := by simp; omega
          go_wp2_with fail
          go_ret
          have hfin : OwnI _ w.heap.size (some ⟨g, 0, none⟩) q c xs := HO2.out
          exact ⟨_, q, c, xs, p' + 1, rfl, hfin.len, by omega, hxb.out, hfin.row, (by intro x hx; cases hx; simp; omega), by omega, hr2, hO2⟩
      · have hq0 : q = 0 := by omega
        subst hq0
        go_wp2_with fail
        go_ret
        have hfin : OwnI _ w.heap.size (some ⟨g, 0, none⟩) 0 c xs := hown.out
        exact ⟨_, 0, c, xs, p', rfl, hfin.len, by omega, hxb.out, hfin.row, (by intro x hx; cases hx; simp; omega), by omega, hrd, hO⟩
end Go.Proofs.Ytlgbeoghjjjlmaa
