/- The generator of ends of pages returns some numbers, in memory of their own. Conditions: the reader has yielded fewer than 2^49 numbers; at most 60 ends. -/
import Derived.Test.YticdgpgbpgjnbaaDrawInts
namespace Go.Proofs.Yticdgpgbpgjnbaa
open Go.RowKit

set_option maxHeartbeats 4000000 in
theorem someEnds_any (rb p nn : Nat) (w : World) (h : Rd w rb p) (hp : p ≤ 140737488355328) (hnn : nn ≤ 60) : Calls Try.prog 56 #[.pointer (some ⟨rb, 0, none⟩), .int .i64 (nn : Int)] w (DrawnInts w rb p 130 60 (-1) 61) := by
  obtain ⟨i0, hi, hz0, hz1, hz2⟩ := info_parts int_info
  have hlt := h.lt
  go_enter Try.func56, Try.ntmps56
  go_wp2_with fail
  go_loopg [5, 6] nn (fun k o ii wr => ∃ (i g c q p' : Nat) (xs : List Int), ii = .int .i64 (i : Int) ∧ o = .slice (some ⟨g, 0, none⟩) q c ∧ k = nn + 1 - i ∧ 1 ≤ i ∧ i ≤ nn + 1 ∧ q + 1 ≤ i ∧ Hid (∀ x ∈ xs, -1 ≤ x ∧ x ≤ 61) ∧ Hid (OwnI wr w.heap.size (some ⟨g, 0, none⟩) q c xs) ∧ p' + 2 ≤ p + 2 * i ∧ Rd wr rb p' ∧ w.grownBy wr (some rb))
  case atStart => exact ⟨1, w.heap.size, 0, 0, p, [], rfl, rfl, by omega, by omega, by omega, by omega, (by intro x hx; cases hx), own_nil _ _ _ (Blk.new _ _ _) (Nat.le_refl _), by omega, h.alloc _, only_alloc (only_refl _ _) _⟩
  case round =>
    obtain ⟨i, g, c, q, p', xs, rfl, rfl, hk, hi1, hi2, hqi, hxb, hown, hp', hrd, hO⟩ := hrel
    have HK := Lib.hid hk; clear hk
    have hgb := (hown.out.lt g rfl).1
    have hs0 := hO.size
    by_cases hm : i ≤ nn
    · have hm' : (i : Int) ≤ (nn : Int) := by omega
      go_wp2_with fail
      ((with_reducible refine (pick_any _ _ _ _ hrd (by omega)).mono ?_); rintro e w2 ⟨x, rfl, hx0, hx1, hr2, ho2⟩)
      have hown2 := hown.out.kept ho2 (.inr (by simp [Value.ownBlock]; omega))
      have hO2 := only_trans hO ho2
      have hs2 := hO2.size
      clear hx1 hrd
      by_cases x0 : x = 0
      · subst x0
        have HRD := Lib.hid hr2
        have HO := Lib.hid ((hown2).alloc (.cells #[.int .i64 (i : Int)] 3))
        have HB := Lib.hid (Blk.new w2 3 #[.int .i64 (i : Int)])
        have hbase : w.heap.size ≤ (w2.alloc (.cells #[.int .i64 (i : Int)] 3)).heap.size := by have := (hO2).size; simp; omega
        go_wp2_with (at_builtin; (refine wpList_append_one _ rfl _ _ 37 rfl w.heap.size 3 i0 _ 1 8 Try.underlying37 hi hz0 hz1 hz2 rfl (by omega) (some ⟨g, 0, none⟩) q c (inl xs) rfl HO.out w2.heap.size (inl [(i : Int)]) rfl rfl HB.out (inl_one _) (by omega) (by omega) hbase ?_); intro g' c' w5 hown5 hgr5; (have HO5 := Lib.hid hown5); (have HG5 := Lib.hid hgr5); clear hown5 hgr5)
        go_wp2_with fail
        go_roundg (nn + 1 - (i + 1))
        case measure => have := HK.out; omega
        case rel =>
          refine ⟨i + 1, g', c', q + 1, _, xs ++ [(i : Int)], by go_num, rfl, rfl, by omega, by omega, by omega, mem_snoc hxb.out (by omega), ?_, ?_, (HRD.out.alloc _).own HG5.out (by intro x hx; cases hx; have := (HO.out.lt g rfl).1; simp; omega), only_own (only_alloc (hO2) _) HG5.out (by intro x hx; cases hx; have := (HO.out.lt g rfl).1; simp; omega)⟩
          · show World.ownsRow _ _ _ _ _ _ _
            rw [inl_snoc]; exact HO5.out
          · omega
      · have y0 : (x == 0) = false := by simp; omega
        by_cases hin : i = nn
        · have hin' : nn = i := by omega
          clear hin
          subst hin'
          go_wp2_with fail
          ((with_reducible refine (pick_any _ _ _ _ hr2 (by omega)).mono ?_); rintro e w3 ⟨y, rfl, hy0, hy1, hr3, ho3⟩)
          have hown3 := World.ownsRow.kept hown2 ho3 (.inr (by simp [Value.ownBlock]; omega))
          have hO3 := only_trans hO2 ho3
          have hs3 := hO3.size
          have HRD := Lib.hid hr3
          clear hy1
          by_cases yy : 0 < y
          · have HOWN3 := Lib.hid hown3
            clear hown2 hown3
            have HO := Lib.hid ((HOWN3.out).alloc (.cells #[.int .i64 (nn : Int)] 3))
            have HB := Lib.hid (Blk.new w3 3 #[.int .i64 (nn : Int)])
            have hbase : w.heap.size ≤ (w3.alloc (.cells #[.int .i64 (nn : Int)] 3)).heap.size := by have := (hO3).size; simp; omega
            go_wp2_with (at_builtin; (refine wpList_append_one _ rfl _ _ 37 rfl w.heap.size 3 i0 _ 1 8 Try.underlying37 hi hz0 hz1 hz2 rfl (by omega) (some ⟨g, 0, none⟩) q c (inl xs) rfl HO.out w3.heap.size (inl [(nn : Int)]) rfl rfl HB.out (inl_one _) (by omega) (by omega) hbase ?_); intro g' c' w5 hown5 hgr5; (have HO5 := Lib.hid hown5); (have HG5 := Lib.hid hgr5); clear hown5 hgr5)
            go_wp2_with fail
            go_roundg (nn + 1 - (nn + 1))
            case measure => have := HK.out; omega
            case rel =>
              refine ⟨nn + 1, g', c', q + 1, _, xs ++ [(nn : Int)], by go_num, rfl, rfl, by omega, by omega, by omega, mem_snoc hxb.out (by omega), ?_, ?_, (HRD.out.alloc _).own HG5.out (by intro x hx; cases hx; have := (HO.out.lt g rfl).1; simp; omega), only_own (only_alloc (hO3) _) HG5.out (by intro x hx; cases hx; have := (HO.out.lt g rfl).1; simp; omega)⟩
              · show World.ownsRow _ _ _ _ _ _ _
                rw [inl_snoc]; exact HO5.out
              · omega
          · have HOWN3 := Lib.hid hown3
            clear hown2 hown3
            go_wp2_with fail
            go_roundg (nn + 1 - (nn + 1))
            case measure => have := HK.out; omega
            case rel => exact ⟨nn + 1, g, c, q, _, xs, by go_num, rfl, rfl, by omega, by omega, by omega, hxb.out, HOWN3.out, by omega, HRD.out, hO3⟩
        · have y1 : ((i : Int) == (nn : Int)) = false := by simp; omega
          have HRD := Lib.hid hr2
          have HOWN2 := Lib.hid hown2
          clear hown2
          go_wp2_with fail
          go_roundg (nn + 1 - (i + 1))
          case measure => have := HK.out; omega
          case rel => exact ⟨i + 1, g, c, q, _, xs, by go_num, rfl, rfl, by omega, by omega, by omega, hxb.out, HOWN2.out, by omega, HRD.out, hO2⟩
    · by_cases hq : 0 < q
      · have hq' : (0 : Int) < (q : Int) := by omega
        go_wp2_with fail
        ((with_reducible refine (pick_any _ _ _ _ hrd (by omega)).mono ?_); rintro e w2 ⟨x, rfl, hx0, hx1, hr2, ho2⟩)
        have HO2 := Lib.hid (hown.out.kept ho2 (.inr (by simp [Value.ownBlock]; omega)))
        have hO2 := only_trans hO ho2
        have hs2 := hO2.size
        clear hx1
        by_cases x0 : x = 0
        · subst x0
          go_wp2_with fail
          ((with_reducible refine (one_any rb _ w2.heap.size 3 3 (fun i => [0, -1, (nn : Int) + 1].getD i 0) _ (hr2.alloc _) (by omega) (by omega) (by omega) (by omega) (lit_cells [0, -1, (nn : Int) + 1] (Blk.new _ _ _) rfl)).mono ?_); rintro e w3 ⟨v, hv, rfl, hr3, ho3⟩)
          have hv' := lit_bound [0, -1, (nn : Int) + 1] (-1) 61 (by intro x hx; simp at hx; omega) (by simp) hv
          clear hv
          have ho3' := (HO2.out.alloc (.cells #[.int .i64 0, .int .i64 (-1), .int .i64 ((nn : Int) + 1)] 3)).kept ho3 (.inr (by simp [Value.ownBlock]; omega))
          have hO3 := only_trans (only_alloc hO2 _) ho3
          have hlg := (ho3'.lt g rfl).2
          have k0 := OwnI.cellI ho3' hq
          have l0 := ho3'.frozenAt 0
          have HO3 := Lib.hid ho3'
          clear ho3' HO2 hown
          go_wp2_with fail
          go_ret
          have hfin : OwnI _ w.heap.size (some ⟨g, 0, none⟩) q c (xs.set 0 v) := OwnI.stored (j := 0) HO3.out v
          exact ⟨_, q, c, xs.set 0 v, p' + 1 + 1, rfl, hfin.len, by omega, mem_set hxb.out hv', hfin.row, (by intro x hx; cases hx; simp; omega), by omega, hr3.setCell (by simp; omega) _, by (repeat' (first | (with_reducible exact only_refl _ _) | (with_reducible assumption) | (with_reducible refine only_alloc ?_ _) | (with_reducible refine only_drew ?_) | (with_reducible refine only_drewN ?_ _) | (with_reducible refine only_setCell ?_ ?_ _) | (with_reducible refine only_trans ?_ (by with_reducible assumption)) | (with_reducible exact Or.inl rfl) | (refine Or.inr ?_; first | (simp; done) | omega | (simp; omega)) | omega))⟩
        · have y0 : (x == 0) = false := by simp; omega
          go_wp2_with fail
          go_ret
          have hfin : OwnI _ w.heap.size (some ⟨g, 0, none⟩) q c xs := HO2.out
          exact ⟨_, q, c, xs, p' + 1, rfl, hfin.len, by omega, hxb.out, hfin.row, (by intro x hx; cases hx; simp; omega), by omega, hr2, hO2⟩
      · have hq' : ¬ (0 : Int) < (q : Int) := by omega
        go_wp2_with fail
        go_ret
        have hfin : OwnI _ w.heap.size (some ⟨g, 0, none⟩) q c xs := hown.out
        exact ⟨_, q, c, xs, p', rfl, hfin.len, by omega, hxb.out, hfin.row, (by intro x hx; cases hx; simp; omega), by omega, hrd, hO⟩
end Go.Proofs.Yticdgpgbpgjnbaa
