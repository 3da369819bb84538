/- The exact law on ValidFigures answers true. Conditions: the slices read as lists. -/
import Derived.Test.YtlgbeoghjjjlmaaFigValid
namespace Go.Proofs.Ytlgbeoghjjjlmaa
open Go.RowKit

set_option maxHeartbeats 2000000 in
theorem law_ExactValidFigures (A0 : Option Addr) (n0 cap0 : Nat) (xs0 : List Fg) (w : World) (hn0 : xs0.length = n0) (hm0 : n0 ≤ maxLen) (hr0 : Row w w.heap.size 2 A0 n0 (fgc xs0)) :
    Calls Try.prog 10 #[.slice A0 n0 cap0] w fun e w' => e = .returned (.bool true) ∧ Below w.heap.size w w' := by
  have hq0 := hm0
  unfold maxLen at hq0
  by_cases hbig0 : 1048576 < n0
  · clear hn0
    go_enter Try.func10, Try.ntmps10
    go_wp2_with (go_at_call 31; refine (szFigureS_big _ _ _ _ hm0 hbig0).mono ?_; rintro e w' ⟨rfl, rfl⟩)
    go_returns
    exact ⟨rfl, Below.refl _ _⟩
  have hsm0 : n0 ≤ 1048576 := by omega
  have HN0 := Lib.hid hn0; clear hn0 hbig0
  have hB0 : Below w.heap.size w w := Below.refl _ _
  have ra0_0 := hr0; clear hr0
  go_enter Try.func10, Try.ntmps10
  go_wp2_with fail
  ((with_reducible refine (szFigureS_ok _ _ _ _ hsm0).mono ?_); rintro e w' ⟨rfl, rfl⟩)
  go_wp2_with fail
  ((with_reducible refine (toFigureS_any _ _ _ xs0 _ HN0.out hsm0 ?_).mono ?_); (exact (ra0_0.more hB0.size)); rintro e w1 ⟨rfl, p0, hb1⟩)
  have hz1 := hb1.size
  have hB1 := below_then (Nat.le_refl _) hB0 hb1
  have ra0_1 := ra0_0.below (hb1.mono hB0.size); clear ra0_0
  have p0_1 := p0; clear p0
  have blk_p0 := p0_1.blk
  go_wp2_with fail
  ((with_reducible refine (validFigures_s _ _ _ xs0 _ HN0.out hm0 ?_).mono ?_); (exact p0_1.row); rintro e w2 ⟨rfl, hb2⟩)
  have hz2 := hb2.size
  have hB2 := below_then (Nat.le_refl _) hB1 hb2
  have ra0_2 := ra0_1.below (hb2.mono hB1.size); clear ra0_1
  have p0_2 := p0_1.then_ hb2; clear p0_1
  clear p0_2
  go_wp2_with fail
  ((with_reducible refine (toFigureS_any _ _ _ xs0 _ HN0.out hsm0 ?_).mono ?_); (exact (ra0_2.more hB2.size)); rintro e w3 ⟨rfl, x0, hb3⟩)
  have hz3 := hb3.size
  have hB3 := below_then (Nat.le_refl _) hB2 hb3
  have ra0_3 := ra0_2.below (hb3.mono hB2.size); clear ra0_2
  have x0_3 := x0; clear x0
  have blk_x0 := x0_3.blk
  go_wp2_with fail
  ((with_reducible refine (validFigures_i _ _ _ xs0 _ HN0.out hm0 ?_).mono ?_); (exact x0_3.row); rintro e w4 ⟨rfl, hb4⟩)
  have hz4 := hb4.size
  have hB4 := below_then (Nat.le_refl _) hB3 hb4
  have ra0_4 := ra0_3.below (hb4.mono hB3.size); clear ra0_3
  have x0_4 := x0_3.then_ hb4; clear x0_3
  go_wp2_with fail
  ((with_reducible refine (toFigureS_any _ _ _ xs0 _ HN0.out hsm0 ?_).mono ?_); (exact (ra0_4.more hB4.size)); rintro e w5 ⟨rfl, t0, hb5⟩)
  have hz5 := hb5.size
  have hB5 := below_then (Nat.le_refl _) hB4 hb5
  have ra0_5 := ra0_4.below (hb5.mono hB4.size); clear ra0_4
  have x0_5 := x0_4.then_ hb5; clear x0_4
  have t0_5 := t0; clear t0
  have blk_t0 := t0_5.blk
  go_wp2_with fail
  ((with_reducible refine (eqFigureS_same _ _ _ _ _ xs0 _ hm0 ?_ ?_).mono ?_); (exact x0_5.row); (exact t0_5.row); rintro e w6 ⟨rfl, hb6⟩)
  have hz6 := hb6.size
  have hB6 := below_then (Nat.le_refl _) hB5 hb6
  have ra0_6 := ra0_5.below (hb6.mono hB5.size); clear ra0_5
  have x0_6 := x0_5.then_ hb6; clear x0_5
  have t0_6 := t0_5.then_ hb6; clear t0_5
  clear t0_6
  go_wp2_with fail
  go_returns
  exact ⟨rfl, hB6⟩
end Go.Proofs.Ytlgbeoghjjjlmaa
