/- The exact law on CheckPages answers true. Conditions: the slices read as lists. -/
import Derived.Test.YticdgpgbpgjnbaaCheckPages
namespace Go.Proofs.Yticdgpgbpgjnbaa
open Go.RowKit

set_option maxHeartbeats 2000000 in
theorem law_ExactCheckPages (A0 : Option Addr) (n0 cap0 : Nat) (xs0 : List Ln) (a1 : Int) (A2 : Option Addr) (n2 cap2 : Nat) (xs2 : List Int) (w : World) (hn0 : xs0.length = n0) (hm0 : n0 ≤ maxLen) (hr0 : Row w w.heap.size 3 A0 n0 (lnc xs0)) (hn2 : xs2.length = n2) (hm2 : n2 ≤ maxLen) (hr2 : Row w w.heap.size 1 A2 n2 (inc xs2)) :
    Calls Try.prog 7 #[.slice A0 n0 cap0, .int .i64 a1, .slice A2 n2 cap2] w fun e w' => e = .returned (.bool true) ∧ Below w.heap.size w w' := by
  have hq0 := hm0
  unfold maxLen at hq0
  have hq2 := hm2
  unfold maxLen at hq2
  by_cases hbig2 : 1048576 < n2
  · clear hn0 hn2
    go_enter Try.func7, Try.ntmps7
    go_wp2_with fail
    go_returns
    exact ⟨rfl, Below.refl _ _⟩
  by_cases hbig0 : 1048576 < n0
  · clear hn0 hn2
    go_enter Try.func7, Try.ntmps7
    go_wp2_with (go_at_call 15; refine (szLineS_big _ _ _ _ hm0 hbig0).mono ?_; rintro e w' ⟨rfl, rfl⟩)
    go_returns
    exact ⟨rfl, Below.refl _ _⟩
  have hsm0 : n0 ≤ 1048576 := by omega
  have HN0 := Lib.hid hn0; clear hn0 hbig0
  have hsm2 : n2 ≤ 1048576 := by omega
  have HN2 := Lib.hid hn2; clear hn2 hbig2
  have hB0 : Below w.heap.size w w := Below.refl _ _
  have ra0_0 := hr0; clear hr0
  have ra2_0 := hr2; clear hr2
  go_enter Try.func7, Try.ntmps7
  go_wp2_with fail
  ((with_reducible refine (szLineS_ok _ _ _ _ hsm0).mono ?_); rintro e w' ⟨rfl, rfl⟩)
  go_wp2_with fail
  ((with_reducible refine (toLineS_any _ _ _ xs0 _ HN0.out hsm0 ?_).mono ?_); (exact (ra0_0.more hB0.size)); rintro e w1 ⟨rfl, p0, hb1⟩)
  have hz1 := hb1.size
  have hB1 := below_then (Nat.le_refl _) hB0 hb1
  have ra0_1 := ra0_0.below (hb1.mono hB0.size); clear ra0_0
  have ra2_1 := ra2_0.below (hb1.mono hB0.size); clear ra2_0
  have p0_1 := p0; clear p0
  have blk_p0 := p0_1.blk
  go_wp2_with fail
  ((with_reducible refine (toIntS_any _ _ _ xs2 _ HN2.out hsm2 ?_).mono ?_); (exact (ra2_1.more hB1.size)); rintro e w2 ⟨rfl, p2, hb2⟩)
  have hz2 := hb2.size
  have hB2 := below_then (Nat.le_refl _) hB1 hb2
  have ra0_2 := ra0_1.below (hb2.mono hB1.size); clear ra0_1
  have ra2_2 := ra2_1.below (hb2.mono hB1.size); clear ra2_1
  have p0_2 := p0_1.then_ hb2; clear p0_1
  have p2_2 := p2; clear p2
  have blk_p2 := p2_2.blk
  go_wp2_with fail
  ((with_reducible refine (checkV_s _ _ _ _ _ _ _ xs0 xs2 _ HN0.out hm0 ?_ HN2.out hm2 ?_).mono ?_); (exact p0_2.row); (exact p2_2.row); rintro e w3 ⟨rfl, hb3⟩)
  have hz3 := hb3.size
  have hB3 := below_then (Nat.le_refl _) hB2 hb3
  have ra0_3 := ra0_2.below (hb3.mono hB2.size); clear ra0_2
  have ra2_3 := ra2_2.below (hb3.mono hB2.size); clear ra2_2
  have p0_3 := p0_2.then_ hb3; clear p0_2
  have p2_3 := p2_2.then_ hb3; clear p2_2
  clear p0_3
  clear p2_3
  go_wp2_with fail
  ((with_reducible refine (toLineS_any _ _ _ xs0 _ HN0.out hsm0 ?_).mono ?_); (exact (ra0_3.more hB3.size)); rintro e w4 ⟨rfl, x0, hb4⟩)
  have hz4 := hb4.size
  have hB4 := below_then (Nat.le_refl _) hB3 hb4
  have ra0_4 := ra0_3.below (hb4.mono hB3.size); clear ra0_3
  have ra2_4 := ra2_3.below (hb4.mono hB3.size); clear ra2_3
  have x0_4 := x0; clear x0
  have blk_x0 := x0_4.blk
  go_wp2_with fail
  ((with_reducible refine (toIntS_any _ _ _ xs2 _ HN2.out hsm2 ?_).mono ?_); (exact (ra2_4.more hB4.size)); rintro e w5 ⟨rfl, x2, hb5⟩)
  have hz5 := hb5.size
  have hB5 := below_then (Nat.le_refl _) hB4 hb5
  have ra0_5 := ra0_4.below (hb5.mono hB4.size); clear ra0_4
  have ra2_5 := ra2_4.below (hb5.mono hB4.size); clear ra2_4
  have x0_5 := x0_4.then_ hb5; clear x0_4
  have x2_5 := x2; clear x2
  have blk_x2 := x2_5.blk
  go_wp2_with fail
  ((with_reducible refine (checkV_i _ _ _ _ _ _ _ xs0 xs2 _ HN0.out hm0 ⟨Nat.le_refl _, hm0⟩ ?_ HN2.out hm2 ?_).mono ?_); (exact x0_5.row); (exact x2_5.row); rintro e w6 ⟨rfl, hb6⟩)
  have hz6 := hb6.size
  have hB6 := below_then (Nat.le_refl _) hB5 hb6
  have ra0_6 := ra0_5.below (hb6.mono hB5.size); clear ra0_5
  have ra2_6 := ra2_5.below (hb6.mono hB5.size); clear ra2_5
  have x0_6 := x0_5.then_ hb6; clear x0_5
  have x2_6 := x2_5.then_ hb6; clear x2_5
  go_wp2_with fail
  ((with_reducible refine (toLineS_any _ _ _ xs0 _ HN0.out hsm0 ?_).mono ?_); (exact (ra0_6.more hB6.size)); rintro e w7 ⟨rfl, t0, hb7⟩)
  have hz7 := hb7.size
  have hB7 := below_then (Nat.le_refl _) hB6 hb7
  have ra0_7 := ra0_6.below (hb7.mono hB6.size); clear ra0_6
  have ra2_7 := ra2_6.below (hb7.mono hB6.size); clear ra2_6
  have x0_7 := x0_6.then_ hb7; clear x0_6
  have x2_7 := x2_6.then_ hb7; clear x2_6
  have t0_7 := t0; clear t0
  have blk_t0 := t0_7.blk
  go_wp2_with fail
  ((with_reducible refine (eqLineS_same _ _ _ _ _ xs0 _ hm0 ?_ ?_).mono ?_); (exact x0_7.row); (exact t0_7.row); rintro e w8 ⟨rfl, hb8⟩)
  have hz8 := hb8.size
  have hB8 := below_then (Nat.le_refl _) hB7 hb8
  have ra0_8 := ra0_7.below (hb8.mono hB7.size); clear ra0_7
  have ra2_8 := ra2_7.below (hb8.mono hB7.size); clear ra2_7
  have x0_8 := x0_7.then_ hb8; clear x0_7
  have x2_8 := x2_7.then_ hb8; clear x2_7
  have t0_8 := t0_7.then_ hb8; clear t0_7
  clear t0_8
  go_wp2_with fail
  ((with_reducible refine (toIntS_any _ _ _ xs2 _ HN2.out hsm2 ?_).mono ?_); (exact (ra2_8.more hB8.size)); rintro e w9 ⟨rfl, t2, hb9⟩)
  have hz9 := hb9.size
  have hB9 := below_then (Nat.le_refl _) hB8 hb9
  have ra0_9 := ra0_8.below (hb9.mono hB8.size); clear ra0_8
  have ra2_9 := ra2_8.below (hb9.mono hB8.size); clear ra2_8
  have x0_9 := x0_8.then_ hb9; clear x0_8
  have x2_9 := x2_8.then_ hb9; clear x2_8
  have t2_9 := t2; clear t2
  have blk_t2 := t2_9.blk
  go_wp2_with fail
  ((with_reducible refine (eqIntS_same _ _ _ _ _ xs2 _ hm2 ?_ ?_).mono ?_); (exact x2_9.row); (exact t2_9.row); rintro e w10 ⟨rfl, hb10⟩)
  have hz10 := hb10.size
  have hB10 := below_then (Nat.le_refl _) hB9 hb10
  have ra0_10 := ra0_9.below (hb10.mono hB9.size); clear ra0_9
  have ra2_10 := ra2_9.below (hb10.mono hB9.size); clear ra2_9
  have x0_10 := x0_9.then_ hb10; clear x0_9
  have x2_10 := x2_9.then_ hb10; clear x2_9
  have t2_10 := t2_9.then_ hb10; clear t2_9
  clear t2_10
  go_wp2_with fail
  go_returns
  exact ⟨rfl, hB10⟩
end Go.Proofs.Yticdgpgbpgjnbaa
