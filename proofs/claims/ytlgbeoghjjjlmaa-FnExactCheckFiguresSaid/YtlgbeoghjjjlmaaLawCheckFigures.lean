/- The exact law on CheckFigures answers true. Conditions: the slices read as lists. -/
import Derived.Test.YtlgbeoghjjjlmaaFigCheckS
namespace Go.Proofs.Ytlgbeoghjjjlmaa
open Go.RowKit

set_option maxHeartbeats 2000000 in
theorem law_ExactCheckFigures (A0 : Option Addr) (n0 cap0 : Nat) (xs0 : List Fg) (A1 : Option Addr) (n1 cap1 : Nat) (xs1 : List Int) (A2 : Option Addr) (n2 cap2 : Nat) (xs2 : List Int) (w : World) (hn0 : xs0.length = n0) (hm0 : n0 ≤ maxLen) (hr0 : Row w w.heap.size 2 A0 n0 (fgc xs0)) (hn1 : xs1.length = n1) (hm1 : n1 ≤ maxLen) (hr1 : Row w w.heap.size 1 A1 n1 (inc xs1)) (hn2 : xs2.length = n2) (hm2 : n2 ≤ maxLen) (hr2 : Row w w.heap.size 1 A2 n2 (inc xs2)) :
    Calls Try.prog 11 #[.slice A0 n0 cap0, .slice A1 n1 cap1, .slice A2 n2 cap2] w fun e w' => e = .returned (.bool true) ∧ Below w.heap.size w w' := by
  have hq0 := hm0
  unfold maxLen at hq0
  have hq1 := hm1
  unfold maxLen at hq1
  have hq2 := hm2
  unfold maxLen at hq2
  by_cases hbig1 : 1048576 < n1
  · clear hn0 hn1 hn2
    go_enter Try.func11, Try.ntmps11
    go_wp2_with fail
    go_returns
    exact ⟨rfl, Below.refl _ _⟩
  by_cases hbig2 : 1048576 < n2
  · clear hn0 hn1 hn2
    go_enter Try.func11, Try.ntmps11
    go_wp2_with fail
    go_returns
    exact ⟨rfl, Below.refl _ _⟩
  by_cases hbig0 : 1048576 < n0
  · clear hn0 hn1 hn2
    go_enter Try.func11, Try.ntmps11
    go_wp2_with (go_at_call 31; refine (szFigureS_big _ _ _ _ hm0 hbig0).mono ?_; rintro e w' ⟨rfl, rfl⟩)
    go_returns
    exact ⟨rfl, Below.refl _ _⟩
  have hsm0 : n0 ≤ 1048576 := by omega
  have HN0 := Lib.hid hn0; clear hn0 hbig0
  have hsm1 : n1 ≤ 1048576 := by omega
  have HN1 := Lib.hid hn1; clear hn1 hbig1
  have hsm2 : n2 ≤ 1048576 := by omega
  have HN2 := Lib.hid hn2; clear hn2 hbig2
  have hB0 : Below w.heap.size w w := Below.refl _ _
  have ra0_0 := hr0; clear hr0
  have ra1_0 := hr1; clear hr1
  have ra2_0 := hr2; clear hr2
  go_enter Try.func11, Try.ntmps11
  go_wp2_with fail
  ((with_reducible refine (szFigureS_ok _ _ _ _ hsm0).mono ?_); rintro e w' ⟨rfl, rfl⟩)
  go_wp2_with fail
  ((with_reducible refine (toFigureS_any _ _ _ xs0 _ HN0.out hsm0 ?_).mono ?_); (exact (ra0_0.more hB0.size)); rintro e w1 ⟨rfl, p0, hb1⟩)
  have hz1 := hb1.size
  have hB1 := below_then (Nat.le_refl _) hB0 hb1
  have ra0_1 := ra0_0.below (hb1.mono hB0.size); clear ra0_0
  have ra1_1 := ra1_0.below (hb1.mono hB0.size); clear ra1_0
  have ra2_1 := ra2_0.below (hb1.mono hB0.size); clear ra2_0
  have p0_1 := p0; clear p0
  have blk_p0 := p0_1.blk
  go_wp2_with fail
  ((with_reducible refine (toIntS_any _ _ _ xs1 _ HN1.out hsm1 ?_).mono ?_); (exact (ra1_1.more hB1.size)); rintro e w2 ⟨rfl, p1, hb2⟩)
  have hz2 := hb2.size
  have hB2 := below_then (Nat.le_refl _) hB1 hb2
  have ra0_2 := ra0_1.below (hb2.mono hB1.size); clear ra0_1
  have ra1_2 := ra1_1.below (hb2.mono hB1.size); clear ra1_1
  have ra2_2 := ra2_1.below (hb2.mono hB1.size); clear ra2_1
  have p0_2 := p0_1.then_ hb2; clear p0_1
  have p1_2 := p1; clear p1
  have blk_p1 := p1_2.blk
  go_wp2_with fail
  ((with_reducible refine (toIntS_any _ _ _ xs2 _ HN2.out hsm2 ?_).mono ?_); (exact (ra2_2.more hB2.size)); rintro e w3 ⟨rfl, p2, hb3⟩)
  have hz3 := hb3.size
  have hB3 := below_then (Nat.le_refl _) hB2 hb3
  have ra0_3 := ra0_2.below (hb3.mono hB2.size); clear ra0_2
  have ra1_3 := ra1_2.below (hb3.mono hB2.size); clear ra1_2
  have ra2_3 := ra2_2.below (hb3.mono hB2.size); clear ra2_2
  have p0_3 := p0_2.then_ hb3; clear p0_2
  have p1_3 := p1_2.then_ hb3; clear p1_2
  have p2_3 := p2; clear p2
  have blk_p2 := p2_3.blk
  go_wp2_with fail
  ((with_reducible refine (checkF_s _ _ _ _ _ _ _ _ _ _ xs0 xs1 xs2 _ HN0.out hm0 ?_ HN1.out hsm1 ?_ HN2.out hm2 ?_).mono ?_); (exact p0_3.row); (exact p1_3.row); (exact p2_3.row); rintro e w4 ⟨rfl, hb4⟩)
  have hz4 := hb4.size
  have hB4 := below_then (Nat.le_refl _) hB3 hb4
  have ra0_4 := ra0_3.below (hb4.mono hB3.size); clear ra0_3
  have ra1_4 := ra1_3.below (hb4.mono hB3.size); clear ra1_3
  have ra2_4 := ra2_3.below (hb4.mono hB3.size); clear ra2_3
  have p0_4 := p0_3.then_ hb4; clear p0_3
  have p1_4 := p1_3.then_ hb4; clear p1_3
  have p2_4 := p2_3.then_ hb4; clear p2_3
  clear p0_4
  clear p1_4
  clear p2_4
  go_wp2_with fail
  ((with_reducible refine (toFigureS_any _ _ _ xs0 _ HN0.out hsm0 ?_).mono ?_); (exact (ra0_4.more hB4.size)); rintro e w5 ⟨rfl, x0, hb5⟩)
  have hz5 := hb5.size
  have hB5 := below_then (Nat.le_refl _) hB4 hb5
  have ra0_5 := ra0_4.below (hb5.mono hB4.size); clear ra0_4
  have ra1_5 := ra1_4.below (hb5.mono hB4.size); clear ra1_4
  have ra2_5 := ra2_4.below (hb5.mono hB4.size); clear ra2_4
  have x0_5 := x0; clear x0
  have blk_x0 := x0_5.blk
  go_wp2_with fail
  ((with_reducible refine (toIntS_any _ _ _ xs1 _ HN1.out hsm1 ?_).mono ?_); (exact (ra1_5.more hB5.size)); rintro e w6 ⟨rfl, x1, hb6⟩)
  have hz6 := hb6.size
  have hB6 := below_then (Nat.le_refl _) hB5 hb6
  have ra0_6 := ra0_5.below (hb6.mono hB5.size); clear ra0_5
  have ra1_6 := ra1_5.below (hb6.mono hB5.size); clear ra1_5
  have ra2_6 := ra2_5.below (hb6.mono hB5.size); clear ra2_5
  have x0_6 := x0_5.then_ hb6; clear x0_5
  have x1_6 := x1; clear x1
  have blk_x1 := x1_6.blk
  go_wp2_with fail
  ((with_reducible refine (toIntS_any _ _ _ xs2 _ HN2.out hsm2 ?_).mono ?_); (exact (ra2_6.more hB6.size)); rintro e w7 ⟨rfl, x2, hb7⟩)
  have hz7 := hb7.size
  have hB7 := below_then (Nat.le_refl _) hB6 hb7
  have ra0_7 := ra0_6.below (hb7.mono hB6.size); clear ra0_6
  have ra1_7 := ra1_6.below (hb7.mono hB6.size); clear ra1_6
  have ra2_7 := ra2_6.below (hb7.mono hB6.size); clear ra2_6
  have x0_7 := x0_6.then_ hb7; clear x0_6
  have x1_7 := x1_6.then_ hb7; clear x1_6
  have x2_7 := x2; clear x2
  have blk_x2 := x2_7.blk
  go_wp2_with fail
  ((with_reducible refine (checkF_i _ _ _ _ _ _ _ _ _ _ xs0 xs1 xs2 _ HN0.out hm0 ?_ HN1.out hsm1 ?_ HN2.out hm2 ?_).mono ?_); (exact x0_7.row); (exact x1_7.row); (exact x2_7.row); rintro e w8 ⟨rfl, hb8⟩)
  have hz8 := hb8.size
  have hB8 := below_then (Nat.le_refl _) hB7 hb8
  have ra0_8 := ra0_7.below (hb8.mono hB7.size); clear ra0_7
  have ra1_8 := ra1_7.below (hb8.mono hB7.size); clear ra1_7
  have ra2_8 := ra2_7.below (hb8.mono hB7.size); clear ra2_7
  have x0_8 := x0_7.then_ hb8; clear x0_7
  have x1_8 := x1_7.then_ hb8; clear x1_7
  have x2_8 := x2_7.then_ hb8; clear x2_7
  go_wp2_with fail
  ((with_reducible refine (toFigureS_any _ _ _ xs0 _ HN0.out hsm0 ?_).mono ?_); (exact (ra0_8.more hB8.size)); rintro e w9 ⟨rfl, t0, hb9⟩)
  have hz9 := hb9.size
  have hB9 := below_then (Nat.le_refl _) hB8 hb9
  have ra0_9 := ra0_8.below (hb9.mono hB8.size); clear ra0_8
  have ra1_9 := ra1_8.below (hb9.mono hB8.size); clear ra1_8
  have ra2_9 := ra2_8.below (hb9.mono hB8.size); clear ra2_8
  have x0_9 := x0_8.then_ hb9; clear x0_8
  have x1_9 := x1_8.then_ hb9; clear x1_8
  have x2_9 := x2_8.then_ hb9; clear x2_8
  have t0_9 := t0; clear t0
  have blk_t0 := t0_9.blk
  go_wp2_with fail
  ((with_reducible refine (eqFigureS_same _ _ _ _ _ xs0 _ hm0 ?_ ?_).mono ?_); (exact x0_9.row); (exact t0_9.row); rintro e w10 ⟨rfl, hb10⟩)
  have hz10 := hb10.size
  have hB10 := below_then (Nat.le_refl _) hB9 hb10
  have ra0_10 := ra0_9.below (hb10.mono hB9.size); clear ra0_9
  have ra1_10 := ra1_9.below (hb10.mono hB9.size); clear ra1_9
  have ra2_10 := ra2_9.below (hb10.mono hB9.size); clear ra2_9
  have x0_10 := x0_9.then_ hb10; clear x0_9
  have x1_10 := x1_9.then_ hb10; clear x1_9
  have x2_10 := x2_9.then_ hb10; clear x2_9
  have t0_10 := t0_9.then_ hb10; clear t0_9
  clear t0_10
  go_wp2_with fail
  ((with_reducible refine (toIntS_any _ _ _ xs1 _ HN1.out hsm1 ?_).mono ?_); (exact (ra1_10.more hB10.size)); rintro e w11 ⟨rfl, t1, hb11⟩)
  have hz11 := hb11.size
  have hB11 := below_then (Nat.le_refl _) hB10 hb11
  have ra0_11 := ra0_10.below (hb11.mono hB10.size); clear ra0_10
  have ra1_11 := ra1_10.below (hb11.mono hB10.size); clear ra1_10
  have ra2_11 := ra2_10.below (hb11.mono hB10.size); clear ra2_10
  have x0_11 := x0_10.then_ hb11; clear x0_10
  have x1_11 := x1_10.then_ hb11; clear x1_10
  have x2_11 := x2_10.then_ hb11; clear x2_10
  have t1_11 := t1; clear t1
  have blk_t1 := t1_11.blk
  go_wp2_with fail
  ((with_reducible refine (eqIntS_same _ _ _ _ _ xs1 _ hm1 ?_ ?_).mono ?_); (exact x1_11.row); (exact t1_11.row); rintro e w12 ⟨rfl, hb12⟩)
  have hz12 := hb12.size
  have hB12 := below_then (Nat.le_refl _) hB11 hb12
  have ra0_12 := ra0_11.below (hb12.mono hB11.size); clear ra0_11
  have ra1_12 := ra1_11.below (hb12.mono hB11.size); clear ra1_11
  have ra2_12 := ra2_11.below (hb12.mono hB11.size); clear ra2_11
  have x0_12 := x0_11.then_ hb12; clear x0_11
  have x1_12 := x1_11.then_ hb12; clear x1_11
  have x2_12 := x2_11.then_ hb12; clear x2_11
  have t1_12 := t1_11.then_ hb12; clear t1_11
  clear t1_12
  go_wp2_with fail
  ((with_reducible refine (toIntS_any _ _ _ xs2 _ HN2.out hsm2 ?_).mono ?_); (exact (ra2_12.more hB12.size)); rintro e w13 ⟨rfl, t2, hb13⟩)
  have hz13 := hb13.size
  have hB13 := below_then (Nat.le_refl _) hB12 hb13
  have ra0_13 := ra0_12.below (hb13.mono hB12.size); clear ra0_12
  have ra1_13 := ra1_12.below (hb13.mono hB12.size); clear ra1_12
  have ra2_13 := ra2_12.below (hb13.mono hB12.size); clear ra2_12
  have x0_13 := x0_12.then_ hb13; clear x0_12
  have x1_13 := x1_12.then_ hb13; clear x1_12
  have x2_13 := x2_12.then_ hb13; clear x2_12
  have t2_13 := t2; clear t2
  have blk_t2 := t2_13.blk
  go_wp2_with fail
  ((with_reducible refine (eqIntS_same _ _ _ _ _ xs2 _ hm2 ?_ ?_).mono ?_); (exact x2_13.row); (exact t2_13.row); rintro e w14 ⟨rfl, hb14⟩)
  have hz14 := hb14.size
  have hB14 := below_then (Nat.le_refl _) hB13 hb14
  have ra0_14 := ra0_13.below (hb14.mono hB13.size); clear ra0_13
  have ra1_14 := ra1_13.below (hb14.mono hB13.size); clear ra1_13
  have ra2_14 := ra2_13.below (hb14.mono hB13.size); clear ra2_13
  have x0_14 := x0_13.then_ hb14; clear x0_13
  have x1_14 := x1_13.then_ hb14; clear x1_13
  have x2_14 := x2_13.then_ hb14; clear x2_13
  have t2_14 := t2_13.then_ hb14; clear t2_13
  clear t2_14
  go_wp2_with fail
  go_returns
  exact ⟨rfl, hB14⟩
end Go.Proofs.Ytlgbeoghjjjlmaa
