/- The exact law on CheckShape answers true. Conditions: the slices read as lists. -/
import Derived.Test.YtkmipgekmbngcaaCheckShapeS
import Derived.Test.YtkmipgekmbngcaaItemSS
import Derived.Test.YtkmipgekmbngcaaMSb10
namespace Go.Proofs.Ytkmipgekmbngcaa
open Go.RowKit

theorem opt_form {r V : Option Int} (hr : r = V) {c : Int} {o : Bool} (hc : V.getD 0 = c) (ho : V.isSome = o) {w : World} {B : Nat} {e : Ending} {w' : World} (h : e = .returned (optV r) ∧ Below B w w') : e = .returned (.tuple #[.int .i64 c, .bool o]) ∧ Below B w w' := by
  subst hr hc ho
  exact h

set_option maxHeartbeats 4000000 in
theorem law_ExactCheckShape (A0 : Option Addr) (n0 cap0 : Nat) (xs0 : List It) (A1 : Option Addr) (n1 cap1 : Nat) (xs1 : List Int) (a2 : Int) (A3 : Option Addr) (n3 cap3 : Nat) (xs3 : List Int) (w : World) (hn0 : xs0.length = n0) (hm0 : n0 ≤ maxLen) (hr0 : Row w w.heap.size 6 A0 n0 (itc xs0)) (hn1 : xs1.length = n1) (hm1 : n1 ≤ maxLen) (hr1 : Row w w.heap.size 1 A1 n1 (inc xs1)) (hn3 : xs3.length = n3) (hm3 : n3 ≤ maxLen) (hr3 : Row w w.heap.size 1 A3 n3 (inc xs3)) :
    Calls Try.prog 6 #[.slice A0 n0 cap0, .slice A1 n1 cap1, .int .i64 a2, .slice A3 n3 cap3] w fun e w' => e = .returned (.bool true) ∧ Below w.heap.size w w' := by
  have hq0 := hm0
  unfold maxLen at hq0
  have hq1 := hm1
  unfold maxLen at hq1
  have hq3 := hm3
  unfold maxLen at hq3
  by_cases hbig1 : 1048576 < n1
  · clear hn0 hn1 hn3
    go_enter Try.func6, Try.ntmps6
    go_wp2_with fail
    go_returns
    exact ⟨rfl, Below.refl _ _⟩
  by_cases hbig3 : 1048576 < n3
  · clear hn0 hn1 hn3
    go_enter Try.func6, Try.ntmps6
    go_wp2_with fail
    go_returns
    exact ⟨rfl, Below.refl _ _⟩
  by_cases hbig0 : 1048576 < n0
  · clear hn0 hn1 hn3
    go_enter Try.func6, Try.ntmps6
    go_wp2_with (go_at_call 24; refine (szItemS_big _ _ _ _ hm0 hbig0).mono ?_; rintro e w' ⟨rfl, rfl⟩)
    go_returns
    exact ⟨rfl, Below.refl _ _⟩
  have hsm0 : n0 ≤ 1048576 := by omega
  have HN0 := Lib.hid hn0; clear hn0 hbig0
  have hsm1 : n1 ≤ 1048576 := by omega
  have HN1 := Lib.hid hn1; clear hn1 hbig1
  have hsm3 : n3 ≤ 1048576 := by omega
  have HN3 := Lib.hid hn3; clear hn3 hbig3
  have hB0 : Below w.heap.size w w := Below.refl _ _
  have ra0_0 := hr0; clear hr0
  have ra1_0 := hr1; clear hr1
  have ra3_0 := hr3; clear hr3
  obtain ⟨V, hV⟩ : ∃ V, chkV xs0 xs1 a2 xs3 = V := ⟨_, rfl⟩
  obtain ⟨c, hc⟩ : ∃ c, V.getD 0 = c := ⟨_, rfl⟩
  obtain ⟨o, ho⟩ : ∃ o, V.isSome = o := ⟨_, rfl⟩
  have HV := Lib.hid hV
  have HC := Lib.hid hc
  have HO := Lib.hid ho
  clear hV hc ho
  go_enter Try.func6, Try.ntmps6
  go_wp2_with fail
  ((with_reducible refine (szItemS_ok _ _ _ _ hsm0).mono ?_); rintro e w' ⟨rfl, rfl⟩)
  go_wp2_with fail
  ((with_reducible refine (toItemS_any _ _ _ xs0 _ HN0.out hsm0 ?_).mono ?_); (exact (ra0_0.more hB0.size)); rintro e w1 ⟨rfl, p0, hb1⟩)
  have hz1 := hb1.size
  have hB1 := below_then (Nat.le_refl _) hB0 hb1
  have ra0_1 := ra0_0.below (hb1.mono hB0.size); clear ra0_0
  have ra1_1 := ra1_0.below (hb1.mono hB0.size); clear ra1_0
  have ra3_1 := ra3_0.below (hb1.mono hB0.size); clear ra3_0
  have p0_1 := p0; clear p0
  have blk_p0 := p0_1.blk
  go_wp2_with fail
  ((with_reducible refine (toIntS_any _ _ _ xs1 _ HN1.out hsm1 ?_).mono ?_); (exact (ra1_1.more hB1.size)); rintro e w2 ⟨rfl, p1, hb2⟩)
  have hz2 := hb2.size
  have hB2 := below_then (Nat.le_refl _) hB1 hb2
  have ra0_2 := ra0_1.below (hb2.mono hB1.size); clear ra0_1
  have ra1_2 := ra1_1.below (hb2.mono hB1.size); clear ra1_1
  have ra3_2 := ra3_1.below (hb2.mono hB1.size); clear ra3_1
  have p0_2 := p0_1.then_ hb2; clear p0_1
  have p1_2 := p1; clear p1
  have blk_p1 := p1_2.blk
  go_wp2_with fail
  ((with_reducible refine (toIntS_any _ _ _ xs3 _ HN3.out hsm3 ?_).mono ?_); (exact (ra3_2.more hB2.size)); rintro e w3 ⟨rfl, p3, hb3⟩)
  have hz3 := hb3.size
  have hB3 := below_then (Nat.le_refl _) hB2 hb3
  have ra0_3 := ra0_2.below (hb3.mono hB2.size); clear ra0_2
  have ra1_3 := ra1_2.below (hb3.mono hB2.size); clear ra1_2
  have ra3_3 := ra3_2.below (hb3.mono hB2.size); clear ra3_2
  have p0_3 := p0_2.then_ hb3; clear p0_2
  have p1_3 := p1_2.then_ hb3; clear p1_2
  have p3_3 := p3; clear p3
  have blk_p3 := p3_3.blk
  go_wp2_with fail
  ((with_reducible refine ((checkShape_s _ _ _ _ _ _ _ _ _ _ xs0 xs1 xs3 _ HN0.out hm0 ?_ HN1.out hm1 ?_ HN3.out hm3 ?_).mono fun _ _ h => opt_form HV.out HC.out HO.out h).mono ?_); (exact p0_3.row); (exact p1_3.row); (exact p3_3.row); rintro e w4 ⟨rfl, hb4⟩)
  have hz4 := hb4.size
  have hB4 := below_then (Nat.le_refl _) hB3 hb4
  have ra0_4 := ra0_3.below (hb4.mono hB3.size); clear ra0_3
  have ra1_4 := ra1_3.below (hb4.mono hB3.size); clear ra1_3
  have ra3_4 := ra3_3.below (hb4.mono hB3.size); clear ra3_3
  have p0_4 := p0_3.then_ hb4; clear p0_3
  have p1_4 := p1_3.then_ hb4; clear p1_3
  have p3_4 := p3_3.then_ hb4; clear p3_3
  clear p0_4
  clear p1_4
  clear p3_4
  go_wp2_with fail
  ((with_reducible refine (toItemS_any _ _ _ xs0 _ HN0.out hsm0 ?_).mono ?_); (exact (ra0_4.more hB4.size)); rintro e w5 ⟨rfl, x0, hb5⟩)
  have hz5 := hb5.size
  have hB5 := below_then (Nat.le_refl _) hB4 hb5
  have ra0_5 := ra0_4.below (hb5.mono hB4.size); clear ra0_4
  have ra1_5 := ra1_4.below (hb5.mono hB4.size); clear ra1_4
  have ra3_5 := ra3_4.below (hb5.mono hB4.size); clear ra3_4
  have x0_5 := x0; clear x0
  have blk_x0 := x0_5.blk
  go_wp2_with fail
  ((with_reducible refine (toIntS_any _ _ _ xs1 _ HN1.out hsm1 ?_).mono ?_); (exact (ra1_5.more hB5.size)); rintro e w6 ⟨rfl, x1, hb6⟩)
  have hz6 := hb6.size
  have hB6 := below_then (Nat.le_refl _) hB5 hb6
  have ra0_6 := ra0_5.below (hb6.mono hB5.size); clear ra0_5
  have ra1_6 := ra1_5.below (hb6.mono hB5.size); clear ra1_5
  have ra3_6 := ra3_5.below (hb6.mono hB5.size); clear ra3_5
  have x0_6 := x0_5.then_ hb6; clear x0_5
  have x1_6 := x1; clear x1
  have blk_x1 := x1_6.blk
  go_wp2_with fail
  ((with_reducible refine (toIntS_any _ _ _ xs3 _ HN3.out hsm3 ?_).mono ?_); (exact (ra3_6.more hB6.size)); rintro e w7 ⟨rfl, x3, hb7⟩)
  have hz7 := hb7.size
  have hB7 := below_then (Nat.le_refl _) hB6 hb7
  have ra0_7 := ra0_6.below (hb7.mono hB6.size); clear ra0_6
  have ra1_7 := ra1_6.below (hb7.mono hB6.size); clear ra1_6
  have ra3_7 := ra3_6.below (hb7.mono hB6.size); clear ra3_6
  have x0_7 := x0_6.then_ hb7; clear x0_6
  have x1_7 := x1_6.then_ hb7; clear x1_6
  have x3_7 := x3; clear x3
  have blk_x3 := x3_7.blk
  go_wp2_with fail
  ((with_reducible refine ((checkShape_i _ _ _ _ _ _ _ _ _ _ xs0 xs1 xs3 _ HN0.out hm0 ⟨Nat.le_refl _, hm0⟩ ?_ HN1.out hm1 ?_ HN3.out hm3 ?_).mono fun _ _ h => opt_form HV.out HC.out HO.out h).mono ?_); (exact x0_7.row); (exact x1_7.row); (exact x3_7.row); rintro e w8 ⟨rfl, hb8⟩)
  have hz8 := hb8.size
  have hB8 := below_then (Nat.le_refl _) hB7 hb8
  have ra0_8 := ra0_7.below (hb8.mono hB7.size); clear ra0_7
  have ra1_8 := ra1_7.below (hb8.mono hB7.size); clear ra1_7
  have ra3_8 := ra3_7.below (hb8.mono hB7.size); clear ra3_7
  have x0_8 := x0_7.then_ hb8; clear x0_7
  have x1_8 := x1_7.then_ hb8; clear x1_7
  have x3_8 := x3_7.then_ hb8; clear x3_7
  go_wp2_with fail
  ((with_reducible refine (toItemS_any _ _ _ xs0 _ HN0.out hsm0 ?_).mono ?_); (exact (ra0_8.more hB8.size)); rintro e w9 ⟨rfl, t0, hb9⟩)
  have hz9 := hb9.size
  have hB9 := below_then (Nat.le_refl _) hB8 hb9
  have ra0_9 := ra0_8.below (hb9.mono hB8.size); clear ra0_8
  have ra1_9 := ra1_8.below (hb9.mono hB8.size); clear ra1_8
  have ra3_9 := ra3_8.below (hb9.mono hB8.size); clear ra3_8
  have x0_9 := x0_8.then_ hb9; clear x0_8
  have x1_9 := x1_8.then_ hb9; clear x1_8
  have x3_9 := x3_8.then_ hb9; clear x3_8
  have t0_9 := t0; clear t0
  have blk_t0 := t0_9.blk
  go_wp2_with fail
  ((with_reducible refine (eqItemS_same _ _ _ _ _ xs0 _ hm0 ?_ ?_).mono ?_); (exact x0_9.row); (exact t0_9.row); rintro e w10 ⟨rfl, hb10⟩)
  have hz10 := hb10.size
  have hB10 := below_then (Nat.le_refl _) hB9 hb10
  have ra0_10 := ra0_9.below (hb10.mono hB9.size); clear ra0_9
  have ra1_10 := ra1_9.below (hb10.mono hB9.size); clear ra1_9
  have ra3_10 := ra3_9.below (hb10.mono hB9.size); clear ra3_9
  have x0_10 := x0_9.then_ hb10; clear x0_9
  have x1_10 := x1_9.then_ hb10; clear x1_9
  have x3_10 := x3_9.then_ hb10; clear x3_9
  have t0_10 := t0_9.then_ hb10; clear t0_9
  clear t0_10
  go_wp2_with fail
  ((with_reducible refine (toIntS_any _ _ _ xs1 _ HN1.out hsm1 ?_).mono ?_); (exact (ra1_10.more hB10.size)); rintro e w11 ⟨rfl, t1, hb11⟩)
  have hz11 := hb11.size
  have hB11 := below_then (Nat.le_refl _) hB10 hb11
  have ra0_11 := ra0_10.below (hb11.mono hB10.size); clear ra0_10
  have ra1_11 := ra1_10.below (hb11.mono hB10.size); clear ra1_10
  have ra3_11 := ra3_10.below (hb11.mono hB10.size); clear ra3_10
  have x0_11 := x0_10.then_ hb11; clear x0_10
  have x1_11 := x1_10.then_ hb11; clear x1_10
  have x3_11 := x3_10.then_ hb11; clear x3_10
  have t1_11 := t1; clear t1
  have blk_t1 := t1_11.blk
  go_wp2_with fail
  ((with_reducible refine (eqIntS_same _ _ _ _ _ xs1 _ hm1 ?_ ?_).mono ?_); (exact x1_11.row); (exact t1_11.row); rintro e w12 ⟨rfl, hb12⟩)
  have hz12 := hb12.size
  have hB12 := below_then (Nat.le_refl _) hB11 hb12
  have ra0_12 := ra0_11.below (hb12.mono hB11.size); clear ra0_11
  have ra1_12 := ra1_11.below (hb12.mono hB11.size); clear ra1_11
  have ra3_12 := ra3_11.below (hb12.mono hB11.size); clear ra3_11
  have x0_12 := x0_11.then_ hb12; clear x0_11
  have x1_12 := x1_11.then_ hb12; clear x1_11
  have x3_12 := x3_11.then_ hb12; clear x3_11
  have t1_12 := t1_11.then_ hb12; clear t1_11
  clear t1_12
  go_wp2_with fail
  ((with_reducible refine (toIntS_any _ _ _ xs3 _ HN3.out hsm3 ?_).mono ?_); (exact (ra3_12.more hB12.size)); rintro e w13 ⟨rfl, t3, hb13⟩)
  have hz13 := hb13.size
  have hB13 := below_then (Nat.le_refl _) hB12 hb13
  have ra0_13 := ra0_12.below (hb13.mono hB12.size); clear ra0_12
  have ra1_13 := ra1_12.below (hb13.mono hB12.size); clear ra1_12
  have ra3_13 := ra3_12.below (hb13.mono hB12.size); clear ra3_12
  have x0_13 := x0_12.then_ hb13; clear x0_12
  have x1_13 := x1_12.then_ hb13; clear x1_12
  have x3_13 := x3_12.then_ hb13; clear x3_12
  have t3_13 := t3; clear t3
  have blk_t3 := t3_13.blk
  go_wp2_with fail
  ((with_reducible refine (eqIntS_same _ _ _ _ _ xs3 _ hm3 ?_ ?_).mono ?_); (exact x3_13.row); (exact t3_13.row); rintro e w14 ⟨rfl, hb14⟩)
  have hz14 := hb14.size
  have hB14 := below_then (Nat.le_refl _) hB13 hb14
  have ra0_14 := ra0_13.below (hb14.mono hB13.size); clear ra0_13
  have ra1_14 := ra1_13.below (hb14.mono hB13.size); clear ra1_13
  have ra3_14 := ra3_13.below (hb14.mono hB13.size); clear ra3_13
  have x0_14 := x0_13.then_ hb14; clear x0_13
  have x1_14 := x1_13.then_ hb14; clear x1_13
  have x3_14 := x3_13.then_ hb14; clear x3_13
  have t3_14 := t3_13.then_ hb14; clear t3_13
  clear t3_14
  go_wp2_with fail
  go_returns
  exact ⟨rfl, hB14⟩
end Go.Proofs.Ytkmipgekmbngcaa
