/- The law on a page of all lines answers true: FnPagesOne. Conditions: the code is a slice of bytes. -/
import Derived.Test.YticdgpgbpgjnbaaPagesWrap
namespace Go.Proofs.Yticdgpgbpgjnbaa
open Go.RowKit

set_option maxHeartbeats 4000000 in
theorem law_PagesOne (A : Option Addr) (n cap : Nat) (cs : List Int) (w : World) (hc : Code w A n cap cs) :
    Calls Try.prog 9 #[.slice A n cap] w fun e w' => e = .returned (.bool true) ∧ Below w.heap.size w w' := by
  have hn := hc.1
  unfold maxLen at hn
  by_cases hbig : 1048576 < n
  · go_enter Try.func9, Try.ntmps9
    go_wp2
    go_returns
    exact ⟨rfl, Below.refl _ _⟩
  go_enter Try.func9, Try.ntmps9
  go_wp2_with fail
  ((with_reducible refine (DrawBestPages_any _ _ _ cs _ hc).mono ?_); rintro e w1 ⟨g, m, c, xs, h, rfl, hx, hm, hcp, hh, hr1, hb1⟩)
  have HX := Lib.hid hx; clear hx
  have HCP := Lib.hid hcp; clear hcp
  have hmx : m ≤ maxLen := by unfold maxLen; omega
  have hB1 := hb1
  have hz1 := hb1.size
  obtain ⟨⟨ys, v, ok⟩, hb⟩ : ∃ r, bestV xs h = r := ⟨_, rfl⟩
  obtain ⟨q, hq⟩ : ∃ q, ys.length = q := ⟨_, rfl⟩
  have hq40 := bestV_len xs h
  rw [hb] at hq40
  simp only [hq] at hq40
  have HB := Lib.hid hb
  have HQ := Lib.hid hq
  have hqx : q ≤ maxLen := by unfold maxLen; omega
  clear hb hq
  go_wp2_with fail
  ((with_reducible refine (best_iw HX.out hmx HCP.out HB.out HQ.out ?_).mono ?_); (exact hr1); rintro e w2 ⟨A2, d2, rfl, o2, hb2⟩)
  have hr2 := hr1.then_ hb2
  have hB2 := below_then (Nat.le_refl _) hB1 hb2
  clear hr1
  go_wp2_with fail
  ((with_reducible refine (best_sw HX.out hmx HB.out HQ.out ?_).mono ?_); (exact hr2); rintro e w3 ⟨A3, d3, rfl, o3, hb3⟩)
  have hr3 := hr2.then_ hb3
  have hB3 := below_then (Nat.le_refl _) hB2 hb3
  have o2' := o2.then_ hb3
  clear hr2 o2
  go_wp2_with fail
  ((with_reducible refine (equalInts_same _ _ _ _ _ ys _ hqx ?_ ?_).mono ?_); (exact o2'.row); (exact o3.row); rintro e w4 ⟨rfl, hb4⟩)
  have hr4 := hr3.then_ hb4
  have hB4 := below_then (Nat.le_refl _) hB3 hb4
  have o4 := o2'.then_ hb4
  have o5 := o3.then_ hb4
  clear hr3 o2' o3
  go_wp2_with fail
  ((with_reducible refine (validLines_i _ _ _ xs _ HX.out hmx ?_).mono ?_); (exact hr4); rintro e w5 ⟨rfl, hb5⟩)
  have hr5 := hr4.then_ hb5
  have hB5 := below_then (Nat.le_refl _) hB4 hb5
  have o6 := o4.then_ hb5
  have o7 := o5.then_ hb5
  clear hr4 o4 o5
  rcases hok : linesOk xs with _ | _
  · go_wp2_with fail
    ((with_reducible refine (equalInts_same _ _ _ _ _ ys _ hqx ?_ ?_).mono ?_); (exact o6.row); (exact o7.row); rintro e w6 ⟨rfl, hb6⟩)
    have hB6 := below_then (Nat.le_refl _) hB5 hb6
    go_wp2_with fail
    go_returns
    exact ⟨rfl, hB6⟩
  · have hhv : heightV xs 0 (m : Int) = pageH (seg xs 0 m) := height_yes (f := 0) hok HX.out (by omega) (Nat.le_refl _)
    have hone := pages_one hok HX.out
    obtain ⟨a, ha⟩ : ∃ a, pageH (seg xs 0 m) = a := ⟨_, rfl⟩
    rw [ha] at hhv hone
    have HHV := Lib.hid hhv
    have HONE := Lib.hid hone
    clear hhv hone ha hok o6 o7
    go_wp2_with fail
    ((with_reducible refine (heightV_i _ _ _ 0 _ xs _ HX.out hmx HCP.out ?_).mono ?_); (exact hr5); rintro e w6 ⟨rfl, hb6⟩)
    rw [HHV.out]
    have hr6 := hr5.then_ hb6
    have hB6 := below_then (Nat.le_refl _) hB5 hb6
    clear hr5
    by_cases hbig2 : 10000 < a
    · go_wp2_with fail
      go_returns
      exact ⟨rfl, hB6⟩
    · go_wp2_with fail
      ((with_reducible refine (best_iw (m := 1) HX.out hmx HCP.out (HONE.out (by omega)) rfl ?_).mono ?_); (exact hr6); rintro e w7 ⟨A7, d7, rfl, o7, hb7⟩)
      have hB7 := below_then (Nat.le_refl _) hB6 hb7
      have hz7 := hB7.size
      have O8 := Lib.hid (o7.alloc (.cells #[.int .i64 (m : Int)] 3))
      have O9 := Lib.hid (show OwnI (w7.alloc (.cells #[.int .i64 (m : Int)] 3)) w7.heap.size (some ⟨w7.heap.size, 0, none⟩) 1 1 [(m : Int)] from one_own w7 3 (.int .i64 (m : Int)))
      clear o7 hr6
      go_wp2_with fail
      ((with_reducible refine (equalInts_same _ _ _ _ _ [(m : Int)] _ (by unfold maxLen; omega) ?_ ?_).mono ?_); (exact O8.out.row); (exact O9.out.row); rintro e w8 ⟨rfl, hb8⟩)
      go_wp2_with fail
      go_returns
      exact ⟨rfl, below_then (Nat.le_refl _) (hB7.alloc hz7 _) hb8⟩
end Go.Proofs.Yticdgpgbpgjnbaa
