/- The law on the best pages answers true: FnBestPages. Conditions: the code is a slice of bytes. -/
import Derived.Test.YticdgpgbpgjnbaaPagesWrap
namespace Go.Proofs.Yticdgpgbpgjnbaa
open Go.RowKit

set_option maxHeartbeats 4000000 in
theorem law_BestPages (A : Option Addr) (n cap : Nat) (cs : List Int) (w : World) (hc : Code w A n cap cs) :
    Calls Try.prog 13 #[.slice A n cap] w fun e w' => e = .returned (.bool true) ∧ Below w.heap.size w w' := by
  have hn := hc.1
  unfold maxLen at hn
  by_cases hbig : 1048576 < n
  · go_enter Try.func13, Try.ntmps13
    go_wp2
    go_returns
    exact ⟨rfl, Below.refl _ _⟩
  go_enter Try.func13, Try.ntmps13
  go_wp2_with fail
  ((with_reducible refine (DrawBestPages_any _ _ _ cs _ hc).mono ?_); rintro e w1 ⟨g, m, c, xs, h, rfl, hx, hm, hcp, hh, hr1, hb1⟩)
  have HX := Lib.hid hx; clear hx
  have HCP := Lib.hid hcp; clear hcp
  have hmx : m ≤ maxLen := by unfold maxLen; omega
  have hB1 := hb1
  have hz1 := hb1.size
  obtain ⟨⟨ys, v, ok⟩, hb⟩ : ∃ r, bestV xs h = r := ⟨_, rfl⟩
  obtain ⟨q, hq⟩ : ∃ q, ys.length = q := ⟨_, rfl⟩
  have hq40 := bestV_len xs h
  rw [hb] at hq40
  simp only [hq] at hq40
  have HB := Lib.hid hb
  have HQ := Lib.hid hq
  have hqx : q ≤ maxLen := by unfold maxLen; omega
  clear hb hq
  go_wp2_with fail
  ((with_reducible refine (best_iw HX.out hmx HCP.out HB.out HQ.out ?_).mono ?_); (exact hr1); rintro e w2 ⟨A2, d2, rfl, o2, hb2⟩)
  have hr2 := hr1.then_ hb2
  have hB2 := below_then (Nat.le_refl _) hB1 hb2
  clear hr1
  go_wp2_with fail
  ((with_reducible refine (best_sw HX.out hmx HB.out HQ.out ?_).mono ?_); (exact hr2); rintro e w3 ⟨A3, d3, rfl, o3, hb3⟩)
  have hr3 := hr2.then_ hb3
  have hB3 := below_then (Nat.le_refl _) hB2 hb3
  have o2' := o2.then_ hb3
  clear hr2 o2
  go_wp2_with fail
  ((with_reducible refine (equalInts_same _ _ _ _ _ ys _ hqx ?_ ?_).mono ?_); (exact o2'.row); (exact o3.row); rintro e w4 ⟨rfl, hb4⟩)
  have hr4 := hr3.then_ hb4
  have hB4 := below_then (Nat.le_refl _) hB3 hb4
  have o4 := o2'.then_ hb4
  have o5 := o3.then_ hb4
  clear hr3 o2' o3
  rcases ok with _ | _
  · go_wp2_with fail
    ((with_reducible refine (equalInts_same _ _ _ _ _ ys _ hqx ?_ ?_).mono ?_); (exact o4.row); (exact o5.row); rintro e w5 ⟨rfl, hb5⟩)
    have hB5 := below_then (Nat.le_refl _) hB4 hb5
    go_wp2_with fail
    go_returns
    exact ⟨rfl, hB5⟩
  · obtain ⟨hv, hck, hcf⟩ := best_check HX.out HB.out
    have hl := linesOk_len (paging_iff hv).1
    have hlast : lastOf ys = (m : Int) := best_last HX.out HB.out
    have HCK := Lib.hid hck
    have HLAST := Lib.hid hlast
    clear hck hcf hlast hv o5
    go_wp2_with fail
    ((with_reducible refine (check_iw HX.out hmx HCP.out HQ.out hqx HCK.out ?_ ?_).mono ?_); (exact hr4); (exact o4.row); rintro e w5 ⟨rfl, hb5⟩)
    have hB5 := below_then (Nat.le_refl _) hB4 hb5
    have o6 := o4.then_ hb5
    clear hr4 o4
    go_wp2_with fail
    ((with_reducible refine (last_any _ _ _ ys _ HQ.out hqx ?_).mono ?_); (exact o6.row); rintro e w6 ⟨rfl, hb6⟩)
    rw [HLAST.out]
    have hB6 := below_then (Nat.le_refl _) hB5 hb6
    go_wp2_with fail
    go_returns
    exact ⟨rfl, hB6⟩
end Go.Proofs.Yticdgpgbpgjnbaa
