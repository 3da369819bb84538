/- The law on pages that can be filled answers true: FnFillPossible. Conditions: the code is a slice of bytes. -/
import Derived.Test.YticdgpgbpgjnbaaPagesWrap
namespace Go.Proofs.Yticdgpgbpgjnbaa
open Go.RowKit

set_option maxHeartbeats 4000000 in
theorem law_FillPossible (A : Option Addr) (n cap : Nat) (cs : List Int) (w : World) (hc : Code w A n cap cs) :
    Calls Try.prog 8 #[.slice A n cap] w fun e w' => e = .returned (.bool true) ∧ Below w.heap.size w w' := by
  have hn := hc.1
  unfold maxLen at hn
  by_cases hbig : 1048576 < n
  · go_enter Try.func8, Try.ntmps8
    go_wp2
    go_returns
    exact ⟨rfl, Below.refl _ _⟩
  go_enter Try.func8, Try.ntmps8
  go_wp2_with fail
  ((with_reducible refine (DrawFillPages_any _ _ _ cs _ hc).mono ?_); rintro e w1 ⟨g, m, c, xs, h, rfl, hx, hm, hcp, hh, hr1, hb1⟩)
  have HX := Lib.hid hx; clear hx
  have HCP := Lib.hid hcp; clear hcp
  have hmx : m ≤ maxLen := by unfold maxLen; omega
  have hB1 := hb1
  have hz1 := hb1.size
  have hfp := fill_possible xs h
  obtain ⟨⟨ys, ok⟩, hf⟩ : ∃ r, fillV xs h = r := ⟨_, rfl⟩
  obtain ⟨⟨zs, v, fine⟩, hb⟩ : ∃ r, bestV xs h = r := ⟨_, rfl⟩
  rw [hf, hb] at hfp
  simp only at hfp
  subst hfp
  obtain ⟨q, hq⟩ : ∃ q, ys.length = q := ⟨_, rfl⟩
  obtain ⟨r, hr⟩ : ∃ r, zs.length = r := ⟨_, rfl⟩
  have HF := Lib.hid hf
  have HB := Lib.hid hb
  have HQ := Lib.hid hq
  have HR := Lib.hid hr
  clear hf hb hq hr
  go_wp2_with fail
  ((with_reducible refine (fill_iw HX.out hmx HCP.out HF.out HQ.out ?_).mono ?_); (exact hr1); rintro e w2 ⟨A2, d2, rfl, _, hb2⟩)
  have hr2 := hr1.then_ hb2
  have hB2 := below_then (Nat.le_refl _) hB1 hb2
  clear hr1
  go_wp2_with fail
  ((with_reducible refine (fill_sw HX.out hmx HF.out HQ.out ?_).mono ?_); (exact hr2); rintro e w3 ⟨A3, d3, rfl, _, hb3⟩)
  have hr3 := hr2.then_ hb3
  have hB3 := below_then (Nat.le_refl _) hB2 hb3
  clear hr2
  go_wp2_with fail
  ((with_reducible refine (best_iw HX.out hmx HCP.out HB.out HR.out ?_).mono ?_); (exact hr3); rintro e w4 ⟨A4, d4, rfl, _, hb4⟩)
  have hB4 := below_then (Nat.le_refl _) hB3 hb4
  clear hr3
  go_wp2_with fail
  go_returns
  exact ⟨by simp, hB4⟩
end Go.Proofs.Yticdgpgbpgjnbaa
