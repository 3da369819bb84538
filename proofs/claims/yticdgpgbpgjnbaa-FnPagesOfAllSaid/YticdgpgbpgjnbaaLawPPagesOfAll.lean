/- The law that no pages are better answers true: FnPagesOfAll. Conditions: the code is a slice of bytes. -/
import Derived.Test.YticdgpgbpgjnbaaPagesWrap
namespace Go.Proofs.Yticdgpgbpgjnbaa
open Go.RowKit

set_option maxHeartbeats 4000000 in
theorem law_PagesOfAll (A : Option Addr) (n cap : Nat) (cs : List Int) (w : World) (hc : Code w A n cap cs) :
    Calls Try.prog 14 #[.slice A n cap] w fun e w' => e = .returned (.bool true) ∧ Below w.heap.size w w' := by
  have hn := hc.1
  unfold maxLen at hn
  by_cases hbig : 1048576 < n
  · go_enter Try.func14, Try.ntmps14
    go_wp2
    go_returns
    exact ⟨rfl, Below.refl _ _⟩
  go_enter Try.func14, Try.ntmps14
  go_wp2_with fail
  ((with_reducible refine (DrawCheckPages_any _ _ _ cs _ hc).mono ?_); rintro e w1 ⟨g, m, c, xs, h, B, q, d, ys, rfl, hx, hm, hcp, hh, hr1, hy, hq, hs1, hb1⟩)
  have HX := Lib.hid hx; clear hx
  have HY := Lib.hid hy; clear hy
  have HCP := Lib.hid hcp; clear hcp
  have hmx : m ≤ maxLen := by unfold maxLen; omega
  have hqx : q ≤ maxLen := by unfold maxLen; omega
  have hB1 := hb1
  obtain ⟨⟨v, ok⟩, hv⟩ : ∃ r, checkV xs h ys = r := ⟨_, rfl⟩
  have HV := Lib.hid hv; clear hv
  go_wp2_with fail
  ((with_reducible refine (check_iw HX.out hmx HCP.out HY.out hqx HV.out ?_ ?_).mono ?_); (exact hr1); (exact hs1); rintro e w2 ⟨rfl, hb2⟩)
  have hr2 := hr1.then_ hb2
  have hs2 := hs1.then_ hb2
  have hB2 := below_then (Nat.le_refl _) hB1 hb2
  clear hr1 hs1
  go_wp2_with fail
  ((with_reducible refine (check_sw HX.out hmx HY.out hqx HV.out ?_ ?_).mono ?_); (exact hr2); (exact hs2); rintro e w3 ⟨rfl, hb3⟩)
  have hr3 := hr2.then_ hb3
  have hs3 := hs2.then_ hb3
  have hB3 := below_then (Nat.le_refl _) hB2 hb3
  have HR3 := Lib.hid hr3
  have HS3 := Lib.hid hs3
  clear hr2 hs2 hr3 hs3
  rcases ok with _ | _
  · go_wp2_with fail
    go_returns
    exact ⟨rfl, hB3⟩
  obtain ⟨zs, b, hb, hle⟩ := best_least HX.out HV.out
  obtain ⟨r, hr⟩ : ∃ r, zs.length = r := ⟨_, rfl⟩
  have HB := Lib.hid hb
  have HR := Lib.hid hr
  clear hb hr
  go_wp2_with fail
  ((with_reducible refine (best_iw HX.out hmx HCP.out HB.out HR.out ?_).mono ?_); (exact HR3.out); rintro e w4 ⟨A4, d4, rfl, o4, hb4⟩)
  go_wp2_with fail
  go_returns
  exact ⟨rfl, below_then (Nat.le_refl _) hB3 hb4⟩
end Go.Proofs.Yticdgpgbpgjnbaa
