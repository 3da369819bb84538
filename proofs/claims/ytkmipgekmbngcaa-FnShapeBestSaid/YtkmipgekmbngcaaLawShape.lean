/- The laws on the breaks for a shape: FnShapeBreaks and FnShapeBest answer true. Conditions: the code is a slice of bytes. -/
import Derived.Test.YtkmipgekmbngcaaShapeDrawG
import Derived.Test.YtkmipgekmbngcaaShapeBreaksI
import Derived.Test.YtkmipgekmbngcaaLawCheckShape
import Derived.Test.YtkmipgekmbngcaaLawExShape
import Derived.Test.YtkmipgekmbngcaaMSb8
import Derived.Test.YtkmipgekmbngcaaMSb5
namespace Go.Proofs.Ytkmipgekmbngcaa
open Go.RowKit

set_option maxRecDepth 100000 in
set_option maxHeartbeats 4000000 in
theorem law_ShapeBreaks (A : Option Addr) (n cap : Nat) (cs : List Int) (w : World) (hc : Code w A n cap cs) :
    Calls Try.prog 3 #[.slice A n cap] w fun e w' => e = .returned (.bool true) ∧ Below w.heap.size w w' := by
  have hn := hc.1
  unfold maxLen at hn
  by_cases hbig : 1048576 < n
  · go_enter Try.func3, Try.ntmps3
    go_wp2
    go_returns
    exact ⟨rfl, Below.refl _ _⟩
  go_enter Try.func3, Try.ntmps3
  go_wp2_with fail
  ((with_reducible refine (DrawShapeBreaks_any _ _ _ cs _ hc).mono ?_); rintro e w1 ⟨g, m, c, xs, S, ns, cS, sh, tol, rfl, hx, hm, hcp, hr1, hns, hn4, hs1, hb1⟩)
  have HX := Lib.hid hx; clear hx
  have HNS := Lib.hid hns; clear hns
  have HCP := Lib.hid hcp; clear hcp
  have hmx : m ≤ maxLen := by unfold maxLen; omega
  have hsx : ns ≤ maxLen := by unfold maxLen; omega
  obtain ⟨⟨ys, v, ok⟩, hy⟩ : ∃ r, shV xs sh tol = r := ⟨_, rfl⟩
  obtain ⟨q, hq⟩ : ∃ q, ys.length = q := ⟨_, rfl⟩
  have hq60 : q ≤ 60 := by have h2 := shV_len60 xs sh tol; rw [hy] at h2; simp only at h2; omega
  have hqx : q ≤ maxLen := by unfold maxLen; omega
  have HCHK : Hid (ok = true → chkV xs sh tol ys = some v ∧ vbV xs ys = true) := fun h => by subst h; exact sh_chk hy
  have HY := Lib.hid hy
  have HQ := Lib.hid hq
  clear hy hq
  go_wp2_with fail
  ((with_reducible refine ((shapeBreaks_i _ _ _ _ _ _ tol xs sh _ HX.out hmx HCP.out ?_ HNS.out hsx ?_).mono fun _ _ h => sh_form HY.out HQ.out h).mono ?_); (exact hr1); (exact hs1); rintro e w2 ⟨B, d, rfl, ho2, hb2⟩)
  have hr2 := hr1.then_ hb2
  have hs2 := hs1.then_ hb2
  have hB2 := below_then (Nat.le_refl _) hb1 hb2
  go_wp2_with fail
  ((with_reducible refine ((shapeBreaks_S _ _ _ _ _ _ tol xs sh _ HX.out hmx ?_ HNS.out hsx ?_).mono fun _ _ h => sh_form HY.out HQ.out h).mono ?_); (exact hr2); (exact hs2); rintro e w3 ⟨D, d3, rfl, ho3, hb3⟩)
  have hr3 := hr2.then_ hb3
  have hs3 := hs2.then_ hb3
  have hB3 := below_then (Nat.le_refl _) hB2 hb3
  have hoI3 : OwnI w3 w1.heap.size B q d ys := OwnI.then_ ho2 hb3
  have hvv : (v != v) = false := by simp
  have hvv' : (v == v) = true := by simp
  have hoo : (ok != ok) = false := by simp
  have hoo' : (ok == ok) = true := by simp
  clear hr1 hr2 hs1 hs2 ho2
  go_wp2_with fail
  ((with_reducible refine (equalInts_same _ _ _ _ _ ys _ hqx ?_ ?_).mono ?_); (exact hoI3.row); (exact ho3.row); rintro e w4 ⟨rfl, hb4⟩)
  have hB4 := below_then (Nat.le_refl _) hB3 hb4
  have hr4 := hr3.then_ hb4
  have hs4 := hs3.then_ hb4
  have hoI4 : OwnI w4 w1.heap.size B q d ys := OwnI.then_ hoI3 hb4
  have hoD4 : OwnI w4 w2.heap.size D q d3 ys := OwnI.then_ ho3 hb4
  clear hr3 hs3 hoI3 ho3
  rcases ok with _ | _
  · go_wp2_with fail
    ((with_reducible refine (equalInts_same _ _ _ _ _ ys _ hqx ?_ ?_).mono ?_); (exact hoI4.row); (exact hoD4.row); rintro e w5 ⟨rfl, hb5⟩)
    go_wp2_with fail
    go_returns
    exact ⟨by first | rfl | simp, below_then (Nat.le_refl _) hB4 hb5⟩
  · obtain ⟨hchk, hvb⟩ := HCHK.out rfl
    have H1 := Lib.hid hchk
    have H2 := Lib.hid (show (some v).getD 0 = v from rfl)
    have H3 := Lib.hid (show (some v).isSome = true from rfl)
    have HVB := Lib.hid hvb
    clear hchk hvb hoD4
    go_wp2_with fail
    ((with_reducible refine ((checkShape_i _ _ _ _ _ _ _ _ _ tol xs sh ys _ HX.out hmx HCP.out ?_ HNS.out hsx ?_ HQ.out hqx ?_).mono fun _ _ h => opt_form H1.out H2.out H3.out h).mono ?_); (exact hr4); (exact hs4); (exact hoI4.row); rintro e w5 ⟨rfl, hb5⟩)
    have hB5 := below_then (Nat.le_refl _) hB4 hb5
    have hr5 := hr4.then_ hb5
    have hoI5 := OwnI.then_ hoI4 hb5
    go_wp2_with fail
    ((with_reducible refine (validBreaks_i _ _ _ _ _ _ xs ys _ HX.out hmx HCP.out ?_ HQ.out hqx ?_).mono ?_); (exact hr5); (exact hoI5.row); rintro e w6 ⟨rfl, hb6⟩)
    rw [HVB.out]
    go_wp2_with fail
    go_returns
    exact ⟨by first | rfl | simp, below_then (Nat.le_refl _) hB5 hb6⟩

set_option maxRecDepth 100000 in
set_option maxHeartbeats 4000000 in
theorem law_ShapeBest (A : Option Addr) (n cap : Nat) (cs : List Int) (w : World) (hc : Code w A n cap cs) :
    Calls Try.prog 5 #[.slice A n cap] w fun e w' => e = .returned (.bool true) ∧ Below w.heap.size w w' := by
  have hn := hc.1
  unfold maxLen at hn
  by_cases hbig : 1048576 < n
  · go_enter Try.func5, Try.ntmps5
    go_wp2
    go_returns
    exact ⟨rfl, Below.refl _ _⟩
  go_enter Try.func5, Try.ntmps5
  go_wp2_with fail
  ((with_reducible refine (DrawCheckShape_any _ _ _ cs _ hc).mono ?_); rintro e w1 ⟨g, m, c, xs, S, ns, cS, sh, tol, B, q, cb, bs, rfl, hx, hm, hcp, hr1, hns, hn4, hs1, hq, hqm, ho1, hb1⟩)
  have HX := Lib.hid hx; clear hx
  have HNS := Lib.hid hns; clear hns
  have HQ := Lib.hid hq; clear hq
  have HCP := Lib.hid hcp; clear hcp
  have hmx : m ≤ maxLen := by unfold maxLen; omega
  have hsx : ns ≤ maxLen := by unfold maxLen; omega
  have hqx : q ≤ maxLen := by unfold maxLen; omega
  obtain ⟨V, hV⟩ : ∃ V, chkV xs sh tol bs = V := ⟨_, rfl⟩
  obtain ⟨v, hv⟩ : ∃ v, V.getD 0 = v := ⟨_, rfl⟩
  obtain ⟨o, ho⟩ : ∃ o, V.isSome = o := ⟨_, rfl⟩
  obtain ⟨⟨ys, b, ok⟩, hy⟩ : ∃ r, shV xs sh tol = r := ⟨_, rfl⟩
  have HBEST : Hid (o = true → ok = true ∧ b ≤ v) := fun h => by
    rcases V with _ | V
    · rw [← ho] at h; cases h
    · have h1 := sh_best hV
      rw [hy] at h1
      have hv' : V = v := hv
      rw [← hv']
      exact h1
  have HV := Lib.hid hV
  have HC := Lib.hid hv
  have HO := Lib.hid ho
  have HY := Lib.hid hy
  clear hV hv ho hy
  go_wp2_with fail
  ((with_reducible refine ((checkShape_i _ _ _ _ _ _ _ _ _ tol xs sh bs _ HX.out hmx HCP.out ?_ HNS.out hsx ?_ HQ.out hqx ?_).mono fun _ _ h => opt_form HV.out HC.out HO.out h).mono ?_); (exact hr1); (exact hs1); (exact ho1); rintro e w2 ⟨rfl, hb2⟩)
  have hr2 := hr1.then_ hb2
  have hs2 := hs1.then_ hb2
  have ho2 := ho1.then_ hb2
  have hB2 := below_then (Nat.le_refl _) hb1 hb2
  go_wp2_with fail
  ((with_reducible refine ((checkShape_s _ _ _ _ _ _ _ _ _ tol xs sh bs _ HX.out hmx ?_ HNS.out hsx ?_ HQ.out hqx ?_).mono fun _ _ h => opt_form HV.out HC.out HO.out h).mono ?_); (exact hr2); (exact hs2); (exact ho2); rintro e w3 ⟨rfl, hb3⟩)
  have hr3 := hr2.then_ hb3
  have hs3 := hs2.then_ hb3
  have hB3 := below_then (Nat.le_refl _) hB2 hb3
  have hvv : (v != v) = false := by simp
  have hvv' : (v == v) = true := by simp
  clear hr1 hr2 hs1 hs2 ho1 ho2
  rcases o with _ | _
  · go_wp2_with fail
    go_returns
    exact ⟨by first | rfl | simp, hB3⟩
  · obtain ⟨rfl, hle⟩ := HBEST.out rfl
    have HLE := Lib.hid hle
    have hd : decide (b ≤ v) = true := decide_eq_true hle
    obtain ⟨q2, hq2⟩ : ∃ q, ys.length = q := ⟨_, rfl⟩
    have HQ2 := Lib.hid hq2
    clear hle hq2
    go_wp2_with fail
    ((with_reducible refine ((shapeBreaks_i _ _ _ _ _ _ tol xs sh _ HX.out hmx HCP.out ?_ HNS.out hsx ?_).mono fun _ _ h => sh_form HY.out HQ2.out h).mono ?_); (exact hr3); (exact hs3); rintro e w4 ⟨D, d3, rfl, ho4, hb4⟩)
    clear ho4
    go_wp2_with fail
    go_returns
    exact ⟨by first | rfl | simp, below_then (Nat.le_refl _) hB3 hb4⟩
end Go.Proofs.Ytkmipgekmbngcaa
