/- ShapeBreaks of the program returns the cheapest breaks for a shape. Conditions: the slices read as lists. -/
import Derived.Test.YtkmipgekmbngcaaShapePathI
namespace Go.Proofs.Ytkmipgekmbngcaa
open Go.RowKit

set_option maxRecDepth 100000 in
set_option maxHeartbeats 4000000 in
theorem shapeBreaks_i (A S : Option Addr) (n cap ns capn : Nat) (tol : Int) (xs : List It) (sh : List Int) (w : World) (hn : xs.length = n) (hm : n ≤ maxLen) (hcap : n ≤ cap ∧ cap ≤ maxLen) (hr : Row w w.heap.size 6 A n (itc xs)) (hns : sh.length = ns) (hms : ns ≤ maxLen) (hrs : Row w w.heap.size 1 S ns (inc sh)) :
    Calls Try.prog 11 #[.slice A n cap, .slice S ns capn, .int .i64 tol] w (PathOut w (shV xs sh tol)) := by
  have HR := Lib.hid hr
  have HRS := Lib.hid hrs
  have HN := Lib.hid hn
  have HNS := Lib.hid hns
  rcases hok : itemsOk xs with _ | _
  · have E := Lib.hid (show shV xs sh tol = ([], 0, false) from shV_no (by rw [hok]; rfl))
    have HV := Lib.hid hok
    clear hr hok hn hns hrs
    go_enter Try.func11, Try.ntmps11
    go_wp2_with fail
    ((with_reducible refine (validItems_i _ _ _ xs _ HN.out hm ?_).mono ?_); (exact HR.out); rintro e w1 ⟨rfl, hb⟩)
    rw [HV.out]
    go_wp2_with fail
    (first | go_returns | (refine bodyPost_ret (by simp [results, Try.results11, go_sem, *]; try rfl) rfl ?_))
    rw [E.out]
    exact ⟨none, 0, rfl, ownI_none _ _, hb⟩
  rcases hwo : shapeOk sh with _ | _
  · have E := Lib.hid (show shV xs sh tol = ([], 0, false) from shV_no (by rw [hok, hwo]; rfl))
    have HV := Lib.hid hok
    have HW := Lib.hid hwo
    clear hr hok hn hwo hns hrs
    go_enter Try.func11, Try.ntmps11
    go_wp2_with fail
    ((with_reducible refine (validItems_i _ _ _ xs _ HN.out hm ?_).mono ?_); (exact HR.out); rintro e w1 ⟨rfl, hb⟩)
    rw [HV.out]
    go_wp2_with fail
    ((with_reducible refine (validShape_i _ _ _ sh _ HNS.out hms ?_).mono ?_); (exact HRS.out.then_ hb); rintro e w2 ⟨rfl, hb2⟩)
    rw [HW.out]
    go_wp2_with fail
    (first | go_returns | (refine bodyPost_ret (by simp [results, Try.results11, go_sem, *]; try rfl) rfl ?_))
    rw [E.out]
    exact ⟨none, 0, rfl, ownI_none _ _, below_then (Nat.le_refl _) hb hb2⟩
  rcases hto : inR tol 0 10000 with _ | _
  · have E := Lib.hid (show shV xs sh tol = ([], 0, false) from shV_no (by rw [hok, hwo, hto]; rfl))
    have HV := Lib.hid hok
    have HW := Lib.hid hwo
    have HT := Lib.hid hto
    clear hr hok hn hwo hto hns hrs
    go_enter Try.func11, Try.ntmps11
    go_wp2_with fail
    ((with_reducible refine (validItems_i _ _ _ xs _ HN.out hm ?_).mono ?_); (exact HR.out); rintro e w1 ⟨rfl, hb⟩)
    rw [HV.out]
    go_wp2_with fail
    ((with_reducible refine (validShape_i _ _ _ sh _ HNS.out hms ?_).mono ?_); (exact HRS.out.then_ hb); rintro e w2 ⟨rfl, hb2⟩)
    rw [HW.out]
    go_wp2_with fail
    ((with_reducible refine (within_any _ _ _ _).mono ?_); rintro e w' ⟨rfl, rfl⟩)
    rw [HT.out]
    go_wp2_with fail
    (first | go_returns | (refine bodyPost_ret (by simp [results, Try.results11, go_sem, *]; try rfl) rfl ?_))
    rw [E.out]
    exact ⟨none, 0, rfl, ownI_none _ _, below_then (Nat.le_refl _) hb hb2⟩
  have E := Lib.hid ((shV_yes hn (by rw [hok, hwo, hto]; rfl) : shV xs sh tol = _).trans (sh_stops (sh := sh) (tol := tol) hok hn).symm)
  have HV := Lib.hid hok
  have HW := Lib.hid hwo
  have HT := Lib.hid hto
  clear hr hok hn hwo hto hns hrs
  go_enter Try.func11, Try.ntmps11
  go_wp2_with fail
  ((with_reducible refine (validItems_i _ _ _ xs _ HN.out hm ?_).mono ?_); (exact HR.out); rintro e w1 ⟨rfl, hb⟩)
  rw [HV.out]
  go_wp2_with fail
  ((with_reducible refine (validShape_i _ _ _ sh _ HNS.out hms ?_).mono ?_); (exact HRS.out.then_ hb); rintro e w2 ⟨rfl, hb2⟩)
  rw [HW.out]
  have hB2 := below_then (Nat.le_refl _) hb hb2
  go_wp2_with fail
  ((with_reducible refine (within_any _ _ _ _).mono ?_); rintro e w' ⟨rfl, rfl⟩)
  rw [HT.out]
  go_wp2_with fail
  ((with_reducible refine (shapePath_i _ _ _ _ _ _ tol xs sh _ HV.out HW.out HN.out hcap ?_ HNS.out ?_).mono ?_); (exact (HR.out.then_ hb).then_ hb2); (exact (HRS.out.then_ hb).then_ hb2); rintro e w3 ⟨A3, d3, rfl, hown3, hb3⟩)
  go_wp2_with fail
  (first | go_returns | (refine bodyPost_ret (by simp [results, Try.results11, go_sem, *]; try rfl) rfl ?_))
  rw [E.out]
  exact ⟨A3, d3, rfl, hown3.mono hB2.size, below_then (Nat.le_refl _) hB2 hb3⟩
end Go.Proofs.Ytkmipgekmbngcaa
