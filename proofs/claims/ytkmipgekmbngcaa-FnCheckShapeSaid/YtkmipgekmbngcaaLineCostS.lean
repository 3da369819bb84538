/- LineCost of the reference returns what the plain function says. Conditions: the slice reads as the list. -/
import Derived.Test.YtkmipgekmbngcaaSumPlain
import Derived.Test.YtkmipgekmbngcaaLineCost
import Derived.Test.YtkmipgekmbngcaaShapeG
namespace Go.Proofs.Ytkmipgekmbngcaa
open Go.RowKit

def lcV (xs : List It) (d tol f t : Int) : Option Int := if itemsOk xs && widthOk d && inR tol 0 10000 then lc xs d tol f t else none
section
variable {xs : List It} {d tol f t : Int}
theorem lcV_no1 (h : lineV xs f t = false) : lcV xs d tol f t = none := by
  rw [lcV]
  rw [lineV] at h
  rcases hk : itemsOk xs with _ | _
  · rfl
  · rw [hk, Bool.true_and] at h
    rw [lc_line h]
    split <;> rfl
theorem lcV_no2 (h : widthOk d = false) : lcV xs d tol f t = none := by rw [lcV, h, Bool.and_false]; rfl
theorem lcV_no3 (h : inR tol 0 10000 = false) : lcV xs d tol f t = none := by rw [lcV, h, Bool.and_false]; rfl
theorem lcV_yes (h0 : itemsOk xs = true) (h1 : widthOk d = true) (h2 : inR tol 0 10000 = true) : lcV xs d tol f t = lc xs d tol f t := by rw [lcV, h0, h1, h2]; rfl
end
/-- An optional number as it is returned. -/
def optV (r : Option Int) : Value := .tuple #[.int .i64 (r.getD 0), .bool r.isSome]

set_option maxRecDepth 100000 in
set_option maxHeartbeats 2000000 in
theorem lineCost_S (A : Option Addr) (n cap : Nat) (f t d tol : Int) (xs : List It) (w : World) (hn : xs.length = n) (hm : n ≤ maxLen) (hr : Row w w.heap.size 6 A n (itc xs)) :
    Calls Try.prog 54 #[.slice A n cap, .int .i64 f, .int .i64 t, .int .i64 d, .int .i64 tol] w fun e w' => e = .returned (optV (lcV xs d tol f t)) ∧ Below w.heap.size w w' := by
  have HR := Lib.hid hr
  rcases hv : lineV xs f t with _ | _
  · have HE := Lib.hid (lcV_no1 (d := d) (tol := tol) hv)
    have HV := Lib.hid hv
    clear hv
    go_enter Try.func54, Try.ntmps54
    go_wp2_with fail
    ((with_reducible refine (validLine_s _ _ _ _ _ xs _ hn hm ?_).mono ?_); (exact HR.out); rintro e w1 ⟨rfl, hb1⟩)
    rw [HV.out]
    go_wp2_with fail
    (first | go_returns | (refine bodyPost_ret (by simp [results, Try.results54, go_sem, *]; try rfl) rfl ?_))
    exact ⟨by rw [HE.out]; rfl, hb1⟩
  rcases hw : widthOk d with _ | _
  · have HE := Lib.hid (lcV_no2 (xs := xs) (f := f) (t := t) (tol := tol) hw)
    have HV := Lib.hid hv
    have HW := Lib.hid hw
    clear hv hw
    go_enter Try.func54, Try.ntmps54
    go_wp2_with fail
    ((with_reducible refine (validLine_s _ _ _ _ _ xs _ hn hm ?_).mono ?_); (exact HR.out); rintro e w1 ⟨rfl, hb1⟩)
    rw [HV.out]
    go_wp2_with fail
    ((with_reducible refine (validWidth_any _ _).mono ?_); rintro e w' ⟨rfl, rfl⟩)
    rw [HW.out]
    go_wp2_with fail
    (first | go_returns | (refine bodyPost_ret (by simp [results, Try.results54, go_sem, *]; try rfl) rfl ?_))
    exact ⟨by rw [HE.out]; rfl, hb1⟩
  rcases ht : inR tol 0 10000 with _ | _
  · have HE := Lib.hid (lcV_no3 (xs := xs) (f := f) (t := t) (d := d) ht)
    have HV := Lib.hid hv
    have HW := Lib.hid hw
    have HT := Lib.hid ht
    clear hv hw ht
    go_enter Try.func54, Try.ntmps54
    go_wp2_with fail
    ((with_reducible refine (validLine_s _ _ _ _ _ xs _ hn hm ?_).mono ?_); (exact HR.out); rintro e w1 ⟨rfl, hb1⟩)
    rw [HV.out]
    go_wp2_with fail
    ((with_reducible refine (validWidth_any _ _).mono ?_); rintro e w' ⟨rfl, rfl⟩)
    rw [HW.out]
    go_wp2_with fail
    ((with_reducible refine (inRange_any _ _ _ _).mono ?_); rintro e w' ⟨rfl, rfl⟩)
    rw [HT.out]
    go_wp2_with fail
    (first | go_returns | (refine bodyPost_ret (by simp [results, Try.results54, go_sem, *]; try rfl) rfl ?_))
    exact ⟨by rw [HE.out]; rfl, hb1⟩
  have hv' := hv
  rw [lineV, Bool.and_eq_true] at hv'
  obtain ⟨hok, hl⟩ := hv'
  obtain ⟨a, u, ef, et, hau, hun, _, hF, _⟩ := ln_iff hn hl
  subst ef et
  obtain ⟨d0, d1⟩ := inR_iff.1 hw
  have he : lcV xs d tol ((a : Int) - 1) (u : Int) = if costOk xs a u d tol then some (costV xs a u d tol) else none := by rw [lcV_yes hok hw ht]; exact lc_at rfl rfl hl
  have hfin : optV (lcV xs d tol ((a : Int) - 1) (u : Int)) = .tuple #[.int .i64 (costV xs a u d tol), .bool (costOk xs a u d tol)] := by
    rw [he, optV]
    rcases hq : costOk xs a u d tol with _ | _
    · rw [show costV xs a u d tol = 0 by rw [costV, hq]; rfl]; rfl
    · rfl
  have HE := Lib.hid hfin
  have HV := Lib.hid hv
  have HW := Lib.hid hw
  have HT := Lib.hid ht
  have HOK := Lib.hid hok
  have HF := Lib.hid hF
  have HFA := Lib.hid (show (a : Int) - 1 + 1 = (a : Int) by omega)
  clear hv hw ht hok hF hl he hfin
  go_enter Try.func54, Try.ntmps54
  go_wp2_with fail
  ((with_reducible refine (validLine_s _ _ _ _ _ xs _ hn hm ?_).mono ?_); (exact HR.out); rintro e w1 ⟨rfl, hb1⟩)
  rw [HV.out]
  have hr1 := HR.out.then_ hb1
  go_wp2_with fail
  ((with_reducible refine (validWidth_any _ _).mono ?_); rintro e w' ⟨rfl, rfl⟩)
  rw [HW.out]
  go_wp2_with fail
  ((with_reducible refine (inRange_any _ _ _ _).mono ?_); rintro e w' ⟨rfl, rfl⟩)
  rw [HT.out]
  go_wp2_with fail
  ((with_reducible refine (lineCost_s _ _ _ a u _ _ _ xs _ HOK.out hn HF.out HFA.out hau hun ?_ d0 d1).mono ?_); (exact hr1); rintro e w3 ⟨rfl, hb3⟩)
  go_wp2_with fail
  (first | go_returns | (refine bodyPost_ret (by simp [results, Try.results54, go_sem, *]; try rfl) rfl ?_))
  exact ⟨by rw [HE.out]; rfl, below_then (Nat.le_refl _) hb1 hb3⟩
end Go.Proofs.Ytkmipgekmbngcaa
