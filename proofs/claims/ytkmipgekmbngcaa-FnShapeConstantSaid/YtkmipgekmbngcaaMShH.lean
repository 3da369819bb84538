/- Shapes, of the program and of the reference: validShape and WidthOfLine return what the plain functions say. Conditions: the slice reads as the list. -/
import Derived.Test.YtkmipgekmbngcaaMShG
namespace Go.Proofs.Ytkmipgekmbngcaa
open Go.RowKit

def shapeOk (l : List Int) : Bool := l.all widthOk && inR l.length 1 12
/-- The width of line n of a valid shape. -/
def wof (l : List Int) (n : Nat) : Int := l.getD (min n (l.length - 1)) default
def wol (l : List Int) (n : Int) : Int := if shapeOk l && decide (0 ≤ n) then wof l n.toNat else 0
theorem shapeOk_len {l : List Int} (h : shapeOk l = true) : 1 ≤ l.length ∧ l.length ≤ 12 := by
  simp only [shapeOk, Bool.and_eq_true, inR_iff] at h
  omega
theorem shapeOk_at {l : List Int} (h : shapeOk l = true) {k : Nat} (hk : k < l.length) {x : Int} (hx : l.getD k default = x) : 1 ≤ x ∧ x ≤ 10000 := by
  simp only [shapeOk, Bool.and_eq_true] at h
  exact inR_iff.1 (show inR x 1 10000 = true from all_at (p := widthOk) h.1 rfl hk hx)
theorem wof_bound {l : List Int} (h : shapeOk l = true) (k : Nat) : 1 ≤ wof l k ∧ wof l k ≤ 10000 := by
  have := shapeOk_len h
  exact shapeOk_at h (k := min k (l.length - 1)) (by omega) rfl
theorem shape_bad {xs : List Int} {n j : Nat} {x : Int} (hn : xs.length = n) (hj : j < n) (hx : xs.getD j default = x) (hv : widthOk x = false) : shapeOk xs = false := by
  simp [shapeOk, all_bad hn hj hx hv]
theorem shape_end {xs : List Int} {n j : Nat} (hn : xs.length = n) (hj : n ≤ j) (h : (xs.take j).all widthOk = true) : shapeOk xs = inR n 1 12 := by
  rw [shapeOk, all_end hn hj h, hn]; rfl

theorem validShape_i (A : Option Addr) (n cap : Nat) (xs : List Int) (w : World) (hn : xs.length = n) (hm : n ≤ maxLen) (hr : Row w w.heap.size 1 A n (inc xs)) :
    Calls Try.prog 39 #[.slice A n cap] w fun e w' => e = .returned (.bool (shapeOk xs)) ∧ Below w.heap.size w w' := by
  unfold maxLen at hm
  have HN := Lib.hid hn; clear hn
  go_enter Try.func39, Try.ntmps39
  go_wp2_with fail
  go_loopg [7] n (fun k i wr => ∃ j : Nat, j ≤ n ∧ k = n - j ∧ i = .int .i64 j ∧ Hid ((xs.take j).all widthOk = true) ∧ Below w.heap.size w wr)
  case atStart => exact ⟨0, Nat.zero_le _, rfl, rfl, by simp [Hid], Below.refl _ _⟩
  case round =>
    obtain ⟨j, hj, hk, rfl, hall, hbel⟩ := hrel
    have HK := Lib.hid hk; clear hk
    have hsz := hbel.size
    by_cases hlt : j < n
    · obtain ⟨b, off, rfl, hb, hc⟩ := hr.at1 (by omega)
      have c0 : wr.cell? ⟨b, off + j, none⟩ = _ := (hbel.cell (p := ⟨b, off + j, none⟩) hb).trans (hc j hlt)
      obtain ⟨x, hx⟩ : ∃ x, xs.getD j default = x := ⟨_, rfl⟩
      simp only [inc, hx] at c0
      have Hx := Lib.hid hx; clear hx hc
      rcases hv : widthOk x with _ | _
      · have HV := Lib.hid hv; clear hv
        go_wp2_with fail
        ((with_reducible refine (within_any _ _ _ _).mono ?_); rintro e w' ⟨rfl, rfl⟩)
        rw [show inR x 1 10000 = false from HV.out]
        go_wp2_with fail
        go_ret
        exact ⟨ret_bool (shape_bad HN.out hlt Hx.out HV.out).symm, by (repeat' (first | (with_reducible exact Below.refl _ _) | (with_reducible assumption) | (with_reducible refine Below.alloc ?_ ?_ _) | (with_reducible refine Below.drew ?_) | (with_reducible refine below_drewN ?_ _) | (with_reducible refine Below.setCell ?_ ?_ _) | (with_reducible refine below_then ?_ ?_ (by with_reducible assumption)) | (with_reducible exact Nat.le_refl _) | go_size | (simp only [*]; done)))⟩
      · have HV := Lib.hid hv; clear hv
        go_wp2_with fail
        ((with_reducible refine (within_any _ _ _ _).mono ?_); rintro e w' ⟨rfl, rfl⟩)
        rw [show inR x 1 10000 = true from HV.out]
        go_wp2_with fail
        go_roundg (n - (j + 1))
        case measure => have := HK.out; omega
        case rel => exact ⟨j + 1, by omega, rfl, by go_num, all_more HN.out hlt Hx.out hall.out HV.out, by (repeat' (first | (with_reducible exact Below.refl _ _) | (with_reducible assumption) | (with_reducible refine Below.alloc ?_ ?_ _) | (with_reducible refine Below.drew ?_) | (with_reducible refine below_drewN ?_ _) | (with_reducible refine Below.setCell ?_ ?_ _) | (with_reducible refine below_then ?_ ?_ (by with_reducible assumption)) | (with_reducible exact Nat.le_refl _) | go_size | (simp only [*]; done)))⟩
    · go_wp2_with fail
      ((with_reducible refine (within_any _ _ _ _).mono ?_); rintro e w' ⟨rfl, rfl⟩)
      go_wp2_with fail
      go_ret
      exact ⟨ret_bool (shape_end HN.out (by omega) hall.out).symm, hbel⟩

theorem validShape_s (A : Option Addr) (n cap : Nat) (xs : List Int) (w : World) (hn : xs.length = n) (hm : n ≤ maxLen) (hr : Row w w.heap.size 1 A n (inc xs)) :
    Calls Try.prog 43 #[.slice A n cap] w fun e w' => e = .returned (.bool (shapeOk xs)) ∧ Below w.heap.size w w' := by
  unfold maxLen at hm
  have HN := Lib.hid hn; clear hn
  go_enter Try.func43, Try.ntmps43
  go_wp2_with fail
  go_loopg [3] n (fun k i wr => ∃ j : Nat, j ≤ n ∧ k = n - j ∧ i = .int .i64 j ∧ Hid ((xs.take j).all widthOk = true) ∧ Below w.heap.size w wr)
  case atStart => exact ⟨0, Nat.zero_le _, rfl, rfl, by simp [Hid], Below.refl _ _⟩
  case round =>
    obtain ⟨j, hj, hk, rfl, hall, hbel⟩ := hrel
    have HK := Lib.hid hk; clear hk
    have hsz := hbel.size
    by_cases hlt : j < n
    · obtain ⟨b, off, rfl, hb, hc⟩ := hr.at1 (by omega)
      have c0 : wr.cell? ⟨b, off + j, none⟩ = _ := (hbel.cell (p := ⟨b, off + j, none⟩) hb).trans (hc j hlt)
      obtain ⟨x, hx⟩ : ∃ x, xs.getD j default = x := ⟨_, rfl⟩
      simp only [inc, hx] at c0
      have Hx := Lib.hid hx; clear hx hc
      rcases hv : widthOk x with _ | _
      · have HV := Lib.hid hv; clear hv
        go_wp2_with fail
        ((with_reducible refine (validWidth_any _ _).mono ?_); rintro e w' ⟨rfl, rfl⟩)
        rw [HV.out]
        go_wp2_with fail
        go_ret
        exact ⟨ret_bool (shape_bad HN.out hlt Hx.out HV.out).symm, by (repeat' (first | (with_reducible exact Below.refl _ _) | (with_reducible assumption) | (with_reducible refine Below.alloc ?_ ?_ _) | (with_reducible refine Below.drew ?_) | (with_reducible refine below_drewN ?_ _) | (with_reducible refine Below.setCell ?_ ?_ _) | (with_reducible refine below_then ?_ ?_ (by with_reducible assumption)) | (with_reducible exact Nat.le_refl _) | go_size | (simp only [*]; done)))⟩
      · have HV := Lib.hid hv; clear hv
        go_wp2_with fail
        ((with_reducible refine (validWidth_any _ _).mono ?_); rintro e w' ⟨rfl, rfl⟩)
        rw [HV.out]
        go_wp2_with fail
        go_roundg (n - (j + 1))
        case measure => have := HK.out; omega
        case rel => exact ⟨j + 1, by omega, rfl, by go_num, all_more HN.out hlt Hx.out hall.out HV.out, by (repeat' (first | (with_reducible exact Below.refl _ _) | (with_reducible assumption) | (with_reducible refine Below.alloc ?_ ?_ _) | (with_reducible refine Below.drew ?_) | (with_reducible refine below_drewN ?_ _) | (with_reducible refine Below.setCell ?_ ?_ _) | (with_reducible refine below_then ?_ ?_ (by with_reducible assumption)) | (with_reducible exact Nat.le_refl _) | go_size | (simp only [*]; done)))⟩
    · go_wp2_with fail
      ((with_reducible refine (inRange_any _ _ _ _).mono ?_); rintro e w' ⟨rfl, rfl⟩)
      go_wp2_with fail
      go_ret
      exact ⟨ret_bool (shape_end HN.out (by omega) hall.out).symm, hbel⟩

theorem wol_no {xs : List Int} {m : Int} (h : shapeOk xs = false) : wol xs m = 0 := by simp [wol, h]
theorem wol_neg {xs : List Int} {m : Int} (h : m < 0) : wol xs m = 0 := by
  have : decide (0 ≤ m) = false := by simp; omega
  simp [wol, this]
theorem wol_yes {xs : List Int} {k : Nat} (h : shapeOk xs = true) : wol xs (k : Int) = wof xs k := by simp [wol, h]
theorem wof_lt {xs : List Int} {n k : Nat} (hn : xs.length = n) (h : k < n) : wof xs k = xs.getD k default := by
  rw [wof, hn, Nat.min_eq_left (by omega)]
theorem wof_ge {xs : List Int} {n k : Nat} (hn : xs.length = n) (h : n ≤ k + 1) : wof xs k = xs.getD (n - 1) default := by
  rw [wof, hn, Nat.min_eq_right (by omega)]

theorem widthOf_s (A : Option Addr) (n cap k : Nat) (xs : List Int) (w : World) (hn : xs.length = n) (h1 : 1 ≤ n) (hm : n ≤ 12) (_hk : k ≤ 9223372036854775807) (hr : Row w w.heap.size 1 A n (inc xs)) :
    Calls Try.prog 65 #[.slice A n cap, .int .i64 (k : Int)] w fun e w' => e = .returned (.int .i64 (wof xs k)) ∧ Below w.heap.size w w' := by
  have HN := Lib.hid hn; clear hn
  obtain ⟨b, off, rfl, hb, hc⟩ := hr.at1 (by omega)
  by_cases hlt : k < n
  · have c0 := hc k hlt
    obtain ⟨x, hx⟩ : ∃ x, xs.getD k default = x := ⟨_, rfl⟩
    simp only [inc, hx] at c0
    have Hx := Lib.hid hx; clear hx hc
    go_enter Try.func65, Try.ntmps65
    go_wp2
    all_goals
      first
        | (exfalso; omega)
        | (go_ret; exact ⟨ret_int (by rw [wof_lt HN.out hlt, Hx.out]), by (repeat' (first | (with_reducible exact Below.refl _ _) | (with_reducible assumption) | (with_reducible refine Below.alloc ?_ ?_ _) | (with_reducible refine Below.drew ?_) | (with_reducible refine below_drewN ?_ _) | (with_reducible refine Below.setCell ?_ ?_ _) | (with_reducible refine below_then ?_ ?_ (by with_reducible assumption)) | (with_reducible exact Nat.le_refl _) | go_size | (simp only [*]; done)))⟩)
  · have c0 := hc (n - 1) (by omega)
    obtain ⟨x, hx⟩ : ∃ x, xs.getD (n - 1) default = x := ⟨_, rfl⟩
    simp only [inc, hx] at c0
    have Hx := Lib.hid hx; clear hx hc
    go_enter Try.func65, Try.ntmps65
    go_wp2
    all_goals
      first
        | (exfalso; omega)
        | (go_ret; exact ⟨ret_int (by rw [wof_ge HN.out (by omega), Hx.out]), by (repeat' (first | (with_reducible exact Below.refl _ _) | (with_reducible assumption) | (with_reducible refine Below.alloc ?_ ?_ _) | (with_reducible refine Below.drew ?_) | (with_reducible refine below_drewN ?_ _) | (with_reducible refine Below.setCell ?_ ?_ _) | (with_reducible refine below_then ?_ ?_ (by with_reducible assumption)) | (with_reducible exact Nat.le_refl _) | go_size | (simp only [*]; done)))⟩)

theorem widthOfLine_i (A : Option Addr) (n cap : Nat) (m : Int) (xs : List Int) (w : World) (hn : xs.length = n) (hm : n ≤ maxLen) (hmm : m ≤ 9223372036854775807) (hr : Row w w.heap.size 1 A n (inc xs)) :
    Calls Try.prog 48 #[.slice A n cap, .int .i64 m] w fun e w' => e = .returned (.int .i64 (wol xs m)) ∧ Below w.heap.size w w' := by
  rcases hv : shapeOk xs with _ | _
  · rw [wol_no hv]
    have HN := Lib.hid hn; clear hn
    go_enter Try.func48, Try.ntmps48
    go_wp2_with fail
    ((with_reducible refine (validShape_i _ _ _ xs _ HN.out hm ?_).mono ?_); (exact hr); rintro e w1 ⟨rfl, hb⟩)
    rw [hv]
    go_wp2
    go_ret
    exact ⟨rfl, hb⟩
  · have hl := shapeOk_len hv
    rw [hn] at hl
    have HN := Lib.hid hn; clear hn
    have HV := Lib.hid hv; clear hv
    by_cases h0 : m < 0
    · rw [wol_neg h0]
      go_enter Try.func48, Try.ntmps48
      go_wp2_with fail
      ((with_reducible refine (validShape_i _ _ _ xs _ HN.out hm ?_).mono ?_); (exact hr); rintro e w1 ⟨rfl, hb⟩)
      rw [HV.out]
      go_wp2
      go_ret
      exact ⟨rfl, hb⟩
    · obtain ⟨k, rfl⟩ := Int.eq_ofNat_of_zero_le (show 0 ≤ m by omega)
      rw [wol_yes HV.out]
      go_enter Try.func48, Try.ntmps48
      go_wp2_with fail
      ((with_reducible refine (validShape_i _ _ _ xs _ HN.out hm ?_).mono ?_); (exact hr); rintro e w1 ⟨rfl, hb⟩)
      rw [HV.out]
      have hr1 := hr.then_ hb
      obtain ⟨b, off, rfl, hbb, hc⟩ := hr1.at1 (by omega)
      by_cases hlt : k < n
      · have c0 := hc k hlt
        obtain ⟨x, hx⟩ : ∃ x, xs.getD k default = x := ⟨_, rfl⟩
        simp only [inc, hx] at c0
        have Hx := Lib.hid hx; clear hx hc
        go_wp2
        all_goals
          first
            | (exfalso; omega)
            | (go_ret; exact ⟨ret_int (by rw [wof_lt HN.out hlt, Hx.out]), by (repeat' (first | (with_reducible exact Below.refl _ _) | (with_reducible assumption) | (with_reducible refine Below.alloc ?_ ?_ _) | (with_reducible refine Below.drew ?_) | (with_reducible refine below_drewN ?_ _) | (with_reducible refine Below.setCell ?_ ?_ _) | (with_reducible refine below_then ?_ ?_ (by with_reducible assumption)) | (with_reducible exact Nat.le_refl _) | go_size | (simp only [*]; done)))⟩)
      · have c0 := hc (n - 1) (by omega)
        obtain ⟨x, hx⟩ : ∃ x, xs.getD (n - 1) default = x := ⟨_, rfl⟩
        simp only [inc, hx] at c0
        have Hx := Lib.hid hx; clear hx hc
        go_wp2
        all_goals
          first
            | (exfalso; omega)
            | (go_ret; exact ⟨ret_int (by rw [wof_ge HN.out (by omega), Hx.out]), by (repeat' (first | (with_reducible exact Below.refl _ _) | (with_reducible assumption) | (with_reducible refine Below.alloc ?_ ?_ _) | (with_reducible refine Below.drew ?_) | (with_reducible refine below_drewN ?_ _) | (with_reducible refine Below.setCell ?_ ?_ _) | (with_reducible refine below_then ?_ ?_ (by with_reducible assumption)) | (with_reducible exact Nat.le_refl _) | go_size | (simp only [*]; done)))⟩)
end Go.Proofs.Ytkmipgekmbngcaa
/- LineCost of the reference returns what the plain function says. Conditions: the slice reads as the list. -/
namespace Go.Proofs.Ytkmipgekmbngcaa
open Go.RowKit

def lcV (xs : List It) (d tol f t : Int) : Option Int := if itemsOk xs && widthOk d && inR tol 0 10000 then lc xs d tol f t else none
section
variable {xs : List It} {d tol f t : Int}
theorem lcV_no1 (h : lineV xs f t = false) : lcV xs d tol f t = none := by
  rw [lcV]
  rw [lineV] at h
  rcases hk : itemsOk xs with _ | _
  · rfl
  · rw [hk, Bool.true_and] at h
    rw [lc_line h]
    split <;> rfl
theorem lcV_no2 (h : widthOk d = false) : lcV xs d tol f t = none := by rw [lcV, h, Bool.and_false]; rfl
theorem lcV_no3 (h : inR tol 0 10000 = false) : lcV xs d tol f t = none := by rw [lcV, h, Bool.and_false]; rfl
theorem lcV_yes (h0 : itemsOk xs = true) (h1 : widthOk d = true) (h2 : inR tol 0 10000 = true) : lcV xs d tol f t = lc xs d tol f t := by rw [lcV, h0, h1, h2]; rfl
end
/-- An optional number as it is returned. -/
def optV (r : Option Int) : Value := .tuple #[.int .i64 (r.getD 0), .bool r.isSome]

set_option maxRecDepth 100000 in
set_option maxHeartbeats 2000000 in
theorem lineCost_S (A : Option Addr) (n cap : Nat) (f t d tol : Int) (xs : List It) (w : World) (hn : xs.length = n) (hm : n ≤ maxLen) (hr : Row w w.heap.size 6 A n (itc xs)) :
    Calls Try.prog 54 #[.slice A n cap, .int .i64 f, .int .i64 t, .int .i64 d, .int .i64 tol] w fun e w' => e = .returned (optV (lcV xs d tol f t)) ∧ Below w.heap.size w w' := by
  have HR := Lib.hid hr
  rcases hv : lineV xs f t with _ | _
  · have HE := Lib.hid (lcV_no1 (d := d) (tol := tol) hv)
    have HV := Lib.hid hv
    clear hv
    go_enter Try.func54, Try.ntmps54
    go_wp2_with fail
    ((with_reducible refine (validLine_s _ _ _ _ _ xs _ hn hm ?_).mono ?_); (exact HR.out); rintro e w1 ⟨rfl, hb1⟩)
    rw [HV.out]
    go_wp2_with fail
    (first | go_returns | (refine bodyPost_ret (by simp [results, Try.results54, go_sem, *]; try rfl) rfl ?_))
    exact ⟨by rw [HE.out]; rfl, hb1⟩
  rcases hw : widthOk d with _ | _
  · have HE := Lib.hid (lcV_no2 (xs := xs) (f := f) (t := t) (tol := tol) hw)
    have HV := Lib.hid hv
    have HW := Lib.hid hw
    clear hv hw
    go_enter Try.func54, Try.ntmps54
    go_wp2_with fail
    ((with_reducible refine (validLine_s _ _ _ _ _ xs _ hn hm ?_).mono ?_); (exact HR.out); rintro e w1 ⟨rfl, hb1⟩)
    rw [HV.out]
    go_wp2_with fail
    ((with_reducible refine (validWidth_any _ _).mono ?_); rintro e w' ⟨rfl, rfl⟩)
    rw [HW.out]
    go_wp2_with fail
    (first | go_returns | (refine bodyPost_ret (by simp [results, Try.results54, go_sem, *]; try rfl) rfl ?_))
    exact ⟨by rw [HE.out]; rfl, hb1⟩
  rcases ht : inR tol 0 10000 with _ | _
  · have HE := Lib.hid (lcV_no3 (xs := xs) (f := f) (t := t) (d := d) ht)
    have HV := Lib.hid hv
    have HW := Lib.hid hw
    have HT := Lib.hid ht
    clear hv hw ht
    go_enter Try.func54, Try.ntmps54
    go_wp2_with fail
    ((with_reducible refine (validLine_s _ _ _ _ _ xs _ hn hm ?_).mono ?_); (exact HR.out); rintro e w1 ⟨rfl, hb1⟩)
    rw [HV.out]
    go_wp2_with fail
    ((with_reducible refine (validWidth_any _ _).mono ?_); rintro e w' ⟨rfl, rfl⟩)
    rw [HW.out]
    go_wp2_with fail
    ((with_reducible refine (inRange_any _ _ _ _).mono ?_); rintro e w' ⟨rfl, rfl⟩)
    rw [HT.out]
    go_wp2_with fail
    (first | go_returns | (refine bodyPost_ret (by simp [results, Try.results54, go_sem, *]; try rfl) rfl ?_))
    exact ⟨by rw [HE.out]; rfl, hb1⟩
  have hv' := hv
  rw [lineV, Bool.and_eq_true] at hv'
  obtain ⟨hok, hl⟩ := hv'
  obtain ⟨a, u, ef, et, hau, hun, _, hF, _⟩ := ln_iff hn hl
  subst ef et
  obtain ⟨d0, d1⟩ := inR_iff.1 hw
  have he : lcV xs d tol ((a : Int) - 1) (u : Int) = if costOk xs a u d tol then some (costV xs a u d tol) else none := by rw [lcV_yes hok hw ht]; exact lc_at rfl rfl hl
  have hfin : optV (lcV xs d tol ((a : Int) - 1) (u : Int)) = .tuple #[.int .i64 (costV xs a u d tol), .bool (costOk xs a u d tol)] := by
    rw [he, optV]
    rcases hq : costOk xs a u d tol with _ | _
    · rw [show costV xs a u d tol = 0 by rw [costV, hq]; rfl]; rfl
    · rfl
  have HE := Lib.hid hfin
  have HV := Lib.hid hv
  have HW := Lib.hid hw
  have HT := Lib.hid ht
  have HOK := Lib.hid hok
  have HF := Lib.hid hF
  have HFA := Lib.hid (show (a : Int) - 1 + 1 = (a : Int) by omega)
  clear hv hw ht hok hF hl he hfin
  go_enter Try.func54, Try.ntmps54
  go_wp2_with fail
  ((with_reducible refine (validLine_s _ _ _ _ _ xs _ hn hm ?_).mono ?_); (exact HR.out); rintro e w1 ⟨rfl, hb1⟩)
  rw [HV.out]
  have hr1 := HR.out.then_ hb1
  go_wp2_with fail
  ((with_reducible refine (validWidth_any _ _).mono ?_); rintro e w' ⟨rfl, rfl⟩)
  rw [HW.out]
  go_wp2_with fail
  ((with_reducible refine (inRange_any _ _ _ _).mono ?_); rintro e w' ⟨rfl, rfl⟩)
  rw [HT.out]
  go_wp2_with fail
  ((with_reducible refine (lineCost_s _ _ _ a u _ _ _ xs _ HOK.out hn HF.out HFA.out hau hun ?_ d0 d1).mono ?_); (exact hr1); rintro e w3 ⟨rfl, hb3⟩)
  go_wp2_with fail
  (first | go_returns | (refine bodyPost_ret (by simp [results, Try.results54, go_sem, *]; try rfl) rfl ?_))
  exact ⟨by rw [HE.out]; rfl, below_then (Nat.le_refl _) hb1 hb3⟩
end Go.Proofs.Ytkmipgekmbngcaa
/- CheckShape, of the program and of the reference, returns what the plain function says. Conditions: the slices read as lists. -/
namespace Go.Proofs.Ytkmipgekmbngcaa
open Go.RowKit Go.Shelf

def chkV (xs : List It) (sh : List Int) (tol : Int) (bs : List Int) : Option Int := if itemsOk xs && shapeOk sh && inR tol 0 10000 then chkP xs (wof sh) tol bs else none
section
variable {xs : List It} {sh bs : List Int} {tol : Int}
theorem chkV_no1 (h : itemsOk xs = false) : chkV xs sh tol bs = none := by rw [chkV, h]; rfl
theorem chkV_no2 (h : shapeOk sh = false) : chkV xs sh tol bs = none := by rw [chkV, h, Bool.and_false]; rfl
theorem chkV_no3 (h : inR tol 0 10000 = false) : chkV xs sh tol bs = none := by rw [chkV, h, Bool.and_false]; rfl
theorem chkV_yes (h0 : itemsOk xs = true) (h1 : shapeOk sh = true) (h2 : inR tol 0 10000 = true) : chkV xs sh tol bs = chkP xs (wof sh) tol bs := by rw [chkV, h0, h1, h2]; rfl
theorem chkV_of_none (h : chkP xs (wof sh) tol bs = none) : chkV xs sh tol bs = none := by rw [chkV, h]; split <;> rfl
end

theorem shapeFn_i (g ns capn : Nat) (S : Option Addr) (sh : List Int) (k : Nat) (w : World) (hg : Blk w g 24 #[.slice S ns capn]) (hok : shapeOk sh = true) (hn : sh.length = ns) (hk : k ≤ maxLen) (hr : Row w w.heap.size 1 S ns (inc sh)) :
    Calls Try.prog 47 #[.int .i64 (k : Int), .pointer (some ⟨g, 0, none⟩)] w fun e w' => e = .returned (.int .i64 (wof sh k)) ∧ Below w.heap.size w w' := by
  have hl := shapeOk_len hok
  unfold maxLen at hk
  have HE := Lib.hid (wol_yes (k := k) hok)
  have plt := hg.lt
  have pc0 := hg.cell 0; have pf0 := hg.frozen 0
  simp only [List.getElem?_toArray, List.getElem?_cons_zero] at pc0
  go_enter Try.func47, Try.ntmps47
  go_wp2_with fail
  ((with_reducible refine (widthOfLine_i _ _ _ _ sh _ hn (by unfold maxLen; omega) (by omega) ?_).mono ?_); (exact hr); rintro e w1 ⟨rfl, hb1⟩)
  go_wp2_with fail
  go_ret
  exact ⟨ret_int HE.out, hb1⟩

set_option maxRecDepth 100000 in
set_option maxHeartbeats 2000000 in
theorem checkShape_i (A S B : Option Addr) (n cap ns capn nb capb : Nat) (tol : Int) (xs : List It) (sh bs : List Int) (w : World) (hn : xs.length = n) (hm : n ≤ maxLen) (hcap : n ≤ cap ∧ cap ≤ maxLen) (hr : Row w w.heap.size 6 A n (itc xs))
    (hns : sh.length = ns) (hms : ns ≤ maxLen) (hrs : Row w w.heap.size 1 S ns (inc sh)) (hnb : bs.length = nb) (hmb : nb ≤ maxLen) (hrb : Row w w.heap.size 1 B nb (inc bs)) :
    Calls Try.prog 14 #[.slice A n cap, .slice S ns capn, .int .i64 tol, .slice B nb capb] w fun e w' => e = .returned (optV (chkV xs sh tol bs)) ∧ Below w.heap.size w w' := by
  have HR := Lib.hid hr
  have HRS := Lib.hid hrs
  have HRB := Lib.hid hrb
  have HNS := Lib.hid hns
  have HNB := Lib.hid hnb
  have eg : ∀ args w, (callFunc 47 args).run Try.prog w = .ok (.enter 47 args) w := enters_of Try.func47 (by kernel_rfl) rfl
  have EG := Lib.hid eg
  have g0 := Blk.new w 24 #[.slice S ns capn]
  have G0 := Lib.hid g0
  have hB0 : Below w.heap.size w (w.alloc (.cells #[.slice S ns capn] 24)) := (Below.refl _ _).alloc (Nat.le_refl _) _
  clear eg hrs hrb hns hnb
  rcases hv : itemsOk xs with _ | _
  · have HE := Lib.hid (chkV_no1 (sh := sh) (tol := tol) (bs := bs) hv)
    have HV := Lib.hid hv
    clear hv g0
    go_enter Try.func14, Try.ntmps14
    go_wp2_with fail
    ((with_reducible refine (validItems_i _ _ _ xs _ hn hm ?_).mono ?_); (exact HR.out.then_ hB0); rintro e w1 ⟨rfl, hb1⟩)
    rw [HV.out]
    go_wp2_with fail
    (first | go_returns | (refine bodyPost_ret (by simp [results, Try.results14, go_sem, *]; try rfl) rfl ?_))
    exact ⟨by rw [HE.out]; rfl, below_then (Nat.le_refl _) hB0 hb1⟩
  rcases hw : shapeOk sh with _ | _
  · have HE := Lib.hid (chkV_no2 (xs := xs) (tol := tol) (bs := bs) hw)
    have HV := Lib.hid hv
    have HW := Lib.hid hw
    clear hv hw g0
    go_enter Try.func14, Try.ntmps14
    go_wp2_with fail
    ((with_reducible refine (validItems_i _ _ _ xs _ hn hm ?_).mono ?_); (exact HR.out.then_ hB0); rintro e w1 ⟨rfl, hb1⟩)
    rw [HV.out]
    have g1 := G0.out.then_ hb1
    have hB1 := below_then (Nat.le_refl _) hB0 hb1
    have plt := g1.lt
    have pc0 := g1.cell 0; have pf0 := g1.frozen 0
    simp only [List.getElem?_toArray, List.getElem?_cons_zero] at pc0
    go_wp2_with fail
    ((with_reducible refine (validShape_i _ _ _ sh _ HNS.out hms ?_).mono ?_); (exact HRS.out.then_ hB1); rintro e w2 ⟨rfl, hb2⟩)
    rw [HW.out]
    have hB2 := below_then (Nat.le_refl _) hB1 hb2
    go_wp2_with fail
    (first | go_returns | (refine bodyPost_ret (by simp [results, Try.results14, go_sem, *]; try rfl) rfl ?_))
    exact ⟨by rw [HE.out]; rfl, hB2⟩
  rcases ht : inR tol 0 10000 with _ | _
  · have HE := Lib.hid (chkV_no3 (xs := xs) (sh := sh) (bs := bs) ht)
    have HV := Lib.hid hv
    have HW := Lib.hid hw
    have HT := Lib.hid ht
    clear hv hw ht g0
    go_enter Try.func14, Try.ntmps14
    go_wp2_with fail
    ((with_reducible refine (validItems_i _ _ _ xs _ hn hm ?_).mono ?_); (exact HR.out.then_ hB0); rintro e w1 ⟨rfl, hb1⟩)
    rw [HV.out]
    have g1 := G0.out.then_ hb1
    have hB1 := below_then (Nat.le_refl _) hB0 hb1
    have plt := g1.lt
    have pc0 := g1.cell 0; have pf0 := g1.frozen 0
    simp only [List.getElem?_toArray, List.getElem?_cons_zero] at pc0
    go_wp2_with fail
    ((with_reducible refine (validShape_i _ _ _ sh _ HNS.out hms ?_).mono ?_); (exact HRS.out.then_ hB1); rintro e w2 ⟨rfl, hb2⟩)
    rw [HW.out]
    have hB2 := below_then (Nat.le_refl _) hB1 hb2
    go_wp2_with fail
    ((with_reducible refine (within_any _ _ _ _).mono ?_); rintro e w' ⟨rfl, rfl⟩)
    rw [HT.out]
    go_wp2_with fail
    (first | go_returns | (refine bodyPost_ret (by simp [results, Try.results14, go_sem, *]; try rfl) rfl ?_))
    exact ⟨by rw [HE.out]; rfl, hB2⟩
  have HE := Lib.hid (chkV_yes (bs := bs) hv hw ht)
  have HV := Lib.hid hv
  have HW := Lib.hid hw
  have HT := Lib.hid ht
  clear hv hw ht g0
  go_enter Try.func14, Try.ntmps14
  go_wp2_with fail
  ((with_reducible refine (validItems_i _ _ _ xs _ hn hm ?_).mono ?_); (exact HR.out.then_ hB0); rintro e w1 ⟨rfl, hb1⟩)
  rw [HV.out]
  have g1 := G0.out.then_ hb1
  have hB1 := below_then (Nat.le_refl _) hB0 hb1
  have plt := g1.lt
  have pc0 := g1.cell 0; have pf0 := g1.frozen 0
  simp only [List.getElem?_toArray, List.getElem?_cons_zero] at pc0
  go_wp2_with fail
  ((with_reducible refine (validShape_i _ _ _ sh _ HNS.out hms ?_).mono ?_); (exact HRS.out.then_ hB1); rintro e w2 ⟨rfl, hb2⟩)
  rw [HW.out]
  have hB2 := below_then (Nat.le_refl _) hB1 hb2
  have g2 := g1.then_ hb2
  go_wp2_with fail
  ((with_reducible refine (within_any _ _ _ _).mono ?_); rintro e w' ⟨rfl, rfl⟩)
  rw [HT.out]
  go_wp2_with fail
  ((with_reducible refine (sumLines_i 47 #[.pointer (some ⟨w.heap.size, 0, none⟩)] _ _ _ _ _ _ xs bs (wof sh) _ _ EG.out HV.out hn hcap ?_ HNB.out hmb ?_ (wof_bound HW.out) ?_).mono ?_); (exact HR.out.then_ hB2); (exact HRB.out.then_ hB2); rotate_left; rintro e w3 ⟨rfl, hb3⟩)
  · have hB3 := below_then (Nat.le_refl _) hB2 hb3
    go_wp2_with fail
    (first | go_returns | (refine bodyPost_ret (by simp [results, Try.results14, go_sem, *]; try rfl) rfl ?_))
    exact ⟨by rw [HE.out]; rfl, hB3⟩
  · intro k W hk hW
    exact shapeFn_i _ _ _ _ sh k W (g2.then_ hW) HW.out HNS.out (Nat.le_trans (Nat.le_of_lt hk) hmb) ((HRS.out.then_ hB2).then_ hW)
end Go.Proofs.Ytkmipgekmbngcaa
/- CheckShape of the reference returns what the plain function says. Conditions: the slices read as lists. -/
namespace Go.Proofs.Ytkmipgekmbngcaa
open Go.RowKit

theorem optV_eq (o : Option Int) : Ending.returned (optV o) = Ending.returned (.tuple #[.int .i64 (o.getD 0), .bool o.isSome]) := rfl
section
variable {xs : List It} {sh bs : List Int} {tol s c : Int} {j n m : Nat}
theorem lcV_some (d f t : Int) (h : lcV xs d tol f t = some c) : (itemsOk xs && inR tol 0 10000) = true ∧ lc xs d tol f t = some c := by
  rw [lcV] at h
  split at h
  · rename_i hg
    simp only [Bool.and_eq_true] at hg
    exact ⟨by rw [hg.1.1, hg.2]; rfl, h⟩
  · cases h
theorem chkV_bad (hn : bs.length = n) (hs : sumJ xs (wof sh) tol bs j = some s) (hj : j < n) (h : lcV xs (wof sh j) tol (frm bs j) (bs.getD j default) = none) : chkV xs sh tol bs = none := by
  rw [chkV]
  split
  · rename_i hg
    simp only [Bool.and_eq_true] at hg
    rw [lcV_yes hg.1.1 (inR_iff.2 (wof_bound hg.1.2 j)) hg.2] at h
    exact chk_none hn (sumJ_no1 hs h) hj
  · rfl
theorem frm_end (h : 0 < n) : frm bs n = bs.getD (n - 1) default := by rw [frm, if_neg (by omega)]
theorem chkV_zero (hn : bs.length = 0) : chkV xs sh tol bs = none := chkV_of_none (chk_zero hn)
theorem chkV_last (hn : bs.length = n) (hx : xs.length = m) (hp : 0 < n) {f : Int} (hf : frm bs n = f) (h : ¬ f = (m : Int) - 1) : chkV xs sh tol bs = none := by
  obtain ⟨k, rfl⟩ : ∃ k, n = k + 1 := ⟨n - 1, by omega⟩
  rw [frm_succ] at hf
  exact chkV_of_none (chk_last hn (by rw [hf, hx]; exact h))
theorem chkV_end (hn : bs.length = n) (hx : xs.length = m) (hp : 0 < n) (h0 : (itemsOk xs && inR tol 0 10000) = true) (h1 : shapeOk sh = true) (hs : sumJ xs (wof sh) tol bs n = some s) {f : Int} (hf : frm bs n = f) (h : f = (m : Int) - 1) : chkV xs sh tol bs = some s := by
  obtain ⟨k, rfl⟩ : ∃ k, n = k + 1 := ⟨n - 1, by omega⟩
  rw [frm_succ] at hf
  rw [Bool.and_eq_true] at h0
  rw [chkV_yes h0.1 h1 h0.2, chk_end hn (by rw [hf, hx]; exact h), hs]
end

set_option maxRecDepth 100000 in
set_option maxHeartbeats 8000000 in
theorem checkShape_s (A S B : Option Addr) (n cap ns capn nb capb : Nat) (tol : Int) (xs : List It) (sh bs : List Int) (w : World) (hn : xs.length = n) (hm : n ≤ maxLen) (hr : Row w w.heap.size 6 A n (itc xs))
    (hns : sh.length = ns) (hms : ns ≤ maxLen) (hrs : Row w w.heap.size 1 S ns (inc sh)) (hnb : bs.length = nb) (hmb : nb ≤ maxLen) (hrb : Row w w.heap.size 1 B nb (inc bs)) :
    Calls Try.prog 23 #[.slice A n cap, .slice S ns capn, .int .i64 tol, .slice B nb capb] w fun e w' => e = .returned (optV (chkV xs sh tol bs)) ∧ Below w.heap.size w w' := by
  have hm' := hm
  unfold maxLen at hmb hm'
  have HN := Lib.hid hn
  have HR := Lib.hid hr
  have HRS := Lib.hid hrs
  have HRB := Lib.hid hrb
  have HNS := Lib.hid hns
  have HNB := Lib.hid hnb
  clear hr hrs hrb hnb hn
  rcases hw : shapeOk sh with _ | _
  · have HE := Lib.hid (chkV_no2 (xs := xs) (tol := tol) (bs := bs) hw)
    have HW := Lib.hid hw
    clear hw hns
    go_enter Try.func23, Try.ntmps23
    go_wp2_with fail
    ((with_reducible refine (validShape_s _ _ _ sh _ HNS.out hms ?_).mono ?_); (exact HRS.out); rintro e w1 ⟨rfl, hb1⟩)
    rw [HW.out]
    go_wp2_with fail
    (first | go_returns | (refine bodyPost_ret (by simp [results, Try.results23, go_sem, *]; try rfl) rfl ?_))
    exact ⟨by rw [HE.out]; rfl, hb1⟩
  obtain ⟨l1, l2⟩ := shapeOk_len hw
  rw [hns] at l1 l2
  have HW := Lib.hid hw
  clear hw hns
  go_enter Try.func23, Try.ntmps23
  go_wp2_with fail
  ((with_reducible refine (validShape_s _ _ _ sh _ HNS.out hms ?_).mono ?_); (exact HRS.out); rintro e w1 ⟨rfl, hb1⟩)
  rw [HW.out]
  go_wp2_with fail
  go_loopg [10, 11, 12] nb (fun k sv fv i wr => ∃ (j : Nat) (s f : Int), j ≤ nb ∧ k = nb - j ∧ i = .int .i64 (j : Int) ∧ sv = .int .i64 s ∧ fv = .int .i64 f ∧ ((j : Int) ≤ f + 1 ∧ f ≤ 60 ∧ -200000000 * (j : Int) ≤ s ∧ s ≤ 200000000 * (j : Int)) ∧ Hid (0 < j → (itemsOk xs && inR tol 0 10000) = true) ∧ Hid (sumJ xs (wof sh) tol bs j = some s) ∧ Hid (frm bs j = f) ∧ Below w.heap.size w wr)
  case atStart => exact ⟨0, 0, -1, Nat.zero_le _, rfl, rfl, rfl, rfl, ⟨by omega, by omega, by omega, by omega⟩, fun h => absurd h (by omega), rfl, rfl, hb1⟩
  case round =>
    obtain ⟨j, s, f, hj, hk, rfl, rfl, rfl, ⟨j0, j1, s0, s1⟩, hg, hs, hf, hbel⟩ := hrel
    have HK := Lib.hid hk; clear hk
    have hsz := hbel.size
    by_cases hlt : j < nb
    · obtain ⟨b, off, rfl, hb, hc⟩ := HRB.out (by omega)
      obtain ⟨t, ht⟩ : ∃ t, bs.getD j default = t := ⟨_, rfl⟩
      have c0 : wr.cell? ⟨b, off + j, none⟩ = some (.int .i64 t) := by
        have := (hbel.cell (p := ⟨b, off + j, none⟩) hb).trans (by have := hc j 0 hlt (by omega); simpa only [inc, ht, Nat.mul_one, Nat.add_zero] using this)
        exact this
      have hjn : (j : Int) < (nb : Int) := by omega
      have HT := Lib.hid ht
      obtain ⟨o, ho⟩ : ∃ o, lcV xs (wof sh j) tol f t = o := ⟨_, rfl⟩
      have HO := Lib.hid ho
      clear ht hc ho
      go_wp2_with fail
      obtain ⟨C, hC⟩ : ∃ C : World → Prop, ∀ w', C w' ↔ Below wr.heap.size wr w' := ⟨_, fun _ => Iff.rfl⟩
      have HCC := Lib.hid hC; clear hC
      refine region_quiet_tail C 15 (by kernel_rfl) (by kernel_rfl) ?_ ?_
      · exact (HCC.out _).2 (Below.refl _ _).drew
      simp only [List.take_succ_cons, List.take_zero, List.drop_succ_cons, List.drop_zero]
      generalize (List.toArray _ : Array Oper) = OPS
      iterate 15
        refine wpQuiet_step (fun K hK => ?_)
        rw [if_pos (by simp [Region.wanted])]
        apply Exists.intro
        refine ⟨fun w' hw' => ?_, hK _ ?_⟩
        · have z0 := (HCC.out _).1 hw'
          have hB' := below_then (Nat.le_refl _) hbel z0
          have k0 : w'.cell? ⟨b, off + j, none⟩ = some (.int .i64 t) := (z0.cell (p := ⟨b, off + j, none⟩) (Nat.lt_of_lt_of_le hb hsz)).trans c0
          go_simp
          first | (with_reducible rfl) | (go_at_call 65; (with_reducible refine (widthOf_s _ _ _ j sh _ HNS.out l1 l2 (by omega) ((HRS.out.below hB').more hB'.size)).mono ?_); rintro e w2 ⟨rfl, hb2⟩; exact ⟨rfl, (HCC.out _).2 (below_then (Nat.le_refl _) z0 hb2)⟩) | (go_at_call 54; (with_reducible refine (lineCost_S _ _ _ _ _ _ _ xs _ HN.out hm ((HR.out.below hB').more hB'.size)).mono ?_); rintro e w2 ⟨rfl, hb2⟩; rw [HO.out]; exact ⟨optV_eq o, (HCC.out _).2 (below_then (Nat.le_refl _) z0 hb2)⟩)
        clear hK K
        conv => arg 6; simp only [Act.put, List.setIfInBounds_toArray, List.set_cons_succ, List.set_cons_zero]
      refine wpQuiet_nil ?_
      intro w2 hw2
      have hB2 := below_then (Nat.le_refl _) hbel ((HCC.out _).1 hw2)
      rcases o with _ | v
      · have HE := Lib.hid (chkV_bad HNB.out hs.out hlt (by rw [hf.out, HT.out]; exact HO.out))
        simp only [Option.getD_none, Option.isSome_none]
        go_wp2_with fail
        (first | go_returns | (refine bodyPost_ret (by simp [results, Try.results23, go_sem, *]; try rfl) rfl ?_))
        exact ⟨by rw [HE.out]; rfl, hB2⟩
      · obtain ⟨hg2, hlc⟩ := lcV_some _ _ _ HO.out
        have hok : itemsOk xs = true := by rw [Bool.and_eq_true] at hg2; exact hg2.1
        have hwj := wof_bound HW.out j
        obtain ⟨k1, k2, k3, k4, k5⟩ := lc_some hok HN.out hwj.1 hwj.2 hlc
        have h60 := (itemsOk_len hok HN.out).2
        have HS := Lib.hid (sumJ_yes hs.out (by rw [hf.out, HT.out]; exact hlc))
        have HG := Lib.hid hg2
        clear hg2 hlc hok hwj
        simp only [Option.getD_some, Option.isSome_some]
        have c2 := (((HCC.out _).1 hw2).cell (p := ⟨b, off + j, none⟩) (Nat.lt_of_lt_of_le hb hsz)).trans c0
        go_wp2_with fail
        go_roundg (nb - (j + 1))
        case measure => have := HK.out; omega
        case rel => exact ⟨j + 1, s + v, t, by omega, rfl, by go_num, rfl, rfl, ⟨by omega, by omega, by omega, by omega⟩, fun _ => HG.out, HS.out, by show _ = _; rw [frm_succ, HT.out], by (repeat' (first | (with_reducible exact Below.refl _ _) | (with_reducible assumption) | (with_reducible refine Below.alloc ?_ ?_ _) | (with_reducible refine Below.drew ?_) | (with_reducible refine below_drewN ?_ _) | (with_reducible refine Below.setCell ?_ ?_ _) | (with_reducible refine below_then ?_ ?_ (by with_reducible assumption)) | (with_reducible exact Nat.le_refl _) | go_size | (simp only [*]; done)))⟩
    · have ej : j = nb := by omega
      subst ej
      by_cases hz : j = 0
      · subst hz
        have HE := Lib.hid (chkV_zero (xs := xs) (sh := sh) (tol := tol) HNB.out)
        go_wp2_with fail
        (first | go_returns | (refine bodyPost_ret (by simp [results, Try.results23, go_sem, *]; try rfl) rfl ?_))
        exact ⟨by rw [HE.out]; rfl, hbel⟩
      have hzf : ((j : Int) == 0) = false := by simpa using hz
      by_cases hq : f = (n : Int) - 1
      · have HE := Lib.hid (chkV_end HNB.out HN.out (by omega) (hg.out (by omega)) HW.out hs.out hf.out hq)
        have hqf : (f == (n : Int) - 1) = true := by simpa using hq
        go_wp2_with fail
        (first | go_returns | (refine bodyPost_ret (by simp [results, Try.results23, go_sem, *]; try rfl) rfl ?_))
        exact ⟨by rw [HE.out]; rfl, hbel⟩
      · have HE := Lib.hid (chkV_last (sh := sh) (tol := tol) HNB.out HN.out (by omega) hf.out hq)
        have hqf : (f == (n : Int) - 1) = false := by simpa using hq
        go_wp2_with fail
        (first | go_returns | (refine bodyPost_ret (by simp [results, Try.results23, go_sem, *]; try rfl) rfl ?_))
        exact ⟨by rw [HE.out]; rfl, hbel⟩
end Go.Proofs.Ytkmipgekmbngcaa
/- CheckBreaks, of the program and of the reference, returns what CheckShape returns for a shape of one width. Conditions: the slices read as lists. -/
namespace Go.Proofs.Ytkmipgekmbngcaa
open Go.RowKit Go.Shelf

theorem shape_one (d : Int) : shapeOk [d] = widthOk d := by simp [shapeOk, inR]
theorem wof_one (d : Int) (k : Nat) : wof [d] k = d := by
  rw [wof]
  simp
theorem lcV_some_w {xs : List It} {d tol f t c : Int} (h : lcV xs d tol f t = some c) : widthOk d = true := by
  rcases hw : widthOk d with _ | _
  · rw [lcV_no2 hw] at h; cases h
  · rfl

theorem validBreaking_i (A : Option Addr) (n cap : Nat) (d tol : Int) (xs : List It) (w : World) (hn : xs.length = n) (hm : n ≤ maxLen) (hr : Row w w.heap.size 6 A n (itc xs)) :
    Calls Try.prog 52 #[.slice A n cap, .int .i64 d, .int .i64 tol] w fun e w' => e = .returned (.bool (itemsOk xs && widthOk d && inR tol 0 10000)) ∧ Below w.heap.size w w' := by
  obtain ⟨p, hp⟩ : ∃ p, itemsOk xs = p := ⟨_, rfl⟩
  obtain ⟨q, hq⟩ : ∃ q, widthOk d = q := ⟨_, rfl⟩
  obtain ⟨r, hr'⟩ : ∃ r, inR tol 0 10000 = r := ⟨_, rfl⟩
  rw [hp, hq, hr']
  have HP := Lib.hid hp
  have HQ : Hid (inR d 1 10000 = q) := hq
  have HR := Lib.hid hr'
  clear hp hq hr'
  rcases p with _ | _
  · go_enter Try.func52, Try.ntmps52
    go_wp2_with fail
    ((with_reducible refine (validItems_i _ _ _ xs _ hn hm ?_).mono ?_); (exact hr); rintro e w1 ⟨rfl, hb1⟩)
    rw [HP.out]
    go_wp2_with fail
    go_ret
    exact ⟨rfl, hb1⟩
  rcases q with _ | _
  · go_enter Try.func52, Try.ntmps52
    go_wp2_with fail
    ((with_reducible refine (validItems_i _ _ _ xs _ hn hm ?_).mono ?_); (exact hr); rintro e w1 ⟨rfl, hb1⟩)
    rw [HP.out]
    go_wp2_with fail
    ((with_reducible refine (within_any _ _ _ _).mono ?_); rintro e w' ⟨rfl, rfl⟩)
    rw [HQ.out]
    go_wp2_with fail
    go_ret
    exact ⟨rfl, hb1⟩
  · go_enter Try.func52, Try.ntmps52
    go_wp2_with fail
    ((with_reducible refine (validItems_i _ _ _ xs _ hn hm ?_).mono ?_); (exact hr); rintro e w1 ⟨rfl, hb1⟩)
    rw [HP.out]
    go_wp2_with fail
    ((with_reducible refine (within_any _ _ _ _).mono ?_); rintro e w' ⟨rfl, rfl⟩)
    rw [HQ.out]
    go_wp2_with fail
    ((with_reducible refine (within_any _ _ _ _).mono ?_); rintro e w' ⟨rfl, rfl⟩)
    rw [HR.out]
    go_wp2_with fail
    go_ret
    exact ⟨rfl, hb1⟩

theorem breakFn_i (g : Nat) (d : Int) (k : Nat) (w : World) (hg : Blk w g 3 #[.int .i64 d]) :
    Calls Try.prog 53 #[.int .i64 (k : Int), .pointer (some ⟨g, 0, none⟩)] w fun e w' => e = .returned (.int .i64 d) ∧ Below w.heap.size w w' := by
  have plt := hg.lt
  have pc0 := hg.cell 0; have pf0 := hg.frozen 0
  simp only [List.getElem?_toArray, List.getElem?_cons_zero] at pc0
  go_enter Try.func53, Try.ntmps53
  go_wp2_with fail
  go_ret
  exact ⟨rfl, Below.refl _ _⟩

set_option maxRecDepth 100000 in
set_option maxHeartbeats 2000000 in
theorem checkBreaks_i (A B : Option Addr) (n cap nb capb : Nat) (d tol : Int) (xs : List It) (bs : List Int) (w : World) (hn : xs.length = n) (hm : n ≤ maxLen) (hcap : n ≤ cap ∧ cap ≤ maxLen) (hr : Row w w.heap.size 6 A n (itc xs))
    (hnb : bs.length = nb) (hmb : nb ≤ maxLen) (hrb : Row w w.heap.size 1 B nb (inc bs)) :
    Calls Try.prog 17 #[.slice A n cap, .int .i64 d, .int .i64 tol, .slice B nb capb] w fun e w' => e = .returned (optV (chkV xs [d] tol bs)) ∧ Below w.heap.size w w' := by
  have HR := Lib.hid hr
  have HRB := Lib.hid hrb
  have HNB := Lib.hid hnb
  have eg : ∀ args w, (callFunc 53 args).run Try.prog w = .ok (.enter 53 args) w := enters_of Try.func53 (by kernel_rfl) rfl
  have EG := Lib.hid eg
  have g0 := Blk.new w 3 #[.int .i64 d]
  have G0 := Lib.hid g0
  have hB0 : Below w.heap.size w (w.alloc (.cells #[.int .i64 d] 3)) := (Below.refl _ _).alloc (Nat.le_refl _) _
  clear eg hrb hnb
  rcases hv : (itemsOk xs && widthOk d && inR tol 0 10000) with _ | _
  · have HE := Lib.hid (show chkV xs [d] tol bs = none by rw [chkV, shape_one, hv]; rfl)
    have HV := Lib.hid hv
    have plt := g0.lt
    have pc0 := g0.cell 0; have pf0 := g0.frozen 0
    simp only [List.getElem?_toArray, List.getElem?_cons_zero] at pc0
    clear hv g0
    go_enter Try.func17, Try.ntmps17
    go_wp2_with fail
    ((with_reducible refine (validBreaking_i _ _ _ _ _ xs _ hn hm ?_).mono ?_); (exact HR.out.then_ hB0); rintro e w1 ⟨rfl, hb1⟩)
    rw [HV.out]
    go_wp2_with fail
    (first | go_returns | (refine bodyPost_ret (by simp [results, Try.results17, go_sem, *]; try rfl) rfl ?_))
    exact ⟨by rw [HE.out]; rfl, below_then (Nat.le_refl _) hB0 hb1⟩
  have hfun : wof [d] = fun _ => d := funext fun k => wof_one d k
  have HE := Lib.hid (show chkV xs [d] tol bs = chkP xs (fun _ => d) tol bs by rw [chkV, shape_one, hv, hfun]; rfl)
  have HV := Lib.hid hv
  rw [Bool.and_eq_true, Bool.and_eq_true] at hv
  obtain ⟨⟨hv1, hv2⟩, _⟩ := hv
  have HV1 := Lib.hid hv1
  have hd := inR_iff.1 hv2
  have plt := g0.lt
  have pc0 := g0.cell 0; have pf0 := g0.frozen 0
  simp only [List.getElem?_toArray, List.getElem?_cons_zero] at pc0
  clear hv1 hv2 g0 hfun
  go_enter Try.func17, Try.ntmps17
  go_wp2_with fail
  ((with_reducible refine (validBreaking_i _ _ _ _ _ xs _ hn hm ?_).mono ?_); (exact HR.out.then_ hB0); rintro e w1 ⟨rfl, hb1⟩)
  rw [HV.out]
  have g1 := G0.out.then_ hb1
  have hB1 := below_then (Nat.le_refl _) hB0 hb1
  go_wp2_with fail
  ((with_reducible refine (sumLines_i 53 #[.pointer (some ⟨w.heap.size, 0, none⟩)] _ _ _ _ _ _ xs bs (fun _ => d) _ _ EG.out HV1.out hn hcap ?_ HNB.out hmb ?_ (fun _ => hd) ?_).mono ?_); (exact HR.out.then_ hB1); (exact HRB.out.then_ hB1); rotate_left; rintro e w3 ⟨rfl, hb3⟩)
  · have hB3 := below_then (Nat.le_refl _) hB1 hb3
    go_wp2_with fail
    (first | go_returns | (refine bodyPost_ret (by simp [results, Try.results17, go_sem, *]; try rfl) rfl ?_))
    exact ⟨by rw [HE.out]; rfl, hB3⟩
  · intro k W hk hW
    exact breakFn_i _ _ k W (g1.then_ hW)

set_option maxRecDepth 100000 in
set_option maxHeartbeats 8000000 in
theorem checkBreaks_s (A B : Option Addr) (n cap nb capb : Nat) (d tol : Int) (xs : List It) (bs : List Int) (w : World) (hn : xs.length = n) (hm : n ≤ maxLen) (hr : Row w w.heap.size 6 A n (itc xs))
    (hnb : bs.length = nb) (hmb : nb ≤ maxLen) (hrb : Row w w.heap.size 1 B nb (inc bs)) :
    Calls Try.prog 18 #[.slice A n cap, .int .i64 d, .int .i64 tol, .slice B nb capb] w fun e w' => e = .returned (optV (chkV xs [d] tol bs)) ∧ Below w.heap.size w w' := by
  have hm' := hm
  unfold maxLen at hmb hm'
  have HN := Lib.hid hn
  have HR := Lib.hid hr
  have HRB := Lib.hid hrb
  have HNB := Lib.hid hnb
  clear hr hrb hnb hn
  go_enter Try.func18, Try.ntmps18
  go_wp2_with fail
  go_loopg [10, 11, 12] nb (fun k sv fv i wr => ∃ (j : Nat) (s f : Int), j ≤ nb ∧ k = nb - j ∧ i = .int .i64 (j : Int) ∧ sv = .int .i64 s ∧ fv = .int .i64 f ∧ ((j : Int) ≤ f + 1 ∧ f ≤ 60 ∧ -200000000 * (j : Int) ≤ s ∧ s ≤ 200000000 * (j : Int)) ∧ Hid (0 < j → (itemsOk xs && inR tol 0 10000) = true ∧ widthOk d = true) ∧ Hid (sumJ xs (wof [d]) tol bs j = some s) ∧ Hid (frm bs j = f) ∧ Below w.heap.size w wr)
  case atStart => exact ⟨0, 0, -1, Nat.zero_le _, rfl, rfl, rfl, rfl, ⟨by omega, by omega, by omega, by omega⟩, fun h => absurd h (by omega), rfl, rfl, Below.refl _ _⟩
  case round =>
    obtain ⟨j, s, f, hj, hk, rfl, rfl, rfl, ⟨j0, j1, s0, s1⟩, hg, hs, hf, hbel⟩ := hrel
    have HK := Lib.hid hk; clear hk
    have hsz := hbel.size
    by_cases hlt : j < nb
    · obtain ⟨b, off, rfl, hb, hc⟩ := HRB.out (by omega)
      obtain ⟨t, ht⟩ : ∃ t, bs.getD j default = t := ⟨_, rfl⟩
      have c0 : wr.cell? ⟨b, off + j, none⟩ = some (.int .i64 t) := by
        have := (hbel.cell (p := ⟨b, off + j, none⟩) hb).trans (by have := hc j 0 hlt (by omega); simpa only [inc, ht, Nat.mul_one, Nat.add_zero] using this)
        exact this
      have hjn : (j : Int) < (nb : Int) := by omega
      have HT := Lib.hid ht
      obtain ⟨o, ho⟩ : ∃ o, lcV xs d tol f t = o := ⟨_, rfl⟩
      have HO := Lib.hid ho
      clear ht hc ho
      go_wp2_with fail
      ((with_reducible refine (lineCost_S _ _ _ _ _ _ _ xs _ HN.out hm ?_).mono ?_); (exact (HR.out.below hbel).more hbel.size); rintro e w2 ⟨rfl, hb2⟩)
      rw [HO.out, optV]
      have hB2 := below_then (Nat.le_refl _) hbel hb2
      rcases o with _ | v
      · have HE := Lib.hid (chkV_bad HNB.out hs.out hlt (by rw [hf.out, HT.out, wof_one]; exact HO.out))
        simp only [Option.getD_none, Option.isSome_none]
        go_wp2_with fail
        (first | go_returns | (refine bodyPost_ret (by simp [results, Try.results18, go_sem, *]; try rfl) rfl ?_))
        exact ⟨by rw [HE.out]; rfl, hB2⟩
      · obtain ⟨hg2, hlc⟩ := lcV_some _ _ _ HO.out
        have hgw := lcV_some_w HO.out
        have hok : itemsOk xs = true := by rw [Bool.and_eq_true] at hg2; exact hg2.1
        have hwj : 1 ≤ d ∧ d ≤ 10000 := inR_iff.1 hgw
        obtain ⟨k1, k2, k3, k4, k5⟩ := lc_some hok HN.out hwj.1 hwj.2 hlc
        have h60 := (itemsOk_len hok HN.out).2
        have HS := Lib.hid (sumJ_yes hs.out (by rw [hf.out, HT.out, wof_one]; exact hlc))
        have HG := Lib.hid (And.intro hg2 hgw)
        clear hg2 hlc hok hwj hgw
        simp only [Option.getD_some, Option.isSome_some]
        have c2 := (hb2.cell (p := ⟨b, off + j, none⟩) (Nat.lt_of_lt_of_le hb hsz)).trans c0
        go_wp2_with fail
        go_roundg (nb - (j + 1))
        case measure => have := HK.out; omega
        case rel => exact ⟨j + 1, s + v, t, by omega, rfl, by go_num, rfl, rfl, ⟨by omega, by omega, by omega, by omega⟩, fun _ => HG.out, HS.out, by show _ = _; rw [frm_succ, HT.out], by (repeat' (first | (with_reducible exact Below.refl _ _) | (with_reducible assumption) | (with_reducible refine Below.alloc ?_ ?_ _) | (with_reducible refine Below.drew ?_) | (with_reducible refine below_drewN ?_ _) | (with_reducible refine Below.setCell ?_ ?_ _) | (with_reducible refine below_then ?_ ?_ (by with_reducible assumption)) | (with_reducible exact Nat.le_refl _) | go_size | (simp only [*]; done)))⟩
    · have ej : j = nb := by omega
      subst ej
      by_cases hz : j = 0
      · subst hz
        have HE := Lib.hid (chkV_zero (xs := xs) (sh := [d]) (tol := tol) HNB.out)
        go_wp2_with fail
        (first | go_returns | (refine bodyPost_ret (by simp [results, Try.results18, go_sem, *]; try rfl) rfl ?_))
        exact ⟨by rw [HE.out]; rfl, hbel⟩
      have hzf : ((j : Int) == 0) = false := by simpa using hz
      by_cases hq : f = (n : Int) - 1
      · have HE := Lib.hid (chkV_end HNB.out HN.out (by omega) (hg.out (by omega)).1 (by rw [shape_one]; exact (hg.out (by omega)).2) hs.out hf.out hq)
        have hqf : (f == (n : Int) - 1) = true := by simpa using hq
        go_wp2_with fail
        (first | go_returns | (refine bodyPost_ret (by simp [results, Try.results18, go_sem, *]; try rfl) rfl ?_))
        exact ⟨by rw [HE.out]; rfl, hbel⟩
      · have HE := Lib.hid (chkV_last (sh := [d]) (tol := tol) HNB.out HN.out (by omega) hf.out hq)
        have hqf : (f == (n : Int) - 1) = false := by simpa using hq
        go_wp2_with fail
        (first | go_returns | (refine bodyPost_ret (by simp [results, Try.results18, go_sem, *]; try rfl) rfl ?_))
        exact ⟨by rw [HE.out]; rfl, hbel⟩
end Go.Proofs.Ytkmipgekmbngcaa
/- slices.Reverse turns a slice of numbers of the call's own round. Conditions: at most 2^20 numbers. -/
namespace Go.Proofs.Ytkmipgekmbngcaa
open Go.RowKit

/-- A list that is being turned round: j elements from each side are in place. -/
def revT (xs : List Int) (j : Nat) : List Int := (List.range xs.length).map fun k => if k < j ∨ xs.length ≤ k + j then xs.getD (xs.length - 1 - k) default else xs.getD k default
theorem revT_len (xs : List Int) (j : Nat) : (revT xs j).length = xs.length := by simp [revT]
theorem revT_at {xs : List Int} {j k : Nat} (hk : k < xs.length) : (revT xs j).getD k default = if k < j ∨ xs.length ≤ k + j then xs.getD (xs.length - 1 - k) default else xs.getD k default := by
  rw [List.getD_eq_getElem?_getD, revT, List.getElem?_map, List.getElem?_range hk]; rfl
theorem ext_getD {xs ys : List Int} (h : xs.length = ys.length) (e : ∀ k, k < xs.length → xs.getD k default = ys.getD k default) : xs = ys := by
  apply List.ext_getElem h
  intro i h1 h2
  have := e i h1
  rw [List.getD_eq_getElem?_getD, List.getD_eq_getElem?_getD, List.getElem?_eq_getElem h1, List.getElem?_eq_getElem h2] at this
  exact this
theorem revT_zero (xs : List Int) : revT xs 0 = xs := ext_getD (revT_len _ _) fun k hk => by
  rw [revT_len] at hk
  rw [revT_at hk, if_neg (by omega)]
theorem revT_end {xs : List Int} {j : Nat} (h : xs.length ≤ 2 * j + 1) : revT xs j = xs.reverse := ext_getD (by simp [revT]) fun k hk => by
  rw [revT_len] at hk
  rw [revT_at hk]
  have e : xs.reverse.getD k default = xs.getD (xs.length - 1 - k) default := by
    rw [List.getD_eq_getElem?_getD, List.getD_eq_getElem?_getD, List.getElem?_reverse hk]
  rw [e]
  by_cases h1 : k < j ∨ xs.length ≤ k + j
  · rw [if_pos h1]
  · rw [if_neg h1, show xs.length - 1 - k = k by omega]
theorem getD_set (xs : List Int) (i k : Nat) (v : Int) (hk : k < xs.length) : (xs.set i v).getD k default = if i = k then v else xs.getD k default := by
  rw [List.getD_eq_getElem?_getD, List.getD_eq_getElem?_getD, List.getElem?_set]
  by_cases e : i = k
  · subst e; rw [if_pos rfl, if_pos rfl, if_pos hk]; rfl
  · rw [if_neg e, if_neg e]
theorem revT_step {xs : List Int} {n j u : Nat} {x y : Int} (hn : xs.length = n) (hu : u + j + 1 = n) (hj : j < u) (hx : xs.getD j default = x) (hy : xs.getD u default = y) :
    ((revT xs j).set j y).set u x = revT xs (j + 1) ∧ ((revT xs j).set u x).set j y = revT xs (j + 1) := by
  have e1 : ((revT xs j).set j y).set u x = revT xs (j + 1) := ext_getD (by simp [revT]) fun k hk => by
    simp only [List.length_set, revT_len] at hk
    rw [getD_set _ _ _ _ (by simp [revT_len]; omega), getD_set _ _ _ _ (by simp [revT_len]; omega), revT_at hk, revT_at hk]
    by_cases a : u = k
    · subst a
      rw [if_pos rfl, if_pos (by omega), show xs.length - 1 - u = j by omega, hx]
    · rw [if_neg a]
      by_cases b : j = k
      · subst b
        rw [if_pos rfl, if_pos (by omega), show xs.length - 1 - j = u by omega, hy]
      · rw [if_neg b]
        by_cases h : k < j ∨ xs.length ≤ k + j
        · rw [if_pos h, if_pos (by omega)]
        · rw [if_neg h, if_neg (by omega)]
  exact ⟨e1, by rw [List.set_comm _ _ (by omega)]; exact e1⟩

set_option maxHeartbeats 1000000 in
theorem reverse_any (A : Option Addr) (n c base : Nat) (xs : List Int) (w : World) (hm : n ≤ 1048576) (h : OwnI w base A n c xs) :
    Calls Try.prog 79 #[.slice A n c] w fun e w' => e = .returned (.tuple #[]) ∧ OwnI w' base A n c xs.reverse ∧ w.grownBy w' (Value.ownBlock (.slice A n c)) := by
  have hn := h.len
  rcases h.2 with ⟨hv, h0⟩ | ⟨g, cap, cur, hv, hbg, hgg, hnc, hcm, _⟩
  · cases hv
    have he : xs = [] := List.eq_nil_of_length_eq_zero hn
    subst he
    have HO := Lib.hid h
    clear hn h
    go_enter Try.func79, Try.ntmps79
    go_wp2_with fail
    go_loopg [2, 3] 0 (fun k i j wr => i = .int .i64 0 ∧ j = .int .i64 (-1) ∧ wr = w)
    case atStart => exact ⟨by go_num, by go_num, rfl⟩
    case round =>
      obtain ⟨rfl, rfl, rfl⟩ := hrel
      go_wp2_with fail
      go_end0
      exact ⟨rfl, HO.out, rfl, rfl, rfl, Nat.le_refl _, fun _ _ _ => rfl⟩
  · cases hv
    unfold maxLen at hcm
    have HN := Lib.hid hn
    have HO := Lib.hid h
    clear hn hgg h
    go_enter Try.func79, Try.ntmps79
    go_wp2_with fail
    go_loopg [2, 3] n (fun k i jv wr => ∃ (j : Nat) (z : Int), j ≤ n ∧ k = n - j ∧ i = .int .i64 j ∧ jv = .int .i64 z ∧ Hid (z = (n : Int) - 1 - j) ∧ -2 ≤ z + j ∧ z ≤ n ∧ Hid (OwnI wr base (some ⟨g, 0, none⟩) n c (revT xs j)) ∧ w.grownBy wr (some g))
    case atStart => exact ⟨0, (n : Int) - 1, Nat.zero_le _, rfl, by go_num, by go_num, by simp [Hid], by omega, by omega, HO.out.eq (revT_zero xs).symm, rfl, rfl, rfl, Nat.le_refl _, fun _ _ _ => rfl⟩
    case round =>
      obtain ⟨j, z, hj, hk, rfl, rfl, hz, hz1, hz2, hown, hbel⟩ := hrel
      have HK := Lib.hid hk; clear hk
      have hsz := hbel.size
      by_cases hlt : 2 * j + 1 < n
      · obtain ⟨u, rfl⟩ := Int.eq_ofNat_of_zero_le (show 0 ≤ z by have := hz.out; omega)
        have hju : j < u := by have := hz.out; omega
        have hun : u < n := by have := hz.out; omega
        have o0 := hown.out.cellI (j := j) (by omega)
        have o1 := hown.out.cellI (j := u) hun
        have of0 := hown.out.frozenAt j
        have of1 := hown.out.frozenAt u
        obtain ⟨x, hx⟩ : ∃ x, xs.getD j default = x := ⟨_, rfl⟩
        obtain ⟨y, hy⟩ : ∃ y, xs.getD u default = y := ⟨_, rfl⟩
        rw [revT_at (by rw [HN.out]; omega), if_neg (by rw [HN.out]; omega), hx] at o0
        rw [revT_at (by rw [HN.out]; omega), if_neg (by rw [HN.out]; have := hz.out; omega), hy] at o1
        have hstep := revT_step HN.out (by have := hz.out; omega) hju hx hy
        have HST := Lib.hid hstep
        have hju' : (j : Int) < (u : Int) := by omega
        have hjn' : (j : Int) < (n : Int) := by omega
        have hun' : (u : Int) < (n : Int) := by omega
        have hne : ¬ j = u := by omega
        have hne' : ¬ u = j := by omega
        clear hx hy hstep
        go_wp2_with fail
        go_region
        all_goals
          go_wp2_with fail
          go_roundg (n - (j + 1))
          case measure => have := HK.out; omega
          case rel =>
            refine ⟨j + 1, (u : Int) - 1, by omega, rfl, by go_num, by go_num, (by have := hz.out; show _ = _; omega), by omega, by omega, ?_, ?_⟩
            · first
              | exact (((hown.out.stored (j := j) y).stored (j := u) x).eq HST.out.1)
              | exact (((hown.out.stored (j := u) x).stored (j := j) y).eq HST.out.2)
            · exact ⟨hbel.os, hbel.tape, hbel.output, by simpa [World.setCell] using hbel.size, fun i hi hne => (Below.heap_setCell _ _ _ i (fun e => hne (by rw [e]))).trans ((Below.heap_setCell _ _ _ i (fun e => hne (by rw [e]))).trans (hbel.block i hi hne))⟩
      · have hzj : z ≤ (j : Int) := by have := hz.out; omega
        have hfin := hown.out.eq (revT_end (by rw [HN.out]; omega))
        have HF := Lib.hid hfin
        clear hfin
        go_wp2_with fail
        go_end0
        exact ⟨rfl, HF.out, hbel⟩
end Go.Proofs.Ytkmipgekmbngcaa
