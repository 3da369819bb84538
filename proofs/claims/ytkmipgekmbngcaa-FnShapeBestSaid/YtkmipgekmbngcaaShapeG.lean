/- Shapes, of the program and of the reference: validShape and WidthOfLine return what the plain functions say. Conditions: the slice reads as the list. -/
import Derived.Test.YtkmipgekmbngcaaInts
import Derived.Test.YtkmipgekmbngcaaMSb1
namespace Go.Proofs.Ytkmipgekmbngcaa
open Go.RowKit

def shapeOk (l : List Int) : Bool := l.all widthOk && inR l.length 1 12
/-- The width of line n of a valid shape. -/
def wof (l : List Int) (n : Nat) : Int := l.getD (min n (l.length - 1)) default
def wol (l : List Int) (n : Int) : Int := if shapeOk l && decide (0 ≤ n) then wof l n.toNat else 0
theorem shapeOk_len {l : List Int} (h : shapeOk l = true) : 1 ≤ l.length ∧ l.length ≤ 12 := by
  simp only [shapeOk, Bool.and_eq_true, inR_iff] at h
  omega
theorem shapeOk_at {l : List Int} (h : shapeOk l = true) {k : Nat} (hk : k < l.length) {x : Int} (hx : l.getD k default = x) : 1 ≤ x ∧ x ≤ 10000 := by
  simp only [shapeOk, Bool.and_eq_true] at h
  exact inR_iff.1 (show inR x 1 10000 = true from all_at (p := widthOk) h.1 rfl hk hx)
theorem wof_bound {l : List Int} (h : shapeOk l = true) (k : Nat) : 1 ≤ wof l k ∧ wof l k ≤ 10000 := by
  have := shapeOk_len h
  exact shapeOk_at h (k := min k (l.length - 1)) (by omega) rfl
theorem shape_bad {xs : List Int} {n j : Nat} {x : Int} (hn : xs.length = n) (hj : j < n) (hx : xs.getD j default = x) (hv : widthOk x = false) : shapeOk xs = false := by
  simp [shapeOk, all_bad hn hj hx hv]
theorem shape_end {xs : List Int} {n j : Nat} (hn : xs.length = n) (hj : n ≤ j) (h : (xs.take j).all widthOk = true) : shapeOk xs = inR n 1 12 := by
  rw [shapeOk, all_end hn hj h, hn]; rfl

theorem validShape_i (A : Option Addr) (n cap : Nat) (xs : List Int) (w : World) (hn : xs.length = n) (hm : n ≤ maxLen) (hr : Row w w.heap.size 1 A n (inc xs)) :
    Calls Try.prog 39 #[.slice A n cap] w fun e w' => e = .returned (.bool (shapeOk xs)) ∧ Below w.heap.size w w' := by
  unfold maxLen at hm
  have HN := Lib.hid hn; clear hn
  go_enter Try.func39, Try.ntmps39
  go_wp2_with fail
  go_loopg [7] n (fun k i wr => ∃ j : Nat, j ≤ n ∧ k = n - j ∧ i = .int .i64 j ∧ Hid ((xs.take j).all widthOk = true) ∧ Below w.heap.size w wr)
  case atStart => exact ⟨0, Nat.zero_le _, rfl, rfl, by simp [Hid], Below.refl _ _⟩
  case round =>
    obtain ⟨j, hj, hk, rfl, hall, hbel⟩ := hrel
    have HK := Lib.hid hk; clear hk
    have hsz := hbel.size
    by_cases hlt : j < n
    · obtain ⟨b, off, rfl, hb, hc⟩ := hr.at1 (by omega)
      have c0 : wr.cell? ⟨b, off + j, none⟩ = _ := (hbel.cell (p := ⟨b, off + j, none⟩) hb).trans (hc j hlt)
      obtain ⟨x, hx⟩ : ∃ x, xs.getD j default = x := ⟨_, rfl⟩
      simp only [inc, hx] at c0
      have Hx := Lib.hid hx; clear hx hc
      rcases hv : widthOk x with _ | _
      · have HV := Lib.hid hv; clear hv
        go_wp2_with fail
        ((with_reducible refine (within_any _ _ _ _).mono ?_); rintro e w' ⟨rfl, rfl⟩)
        rw [show inR x 1 10000 = false from HV.out]
        go_wp2_with fail
        go_ret
        exact ⟨ret_bool (shape_bad HN.out hlt Hx.out HV.out).symm, by (repeat' (first | (with_reducible exact Below.refl _ _) | (with_reducible assumption) | (with_reducible refine Below.alloc ?_ ?_ _) | (with_reducible refine Below.drew ?_) | (with_reducible refine below_drewN ?_ _) | (with_reducible refine Below.setCell ?_ ?_ _) | (with_reducible refine below_then ?_ ?_ (by with_reducible assumption)) | (with_reducible exact Nat.le_refl _) | go_size | (simp only [*]; done)))⟩
      · have HV := Lib.hid hv; clear hv
        go_wp2_with fail
        ((with_reducible refine (within_any _ _ _ _).mono ?_); rintro e w' ⟨rfl, rfl⟩)
        rw [show inR x 1 10000 = true from HV.out]
        go_wp2_with fail
        go_roundg (n - (j + 1))
        case measure => have := HK.out; omega
        case rel => exact ⟨j + 1, by omega, rfl, by go_num, all_more HN.out hlt Hx.out hall.out HV.out, by (repeat' (first | (with_reducible exact Below.refl _ _) | (with_reducible assumption) | (with_reducible refine Below.alloc ?_ ?_ _) | (with_reducible refine Below.drew ?_) | (with_reducible refine below_drewN ?_ _) | (with_reducible refine Below.setCell ?_ ?_ _) | (with_reducible refine below_then ?_ ?_ (by with_reducible assumption)) | (with_reducible exact Nat.le_refl _) | go_size | (simp only [*]; done)))⟩
    · go_wp2_with fail
      ((with_reducible refine (within_any _ _ _ _).mono ?_); rintro e w' ⟨rfl, rfl⟩)
      go_wp2_with fail
      go_ret
      exact ⟨ret_bool (shape_end HN.out (by omega) hall.out).symm, hbel⟩

theorem validShape_s (A : Option Addr) (n cap : Nat) (xs : List Int) (w : World) (hn : xs.length = n) (hm : n ≤ maxLen) (hr : Row w w.heap.size 1 A n (inc xs)) :
    Calls Try.prog 43 #[.slice A n cap] w fun e w' => e = .returned (.bool (shapeOk xs)) ∧ Below w.heap.size w w' := by
  unfold maxLen at hm
  have HN := Lib.hid hn; clear hn
  go_enter Try.func43, Try.ntmps43
  go_wp2_with fail
  go_loopg [3] n (fun k i wr => ∃ j : Nat, j ≤ n ∧ k = n - j ∧ i = .int .i64 j ∧ Hid ((xs.take j).all widthOk = true) ∧ Below w.heap.size w wr)
  case atStart => exact ⟨0, Nat.zero_le _, rfl, rfl, by simp [Hid], Below.refl _ _⟩
  case round =>
    obtain ⟨j, hj, hk, rfl, hall, hbel⟩ := hrel
    have HK := Lib.hid hk; clear hk
    have hsz := hbel.size
    by_cases hlt : j < n
    · obtain ⟨b, off, rfl, hb, hc⟩ := hr.at1 (by omega)
      have c0 : wr.cell? ⟨b, off + j, none⟩ = _ := (hbel.cell (p := ⟨b, off + j, none⟩) hb).trans (hc j hlt)
      obtain ⟨x, hx⟩ : ∃ x, xs.getD j default = x := ⟨_, rfl⟩
      simp only [inc, hx] at c0
      have Hx := Lib.hid hx; clear hx hc
      rcases hv : widthOk x with _ | _
      · have HV := Lib.hid hv; clear hv
        go_wp2_with fail
        ((with_reducible refine (validWidth_any _ _).mono ?_); rintro e w' ⟨rfl, rfl⟩)
        rw [HV.out]
        go_wp2_with fail
        go_ret
        exact ⟨ret_bool (shape_bad HN.out hlt Hx.out HV.out).symm, by (repeat' (first | (with_reducible exact Below.refl _ _) | (with_reducible assumption) | (with_reducible refine Below.alloc ?_ ?_ _) | (with_reducible refine Below.drew ?_) | (with_reducible refine below_drewN ?_ _) | (with_reducible refine Below.setCell ?_ ?_ _) | (with_reducible refine below_then ?_ ?_ (by with_reducible assumption)) | (with_reducible exact Nat.le_refl _) | go_size | (simp only [*]; done)))⟩
      · have HV := Lib.hid hv; clear hv
        go_wp2_with fail
        ((with_reducible refine (validWidth_any _ _).mono ?_); rintro e w' ⟨rfl, rfl⟩)
        rw [HV.out]
        go_wp2_with fail
        go_roundg (n - (j + 1))
        case measure => have := HK.out; omega
        case rel => exact ⟨j + 1, by omega, rfl, by go_num, all_more HN.out hlt Hx.out hall.out HV.out, by (repeat' (first | (with_reducible exact Below.refl _ _) | (with_reducible assumption) | (with_reducible refine Below.alloc ?_ ?_ _) | (with_reducible refine Below.drew ?_) | (with_reducible refine below_drewN ?_ _) | (with_reducible refine Below.setCell ?_ ?_ _) | (with_reducible refine below_then ?_ ?_ (by with_reducible assumption)) | (with_reducible exact Nat.le_refl _) | go_size | (simp only [*]; done)))⟩
    · go_wp2_with fail
      ((with_reducible refine (inRange_any _ _ _ _).mono ?_); rintro e w' ⟨rfl, rfl⟩)
      go_wp2_with fail
      go_ret
      exact ⟨ret_bool (shape_end HN.out (by omega) hall.out).symm, hbel⟩

theorem wol_no {xs : List Int} {m : Int} (h : shapeOk xs = false) : wol xs m = 0 := by simp [wol, h]
theorem wol_neg {xs : List Int} {m : Int} (h : m < 0) : wol xs m = 0 := by
  have : decide (0 ≤ m) = false := by simp; omega
  simp [wol, this]
theorem wol_yes {xs : List Int} {k : Nat} (h : shapeOk xs = true) : wol xs (k : Int) = wof xs k := by simp [wol, h]
theorem wof_lt {xs : List Int} {n k : Nat} (hn : xs.length = n) (h : k < n) : wof xs k = xs.getD k default := by
  rw [wof, hn, Nat.min_eq_left (by omega)]
theorem wof_ge {xs : List Int} {n k : Nat} (hn : xs.length = n) (h : n ≤ k + 1) : wof xs k = xs.getD (n - 1) default := by
  rw [wof, hn, Nat.min_eq_right (by omega)]

theorem widthOf_s (A : Option Addr) (n cap k : Nat) (xs : List Int) (w : World) (hn : xs.length = n) (h1 : 1 ≤ n) (hm : n ≤ 12) (_hk : k ≤ 9223372036854775807) (hr : Row w w.heap.size 1 A n (inc xs)) :
    Calls Try.prog 65 #[.slice A n cap, .int .i64 (k : Int)] w fun e w' => e = .returned (.int .i64 (wof xs k)) ∧ Below w.heap.size w w' := by
  have HN := Lib.hid hn; clear hn
  obtain ⟨b, off, rfl, hb, hc⟩ := hr.at1 (by omega)
  by_cases hlt : k < n
  · have c0 := hc k hlt
    obtain ⟨x, hx⟩ : ∃ x, xs.getD k default = x := ⟨_, rfl⟩
    simp only [inc, hx] at c0
    have Hx := Lib.hid hx; clear hx hc
    go_enter Try.func65, Try.ntmps65
    go_wp2
    all_goals
      first
        | (exfalso; omega)
        | (go_ret; exact ⟨ret_int (by rw [wof_lt HN.out hlt, Hx.out]), by (repeat' (first | (with_reducible exact Below.refl _ _) | (with_reducible assumption) | (with_reducible refine Below.alloc ?_ ?_ _) | (with_reducible refine Below.drew ?_) | (with_reducible refine below_drewN ?_ _) | (with_reducible refine Below.setCell ?_ ?_ _) | (with_reducible refine below_then ?_ ?_ (by with_reducible assumption)) | (with_reducible exact Nat.le_refl _) | go_size | (simp only [*]; done)))⟩)
  · have c0 := hc (n - 1) (by omega)
    obtain ⟨x, hx⟩ : ∃ x, xs.getD (n - 1) default = x := ⟨_, rfl⟩
    simp only [inc, hx] at c0
    have Hx := Lib.hid hx; clear hx hc
    go_enter Try.func65, Try.ntmps65
    go_wp2
    all_goals
      first
        | (exfalso; omega)
        | (go_ret; exact ⟨ret_int (by rw [wof_ge HN.out (by omega), Hx.out]), by (repeat' (first | (with_reducible exact Below.refl _ _) | (with_reducible assumption) | (with_reducible refine Below.alloc ?_ ?_ _) | (with_reducible refine Below.drew ?_) | (with_reducible refine below_drewN ?_ _) | (with_reducible refine Below.setCell ?_ ?_ _) | (with_reducible refine below_then ?_ ?_ (by with_reducible assumption)) | (with_reducible exact Nat.le_refl _) | go_size | (simp only [*]; done)))⟩)

theorem widthOfLine_i (A : Option Addr) (n cap : Nat) (m : Int) (xs : List Int) (w : World) (hn : xs.length = n) (hm : n ≤ maxLen) (hmm : m ≤ 9223372036854775807) (hr : Row w w.heap.size 1 A n (inc xs)) :
    Calls Try.prog 48 #[.slice A n cap, .int .i64 m] w fun e w' => e = .returned (.int .i64 (wol xs m)) ∧ Below w.heap.size w w' := by
  rcases hv : shapeOk xs with _ | _
  · rw [wol_no hv]
    have HN := Lib.hid hn; clear hn
    go_enter Try.func48, Try.ntmps48
    go_wp2_with fail
    ((with_reducible refine (validShape_i _ _ _ xs _ HN.out hm ?_).mono ?_); (exact hr); rintro e w1 ⟨rfl, hb⟩)
    rw [hv]
    go_wp2
    go_ret
    exact ⟨rfl, hb⟩
  · have hl := shapeOk_len hv
    rw [hn] at hl
    have HN := Lib.hid hn; clear hn
    have HV := Lib.hid hv; clear hv
    by_cases h0 : m < 0
    · rw [wol_neg h0]
      go_enter Try.func48, Try.ntmps48
      go_wp2_with fail
      ((with_reducible refine (validShape_i _ _ _ xs _ HN.out hm ?_).mono ?_); (exact hr); rintro e w1 ⟨rfl, hb⟩)
      rw [HV.out]
      go_wp2
      go_ret
      exact ⟨rfl, hb⟩
    · obtain ⟨k, rfl⟩ := Int.eq_ofNat_of_zero_le (show 0 ≤ m by omega)
      rw [wol_yes HV.out]
      go_enter Try.func48, Try.ntmps48
      go_wp2_with fail
      ((with_reducible refine (validShape_i _ _ _ xs _ HN.out hm ?_).mono ?_); (exact hr); rintro e w1 ⟨rfl, hb⟩)
      rw [HV.out]
      have hr1 := hr.then_ hb
      obtain ⟨b, off, rfl, hbb, hc⟩ := hr1.at1 (by omega)
      by_cases hlt : k < n
      · have c0 := hc k hlt
        obtain ⟨x, hx⟩ : ∃ x, xs.getD k default = x := ⟨_, rfl⟩
        simp only [inc, hx] at c0
        have Hx := Lib.hid hx; clear hx hc
        go_wp2
        all_goals
          first
            | (exfalso; omega)
            | (go_ret; exact ⟨ret_int (by rw [wof_lt HN.out hlt, Hx.out]), by (repeat' (first | (with_reducible exact Below.refl _ _) | (with_reducible assumption) | (with_reducible refine Below.alloc ?_ ?_ _) | (with_reducible refine Below.drew ?_) | (with_reducible refine below_drewN ?_ _) | (with_reducible refine Below.setCell ?_ ?_ _) | (with_reducible refine below_then ?_ ?_ (by with_reducible assumption)) | (with_reducible exact Nat.le_refl _) | go_size | (simp only [*]; done)))⟩)
      · have c0 := hc (n - 1) (by omega)
        obtain ⟨x, hx⟩ : ∃ x, xs.getD (n - 1) default = x := ⟨_, rfl⟩
        simp only [inc, hx] at c0
        have Hx := Lib.hid hx; clear hx hc
        go_wp2
        all_goals
          first
            | (exfalso; omega)
            | (go_ret; exact ⟨ret_int (by rw [wof_ge HN.out (by omega), Hx.out]), by (repeat' (first | (with_reducible exact Below.refl _ _) | (with_reducible assumption) | (with_reducible refine Below.alloc ?_ ?_ _) | (with_reducible refine Below.drew ?_) | (with_reducible refine below_drewN ?_ _) | (with_reducible refine Below.setCell ?_ ?_ _) | (with_reducible refine below_then ?_ ?_ (by with_reducible assumption)) | (with_reducible exact Nat.le_refl _) | go_size | (simp only [*]; done)))⟩)
end Go.Proofs.Ytkmipgekmbngcaa
