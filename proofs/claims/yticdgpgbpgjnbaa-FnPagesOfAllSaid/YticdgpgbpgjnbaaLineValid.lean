/- ValidLines, of the program and of the reference, returns what the plain function says. Conditions: the slice reads as the list. -/
import Derived.Test.YticdgpgbpgjnbaaLineS
namespace Go.Proofs.Yticdgpgbpgjnbaa
open Go.RowKit

def lineOk (x : Ln) : Bool := inR x.a 1 1000 && inR x.b 0 1000 && inR x.c 0 1000
def linesOk (l : List Ln) : Bool := l.all lineOk && inR l.length 1 40
theorem lines_bad {xs : List Ln} {n j : Nat} {x : Ln} (hn : xs.length = n) (hj : j < n) (hx : xs.getD j default = x) (hv : lineOk x = false) : linesOk xs = false := by
  simp [linesOk, all_bad hn hj hx hv]
theorem lines_end {xs : List Ln} {n j : Nat} (hn : xs.length = n) (hj : n ≤ j) (h : (xs.take j).all lineOk = true) : linesOk xs = inR n 1 40 := by
  rw [linesOk, all_end hn hj h, hn]; rfl
theorem lineOk_iff {x : Ln} : lineOk x = true ↔ (1 ≤ x.a ∧ x.a ≤ 1000) ∧ (0 ≤ x.b ∧ x.b ≤ 1000) ∧ 0 ≤ x.c ∧ x.c ≤ 1000 := by
  simp [lineOk, inR_iff, and_assoc]
theorem linesOk_len {xs : List Ln} (h : linesOk xs = true) : 1 ≤ xs.length ∧ xs.length ≤ 40 := by
  simp only [linesOk, Bool.and_eq_true, inR_iff] at h
  omega
theorem linesOk_at {xs : List Ln} {n k : Nat} {x : Ln} (h : linesOk xs = true) (hn : xs.length = n) (hk : k < n) (hx : xs.getD k default = x) : (1 ≤ x.a ∧ x.a ≤ 1000) ∧ (0 ≤ x.b ∧ x.b ≤ 1000) ∧ 0 ≤ x.c ∧ x.c ≤ 1000 := by
  simp only [linesOk, Bool.and_eq_true] at h
  exact lineOk_iff.1 (all_at h.1 hn hk hx)

set_option maxHeartbeats 1000000 in
theorem validLines_i (A : Option Addr) (n cap : Nat) (xs : List Ln) (w : World) (hn : xs.length = n) (hm : n ≤ maxLen) (hr : Row w w.heap.size 3 A n (lnc xs)) :
    Calls Try.prog 18 #[.slice A n cap] w fun e w' => e = .returned (.bool (linesOk xs)) ∧ Below w.heap.size w w' := by
  unfold maxLen at hm
  have HN := Lib.hid hn; clear hn
  go_enter Try.func18, Try.ntmps18
  go_wp2_with fail
  go_loopg [7] n (fun k i wr => ∃ j : Nat, j ≤ n ∧ k = n - j ∧ i = .int .i64 j ∧ Hid ((xs.take j).all lineOk = true) ∧ Below w.heap.size w wr)
  case atStart => exact ⟨0, Nat.zero_le _, rfl, rfl, by simp [Hid], Below.refl _ _⟩
  case round =>
    obtain ⟨j, hj, hk, rfl, hall, hbel⟩ := hrel
    have HK := Lib.hid hk; clear hk
    have hsz := hbel.size
    by_cases hlt : j < n
    · obtain ⟨b, off, rfl, hb, hc⟩ := hr (by omega)
      have c0 : wr.cell? ⟨b, off + j * 3, none⟩ = _ := (hbel.cell (p := ⟨b, off + j * 3, none⟩) hb).trans (hc j 0 hlt (by omega))
      have c1 : wr.cell? ⟨b, off + j * 3 + 1, none⟩ = _ := (hbel.cell (p := ⟨b, off + j * 3 + 1, none⟩) hb).trans (hc j 1 hlt (by omega))
      have c2 : wr.cell? ⟨b, off + j * 3 + 2, none⟩ = _ := (hbel.cell (p := ⟨b, off + j * 3 + 2, none⟩) hb).trans (hc j 2 hlt (by omega))
      obtain ⟨x, hx⟩ : ∃ x, xs.getD j default = x := ⟨_, rfl⟩
      simp only [lnc, hx] at c0 c1 c2
      have Hx := Lib.hid hx; clear hx hc
      rcases hv1 : inR x.a 1 1000 with _ | _
      · go_wp2_with (go_at_call 41; refine (within_any _ _ _ _).mono ?_; rintro e w' ⟨rfl, rfl⟩)
        go_ret
        exact ⟨ret_bool (lines_bad HN.out hlt Hx.out (by simp [lineOk, hv1])).symm, by (repeat' (first | (with_reducible exact Below.refl _ _) | (with_reducible assumption) | (with_reducible refine Below.alloc ?_ ?_ _) | (with_reducible refine Below.drew ?_) | (with_reducible refine below_drewN ?_ _) | (with_reducible refine Below.setCell ?_ ?_ _) | (with_reducible refine below_then ?_ ?_ (by with_reducible assumption)) | (with_reducible exact Nat.le_refl _) | go_size | (simp only [*]; done)))⟩
      rcases hv2 : inR x.b 0 1000 with _ | _
      · go_wp2_with (go_at_call 41; refine (within_any _ _ _ _).mono ?_; rintro e w' ⟨rfl, rfl⟩)
        go_ret
        exact ⟨ret_bool (lines_bad HN.out hlt Hx.out (by simp [lineOk, hv2])).symm, by (repeat' (first | (with_reducible exact Below.refl _ _) | (with_reducible assumption) | (with_reducible refine Below.alloc ?_ ?_ _) | (with_reducible refine Below.drew ?_) | (with_reducible refine below_drewN ?_ _) | (with_reducible refine Below.setCell ?_ ?_ _) | (with_reducible refine below_then ?_ ?_ (by with_reducible assumption)) | (with_reducible exact Nat.le_refl _) | go_size | (simp only [*]; done)))⟩
      rcases hv3 : inR x.c 0 1000 with _ | _
      · go_wp2_with (go_at_call 41; refine (within_any _ _ _ _).mono ?_; rintro e w' ⟨rfl, rfl⟩)
        go_ret
        exact ⟨ret_bool (lines_bad HN.out hlt Hx.out (by simp [lineOk, hv3])).symm, by (repeat' (first | (with_reducible exact Below.refl _ _) | (with_reducible assumption) | (with_reducible refine Below.alloc ?_ ?_ _) | (with_reducible refine Below.drew ?_) | (with_reducible refine below_drewN ?_ _) | (with_reducible refine Below.setCell ?_ ?_ _) | (with_reducible refine below_then ?_ ?_ (by with_reducible assumption)) | (with_reducible exact Nat.le_refl _) | go_size | (simp only [*]; done)))⟩
      · go_wp2_with (go_at_call 41; refine (within_any _ _ _ _).mono ?_; rintro e w' ⟨rfl, rfl⟩)
        go_roundg (n - (j + 1))
        case measure => have := HK.out; omega
        case rel => exact ⟨j + 1, by omega, rfl, by go_num, all_more HN.out hlt Hx.out hall.out (by simp [lineOk, hv1, hv2, hv3]), by (repeat' (first | (with_reducible exact Below.refl _ _) | (with_reducible assumption) | (with_reducible refine Below.alloc ?_ ?_ _) | (with_reducible refine Below.drew ?_) | (with_reducible refine below_drewN ?_ _) | (with_reducible refine Below.setCell ?_ ?_ _) | (with_reducible refine below_then ?_ ?_ (by with_reducible assumption)) | (with_reducible exact Nat.le_refl _) | go_size | (simp only [*]; done)))⟩
    · go_wp2_with fail
      ((with_reducible refine (within_any _ _ _ _).mono ?_); rintro e w' ⟨rfl, rfl⟩)
      go_wp2_with fail
      go_ret
      exact ⟨ret_bool (lines_end HN.out (by omega) hall.out).symm, hbel⟩

set_option maxHeartbeats 1000000 in
theorem validLines_s (A : Option Addr) (n cap : Nat) (xs : List Ln) (w : World) (hn : xs.length = n) (hm : n ≤ maxLen) (hr : Row w w.heap.size 3 A n (lnc xs)) :
    Calls Try.prog 39 #[.slice A n cap] w fun e w' => e = .returned (.bool (linesOk xs)) ∧ Below w.heap.size w w' := by
  unfold maxLen at hm
  have HN := Lib.hid hn; clear hn
  go_enter Try.func39, Try.ntmps39
  go_wp2_with fail
  go_loopg [3] n (fun k i wr => ∃ j : Nat, j ≤ n ∧ k = n - j ∧ i = .int .i64 j ∧ Hid ((xs.take j).all lineOk = true) ∧ Below w.heap.size w wr)
  case atStart => exact ⟨0, Nat.zero_le _, rfl, rfl, by simp [Hid], Below.refl _ _⟩
  case round =>
    obtain ⟨j, hj, hk, rfl, hall, hbel⟩ := hrel
    have HK := Lib.hid hk; clear hk
    have hsz := hbel.size
    by_cases hlt : j < n
    · obtain ⟨b, off, rfl, hb, hc⟩ := hr (by omega)
      have c0 : wr.cell? ⟨b, off + j * 3, none⟩ = _ := (hbel.cell (p := ⟨b, off + j * 3, none⟩) hb).trans (hc j 0 hlt (by omega))
      have c1 : wr.cell? ⟨b, off + j * 3 + 1, none⟩ = _ := (hbel.cell (p := ⟨b, off + j * 3 + 1, none⟩) hb).trans (hc j 1 hlt (by omega))
      have c2 : wr.cell? ⟨b, off + j * 3 + 2, none⟩ = _ := (hbel.cell (p := ⟨b, off + j * 3 + 2, none⟩) hb).trans (hc j 2 hlt (by omega))
      obtain ⟨x, hx⟩ : ∃ x, xs.getD j default = x := ⟨_, rfl⟩
      simp only [lnc, hx] at c0 c1 c2
      have Hx := Lib.hid hx; clear hx hc
      rcases hv1 : inR x.a 1 1000 with _ | _
      · go_wp2_with (go_at_call 57; refine (inRange_any _ _ _ _).mono ?_; rintro e w' ⟨rfl, rfl⟩)
        go_ret
        exact ⟨ret_bool (lines_bad HN.out hlt Hx.out (by simp [lineOk, hv1])).symm, by (repeat' (first | (with_reducible exact Below.refl _ _) | (with_reducible assumption) | (with_reducible refine Below.alloc ?_ ?_ _) | (with_reducible refine Below.drew ?_) | (with_reducible refine below_drewN ?_ _) | (with_reducible refine Below.setCell ?_ ?_ _) | (with_reducible refine below_then ?_ ?_ (by with_reducible assumption)) | (with_reducible exact Nat.le_refl _) | go_size | (simp only [*]; done)))⟩
      rcases hv2 : inR x.b 0 1000 with _ | _
      · go_wp2_with (go_at_call 57; refine (inRange_any _ _ _ _).mono ?_; rintro e w' ⟨rfl, rfl⟩)
        go_ret
        exact ⟨ret_bool (lines_bad HN.out hlt Hx.out (by simp [lineOk, hv2])).symm, by (repeat' (first | (with_reducible exact Below.refl _ _) | (with_reducible assumption) | (with_reducible refine Below.alloc ?_ ?_ _) | (with_reducible refine Below.drew ?_) | (with_reducible refine below_drewN ?_ _) | (with_reducible refine Below.setCell ?_ ?_ _) | (with_reducible refine below_then ?_ ?_ (by with_reducible assumption)) | (with_reducible exact Nat.le_refl _) | go_size | (simp only [*]; done)))⟩
      rcases hv3 : inR x.c 0 1000 with _ | _
      · go_wp2_with (go_at_call 57; refine (inRange_any _ _ _ _).mono ?_; rintro e w' ⟨rfl, rfl⟩)
        go_ret
        exact ⟨ret_bool (lines_bad HN.out hlt Hx.out (by simp [lineOk, hv3])).symm, by (repeat' (first | (with_reducible exact Below.refl _ _) | (with_reducible assumption) | (with_reducible refine Below.alloc ?_ ?_ _) | (with_reducible refine Below.drew ?_) | (with_reducible refine below_drewN ?_ _) | (with_reducible refine Below.setCell ?_ ?_ _) | (with_reducible refine below_then ?_ ?_ (by with_reducible assumption)) | (with_reducible exact Nat.le_refl _) | go_size | (simp only [*]; done)))⟩
      · go_wp2_with (go_at_call 57; refine (inRange_any _ _ _ _).mono ?_; rintro e w' ⟨rfl, rfl⟩)
        go_roundg (n - (j + 1))
        case measure => have := HK.out; omega
        case rel => exact ⟨j + 1, by omega, rfl, by go_num, all_more HN.out hlt Hx.out hall.out (by simp [lineOk, hv1, hv2, hv3]), by (repeat' (first | (with_reducible exact Below.refl _ _) | (with_reducible assumption) | (with_reducible refine Below.alloc ?_ ?_ _) | (with_reducible refine Below.drew ?_) | (with_reducible refine below_drewN ?_ _) | (with_reducible refine Below.setCell ?_ ?_ _) | (with_reducible refine below_then ?_ ?_ (by with_reducible assumption)) | (with_reducible exact Nat.le_refl _) | go_size | (simp only [*]; done)))⟩
    · go_wp2_with fail
      ((with_reducible refine (inRange_any _ _ _ _).mono ?_); rintro e w' ⟨rfl, rfl⟩)
      go_wp2_with fail
      go_ret
      exact ⟨ret_bool (lines_end HN.out (by omega) hall.out).symm, hbel⟩
theorem validLines_S (A : Option Addr) (n cap : Nat) (xs : List Ln) (w : World) (hn : xs.length = n) (hm : n ≤ maxLen) (hr : Row w w.heap.size 3 A n (lnc xs)) :
    Calls Try.prog 16 #[.slice A n cap] w fun e w' => e = .returned (.bool (linesOk xs)) ∧ Below w.heap.size w w' := by
  go_enter Try.func16, Try.ntmps16
  go_wp2_with fail
  ((with_reducible refine (validLines_s _ _ _ xs _ hn hm ?_).mono ?_); (exact hr); rintro e w1 ⟨rfl, hb⟩)
  go_wp2
  go_ret
  exact ⟨rfl, hb⟩
end Go.Proofs.Yticdgpgbpgjnbaa
