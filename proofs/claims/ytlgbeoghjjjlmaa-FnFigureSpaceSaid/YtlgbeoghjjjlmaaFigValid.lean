/- ValidFigures, of the program and of the reference, returns what the plain function says. Conditions: the slice reads as the list. -/
import Derived.Test.YtlgbeoghjjjlmaaFigS
import Derived.Deep.QuietTactic
import Derived.BigQuiet
namespace Go.Proofs.Ytlgbeoghjjjlmaa
open Go.RowKit

def figStep (a : Option Int) (x : Fg) : Option Int := a.bind fun l => if inR x.a 1 1000 && inR x.b l 11 then some x.b else none
def figF (l : List Fg) : Option Int := l.foldl figStep (some 0)
def figsOk (l : List Fg) : Bool := (figF l).isSome && decide (l.length ≤ 10)
theorem figF_snoc (l : List Fg) (x : Fg) : figF (l ++ [x]) = figStep (figF l) x := by simp [figF]
theorem figF_next {xs : List Fg} {n j : Nat} {x : Fg} {l : Int} (hn : xs.length = n) (hj : j < n) (hx : xs.getD j default = x) (h : figF (xs.take j) = some l) : figF (xs.take (j + 1)) = if inR x.a 1 1000 && inR x.b l 11 then some x.b else none := by
  rw [tk_snoc' hn hj hx, figF_snoc, h]; rfl
theorem fig_none (l : List Fg) : l.foldl figStep none = none := by
  induction l with
  | nil => rfl
  | cons x r ih => exact ih
theorem figs_bad {xs : List Fg} {n j : Nat} {x : Fg} {l : Int} (hn : xs.length = n) (hj : j < n) (hx : xs.getD j default = x) (h : figF (xs.take j) = some l) (hv : (inR x.a 1 1000 && inR x.b l 11) = false) : figsOk xs = false := by
  have h1 := figF_next hn hj hx h
  rw [hv] at h1
  have h2 : xs = xs.take (j + 1) ++ xs.drop (j + 1) := (List.take_append_drop _ _).symm
  have h3 : figF xs = none := by
    rw [h2, figF, List.foldl_append, show (xs.take (j + 1)).foldl figStep (some 0) = none from h1]
    exact fig_none _
  simp [figsOk, h3]
theorem figs_end {xs : List Fg} {n j : Nat} {l : Int} (hn : xs.length = n) (hj : n ≤ j) (h : figF (xs.take j) = some l) : figsOk xs = decide ((n : Int) ≤ 10) := by
  rw [List.take_of_length_le (by omega)] at h
  rw [figsOk, h, hn]
  exact decide_eq_decide.2 (by omega)
theorem figF_last {xs : List Fg} {n j : Nat} {l : Int} (hn : xs.length = n) (hj : j ≤ n) (h : figF (xs.take j) = some l) : (0 ≤ l ∧ l ≤ 11) ∧ ((j = 0 ∧ l = 0) ∨ (0 < j ∧ l = (xs.getD (j - 1) default).b)) := by
  induction j generalizing l with
  | zero => injection h with h; subst h; exact ⟨by omega, .inl ⟨rfl, rfl⟩⟩
  | succ j ih =>
    rw [tk_snoc' hn (show j < n by omega) rfl, figF_snoc] at h
    rcases hq : figF (xs.take j) with _ | q
    · rw [hq] at h; cases h
    · rw [hq] at h
      obtain ⟨⟨q0, q1⟩, _⟩ := ih (by omega) hq
      have h' : (if inR (xs.getD j default).a 1 1000 && inR (xs.getD j default).b q 11 then some (xs.getD j default).b else none) = some l := h
      by_cases hc : (inR (xs.getD j default).a 1 1000 && inR (xs.getD j default).b q 11) = true
      · rw [if_pos hc] at h'
        injection h' with h'
        simp only [Bool.and_eq_true] at hc
        have := inR_iff.1 hc.2
        exact ⟨by omega, .inr ⟨by omega, h'.symm⟩⟩
      · rw [if_neg hc] at h'; cases h'

set_option maxHeartbeats 1000000 in
theorem validFigures_i (A : Option Addr) (n cap : Nat) (xs : List Fg) (w : World) (hn : xs.length = n) (hm : n ≤ maxLen) (hr : Row w w.heap.size 2 A n (fgc xs)) :
    Calls Try.prog 34 #[.slice A n cap] w fun e w' => e = .returned (.bool (figsOk xs)) ∧ Below w.heap.size w w' := by
  unfold maxLen at hm
  have HN := Lib.hid hn; clear hn
  go_enter Try.func34, Try.ntmps34
  go_wp2_with fail
  go_loopg [3, 8] n (fun k s i wr => ∃ (j : Nat) (l : Int), j ≤ n ∧ k = n - j ∧ i = .int .i64 j ∧ s = .int .i64 l ∧ Hid (figF (xs.take j) = some l) ∧ Below w.heap.size w wr)
  case atStart => exact ⟨0, 0, Nat.zero_le _, rfl, rfl, rfl, rfl, Below.refl _ _⟩
  case round =>
    obtain ⟨j, l, hj, hk, rfl, rfl, hl, hbel⟩ := hrel
    have HK := Lib.hid hk; clear hk
    have hsz := hbel.size
    by_cases hlt : j < n
    · obtain ⟨b, off, rfl, hb, hc⟩ := hr (by omega)
      have c0 : wr.cell? ⟨b, off + j * 2, none⟩ = _ := (hbel.cell (p := ⟨b, off + j * 2, none⟩) hb).trans (hc j 0 hlt (by omega))
      have c1 : wr.cell? ⟨b, off + j * 2 + 1, none⟩ = _ := (hbel.cell (p := ⟨b, off + j * 2 + 1, none⟩) hb).trans (hc j 1 hlt (by omega))
      obtain ⟨x, hx⟩ : ∃ x, xs.getD j default = x := ⟨_, rfl⟩
      simp only [fgc, hx] at c0 c1
      have Hx := Lib.hid hx; clear hx hc
      rcases hv1 : inR x.a 1 1000 with _ | _
      · have hb := figs_bad HN.out hlt Hx.out hl.out (by rw [hv1]; rfl)
        have HB := Lib.hid hb; clear hb
        go_wp2_with (go_at_call 42; refine (within_any _ _ _ _).mono ?_; rintro e w' ⟨rfl, rfl⟩)
        go_ret
        exact ⟨ret_bool HB.out.symm, by (repeat' (first | (with_reducible exact Below.refl _ _) | (with_reducible assumption) | (with_reducible refine Below.alloc ?_ ?_ _) | (with_reducible refine Below.drew ?_) | (with_reducible refine below_drewN ?_ _) | (with_reducible refine Below.setCell ?_ ?_ _) | (with_reducible refine below_then ?_ ?_ (by with_reducible assumption)) | (with_reducible exact Nat.le_refl _) | go_size | (simp only [*]; done)))⟩
      rcases hv2 : inR x.b l 11 with _ | _
      · have hb := figs_bad HN.out hlt Hx.out hl.out (by rw [hv1, hv2]; rfl)
        have HB := Lib.hid hb; clear hb
        go_wp2_with (go_at_call 42; refine (within_any _ _ _ _).mono ?_; rintro e w' ⟨rfl, rfl⟩)
        go_ret
        exact ⟨ret_bool HB.out.symm, by (repeat' (first | (with_reducible exact Below.refl _ _) | (with_reducible assumption) | (with_reducible refine Below.alloc ?_ ?_ _) | (with_reducible refine Below.drew ?_) | (with_reducible refine below_drewN ?_ _) | (with_reducible refine Below.setCell ?_ ?_ _) | (with_reducible refine below_then ?_ ?_ (by with_reducible assumption)) | (with_reducible exact Nat.le_refl _) | go_size | (simp only [*]; done)))⟩
      · have hb := figF_next HN.out hlt Hx.out hl.out
        rw [hv1, hv2] at hb
        have HB := Lib.hid hb; clear hb
        go_wp2_with (go_at_call 42; refine (within_any _ _ _ _).mono ?_; rintro e w' ⟨rfl, rfl⟩)
        go_roundg (n - (j + 1))
        case measure => have := HK.out; omega
        case rel => exact ⟨j + 1, x.b, by omega, rfl, by go_num, rfl, HB.out, by (repeat' (first | (with_reducible exact Below.refl _ _) | (with_reducible assumption) | (with_reducible refine Below.alloc ?_ ?_ _) | (with_reducible refine Below.drew ?_) | (with_reducible refine below_drewN ?_ _) | (with_reducible refine Below.setCell ?_ ?_ _) | (with_reducible refine below_then ?_ ?_ (by with_reducible assumption)) | (with_reducible exact Nat.le_refl _) | go_size | (simp only [*]; done)))⟩
    · have hb := figs_end HN.out (show n ≤ j by omega) hl.out
      have HB := Lib.hid hb; clear hb
      go_wp2_with fail
      go_ret
      exact ⟨ret_bool HB.out.symm, hbel⟩

theorem inRange_q (a l h : Int) (w : World) : Calls Try.prog 54 #[.int .i64 a, .int .i64 l, .int .i64 h] w fun e w' => e = .returned (.bool (inR a l h)) ∧ w' = w :=
  (inRange_any a l h w).mono fun _ _ ⟨h1, h2⟩ => ⟨h1, h2.symm⟩

set_option maxHeartbeats 2000000 in
theorem validFloats_s (A : Option Addr) (n cap : Nat) (xs : List Fg) (w : World) (hn : xs.length = n) (hm : n ≤ maxLen) (hr : Row w w.heap.size 2 A n (fgc xs)) :
    Calls Try.prog 56 #[.slice A n cap] w fun e w' => e = .returned (.bool (figsOk xs)) ∧ Below w.heap.size w w' := by
  unfold maxLen at hm
  have HN := Lib.hid hn; clear hn
  go_enter Try.func56, Try.ntmps56
  go_wp2_with fail
  go_loopg [3] n (fun k i wr => ∃ (j : Nat) (l : Int), j ≤ n ∧ k = n - j ∧ i = .int .i64 j ∧ Hid (figF (xs.take j) = some l) ∧ Below w.heap.size w wr)
  case atStart => exact ⟨0, 0, Nat.zero_le _, rfl, rfl, rfl, Below.refl _ _⟩
  case round =>
    obtain ⟨j, l, hj, hk, rfl, hl, hbel⟩ := hrel
    have HK := Lib.hid hk; clear hk
    have hsz := hbel.size
    by_cases hlt : j < n
    · obtain ⟨⟨l0, l1⟩, hlast⟩ := figF_last HN.out hj hl.out
      obtain ⟨b, off, rfl, hb, hc⟩ := hr (by omega)
      have c0 : wr.cell? ⟨b, off + j * 2, none⟩ = _ := (hbel.cell (p := ⟨b, off + j * 2, none⟩) hb).trans (hc j 0 hlt (by omega))
      have c1 : wr.cell? ⟨b, off + j * 2 + 1, none⟩ = _ := (hbel.cell (p := ⟨b, off + j * 2 + 1, none⟩) hb).trans (hc j 1 hlt (by omega))
      obtain ⟨x, hx⟩ : ∃ x, xs.getD j default = x := ⟨_, rfl⟩
      simp only [fgc, hx] at c0 c1
      have Hx := Lib.hid hx; clear hx
      have hlt' : (j : Int) < (n : Int) := by omega
      have hnn : (0 : Int) ≤ (j : Int) := by omega
      rcases hv1 : inR x.a 1 1000 with _ | _
      · have HB := Lib.hid (figs_bad HN.out hlt Hx.out hl.out (by rw [hv1]; rfl))
        clear hc hlast
        go_wp2_with fail
        go_quiet ((go_at_call 54; exact Calls.quiet_of_same (inRange_q _ _ _ _)))
        go_wp2_with fail
        go_ret
        exact ⟨ret_bool HB.out.symm, by (repeat' (first | (with_reducible exact Below.refl _ _) | (with_reducible assumption) | (with_reducible refine Below.alloc ?_ ?_ _) | (with_reducible refine Below.drew ?_) | (with_reducible refine below_drewN ?_ _) | (with_reducible refine Below.setCell ?_ ?_ _) | (with_reducible refine below_then ?_ ?_ (by with_reducible assumption)) | (with_reducible exact Nat.le_refl _) | go_size | (simp only [*]; done)))⟩
      rcases hv2 : inR x.b 0 11 with _ | _
      · have HB := Lib.hid (figs_bad HN.out hlt Hx.out hl.out (by
          have : inR x.b l 11 = false := inR_no.2 (by have := inR_no.1 hv2; omega)
          rw [hv1, this]; rfl))
        clear hc hlast
        go_wp2_with fail
        go_quiet ((go_at_call 54; exact Calls.quiet_of_same (inRange_q _ _ _ _)))
        go_wp2_with fail
        go_ret
        exact ⟨ret_bool HB.out.symm, by (repeat' (first | (with_reducible exact Below.refl _ _) | (with_reducible assumption) | (with_reducible refine Below.alloc ?_ ?_ _) | (with_reducible refine Below.drew ?_) | (with_reducible refine below_drewN ?_ _) | (with_reducible refine Below.setCell ?_ ?_ _) | (with_reducible refine below_then ?_ ?_ (by with_reducible assumption)) | (with_reducible exact Nat.le_refl _) | go_size | (simp only [*]; done)))⟩
      obtain ⟨b0, b1⟩ := inR_iff.1 hv2
      by_cases h0 : 0 < j
      · have d2 : decide ((0 : Int) < (j : Int)) = true := decide_eq_true (by omega)
        have hlb : l = (xs.getD (j - 1) default).b := by
          rcases hlast with ⟨h, _⟩ | ⟨_, h⟩
          · omega
          · exact h
        have e1 : wr.cell? ⟨b, off + (j - 1) * 2 + 1, none⟩ = _ := (hbel.cell (p := ⟨b, off + (j - 1) * 2 + 1, none⟩) hb).trans (hc (j - 1) 1 (by omega) (by omega))
        simp only [fgc, ← hlb] at e1
        have j1 : IntKind.i64.wrap ((j : Int) - 1) = (j : Int) - 1 := IntWalk.i64_in _ (by omega)
        have j2 : (0 : Int) ≤ (j : Int) - 1 := by omega
        have j3 : (j : Int) - 1 < (n : Int) := by omega
        have j4 : ((j : Int) - 1).toNat = j - 1 := by omega
        clear hc hlast hlb
        by_cases h3 : x.b < l
        · have d3 : decide (x.b < l) = true := decide_eq_true h3
          have HB := Lib.hid (figs_bad HN.out hlt Hx.out hl.out (by
            have : inR x.b l 11 = false := inR_no.2 (by omega)
            rw [hv1, this]; rfl))
          go_wp2_with fail
          go_quiet ((go_at_call 54; exact Calls.quiet_of_same (inRange_q _ _ _ _)))
          go_wp2_with fail
          go_ret
          exact ⟨ret_bool HB.out.symm, by (repeat' (first | (with_reducible exact Below.refl _ _) | (with_reducible assumption) | (with_reducible refine Below.alloc ?_ ?_ _) | (with_reducible refine Below.drew ?_) | (with_reducible refine below_drewN ?_ _) | (with_reducible refine Below.setCell ?_ ?_ _) | (with_reducible refine below_then ?_ ?_ (by with_reducible assumption)) | (with_reducible exact Nat.le_refl _) | go_size | (simp only [*]; done)))⟩
        · have d3 : decide (x.b < l) = false := decide_eq_false h3
          have hb := figF_next HN.out hlt Hx.out hl.out
          rw [hv1, show inR x.b l 11 = true from inR_mk (by omega) (by omega)] at hb
          have HB := Lib.hid hb; clear hb
          go_wp2_with fail
          go_quiet ((go_at_call 54; exact Calls.quiet_of_same (inRange_q _ _ _ _)))
          go_wp2_with fail
          go_roundg (n - (j + 1))
          case measure => have := HK.out; omega
          case rel => exact ⟨j + 1, x.b, by omega, rfl, by go_num, HB.out, by (repeat' (first | (with_reducible exact Below.refl _ _) | (with_reducible assumption) | (with_reducible refine Below.alloc ?_ ?_ _) | (with_reducible refine Below.drew ?_) | (with_reducible refine below_drewN ?_ _) | (with_reducible refine Below.setCell ?_ ?_ _) | (with_reducible refine below_then ?_ ?_ (by with_reducible assumption)) | (with_reducible exact Nat.le_refl _) | go_size | (simp only [*]; done)))⟩
      · have d2 : decide ((0 : Int) < (j : Int)) = false := decide_eq_false (by omega)
        have hl0 : l = 0 := by
          rcases hlast with ⟨_, h⟩ | ⟨h, _⟩
          · exact h
          · omega
        have hb := figF_next HN.out hlt Hx.out hl.out
        rw [hv1, show inR x.b l 11 = true from inR_mk (by omega) (by omega)] at hb
        have HB := Lib.hid hb; clear hb hc hlast hl0
        go_wp2_with fail
        go_quiet ((go_at_call 54; exact Calls.quiet_of_same (inRange_q _ _ _ _)))
        go_wp2_with fail
        go_roundg (n - (j + 1))
        case measure => have := HK.out; omega
        case rel => exact ⟨j + 1, x.b, by omega, rfl, by go_num, HB.out, by (repeat' (first | (with_reducible exact Below.refl _ _) | (with_reducible assumption) | (with_reducible refine Below.alloc ?_ ?_ _) | (with_reducible refine Below.drew ?_) | (with_reducible refine below_drewN ?_ _) | (with_reducible refine Below.setCell ?_ ?_ _) | (with_reducible refine below_then ?_ ?_ (by with_reducible assumption)) | (with_reducible exact Nat.le_refl _) | go_size | (simp only [*]; done)))⟩
    · have hb := figs_end HN.out (show n ≤ j by omega) hl.out
      have HB := Lib.hid hb; clear hb
      go_wp2_with fail
      go_ret
      exact ⟨ret_bool HB.out.symm, hbel⟩
theorem validFigures_s (A : Option Addr) (n cap : Nat) (xs : List Fg) (w : World) (hn : xs.length = n) (hm : n ≤ maxLen) (hr : Row w w.heap.size 2 A n (fgc xs)) :
    Calls Try.prog 32 #[.slice A n cap] w fun e w' => e = .returned (.bool (figsOk xs)) ∧ Below w.heap.size w w' := by
  go_enter Try.func32, Try.ntmps32
  go_wp2_with fail
  ((with_reducible refine (validFloats_s _ _ _ xs _ hn hm ?_).mono ?_); (exact hr); rintro e w1 ⟨rfl, hb⟩)
  go_wp2
  go_ret
  exact ⟨rfl, hb⟩
end Go.Proofs.Ytlgbeoghjjjlmaa
