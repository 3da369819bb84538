/- The laws on raised boxes answer true: FnRaiseBox, FnRaiseZero. Conditions: the code is a slice of bytes. -/
import Derived.Test.YtdbjjfjagalhbaaBoxDraw2
import Derived.Test.YtdbjjfjagalhbaaBoxRaise
import Derived.Test.YtdbjjfjagalhbaaBoxPlain2
namespace Go.Proofs.Ytdbjjfjagalhbaa
open Go.RowKit

set_option maxHeartbeats 2000000 in
theorem law_RaiseBox (A : Option Addr) (n cap : Nat) (cs : List Int) (w : World) (hc : Code w A n cap cs) :
    Calls Try.prog 7 #[.slice A n cap] w fun e w' => e = .returned (.bool true) ∧ Below w.heap.size w w' := by
  have hn := hc.1
  unfold maxLen at hn
  by_cases hbig : 1048576 < n
  · go_enter Try.func7, Try.ntmps7
    go_wp2
    go_returns
    exact ⟨rfl, Below.refl _ _⟩
  go_enter Try.func7, Try.ntmps7
  go_wp2_with fail
  ((with_reducible refine (DrawRaiseBox_any _ _ _ cs _ hc).mono ?_); rintro e w1 ⟨a, b, c, s, rfl, hb1⟩)
  have hz1 := hb1.size
  obtain ⟨⟨⟨p, q, r⟩, ok⟩, hx⟩ : ∃ r, raiseB ⟨a, b, c⟩ s = r := ⟨_, rfl⟩
  have HX := Lib.hid hx; clear hx
  go_wp2_with fail
  ((with_reducible refine (raise_i _ _ _ _ _).mono ?_); rintro e w2 ⟨rfl, hb2⟩)
  (have hz2 := hb2.size; (try simp at hz2); obtain ⟨hc2, hf2⟩ := bcell hb2; (try have hz_w1_0_w2 : w1.heap.size < w2.heap.size := by omega); (try have hz_w1_1_w2 : w1.heap.size + 1 < w2.heap.size := by omega); (try have hz_w1_2_w2 : w1.heap.size + 2 < w2.heap.size := by omega))
  rw [HX.out]
  go_wp2_with fail
  ((with_reducible refine (raise_s _ _ _ _ _).mono ?_); rintro e w3 ⟨rfl, hb3⟩)
  (have hz3 := hb3.size; (try simp at hz3); obtain ⟨hc3, hf3⟩ := bcell hb3; (try have hz_w1_0_w3 : w1.heap.size < w3.heap.size := by omega); (try have hz_w1_1_w3 : w1.heap.size + 1 < w3.heap.size := by omega); (try have hz_w1_2_w3 : w1.heap.size + 2 < w3.heap.size := by omega); (try have hz_w2_0_w3 : w2.heap.size < w3.heap.size := by omega); (try have hz_w2_1_w3 : w2.heap.size + 1 < w3.heap.size := by omega))
  rw [HX.out]
  cases ok
  · go_wp2_with fail
    all_goals (go_returns; exact ⟨rfl, by (repeat' (first | (with_reducible exact Below.refl _ _) | (with_reducible assumption) | (with_reducible refine Below.alloc ?_ ?_ _) | (with_reducible refine Below.drew ?_) | (with_reducible refine below_drewN ?_ _) | (with_reducible refine Below.setCell ?_ ?_ _) | (with_reducible refine below_then ?_ ?_ (by with_reducible assumption)) | (with_reducible exact Nat.le_refl _) | go_size | (simp only [*]; done)))⟩)
  · obtain ⟨s1, s2⟩ := (raise_true HX.out).2.1
    have t1 : p = a := (raise_true HX.out).2.2.2.1
    subst t1
    by_cases hq : q = 0
    · subst hq
      go_wp2_with fail
      all_goals (go_returns; exact ⟨rfl, by (repeat' (first | (with_reducible exact Below.refl _ _) | (with_reducible assumption) | (with_reducible refine Below.alloc ?_ ?_ _) | (with_reducible refine Below.drew ?_) | (with_reducible refine below_drewN ?_ _) | (with_reducible refine Below.setCell ?_ ?_ _) | (with_reducible refine below_then ?_ ?_ (by with_reducible assumption)) | (with_reducible exact Nat.le_refl _) | go_size | (simp only [*]; done)))⟩)
    by_cases hr : r = 0
    · subst hr
      have hq' : (q == 0) = false := by simp [hq]
      go_wp2_with fail
      all_goals (go_returns; exact ⟨rfl, by (repeat' (first | (with_reducible exact Below.refl _ _) | (with_reducible assumption) | (with_reducible refine Below.alloc ?_ ?_ _) | (with_reducible refine Below.drew ?_) | (with_reducible refine below_drewN ?_ _) | (with_reducible refine Below.setCell ?_ ?_ _) | (with_reducible refine below_then ?_ ?_ (by with_reducible assumption)) | (with_reducible exact Nat.le_refl _) | go_size | (simp only [*]; done)))⟩)
    have hq' : (q == 0) = false := by simp [hq]
    have hr' : (r == 0) = false := by simp [hr]
    obtain ⟨e1, _, e2⟩ := raise_back HX.out hq hr
    simp only at e2
    have E1 := Lib.hid e1
    have E2 := Lib.hid e2
    clear e1 e2 hq hr
    go_wp2_with fail
    ((with_reducible refine (raise_i _ _ _ _ _).mono ?_); rintro e w4 ⟨rfl, hb4⟩)
    (have hz4 := hb4.size; (try simp at hz4); obtain ⟨hc4, hf4⟩ := bcell hb4; (try have hz_w1_0_w4 : w1.heap.size < w4.heap.size := by omega); (try have hz_w1_1_w4 : w1.heap.size + 1 < w4.heap.size := by omega); (try have hz_w1_2_w4 : w1.heap.size + 2 < w4.heap.size := by omega); (try have hz_w2_0_w4 : w2.heap.size < w4.heap.size := by omega); (try have hz_w2_1_w4 : w2.heap.size + 1 < w4.heap.size := by omega); (try have hz_w3_0_w4 : w3.heap.size < w4.heap.size := by omega); (try have hz_w3_1_w4 : w3.heap.size + 1 < w4.heap.size := by omega))
    rw [E1.out]
    have e3 : (q + r == b + c) = true := by simp [E2.out]
    go_wp2_with fail
    all_goals (go_returns; first | exact ⟨rfl, by (repeat' (first | (with_reducible exact Below.refl _ _) | (with_reducible assumption) | (with_reducible refine Below.alloc ?_ ?_ _) | (with_reducible refine Below.drew ?_) | (with_reducible refine below_drewN ?_ _) | (with_reducible refine Below.setCell ?_ ?_ _) | (with_reducible refine below_then ?_ ?_ (by with_reducible assumption)) | (with_reducible exact Nat.le_refl _) | go_size | (simp only [*]; done)))⟩ | exact ⟨ret_bool (by have := E2.out; simp_all), by (repeat' (first | (with_reducible exact Below.refl _ _) | (with_reducible assumption) | (with_reducible refine Below.alloc ?_ ?_ _) | (with_reducible refine Below.drew ?_) | (with_reducible refine below_drewN ?_ _) | (with_reducible refine Below.setCell ?_ ?_ _) | (with_reducible refine below_then ?_ ?_ (by with_reducible assumption)) | (with_reducible exact Nat.le_refl _) | go_size | (simp only [*]; done)))⟩)

set_option maxHeartbeats 2000000 in
theorem law_RaiseZero (A : Option Addr) (n cap : Nat) (cs : List Int) (w : World) (hc : Code w A n cap cs) :
    Calls Try.prog 8 #[.slice A n cap] w fun e w' => e = .returned (.bool true) ∧ Below w.heap.size w w' := by
  have hn := hc.1
  unfold maxLen at hn
  by_cases hbig : 1048576 < n
  · go_enter Try.func8, Try.ntmps8
    go_wp2
    go_returns
    exact ⟨rfl, Below.refl _ _⟩
  go_enter Try.func8, Try.ntmps8
  go_wp2_with fail
  ((with_reducible refine (DrawRaiseBox_any _ _ _ cs _ hc).mono ?_); rintro e w1 ⟨a, b, c, s, rfl, hb1⟩)
  have hz1 := hb1.size
  obtain ⟨⟨⟨p, q, r⟩, ok⟩, hx⟩ : ∃ r, raiseB ⟨a, b, c⟩ s = r := ⟨_, rfl⟩
  have HX := Lib.hid hx; clear hx
  go_wp2_with fail
  ((with_reducible refine (raise_i _ _ _ _ _).mono ?_); rintro e w2 ⟨rfl, hb2⟩)
  (have hz2 := hb2.size; (try simp at hz2); obtain ⟨hc2, hf2⟩ := bcell hb2; (try have hz_w1_0_w2 : w1.heap.size < w2.heap.size := by omega); (try have hz_w1_1_w2 : w1.heap.size + 1 < w2.heap.size := by omega); (try have hz_w1_2_w2 : w1.heap.size + 2 < w2.heap.size := by omega))
  rw [HX.out]
  go_wp2_with fail
  ((with_reducible refine (raise_s _ _ _ _ _).mono ?_); rintro e w3 ⟨rfl, hb3⟩)
  (have hz3 := hb3.size; (try simp at hz3); obtain ⟨hc3, hf3⟩ := bcell hb3; (try have hz_w1_0_w3 : w1.heap.size < w3.heap.size := by omega); (try have hz_w1_1_w3 : w1.heap.size + 1 < w3.heap.size := by omega); (try have hz_w1_2_w3 : w1.heap.size + 2 < w3.heap.size := by omega); (try have hz_w2_0_w3 : w2.heap.size < w3.heap.size := by omega); (try have hz_w2_1_w3 : w2.heap.size + 1 < w3.heap.size := by omega))
  rw [HX.out]
  rcases hv : vBox a b c with _ | _
  · have HV := Lib.hid hv; clear hv
    go_wp2_with fail
    ((with_reducible refine (validBox_i _ _ _ _).mono ?_); rintro e w4 ⟨rfl, hb4⟩)
    (have hz4 := hb4.size; (try simp at hz4); obtain ⟨hc4, hf4⟩ := bcell hb4; (try have hz_w1_0_w4 : w1.heap.size < w4.heap.size := by omega); (try have hz_w1_1_w4 : w1.heap.size + 1 < w4.heap.size := by omega); (try have hz_w1_2_w4 : w1.heap.size + 2 < w4.heap.size := by omega); (try have hz_w2_0_w4 : w2.heap.size < w4.heap.size := by omega); (try have hz_w2_1_w4 : w2.heap.size + 1 < w4.heap.size := by omega); (try have hz_w3_0_w4 : w3.heap.size < w4.heap.size := by omega); (try have hz_w3_1_w4 : w3.heap.size + 1 < w4.heap.size := by omega))
    rw [HV.out]
    go_wp2_with fail
    all_goals (go_returns; exact ⟨rfl, by (repeat' (first | (with_reducible exact Below.refl _ _) | (with_reducible assumption) | (with_reducible refine Below.alloc ?_ ?_ _) | (with_reducible refine Below.drew ?_) | (with_reducible refine below_drewN ?_ _) | (with_reducible refine Below.setCell ?_ ?_ _) | (with_reducible refine below_then ?_ ?_ (by with_reducible assumption)) | (with_reducible exact Nat.le_refl _) | go_size | (simp only [*]; done)))⟩)
  · have e1 := raise_zero hv
    have E1 := Lib.hid e1
    have HV := Lib.hid hv
    clear e1 hv
    go_wp2_with fail
    ((with_reducible refine (validBox_i _ _ _ _).mono ?_); rintro e w4 ⟨rfl, hb4⟩)
    (have hz4 := hb4.size; (try simp at hz4); obtain ⟨hc4, hf4⟩ := bcell hb4; (try have hz_w1_0_w4 : w1.heap.size < w4.heap.size := by omega); (try have hz_w1_1_w4 : w1.heap.size + 1 < w4.heap.size := by omega); (try have hz_w1_2_w4 : w1.heap.size + 2 < w4.heap.size := by omega); (try have hz_w2_0_w4 : w2.heap.size < w4.heap.size := by omega); (try have hz_w2_1_w4 : w2.heap.size + 1 < w4.heap.size := by omega); (try have hz_w3_0_w4 : w3.heap.size < w4.heap.size := by omega); (try have hz_w3_1_w4 : w3.heap.size + 1 < w4.heap.size := by omega))
    rw [HV.out]
    go_wp2_with fail
    ((with_reducible refine (raise_i _ _ _ _ _).mono ?_); rintro e w5 ⟨rfl, hb5⟩)
    (have hz5 := hb5.size; (try simp at hz5); obtain ⟨hc5, hf5⟩ := bcell hb5; (try have hz_w1_0_w5 : w1.heap.size < w5.heap.size := by omega); (try have hz_w1_1_w5 : w1.heap.size + 1 < w5.heap.size := by omega); (try have hz_w1_2_w5 : w1.heap.size + 2 < w5.heap.size := by omega); (try have hz_w2_0_w5 : w2.heap.size < w5.heap.size := by omega); (try have hz_w2_1_w5 : w2.heap.size + 1 < w5.heap.size := by omega); (try have hz_w3_0_w5 : w3.heap.size < w5.heap.size := by omega); (try have hz_w3_1_w5 : w3.heap.size + 1 < w5.heap.size := by omega))
    rw [E1.out]
    go_wp2_with fail
    all_goals (go_returns; exact ⟨rfl, by (repeat' (first | (with_reducible exact Below.refl _ _) | (with_reducible assumption) | (with_reducible refine Below.alloc ?_ ?_ _) | (with_reducible refine Below.drew ?_) | (with_reducible refine below_drewN ?_ _) | (with_reducible refine Below.setCell ?_ ?_ _) | (with_reducible refine below_then ?_ ?_ (by with_reducible assumption)) | (with_reducible exact Nat.le_refl _) | go_size | (simp only [*]; done)))⟩)
end Go.Proofs.Ytdbjjfjagalhbaa
