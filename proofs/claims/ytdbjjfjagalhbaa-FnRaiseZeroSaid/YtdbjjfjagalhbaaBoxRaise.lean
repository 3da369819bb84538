/- RaiseBox of the program and of the reference returns what the plain function says; the laws on single boxes that only compare the two answer true. No condition. -/
import Derived.Test.YtdbjjfjagalhbaaBoxWalk2
import Derived.Deep.RegionHeld3
namespace Go.Proofs.Ytdbjjfjagalhbaa
open Go.RowKit

theorem raise_i (a b c n : Int) (w : World) :
    Calls Try.prog 21 #[.agg #[.int .i64 a, .int .i64 b, .int .i64 c], .int .i64 n] w fun e w' => e = .returned (.tuple #[.agg #[.int .i64 ((raiseB ⟨a, b, c⟩ n).1).w, .int .i64 ((raiseB ⟨a, b, c⟩ n).1).h, .int .i64 ((raiseB ⟨a, b, c⟩ n).1).d], .bool (raiseB ⟨a, b, c⟩ n).2]) ∧ Below w.heap.size w w' := by
  rcases hv : (vBox a b c && inR n (-10000) 10000) with _ | _
  · have hx : raiseB ⟨a, b, c⟩ n = (⟨0, 0, 0⟩, false) := by simp only [raiseB, Bx.ok, hv]; rfl
    rw [hx]; clear hx
    have Hv := Lib.hid hv; clear hv
    by_cases hv1 : vBox a b c = true <;> by_cases hv2 : inR n (-10000) 10000 = true
    all_goals first
      | (exfalso; have hv := Hv.out; simp_all; done)
      | (simp only [Bool.not_eq_true] at hv1 hv2
         go_enter Try.func21, Try.ntmps21
         go_wp2_with (first | (go_at_call 17; refine (validBox_i _ _ _ _).mono ?_; rintro e w1 ⟨rfl, hb⟩; (have hz := hb.size; (try simp at hz); obtain ⟨hc, hf⟩ := bcell hb; (try have hzw0 : w.heap.size < w1.heap.size := by omega); (try have hzw1 : w.heap.size + 1 < w1.heap.size := by omega); (try have hzw2 : w.heap.size + 2 < w1.heap.size := by omega); (try have hzw3 : w.heap.size + 3 < w1.heap.size := by omega))) | (go_at_call 35; refine (within_any _ _ _ _).mono ?_; rintro e w' ⟨rfl, rfl⟩))
         (first | go_returns | (refine bodyPost_ret (by simp [results, Try.results21, go_sem, *]; try rfl) rfl ?_))
         exact ⟨rfl, by (repeat' (first | (with_reducible exact Below.refl _ _) | (with_reducible assumption) | (with_reducible refine Below.alloc ?_ ?_ _) | (with_reducible refine Below.drew ?_) | (with_reducible refine below_drewN ?_ _) | (with_reducible refine Below.setCell ?_ ?_ _) | (with_reducible refine below_then ?_ ?_ (by with_reducible assumption)) | (with_reducible exact Nat.le_refl _) | go_size | (simp only [*]; done)))⟩)
  · have hx : raiseB ⟨a, b, c⟩ n = chk ⟨a, max 0 (b + n), max 0 (c - n)⟩ := by simp only [raiseB, Bx.ok, hv]; rfl
    rw [hx]; clear hx
    simp only [Bool.and_eq_true] at hv
    obtain ⟨hv1, hv2⟩ := hv
    obtain ⟨⟨g1, g2⟩, ⟨g3, g4⟩, g5, g6⟩ := vBox_iff.1 hv1
    obtain ⟨g7, g8⟩ := inR_iff.1 hv2
    go_enter Try.func21, Try.ntmps21
    go_wp2_with (first | (go_at_call 17; refine (validBox_i _ _ _ _).mono ?_; rintro e w1 ⟨rfl, hb⟩; (have hz := hb.size; (try simp at hz); obtain ⟨hc, hf⟩ := bcell hb; (try have hzw0 : w.heap.size < w1.heap.size := by omega); (try have hzw1 : w.heap.size + 1 < w1.heap.size := by omega); (try have hzw2 : w.heap.size + 2 < w1.heap.size := by omega); (try have hzw3 : w.heap.size + 3 < w1.heap.size := by omega))) | (go_at_call 35; refine (within_any _ _ _ _).mono ?_; rintro e w' ⟨rfl, rfl⟩) | (go_at_call 39; refine (checked_i _ _ _ _).mono ?_; rintro e w1 ⟨rfl, hb⟩; (have hz := hb.size; (try simp at hz); obtain ⟨hc, hf⟩ := bcell hb; (try have hzw0 : w.heap.size < w1.heap.size := by omega); (try have hzw1 : w.heap.size + 1 < w1.heap.size := by omega); (try have hzw2 : w.heap.size + 2 < w1.heap.size := by omega); (try have hzw3 : w.heap.size + 3 < w1.heap.size := by omega))))
    all_goals
      (first | go_returns | (refine bodyPost_ret (by simp [results, Try.results21, go_sem, *]; try rfl) rfl ?_))
      refine ⟨?_, by (repeat' (first | (with_reducible exact Below.refl _ _) | (with_reducible assumption) | (with_reducible refine Below.alloc ?_ ?_ _) | (with_reducible refine Below.drew ?_) | (with_reducible refine below_drewN ?_ _) | (with_reducible refine Below.setCell ?_ ?_ _) | (with_reducible refine below_then ?_ ?_ (by with_reducible assumption)) | (with_reducible exact Nat.le_refl _) | go_size | (simp only [*]; done)))⟩
      first | rw [Int.max_eq_left (by omega : b + n ≤ 0)] | rw [Int.max_eq_right (by omega : 0 ≤ b + n)]
      first | rw [Int.max_eq_left (by omega : c - n ≤ 0)] | rw [Int.max_eq_right (by omega : 0 ≤ c - n)]

theorem raise_s (a b c n : Int) (w : World) :
    Calls Try.prog 20 #[.agg #[.int .i64 a, .int .i64 b, .int .i64 c], .int .i64 n] w fun e w' => e = .returned (.tuple #[.agg #[.int .i64 ((raiseB ⟨a, b, c⟩ n).1).w, .int .i64 ((raiseB ⟨a, b, c⟩ n).1).h, .int .i64 ((raiseB ⟨a, b, c⟩ n).1).d], .bool (raiseB ⟨a, b, c⟩ n).2]) ∧ Below w.heap.size w w' := by
  rcases hv : (vBox a b c && inR n (-10000) 10000) with _ | _
  · have hx : raiseB ⟨a, b, c⟩ n = (⟨0, 0, 0⟩, false) := by simp only [raiseB, Bx.ok, hv]; rfl
    rw [hx]; clear hx
    have Hv := Lib.hid hv; clear hv
    by_cases hv1 : vBox a b c = true <;> by_cases hv2 : inR n (-10000) 10000 = true
    all_goals first
      | (exfalso; have hv := Hv.out; simp_all; done)
      | (simp only [Bool.not_eq_true] at hv1 hv2
         go_enter Try.func20, Try.ntmps20
         go_wp2_with (first | (go_at_call 34; refine (validBox_s _ _ _ _).mono ?_; rintro e w1 ⟨rfl, hb⟩; (have hz := hb.size; (try simp at hz); obtain ⟨hc, hf⟩ := bcell hb; (try have hzw0 : w.heap.size < w1.heap.size := by omega); (try have hzw1 : w.heap.size + 1 < w1.heap.size := by omega); (try have hzw2 : w.heap.size + 2 < w1.heap.size := by omega); (try have hzw3 : w.heap.size + 3 < w1.heap.size := by omega))) | (go_at_call 36; refine (inRange_any _ _ _ _).mono ?_; rintro e w' ⟨rfl, rfl⟩))
         (first | go_returns | (refine bodyPost_ret (by simp [results, Try.results20, go_sem, *]; try rfl) rfl ?_))
         exact ⟨rfl, by (repeat' (first | (with_reducible exact Below.refl _ _) | (with_reducible assumption) | (with_reducible refine Below.alloc ?_ ?_ _) | (with_reducible refine Below.drew ?_) | (with_reducible refine below_drewN ?_ _) | (with_reducible refine Below.setCell ?_ ?_ _) | (with_reducible refine below_then ?_ ?_ (by with_reducible assumption)) | (with_reducible exact Nat.le_refl _) | go_size | (simp only [*]; done)))⟩)
  · have hx : raiseB ⟨a, b, c⟩ n = chk ⟨a, max 0 (b + n), max 0 (c - n)⟩ := by simp only [raiseB, Bx.ok, hv]; rfl
    rw [hx]; clear hx
    simp only [Bool.and_eq_true] at hv
    obtain ⟨hv1, hv2⟩ := hv
    obtain ⟨⟨g1, g2⟩, ⟨g3, g4⟩, g5, g6⟩ := vBox_iff.1 hv1
    obtain ⟨g7, g8⟩ := inR_iff.1 hv2
    go_enter Try.func20, Try.ntmps20
    go_wp2_with (first | (go_at_call 34; refine (validBox_s _ _ _ _).mono ?_; rintro e w1 ⟨rfl, hb⟩; (have hz := hb.size; (try simp at hz); obtain ⟨hc, hf⟩ := bcell hb; (try have hzw0 : w.heap.size < w1.heap.size := by omega); (try have hzw1 : w.heap.size + 1 < w1.heap.size := by omega); (try have hzw2 : w.heap.size + 2 < w1.heap.size := by omega); (try have hzw3 : w.heap.size + 3 < w1.heap.size := by omega))) | (go_at_call 36; refine (inRange_any _ _ _ _).mono ?_; rintro e w' ⟨rfl, rfl⟩) | (go_at_call 38; refine (checked_s _ _ _ _).mono ?_; rintro e w1 ⟨rfl, hb⟩; (have hz := hb.size; (try simp at hz); obtain ⟨hc, hf⟩ := bcell hb; (try have hzw0 : w.heap.size < w1.heap.size := by omega); (try have hzw1 : w.heap.size + 1 < w1.heap.size := by omega); (try have hzw2 : w.heap.size + 2 < w1.heap.size := by omega); (try have hzw3 : w.heap.size + 3 < w1.heap.size := by omega))))
    all_goals
      (first | go_returns | (refine bodyPost_ret (by simp [results, Try.results20, go_sem, *]; try rfl) rfl ?_))
      refine ⟨?_, by (repeat' (first | (with_reducible exact Below.refl _ _) | (with_reducible assumption) | (with_reducible refine Below.alloc ?_ ?_ _) | (with_reducible refine Below.drew ?_) | (with_reducible refine below_drewN ?_ _) | (with_reducible refine Below.setCell ?_ ?_ _) | (with_reducible refine below_then ?_ ?_ (by with_reducible assumption)) | (with_reducible exact Nat.le_refl _) | go_size | (simp only [*]; done)))⟩
      first | rw [Int.max_eq_left (by omega : b + n ≤ 0)] | rw [Int.max_eq_right (by omega : 0 ≤ b + n)]
      first | rw [Int.max_eq_left (by omega : c - n ≤ 0)] | rw [Int.max_eq_right (by omega : 0 ≤ c - n)]

theorem law_ExactValidBox (a b c : Int) (w : World) :
    Calls Try.prog 3 #[.agg #[.int .i64 a, .int .i64 b, .int .i64 c]] w fun e w' => e = .returned (.bool true) ∧ Below w.heap.size w w' := by
  go_enter Try.func3, Try.ntmps3
  go_wp2_with (first | (go_at_call 16; refine (toBox_any _ _ _ _).mono ?_; rintro e w1 ⟨rfl, hb⟩; (have hz := hb.size; (try simp at hz); obtain ⟨hc, hf⟩ := bcell hb; (try have hzw0 : w.heap.size < w1.heap.size := by omega); (try have hzw1 : w.heap.size + 1 < w1.heap.size := by omega))) | (go_at_call 15; refine (validBox_S _ _ _ _).mono ?_; rintro e w1 ⟨rfl, hb⟩; (have hz := hb.size; (try simp at hz); obtain ⟨hc, hf⟩ := bcell hb; (try have hzw0 : w.heap.size < w1.heap.size := by omega); (try have hzw1 : w.heap.size + 1 < w1.heap.size := by omega))) | (go_at_call 17; refine (validBox_i _ _ _ _).mono ?_; rintro e w1 ⟨rfl, hb⟩; (have hz := hb.size; (try simp at hz); obtain ⟨hc, hf⟩ := bcell hb; (try have hzw0 : w.heap.size < w1.heap.size := by omega); (try have hzw1 : w.heap.size + 1 < w1.heap.size := by omega))))
  go_returns
  exact ⟨rfl, by (repeat' (first | (with_reducible exact Below.refl _ _) | (with_reducible assumption) | (with_reducible refine Below.alloc ?_ ?_ _) | (with_reducible refine Below.drew ?_) | (with_reducible refine below_drewN ?_ _) | (with_reducible refine Below.setCell ?_ ?_ _) | (with_reducible refine below_then ?_ ?_ (by with_reducible assumption)) | (with_reducible exact Nat.le_refl _) | go_size | (simp only [*]; done)))⟩
set_option maxHeartbeats 1000000 in
theorem law_ExactInterline (a b c x y z s : Int) (w : World) :
    Calls Try.prog 4 #[.agg #[.int .i64 a, .int .i64 b, .int .i64 c], .agg #[.int .i64 x, .int .i64 y, .int .i64 z], .int .i64 s] w fun e w' => e = .returned (.bool true) ∧ Below w.heap.size w w' := by
  go_enter Try.func4, Try.ntmps4
  go_wp2_with fail
  go_region_held3 (fun w' => w'.cell? ⟨w.heap.size, 0, none⟩ = some (.int .i64 a) ∧ w'.cell? ⟨w.heap.size, 1, none⟩ = some (.int .i64 b) ∧ w'.cell? ⟨w.heap.size, 2, none⟩ = some (.int .i64 c) ∧ w'.cell? ⟨w.heap.size + 1, 0, none⟩ = some (.int .i64 x) ∧ w'.cell? ⟨w.heap.size + 1, 1, none⟩ = some (.int .i64 y) ∧ w'.cell? ⟨w.heap.size + 1, 2, none⟩ = some (.int .i64 z) ∧ w.heap.size < w'.heap.size ∧ w.heap.size + 1 < w'.heap.size ∧ Below w.heap.size w w') (first | (refine ⟨?_, ?_, ?_, ?_, ?_, ?_, ?_, ?_, ?_⟩ <;> first | (simp [*, go_sem]; done) | omega | (simp; omega) | (repeat' (first | (with_reducible exact Below.refl _ _) | (with_reducible assumption) | (with_reducible refine Below.alloc ?_ ?_ _) | (with_reducible refine Below.drew ?_) | (with_reducible refine below_drewN ?_ _) | (with_reducible refine Below.setCell ?_ ?_ _) | (with_reducible refine below_then ?_ ?_ (by with_reducible assumption)) | (with_reducible exact Nat.le_refl _) | go_size | (simp only [*]; done))))) (first | (go_at_call 16; refine (toBox_any _ _ _ _).mono ?_; rintro e w' ⟨rfl, hb⟩; have hz := hb.size; obtain ⟨hc, hf⟩ := bcell hb) | (go_at_call 18; refine (interline_S _ _ _ _ _ _ _ _).mono ?_; rintro e w' ⟨rfl, hb⟩; have hz := hb.size; obtain ⟨hc, hf⟩ := bcell hb))
  go_wp2_with fail
  go_region_held3 (fun w' => w'.cell? ⟨w.heap.size, 0, none⟩ = some (.int .i64 a) ∧ w'.cell? ⟨w.heap.size, 1, none⟩ = some (.int .i64 b) ∧ w'.cell? ⟨w.heap.size, 2, none⟩ = some (.int .i64 c) ∧ w'.cell? ⟨w.heap.size + 1, 0, none⟩ = some (.int .i64 x) ∧ w'.cell? ⟨w.heap.size + 1, 1, none⟩ = some (.int .i64 y) ∧ w'.cell? ⟨w.heap.size + 1, 2, none⟩ = some (.int .i64 z) ∧ w.heap.size < w'.heap.size ∧ w.heap.size + 1 < w'.heap.size ∧ Below w.heap.size w w') (first | (refine ⟨?_, ?_, ?_, ?_, ?_, ?_, ?_, ?_, ?_⟩ <;> first | (simp [*, go_sem]; done) | omega | (simp; omega) | (repeat' (first | (with_reducible exact Below.refl _ _) | (with_reducible assumption) | (with_reducible refine Below.alloc ?_ ?_ _) | (with_reducible refine Below.drew ?_) | (with_reducible refine below_drewN ?_ _) | (with_reducible refine Below.setCell ?_ ?_ _) | (with_reducible refine below_then ?_ ?_ (by with_reducible assumption)) | (with_reducible exact Nat.le_refl _) | go_size | (simp only [*]; done))))) (first | (go_at_call 16; refine (toBox_any _ _ _ _).mono ?_; rintro e w' ⟨rfl, hb⟩; have hz := hb.size; obtain ⟨hc, hf⟩ := bcell hb) | (go_at_call 19; refine (interline_i _ _ _ _ _ _ _ _).mono ?_; rintro e w' ⟨rfl, hb⟩; have hz := hb.size; obtain ⟨hc, hf⟩ := bcell hb))
  go_wp2
  go_returns
  exact ⟨rfl, by (repeat' (first | (with_reducible exact Below.refl _ _) | (with_reducible assumption) | (with_reducible refine Below.alloc ?_ ?_ _) | (with_reducible refine Below.drew ?_) | (with_reducible refine below_drewN ?_ _) | (with_reducible refine Below.setCell ?_ ?_ _) | (with_reducible refine below_then ?_ ?_ (by with_reducible assumption)) | (with_reducible exact Nat.le_refl _) | go_size | (simp only [*]; done)))⟩
set_option maxHeartbeats 1000000 in
theorem law_ExactRaiseBox (a b c n : Int) (w : World) :
    Calls Try.prog 5 #[.agg #[.int .i64 a, .int .i64 b, .int .i64 c], .int .i64 n] w fun e w' => e = .returned (.bool true) ∧ Below w.heap.size w w' := by
  go_enter Try.func5, Try.ntmps5
  go_wp2_with fail
  ((with_reducible refine (toBox_any _ _ _ _).mono ?_); rintro e w1 ⟨rfl, hb1⟩)
  (have hz1 := hb1.size; (try simp at hz1); obtain ⟨hc1, hf1⟩ := bcell hb1; (try have hz_w_0_w1 : w.heap.size < w1.heap.size := by omega); (try have hz_w_1_w1 : w.heap.size + 1 < w1.heap.size := by omega))
  go_wp2_with fail
  ((with_reducible refine (raise_s _ _ _ _ _).mono ?_); rintro e w2 ⟨rfl, hb2⟩)
  (have hz2 := hb2.size; (try simp at hz2); obtain ⟨hc2, hf2⟩ := bcell hb2; (try have hz_w_0_w2 : w.heap.size < w2.heap.size := by omega); (try have hz_w_1_w2 : w.heap.size + 1 < w2.heap.size := by omega); (try have hz_w1_0_w2 : w1.heap.size < w2.heap.size := by omega); (try have hz_w1_1_w2 : w1.heap.size + 1 < w2.heap.size := by omega))
  go_wp2_with fail
  ((with_reducible refine (toBox_any _ _ _ _).mono ?_); rintro e w3 ⟨rfl, hb3⟩)
  (have hz3 := hb3.size; (try simp at hz3); obtain ⟨hc3, hf3⟩ := bcell hb3; (try have hz_w_0_w3 : w.heap.size < w3.heap.size := by omega); (try have hz_w_1_w3 : w.heap.size + 1 < w3.heap.size := by omega); (try have hz_w1_0_w3 : w1.heap.size < w3.heap.size := by omega); (try have hz_w1_1_w3 : w1.heap.size + 1 < w3.heap.size := by omega); (try have hz_w2_0_w3 : w2.heap.size < w3.heap.size := by omega); (try have hz_w2_1_w3 : w2.heap.size + 1 < w3.heap.size := by omega))
  go_wp2_with fail
  ((with_reducible refine (raise_i _ _ _ _ _).mono ?_); rintro e w4 ⟨rfl, hb4⟩)
  (have hz4 := hb4.size; (try simp at hz4); obtain ⟨hc4, hf4⟩ := bcell hb4; (try have hz_w_0_w4 : w.heap.size < w4.heap.size := by omega); (try have hz_w_1_w4 : w.heap.size + 1 < w4.heap.size := by omega); (try have hz_w1_0_w4 : w1.heap.size < w4.heap.size := by omega); (try have hz_w1_1_w4 : w1.heap.size + 1 < w4.heap.size := by omega); (try have hz_w2_0_w4 : w2.heap.size < w4.heap.size := by omega); (try have hz_w2_1_w4 : w2.heap.size + 1 < w4.heap.size := by omega); (try have hz_w3_0_w4 : w3.heap.size < w4.heap.size := by omega); (try have hz_w3_1_w4 : w3.heap.size + 1 < w4.heap.size := by omega))
  go_wp2_with fail
  ((with_reducible refine (eqBox_same _ _ _ _).mono ?_); rintro e w5 ⟨rfl, hb5⟩)
  (have hz5 := hb5.size; (try simp at hz5); obtain ⟨hc5, hf5⟩ := bcell hb5; (try have hz_w_0_w5 : w.heap.size < w5.heap.size := by omega); (try have hz_w_1_w5 : w.heap.size + 1 < w5.heap.size := by omega); (try have hz_w1_0_w5 : w1.heap.size < w5.heap.size := by omega); (try have hz_w1_1_w5 : w1.heap.size + 1 < w5.heap.size := by omega); (try have hz_w2_0_w5 : w2.heap.size < w5.heap.size := by omega); (try have hz_w2_1_w5 : w2.heap.size + 1 < w5.heap.size := by omega); (try have hz_w3_0_w5 : w3.heap.size < w5.heap.size := by omega); (try have hz_w3_1_w5 : w3.heap.size + 1 < w5.heap.size := by omega); (try have hz_w4_0_w5 : w4.heap.size < w5.heap.size := by omega); (try have hz_w4_1_w5 : w4.heap.size + 1 < w5.heap.size := by omega))
  go_wp2
  go_returns
  exact ⟨rfl, by (repeat' (first | (with_reducible exact Below.refl _ _) | (with_reducible assumption) | (with_reducible refine Below.alloc ?_ ?_ _) | (with_reducible refine Below.drew ?_) | (with_reducible refine below_drewN ?_ _) | (with_reducible refine Below.setCell ?_ ?_ _) | (with_reducible refine below_then ?_ ?_ (by with_reducible assumption)) | (with_reducible exact Nat.le_refl _) | go_size | (simp only [*]; done)))⟩
end Go.Proofs.Ytdbjjfjagalhbaa
