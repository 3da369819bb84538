/- Interline, RaiseBox and checkedBox, of the program and of the reference; toBox and eqBox: they return what the plain functions say. No condition. -/
import Derived.Test.YtdbjjfjagalhbaaBoxWalk
namespace Go.Proofs.Ytdbjjfjagalhbaa
open Go.RowKit

theorem toBox_any (a b c : Int) (w : World) :
    Calls Try.prog 16 #[.agg #[.int .i64 a, .int .i64 b, .int .i64 c]] w fun e w' => e = .returned (.agg #[.int .i64 a, .int .i64 b, .int .i64 c]) ∧ Below w.heap.size w w' := by
  go_enter Try.func16, Try.ntmps16
  go_wp2
  go_returns
  exact ⟨rfl, by (repeat' (first | (with_reducible exact Below.refl _ _) | (with_reducible assumption) | (with_reducible refine Below.alloc ?_ ?_ _) | (with_reducible refine Below.drew ?_) | (with_reducible refine below_drewN ?_ _) | (with_reducible refine Below.setCell ?_ ?_ _) | (with_reducible refine below_then ?_ ?_ (by with_reducible assumption)) | (with_reducible exact Nat.le_refl _) | go_size | (simp only [*]; done)))⟩
theorem eqBox_same (a b c : Int) (w : World) :
    Calls Try.prog 22 #[.agg #[.int .i64 a, .int .i64 b, .int .i64 c], .agg #[.int .i64 a, .int .i64 b, .int .i64 c]] w fun e w' => e = .returned (.bool true) ∧ Below w.heap.size w w' := by
  go_enter Try.func22, Try.ntmps22
  go_wp2
  go_returns
  exact ⟨rfl, by (repeat' (first | (with_reducible exact Below.refl _ _) | (with_reducible assumption) | (with_reducible refine Below.alloc ?_ ?_ _) | (with_reducible refine Below.drew ?_) | (with_reducible refine below_drewN ?_ _) | (with_reducible refine Below.setCell ?_ ?_ _) | (with_reducible refine below_then ?_ ?_ (by with_reducible assumption)) | (with_reducible exact Nat.le_refl _) | go_size | (simp only [*]; done)))⟩

/-- spec.interline. -/
theorem interline_s (a1 a2 a3 b1 b2 b3 s : Int) (h1 : 0 ≤ a3) (h2 : a3 ≤ 10000) (h3 : 0 ≤ b2) (h4 : b2 ≤ 10000) (h5 : 0 ≤ s) (h6 : s ≤ 10000) (w : World) :
    Calls Try.prog 37 #[.agg #[.int .i64 a1, .int .i64 a2, .int .i64 a3], .agg #[.int .i64 b1, .int .i64 b2, .int .i64 b3], .int .i64 s] w fun e w' => e = .returned (.int .i64 (interl a3 b2 s)) ∧ Below w.heap.size w w' := by
  go_enter Try.func37, Try.ntmps37
  go_wp2
  all_goals (go_returns; exact ⟨ret_int (by unfold interl; omega), by (repeat' (first | (with_reducible exact Below.refl _ _) | (with_reducible assumption) | (with_reducible refine Below.alloc ?_ ?_ _) | (with_reducible refine Below.drew ?_) | (with_reducible refine below_drewN ?_ _) | (with_reducible refine Below.setCell ?_ ?_ _) | (with_reducible refine below_then ?_ ?_ (by with_reducible assumption)) | (with_reducible exact Nat.le_refl _) | go_size | (simp only [*]; done)))⟩)

theorem interline_i (a1 a2 a3 b1 b2 b3 s : Int) (w : World) :
    Calls Try.prog 19 #[.agg #[.int .i64 a1, .int .i64 a2, .int .i64 a3], .agg #[.int .i64 b1, .int .i64 b2, .int .i64 b3], .int .i64 s] w fun e w' => e = .returned (.int .i64 (interlV a1 a2 a3 b1 b2 b3 s)) ∧ Below w.heap.size w w' := by
  rcases hv : (vBox a1 a2 a3 && vBox b1 b2 b3 && inR s 0 10000) with _ | _
  · have hx : interlV a1 a2 a3 b1 b2 b3 s = -1 := by simp only [interlV, hv]; rfl
    rw [hx]; clear hx
    have Hv := Lib.hid hv; clear hv
    go_enter Try.func19, Try.ntmps19
    go_wp2_with (first | (go_at_call 17; refine (validBox_i _ _ _ _).mono ?_; rintro e w1 ⟨rfl, hb⟩; (have hz := hb.size; (try simp at hz); obtain ⟨hc, hf⟩ := bcell hb; (try have hzw0 : w.heap.size < w1.heap.size := by omega); (try have hzw1 : w.heap.size + 1 < w1.heap.size := by omega))) | (go_at_call 35; refine (within_any _ _ _ _).mono ?_; rintro e w' ⟨rfl, rfl⟩))
    all_goals first | (go_returns; exact ⟨rfl, by (repeat' (first | (with_reducible exact Below.refl _ _) | (with_reducible assumption) | (with_reducible refine Below.alloc ?_ ?_ _) | (with_reducible refine Below.drew ?_) | (with_reducible refine below_drewN ?_ _) | (with_reducible refine Below.setCell ?_ ?_ _) | (with_reducible refine below_then ?_ ?_ (by with_reducible assumption)) | (with_reducible exact Nat.le_refl _) | go_size | (simp only [*]; done)))⟩) | (exfalso; have hv := Hv.out; simp_all; done)
  · have hx : interlV a1 a2 a3 b1 b2 b3 s = interl a3 b2 s := by simp only [interlV, hv]; rfl
    rw [hx]; clear hx
    simp only [Bool.and_eq_true] at hv
    obtain ⟨⟨hv1, hv2⟩, hv3⟩ := hv
    obtain ⟨_, _, g1, g2⟩ := vBox_iff.1 hv1
    obtain ⟨_, ⟨g3, g4⟩, _⟩ := vBox_iff.1 hv2
    obtain ⟨g5, g6⟩ := inR_iff.1 hv3
    go_enter Try.func19, Try.ntmps19
    go_wp2_with (first | (go_at_call 17; refine (validBox_i _ _ _ _).mono ?_; rintro e w1 ⟨rfl, hb⟩; (have hz := hb.size; (try simp at hz); obtain ⟨hc, hf⟩ := bcell hb; (try have hzw0 : w.heap.size < w1.heap.size := by omega); (try have hzw1 : w.heap.size + 1 < w1.heap.size := by omega))) | (go_at_call 35; refine (within_any _ _ _ _).mono ?_; rintro e w' ⟨rfl, rfl⟩))
    all_goals (go_returns; exact ⟨ret_int (by unfold interl; omega), by (repeat' (first | (with_reducible exact Below.refl _ _) | (with_reducible assumption) | (with_reducible refine Below.alloc ?_ ?_ _) | (with_reducible refine Below.drew ?_) | (with_reducible refine below_drewN ?_ _) | (with_reducible refine Below.setCell ?_ ?_ _) | (with_reducible refine below_then ?_ ?_ (by with_reducible assumption)) | (with_reducible exact Nat.le_refl _) | go_size | (simp only [*]; done)))⟩)

theorem interline_S (a1 a2 a3 b1 b2 b3 s : Int) (w : World) :
    Calls Try.prog 18 #[.agg #[.int .i64 a1, .int .i64 a2, .int .i64 a3], .agg #[.int .i64 b1, .int .i64 b2, .int .i64 b3], .int .i64 s] w fun e w' => e = .returned (.int .i64 (interlV a1 a2 a3 b1 b2 b3 s)) ∧ Below w.heap.size w w' := by
  rcases hv : (vBox a1 a2 a3 && vBox b1 b2 b3 && inR s 0 10000) with _ | _
  · have hx : interlV a1 a2 a3 b1 b2 b3 s = -1 := by simp only [interlV, hv]; rfl
    rw [hx]; clear hx
    have Hv := Lib.hid hv; clear hv
    by_cases hv1 : vBox a1 a2 a3 = true <;> by_cases hv2 : vBox b1 b2 b3 = true <;> by_cases hv3 : inR s 0 10000 = true
    all_goals first
      | (exfalso; have hv := Hv.out; simp_all; done)
      | (simp only [Bool.not_eq_true] at hv1 hv2 hv3
         go_enter Try.func18, Try.ntmps18
         go_wp2_with (first | (go_at_call 34; refine (validBox_s _ _ _ _).mono ?_; rintro e w1 ⟨rfl, hb⟩; (have hz := hb.size; (try simp at hz); obtain ⟨hc, hf⟩ := bcell hb; (try have hzw0 : w.heap.size < w1.heap.size := by omega); (try have hzw1 : w.heap.size + 1 < w1.heap.size := by omega))) | (go_at_call 36; refine (inRange_any _ _ _ _).mono ?_; rintro e w' ⟨rfl, rfl⟩))
         go_returns
         exact ⟨rfl, by (repeat' (first | (with_reducible exact Below.refl _ _) | (with_reducible assumption) | (with_reducible refine Below.alloc ?_ ?_ _) | (with_reducible refine Below.drew ?_) | (with_reducible refine below_drewN ?_ _) | (with_reducible refine Below.setCell ?_ ?_ _) | (with_reducible refine below_then ?_ ?_ (by with_reducible assumption)) | (with_reducible exact Nat.le_refl _) | go_size | (simp only [*]; done)))⟩)
  · have hx : interlV a1 a2 a3 b1 b2 b3 s = interl a3 b2 s := by simp only [interlV, hv]; rfl
    rw [hx]; clear hx
    simp only [Bool.and_eq_true] at hv
    obtain ⟨⟨hv1, hv2⟩, hv3⟩ := hv
    obtain ⟨_, _, g1, g2⟩ := vBox_iff.1 hv1
    obtain ⟨_, ⟨g3, g4⟩, _⟩ := vBox_iff.1 hv2
    obtain ⟨g5, g6⟩ := inR_iff.1 hv3
    go_enter Try.func18, Try.ntmps18
    go_wp2_with (first | (go_at_call 34; refine (validBox_s _ _ _ _).mono ?_; rintro e w1 ⟨rfl, hb⟩; (have hz := hb.size; (try simp at hz); obtain ⟨hc, hf⟩ := bcell hb; (try have hzw0 : w.heap.size < w1.heap.size := by omega); (try have hzw1 : w.heap.size + 1 < w1.heap.size := by omega))) | (go_at_call 36; refine (inRange_any _ _ _ _).mono ?_; rintro e w' ⟨rfl, rfl⟩) | (go_at_call 37; refine (interline_s _ _ _ _ _ _ _ g1 g2 g3 g4 g5 g6 _).mono ?_; rintro e w1 ⟨rfl, hb⟩; (have hz := hb.size; (try simp at hz); obtain ⟨hc, hf⟩ := bcell hb; (try have hzw0 : w.heap.size < w1.heap.size := by omega); (try have hzw1 : w.heap.size + 1 < w1.heap.size := by omega))))
    go_returns
    exact ⟨rfl, by (repeat' (first | (with_reducible exact Below.refl _ _) | (with_reducible assumption) | (with_reducible refine Below.alloc ?_ ?_ _) | (with_reducible refine Below.drew ?_) | (with_reducible refine below_drewN ?_ _) | (with_reducible refine Below.setCell ?_ ?_ _) | (with_reducible refine below_then ?_ ?_ (by with_reducible assumption)) | (with_reducible exact Nat.le_refl _) | go_size | (simp only [*]; done)))⟩

theorem checked_i (a b c : Int) (w : World) :
    Calls Try.prog 39 #[.agg #[.int .i64 a, .int .i64 b, .int .i64 c]] w fun e w' => e = .returned (.tuple #[.agg #[.int .i64 ((chk ⟨a, b, c⟩).1).w, .int .i64 ((chk ⟨a, b, c⟩).1).h, .int .i64 ((chk ⟨a, b, c⟩).1).d], .bool (chk ⟨a, b, c⟩).2]) ∧ Below w.heap.size w w' := by
  rcases hv : vBox a b c with _ | _
  · have hx : chk ⟨a, b, c⟩ = (⟨0, 0, 0⟩, false) := by simp only [chk, Bx.ok, hv]; rfl
    rw [hx]; clear hx
    go_enter Try.func39, Try.ntmps39
    go_wp2_with (go_at_call 17; refine (validBox_i _ _ _ _).mono ?_; rintro e w1 ⟨rfl, hb⟩; (have hz := hb.size; (try simp at hz); obtain ⟨hc, hf⟩ := bcell hb; (try have hzw0 : w.heap.size < w1.heap.size := by omega); (try have hzw1 : w.heap.size + 1 < w1.heap.size := by omega)))
    (first | go_returns | (refine bodyPost_ret (by simp [results, Try.results39, go_sem, *]; try rfl) rfl ?_))
    exact ⟨rfl, by (repeat' (first | (with_reducible exact Below.refl _ _) | (with_reducible assumption) | (with_reducible refine Below.alloc ?_ ?_ _) | (with_reducible refine Below.drew ?_) | (with_reducible refine below_drewN ?_ _) | (with_reducible refine Below.setCell ?_ ?_ _) | (with_reducible refine below_then ?_ ?_ (by with_reducible assumption)) | (with_reducible exact Nat.le_refl _) | go_size | (simp only [*]; done)))⟩
  · have hx : chk ⟨a, b, c⟩ = (⟨a, b, c⟩, true) := by simp only [chk, Bx.ok, hv]; rfl
    rw [hx]; clear hx
    go_enter Try.func39, Try.ntmps39
    go_wp2_with (go_at_call 17; refine (validBox_i _ _ _ _).mono ?_; rintro e w1 ⟨rfl, hb⟩; (have hz := hb.size; (try simp at hz); obtain ⟨hc, hf⟩ := bcell hb; (try have hzw0 : w.heap.size < w1.heap.size := by omega); (try have hzw1 : w.heap.size + 1 < w1.heap.size := by omega)))
    (first | go_returns | (refine bodyPost_ret (by simp [results, Try.results39, go_sem, *]; try rfl) rfl ?_))
    exact ⟨rfl, by (repeat' (first | (with_reducible exact Below.refl _ _) | (with_reducible assumption) | (with_reducible refine Below.alloc ?_ ?_ _) | (with_reducible refine Below.drew ?_) | (with_reducible refine below_drewN ?_ _) | (with_reducible refine Below.setCell ?_ ?_ _) | (with_reducible refine below_then ?_ ?_ (by with_reducible assumption)) | (with_reducible exact Nat.le_refl _) | go_size | (simp only [*]; done)))⟩
theorem checked_s (a b c : Int) (w : World) :
    Calls Try.prog 38 #[.agg #[.int .i64 a, .int .i64 b, .int .i64 c]] w fun e w' => e = .returned (.tuple #[.agg #[.int .i64 ((chk ⟨a, b, c⟩).1).w, .int .i64 ((chk ⟨a, b, c⟩).1).h, .int .i64 ((chk ⟨a, b, c⟩).1).d], .bool (chk ⟨a, b, c⟩).2]) ∧ Below w.heap.size w w' := by
  rcases hv : vBox a b c with _ | _
  · have hx : chk ⟨a, b, c⟩ = (⟨0, 0, 0⟩, false) := by simp only [chk, Bx.ok, hv]; rfl
    rw [hx]; clear hx
    go_enter Try.func38, Try.ntmps38
    go_wp2_with (go_at_call 34; refine (validBox_s _ _ _ _).mono ?_; rintro e w1 ⟨rfl, hb⟩; (have hz := hb.size; (try simp at hz); obtain ⟨hc, hf⟩ := bcell hb; (try have hzw0 : w.heap.size < w1.heap.size := by omega); (try have hzw1 : w.heap.size + 1 < w1.heap.size := by omega)))
    (first | go_returns | (refine bodyPost_ret (by simp [results, Try.results38, go_sem, *]; try rfl) rfl ?_))
    exact ⟨rfl, by (repeat' (first | (with_reducible exact Below.refl _ _) | (with_reducible assumption) | (with_reducible refine Below.alloc ?_ ?_ _) | (with_reducible refine Below.drew ?_) | (with_reducible refine below_drewN ?_ _) | (with_reducible refine Below.setCell ?_ ?_ _) | (with_reducible refine below_then ?_ ?_ (by with_reducible assumption)) | (with_reducible exact Nat.le_refl _) | go_size | (simp only [*]; done)))⟩
  · have hx : chk ⟨a, b, c⟩ = (⟨a, b, c⟩, true) := by simp only [chk, Bx.ok, hv]; rfl
    rw [hx]; clear hx
    go_enter Try.func38, Try.ntmps38
    go_wp2_with (go_at_call 34; refine (validBox_s _ _ _ _).mono ?_; rintro e w1 ⟨rfl, hb⟩; (have hz := hb.size; (try simp at hz); obtain ⟨hc, hf⟩ := bcell hb; (try have hzw0 : w.heap.size < w1.heap.size := by omega); (try have hzw1 : w.heap.size + 1 < w1.heap.size := by omega)))
    (first | go_returns | (refine bodyPost_ret (by simp [results, Try.results38, go_sem, *]; try rfl) rfl ?_))
    exact ⟨rfl, by (repeat' (first | (with_reducible exact Below.refl _ _) | (with_reducible assumption) | (with_reducible refine Below.alloc ?_ ?_ _) | (with_reducible refine Below.drew ?_) | (with_reducible refine below_drewN ?_ _) | (with_reducible refine Below.setCell ?_ ?_ _) | (with_reducible refine below_then ?_ ?_ (by with_reducible assumption)) | (with_reducible exact Nat.le_refl _) | go_size | (simp only [*]; done)))⟩
end Go.Proofs.Ytdbjjfjagalhbaa
