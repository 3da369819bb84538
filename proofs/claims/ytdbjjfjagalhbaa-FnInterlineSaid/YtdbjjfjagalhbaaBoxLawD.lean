/- The laws on drawn boxes answer true: FnInterline. Conditions: the code is a slice of bytes. -/
import Derived.Test.YtdbjjfjagalhbaaBoxDraw2
import Derived.Test.YtdbjjfjagalhbaaBoxRaise
namespace Go.Proofs.Ytdbjjfjagalhbaa
open Go.RowKit

set_option maxHeartbeats 1000000 in
theorem law_Interline (A : Option Addr) (n cap : Nat) (cs : List Int) (w : World) (hc : Code w A n cap cs) :
    Calls Try.prog 6 #[.slice A n cap] w fun e w' => e = .returned (.bool true) ∧ Below w.heap.size w w' := by
  have hn := hc.1
  unfold maxLen at hn
  by_cases hbig : 1048576 < n
  · go_enter Try.func6, Try.ntmps6
    go_wp2
    go_returns
    exact ⟨rfl, Below.refl _ _⟩
  go_enter Try.func6, Try.ntmps6
  go_wp2_with fail
  ((with_reducible refine (DrawInterline_any _ _ _ cs _ hc).mono ?_); rintro e w1 ⟨a, b, c, x, y, z, s, rfl, hb1⟩)
  have hz1 := hb1.size
  rcases hv : (vBox a b c && vBox x y z && inR s 0 10000) with _ | _
  · have hx : interlV a b c x y z s = -1 := by simp only [interlV, hv]; rfl
    have HX := Lib.hid hx; clear hx hv
    go_wp2_with fail
    ((with_reducible refine (interline_i _ _ _ _ _ _ _ _).mono ?_); rintro e w2 ⟨rfl, hb2⟩)
    (have hz2 := hb2.size; simp at hz2; obtain ⟨hc2, hf2⟩ := bcell hb2; (try have hz_w1_0_w2 : w1.heap.size < w2.heap.size := by omega); (try have hz_w1_1_w2 : w1.heap.size + 1 < w2.heap.size := by omega))
    rw [HX.out]
    go_wp2_with fail
    ((with_reducible refine (interline_S _ _ _ _ _ _ _ _).mono ?_); rintro e w3 ⟨rfl, hb3⟩)
    (have hz3 := hb3.size; obtain ⟨hc3, hf3⟩ := bcell hb3; (try have hz_w1_0_w3 : w1.heap.size < w3.heap.size := by omega); (try have hz_w1_1_w3 : w1.heap.size + 1 < w3.heap.size := by omega); (try have hz_w2_0_w3 : w2.heap.size < w3.heap.size := by omega))
    rw [HX.out]
    go_wp2_with fail
    ((with_reducible refine (interline_S _ _ _ _ _ _ _ _).mono ?_); rintro e w4 ⟨rfl, hb4⟩)
    rw [HX.out]
    have hz4 := hb4.size
    go_wp2
    go_returns
    exact ⟨rfl, by (repeat' (first | (with_reducible exact Below.refl _ _) | (with_reducible assumption) | (with_reducible refine Below.alloc ?_ ?_ _) | (with_reducible refine Below.drew ?_) | (with_reducible refine below_drewN ?_ _) | (with_reducible refine Below.setCell ?_ ?_ _) | (with_reducible refine below_then ?_ ?_ (by with_reducible assumption)) | (with_reducible exact Nat.le_refl _) | go_size | (simp only [*]; done)))⟩
  · have hx : interlV a b c x y z s = interl c y s := by simp only [interlV, hv]; rfl
    have HX := Lib.hid hx; clear hx
    simp only [Bool.and_eq_true] at hv
    obtain ⟨⟨hv1, hv2⟩, hv3⟩ := hv
    obtain ⟨_, _, g1, g2⟩ := vBox_iff.1 hv1
    obtain ⟨_, ⟨g3, g4⟩, _⟩ := vBox_iff.1 hv2
    obtain ⟨g5, g6⟩ := inR_iff.1 hv3
    clear hv1 hv2 hv3
    obtain ⟨i1, i2⟩ := interl_bound (s := s) g1 g3 g6
    have hi : interl c y s = 1 ∨ interl c y s + c + y = s := by unfold interl; omega
    have HI := Lib.hid hi; clear hi
    go_wp2_with fail
    ((with_reducible refine (interline_i _ _ _ _ _ _ _ _).mono ?_); rintro e w2 ⟨rfl, hb2⟩)
    (have hz2 := hb2.size; simp at hz2; obtain ⟨hc2, hf2⟩ := bcell hb2; (try have hz_w1_0_w2 : w1.heap.size < w2.heap.size := by omega); (try have hz_w1_1_w2 : w1.heap.size + 1 < w2.heap.size := by omega))
    rw [HX.out]
    go_wp2_with fail
    ((with_reducible refine (interline_S _ _ _ _ _ _ _ _).mono ?_); rintro e w3 ⟨rfl, hb3⟩)
    (have hz3 := hb3.size; obtain ⟨hc3, hf3⟩ := bcell hb3; (try have hz_w1_0_w3 : w1.heap.size < w3.heap.size := by omega); (try have hz_w1_1_w3 : w1.heap.size + 1 < w3.heap.size := by omega); (try have hz_w2_0_w3 : w2.heap.size < w3.heap.size := by omega))
    rw [HX.out]
    generalize interl c y s = t at *
    rcases HI.out with h1 | h1
    · subst h1
      go_wp2
      go_returns
      exact ⟨rfl, by (repeat' (first | (with_reducible exact Below.refl _ _) | (with_reducible assumption) | (with_reducible refine Below.alloc ?_ ?_ _) | (with_reducible refine Below.drew ?_) | (with_reducible refine below_drewN ?_ _) | (with_reducible refine Below.setCell ?_ ?_ _) | (with_reducible refine below_then ?_ ?_ (by with_reducible assumption)) | (with_reducible exact Nat.le_refl _) | go_size | (simp only [*]; done)))⟩
    · have h2 : (t + c + y == s) = true := by simp [h1]
      have H1 := Lib.hid h1; clear h1
      go_wp2
      all_goals (go_returns; exact ⟨ret_bool (by have := H1.out; simp_all), by (repeat' (first | (with_reducible exact Below.refl _ _) | (with_reducible assumption) | (with_reducible refine Below.alloc ?_ ?_ _) | (with_reducible refine Below.drew ?_) | (with_reducible refine below_drewN ?_ _) | (with_reducible refine Below.setCell ?_ ?_ _) | (with_reducible refine below_then ?_ ?_ (by with_reducible assumption)) | (with_reducible exact Nat.le_refl _) | go_size | (simp only [*]; done)))⟩)
end Go.Proofs.Ytdbjjfjagalhbaa
