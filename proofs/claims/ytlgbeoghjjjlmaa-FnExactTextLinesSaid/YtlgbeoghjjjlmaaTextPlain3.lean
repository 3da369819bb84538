/- The penalties of the lines of paragraphs, added up at the ends of pages; the lines are valid. No program. Conditions: the sizes are valid. -/
import Derived.Test.YtlgbeoghjjjlmaaTextPlain
import Derived.Test.YtlgbeoghjjjlmaaWidowPlain
import Derived.Test.YtlgbeoghjjjlmaaLineValidG
namespace Go.Proofs.Ytlgbeoghjjjlmaa

def penP (p : Int → Bool) : Nat → List Ln → Int
  | _, [] => 0
  | s, x :: r => (if p ((s : Int) + 1) = true then x.c else 0) + penP p (s + 1) r
theorem penP_append (p : Int → Bool) (l r : List Ln) : ∀ s, penP p s (l ++ r) = penP p s l + penP p (s + l.length) r := by
  induction l with
  | nil => intro s; simp [penP]
  | cons x l ih =>
    intro s
    simp only [List.cons_append, penP, ih (s + 1), List.length_cons]
    rw [show s + 1 + l.length = s + (l.length + 1) by omega]
    omega
theorem penP_snoc (p : Int → Bool) (l : List Ln) (x : Ln) (s : Nat) : penP p s (l ++ [x]) = penP p s l + (if p (((s + l.length : Nat) : Int) + 1) = true then x.c else 0) := by
  rw [penP_append]; simp [penP]
theorem penP_congr {p q : Int → Bool} (l : List Ln) : ∀ s : Nat, (∀ i : Int, (s : Int) < i → i ≤ s + l.length → p i = q i) → penP p s l = penP q s l := by
  induction l with
  | nil => intro s _; rfl
  | cons x r ih =>
    intro s h
    simp only [penP]
    rw [h ((s : Int) + 1) (by omega) (by simp only [List.length_cons]; omega), ih (s + 1) (fun i h1 h2 => h i (by omega) (by simp only [List.length_cons]; omega))]
theorem penP_bound (p : Int → Bool) (l : List Ln) : ∀ s, (∀ x ∈ l, 0 ≤ x.c ∧ x.c ≤ 250) → 0 ≤ penP p s l ∧ penP p s l ≤ 250 * l.length := by
  induction l with
  | nil => intro s _; simp [penP]
  | cons x r ih =>
    intro s h
    obtain ⟨h1, h2⟩ := ih (s + 1) fun y hy => h y (List.mem_cons_of_mem _ hy)
    obtain ⟨h3, h4⟩ := h x (List.mem_cons_self ..)
    simp only [penP, List.length_cons]
    split <;> omega
theorem penAt_bound (x : Int) (k : Nat) : 0 ≤ penAt x k ∧ penAt x k ≤ 250 := by
  unfold penAt
  split <;> split <;> omega
theorem textL_line {h : Int} {l : List Int} {y : Ln} (hy : y ∈ textL h l) : y.a = h ∧ y.b = 0 ∧ 0 ≤ y.c ∧ y.c ≤ 250 := by
  unfold textL at hy
  obtain ⟨x, _, hx⟩ := List.mem_flatMap.1 hy
  obtain ⟨k, _, rfl⟩ := List.mem_map.1 hx
  exact ⟨rfl, rfl, (penAt_bound x k).1, (penAt_bound x k).2⟩
theorem textV_line {h : Int} {l : List Int} {y : Ln} (hy : y ∈ textV l h) : 0 ≤ y.c ∧ y.c ≤ 250 := by
  unfold textV at hy
  split at hy
  · exact (textL_line hy).2.2
  · cases hy
theorem textV_len (l : List Int) (h : Int) : (textV l h).length ≤ 40 := by
  rcases hv : textOk l h with _ | _
  · rw [text_no hv]; simp
  · rw [text_yes hv]
    simp only [textOk, Bool.and_eq_true] at hv
    have h1 := sizes_ok hv.1
    have h2 := textL_len h h1.1
    omega
theorem textV_ok {l : List Int} {h : Int} (hv : textOk l h = true) : linesOk (textV l h) = true ∧ ((textV l h).length : Int) = l.sum ∧ 0 < (textV l h).length := by
  rw [text_yes hv]
  simp only [textOk, Bool.and_eq_true, inR_iff] at hv
  have h1 := sizes_ok hv.1
  have h2 := textL_len h h1.1
  have h3 := sum_pos h1.1
  refine ⟨?_, h2, by omega⟩
  simp only [linesOk, Bool.and_eq_true, inR_iff]
  refine ⟨List.all_eq_true.2 fun y hy => lineOk_iff.2 ?_, by omega, by omega⟩
  obtain ⟨e1, e2, e3, e4⟩ := textL_line hy
  omega
theorem pen_par (p : Int → Bool) (h x : Int) (s : Nat) : ∀ k : Nat, (k : Int) ≤ x → penP p s (parL h x k) = (if 0 < k ∧ 1 < x ∧ p ((s : Int) + 1) = true then 100 else 0) + (if x - 2 < (k : Int) ∧ 2 ≤ x ∧ p ((s : Int) + x - 1) = true then 150 else 0) := by
  intro k
  induction k with
  | zero =>
    intro _
    rw [if_neg (by omega), if_neg (by omega)]
    rfl
  | succ k ih =>
    intro hk
    rw [parL_snoc, penP_snoc, ih (by omega), parL_len]
    simp only [penAt]
    have e1 : ((s + k : Nat) : Int) + 1 = (s : Int) + k + 1 := by omega
    rw [e1]
    by_cases h0 : k = 0
    · subst h0
      rw [show (s : Int) + ((0 : Nat) : Int) + 1 = (s : Int) + 1 by omega]
      by_cases h2 : ((0 : Nat) : Int) = x - 2
      · rw [show (s : Int) + x - 1 = (s : Int) + 1 by omega]
        rcases hp : p ((s : Int) + 1) with _ | _ <;> simp <;> (repeat' split) <;> omega
      · rcases hp : p ((s : Int) + 1) with _ | _ <;> rcases hq : p ((s : Int) + x - 1) with _ | _ <;> simp <;> (repeat' split) <;> omega
    · by_cases h2 : (k : Int) = x - 2
      · rw [show (s : Int) + x - 1 = (s : Int) + k + 1 by omega]
        rcases hp : p ((s : Int) + k + 1) with _ | _ <;> rcases hq : p ((s : Int) + 1) with _ | _ <;> simp <;> (repeat' split) <;> omega
      · rcases hp : p ((s : Int) + k + 1) with _ | _ <;> rcases hq : p ((s : Int) + 1) with _ | _ <;> rcases hr : p ((s : Int) + x - 1) with _ | _ <;> simp <;> (repeat' split) <;> omega
theorem pen_text (ends l : List Int) (h : Int) (ho : l.all sizeOk = true) : ∀ k, k ≤ l.length → penP (has ends) 0 (textL h (l.take k)) = 100 * (cwF ends (l.take k)).2.1 + 150 * (cwF ends (l.take k)).2.2 := by
  intro k
  induction k with
  | zero => intro _; simp [textL, penP, cwF]
  | succ k ih =>
    intro hk
    have ih := ih (by omega)
    obtain ⟨x, hx⟩ : ∃ x, l.getD k default = x := ⟨_, rfl⟩
    have hox : sizeOk x = true := List.all_eq_true.1 ho x (mem_of_getD rfl (by omega) hx)
    simp only [sizeOk, decide_eq_true_eq] at hox
    have hot : (l.take k).all sizeOk = true := List.all_eq_true.2 fun y hy => List.all_eq_true.1 ho y (List.mem_of_mem_take hy)
    have hl := textL_len h hot
    have hs := cw_sum ends (l.take k)
    rw [tk_snoc l k (by omega), hx, textL_snoc, penP_append, ih, cwF_snoc, pen_par _ _ _ _ _ (by omega)]
    simp only [cwStep]
    rw [hs, show ((0 + (textL h (l.take k)).length : Nat) : Int) = (l.take k).sum by omega]
    have e1 : (if 0 < x.toNat ∧ 1 < x ∧ has ends ((l.take k).sum + 1) = true then (100 : Int) else 0) = 100 * bit (decide (1 < x) && has ends ((l.take k).sum + 1)) := by
      by_cases h1 : 1 < x
      · rcases has ends ((l.take k).sum + 1) with _ | _ <;> simp [bit, h1]
        omega
      · simp [bit, h1]
    have e2 : (if x - 2 < (x.toNat : Int) ∧ 2 ≤ x ∧ has ends ((l.take k).sum + x - 1) = true then (150 : Int) else 0) = 150 * bit (decide (1 < x) && has ends ((l.take k).sum + x - 1)) := by
      by_cases h1 : 1 < x
      · rcases has ends ((l.take k).sum + x - 1) with _ | _ <;> simp [bit, h1]
        omega
      · have : ¬ 2 ≤ x := by omega
        simp [bit, h1, this]
    rw [e1, e2]
    omega
/-- All penalties of valid paragraphs. -/
theorem pen_all {l : List Int} {h : Int} (hv : textOk l h = true) : penP (fun _ => true) 0 (textV l h) = 250 * longOf l := by
  rw [text_yes hv]
  simp only [textOk, Bool.and_eq_true] at hv
  have ho := sizes_ok hv.1
  obtain ⟨S, hS⟩ : ∃ S : Nat, l.sum = S := Int.eq_ofNat_of_zero_le (by have := sum_pos ho.1; omega)
  have h1 := pen_text (upTo S) l h ho.1 l.length (Nat.le_refl _)
  rw [List.take_length, show (cwF (upTo S) l) = (cwF (upTo S) (l.take l.length)) by rw [List.take_length], cw_all hv.1 hS _ (Nat.le_refl _), List.take_length] at h1
  have h2 := textL_len h ho.1
  rw [penP_congr (q := has (upTo S)) (textL h l) 0 (fun i h3 h4 => (upTo_has (by omega) (by omega)).symm), h1]
  simp only
  omega
/-- The penalties at the ends of pages. -/
theorem pen_ends {l : List Int} {h : Int} (ends : List Int) (hv : textOk l h = true) : penP (has ends) 0 (textV l h) = 100 * (countW l ends).1 + 150 * (countW l ends).2 := by
  rw [text_yes hv]
  simp only [textOk, Bool.and_eq_true] at hv
  have ho := sizes_ok hv.1
  have h1 := pen_text ends l h ho.1 l.length (Nat.le_refl _)
  rw [List.take_length] at h1
  rw [h1, countW, if_pos hv.1]
end Go.Proofs.Ytlgbeoghjjjlmaa
