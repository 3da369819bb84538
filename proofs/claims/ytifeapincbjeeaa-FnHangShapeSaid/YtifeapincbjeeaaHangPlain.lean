/- Shapes with indented lines, in plain terms. No program. No condition. -/
import Derived.Test.YtifeapincbjeeaaShape
namespace Go.Proofs.Ytifeapincbjeeaa

/-- The shape of f lines of a width, c lines of another one, and one more of the first. -/
def hangL (a b : Int) (f c : Nat) : List Int := List.replicate f a ++ (List.replicate c b ++ [a])
def hangOk (a i f c : Int) : Bool := inR a 1 10000 && inR i 0 (a - 1) && inR f 0 12 && inR c 0 12 && decide (f + c < 12)
def hangF (a i f c : Int) : List Int × Bool := if hangOk a i f c then (hangL a (a - i) f.toNat c.toNat, true) else ([], false)
theorem hangL_len (a b : Int) (f c : Nat) : (hangL a b f c).length = f + c + 1 := by simp [hangL]; omega
theorem hangOk_iff {a i f c : Int} : hangOk a i f c = true ↔ (1 ≤ a ∧ a ≤ 10000) ∧ (0 ≤ i ∧ i ≤ a - 1) ∧ (0 ≤ f ∧ f ≤ 12) ∧ (0 ≤ c ∧ c ≤ 12) ∧ f + c < 12 := by
  simp [hangOk, inR_iff, and_assoc]
theorem hang_no {a i f c : Int} (h : hangOk a i f c = false) : hangF a i f c = ([], false) := by simp [hangF, h]
theorem hang_yes {a i : Int} {f c : Nat} (h : hangOk a i f c = true) : hangF a i f c = (hangL a (a - i) f c, true) := by simp [hangF, h]
theorem hangL_at {a b : Int} {f c k : Nat} (h : k < f + c + 1) : (hangL a b f c).getD k default = if f ≤ k ∧ k < f + c then b else a := by
  rw [List.getD_eq_getElem?_getD, hangL]
  rcases Nat.lt_or_ge k f with h1 | h1
  · rw [List.getElem?_append_left (by simpa using h1), List.getElem?_replicate, if_pos h1, if_neg (by omega)]; rfl
  · rw [List.getElem?_append_right (by simpa using h1), List.length_replicate]
    rcases Nat.lt_or_ge (k - f) c with h2 | h2
    · rw [List.getElem?_append_left (by simpa using h2), List.getElem?_replicate, if_pos h2, if_pos (by omega)]; rfl
    · rw [List.getElem?_append_right (by simpa using h2), List.length_replicate, if_neg (by omega), show k - f - c = 0 by omega]; rfl
theorem hang_shape {a i : Int} {f c : Nat} (h : hangOk a i f c = true) : shapeOk (hangL a (a - i) f c) = true := by
  obtain ⟨h1, h2, h3, h4, h5⟩ := hangOk_iff.1 h
  simp only [shapeOk, Bool.and_eq_true, hangL_len]
  refine ⟨List.all_eq_true.2 fun x hx => ?_, inR_mk (by omega) (by omega)⟩
  simp only [hangL, List.mem_append, List.mem_replicate, List.mem_singleton] at hx
  rcases hx with ⟨_, rfl⟩ | ⟨_, rfl⟩ | rfl
  · exact inR_mk (by omega) (by omega)
  · exact inR_mk (by omega) (by omega)
  · exact inR_mk (by omega) (by omega)
theorem hang_wof {a b : Int} {f c : Nat} (k : Nat) : wof (hangL a b f c) k = if f ≤ k ∧ k < f + c then b else a := by
  rw [wof, hangL_len, hangL_at (by omega)]
  rcases Nat.lt_or_ge k (f + c) with h | h
  · rw [Nat.min_eq_left (by omega)]
  · rw [Nat.min_eq_right (by omega), if_neg (by omega), if_neg (by omega)]
/-- With no indented lines each line has the width. -/
theorem hang_plain {a b : Int} {f : Nat} : hangL a b f 0 = List.replicate (f + 1) a := by
  rw [hangL, List.replicate_succ']
  rfl
theorem hang_part {a b : Int} {f c k : Nat} (hk : k ≤ f + c) : (hangL a b f c).take k = if k ≤ f then List.replicate k a else List.replicate f a ++ List.replicate (k - f) b := by
  split
  · rw [hangL, List.take_append_of_le_length (by simpa), List.take_replicate, Nat.min_eq_left (by omega)]
  · rw [hangL, List.take_append, List.length_replicate, List.take_of_length_le (by simp; omega), List.take_append_of_le_length (by simp; omega), List.take_replicate, Nat.min_eq_left (by omega)]
end Go.Proofs.Ytifeapincbjeeaa
