/- Paragraphs of several lines: no more of their first and last lines are alone than there are, and all of them on pages of one line. Conditions: the sizes are valid. No program. -/
import Derived.Test.YtlgbeoghjjjlmaaWidow2
namespace Go.Proofs.Ytlgbeoghjjjlmaa

def longOf (l : List Int) : Int := (l.map fun x => bit (decide (1 < x))).sum
theorem longOf_snoc (l : List Int) (x : Int) : longOf (l ++ [x]) = longOf l + bit (decide (1 < x)) := by simp [longOf]
theorem bit_and (a b : Bool) : bit (a && b) ≤ bit a := by cases a <;> cases b <;> decide
theorem bit_bound (a : Bool) : 0 ≤ bit a ∧ bit a ≤ 1 := by cases a <;> decide
theorem cw_le (ends l : List Int) : ∀ k, k ≤ l.length → (cwF ends (l.take k)).2.1 ≤ longOf (l.take k) ∧ (cwF ends (l.take k)).2.2 ≤ longOf (l.take k) := by
  intro k
  induction k with
  | zero => intro _; simp [cwF, longOf]
  | succ k ih =>
    intro hk
    obtain ⟨a, b⟩ := ih (by omega)
    rw [tk_snoc l k (by omega), cwF_snoc, longOf_snoc]
    simp only [cwStep]
    have h1 := bit_and (decide (1 < l.getD k default)) (has ends ((cwF ends (l.take k)).1 + 1))
    have h2 := bit_and (decide (1 < l.getD k default)) (has ends ((cwF ends (l.take k)).1 + l.getD k default - 1))
    omega
def upTo (S : Nat) : List Int := (List.range S).map fun k : Nat => (k : Int) + 1
theorem upTo_len (S : Nat) : (upTo S).length = S := by simp [upTo]
theorem upTo_snoc (S : Nat) : upTo (S + 1) = upTo S ++ [(S : Int) + 1] := by simp [upTo, List.range_succ]
theorem upTo_has {S : Nat} {x : Int} (h0 : 1 ≤ x) (h1 : x ≤ S) : has (upTo S) x = true := by
  refine has_iff.2 (List.mem_map.2 ⟨(x - 1).toNat, List.mem_range.2 (by omega), by omega⟩)
theorem cw_all {l : List Int} (h : sizesOk l = true) {S : Nat} (hS : l.sum = S) : ∀ k, k ≤ l.length → cwF (upTo S) (l.take k) = ((l.take k).sum, longOf (l.take k), longOf (l.take k)) := by
  intro k
  induction k with
  | zero => intro _; simp [cwF, longOf]
  | succ k ih =>
    intro hk
    have ih := ih (by omega)
    obtain ⟨x, hx⟩ : ∃ x, l.getD k default = x := ⟨_, rfl⟩
    have hb := size_at h rfl (by omega) hx ih
    have ho := sizes_ok h
    have ht := sum_take_le ho.1 (k + 1)
    rw [tk_snoc l k (by omega), hx, sum_snoc] at ht
    rw [tk_snoc l k (by omega), hx, cwF_snoc, longOf_snoc, ih, sum_snoc, cwStep]
    by_cases h1 : 1 < x
    · simp only [upTo_has (show 1 ≤ (l.take k).sum + 1 by omega) (show (l.take k).sum + 1 ≤ S by omega), upTo_has (show 1 ≤ (l.take k).sum + x - 1 by omega) (show (l.take k).sum + x - 1 ≤ S by omega), Bool.and_true]
    · simp [h1, bit]
theorem countW_all {l : List Int} (h : sizesOk l = true) {S : Nat} (hS : l.sum = S) : countW l (upTo S) = (longOf l, longOf l) := by
  have := cw_all h hS l.length (Nat.le_refl _)
  rw [List.take_length] at this
  rw [countW, if_pos h, this]
theorem countW_le (l ends : List Int) : -1 ≤ longOf l ∧ ((countW l ends).1 ≤ longOf l ∧ (countW l ends).2 ≤ longOf l) := by
  have h0 : 0 ≤ longOf l := by
    have := sum_bound (l := l.map fun x => bit (decide (1 < x))) (a := 0) (b := 1) fun x hx => by
      obtain ⟨y, _, rfl⟩ := List.mem_map.1 hx
      exact bit_bound _
    unfold longOf
    omega
  have := cw_le ends l l.length (Nat.le_refl _)
  rw [List.take_length] at this
  unfold countW
  split
  · exact ⟨by omega, this⟩
  · exact ⟨by omega, by simp only; omega, by simp only; omega⟩
end Go.Proofs.Ytlgbeoghjjjlmaa
