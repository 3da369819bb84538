/- Plain lemmas on lists that all proofs of this seat share: a list that grows by one element, a test of all elements. No program. No condition. -/
import Derived.Test.YtbkhimdebpllcaaBase
namespace Go.Proofs.Ytbkhimdebpllcaa

theorem all_end {α : Type} {p : α → Bool} {xs : List α} {n j : Nat} (hn : xs.length = n) (hj : n ≤ j) (h : (xs.take j).all p = true) : xs.all p = true := by
  rwa [List.take_of_length_le (by omega)] at h
section
variable {α : Type} [Inhabited α] {p : α → Bool} {xs : List α} {n j : Nat} {x : α}
theorem tk_snoc (l : List α) (k : Nat) (h : k < l.length) : l.take (k + 1) = l.take k ++ [l.getD k default] := by
  rw [List.take_succ_eq_append_getElem h, List.getD_eq_getElem?_getD, List.getElem?_eq_getElem h]; rfl
theorem tk_snoc' (hn : xs.length = n) (hj : j < n) (hx : xs.getD j default = x) : xs.take (j + 1) = xs.take j ++ [x] := by
  rw [tk_snoc xs j (by omega), hx]
theorem mem_of_getD (hn : xs.length = n) (hj : j < n) (hx : xs.getD j default = x) : x ∈ xs := by
  rw [← hx, List.getD_eq_getElem?_getD, List.getElem?_eq_getElem (by omega)]
  exact List.getElem_mem _
theorem all_more (hn : xs.length = n) (hj : j < n) (hx : xs.getD j default = x) (h : (xs.take j).all p = true) (hv : p x = true) : (xs.take (j + 1)).all p = true := by
  rw [tk_snoc' hn hj hx, List.all_append, h]
  simp [hv]
theorem all_bad (hn : xs.length = n) (hj : j < n) (hx : xs.getD j default = x) (hv : p x = false) : xs.all p = false := by
  rw [List.all_eq_false]
  exact ⟨x, mem_of_getD hn hj hx, by simp [hv]⟩
theorem all_at (h : xs.all p = true) (hn : xs.length = n) (hj : j < n) (hx : xs.getD j default = x) : p x = true :=
  List.all_eq_true.1 h x (mem_of_getD hn hj hx)
end
theorem sum_snoc (l : List Int) (x : Int) : (l ++ [x]).sum = l.sum + x := by simp
theorem getD_int (xs : List Int) (j : Nat) : xs.getD j default = xs.getD j 0 := rfl
theorem sum_bound {l : List Int} {a b : Int} (h : ∀ x ∈ l, a ≤ x ∧ x ≤ b) : a * l.length ≤ l.sum ∧ l.sum ≤ b * l.length := by
  induction l with
  | nil => simp
  | cons x r ih =>
    obtain ⟨h1, h2⟩ := ih fun y hy => h y (List.mem_cons_of_mem _ hy)
    obtain ⟨h3, h4⟩ := h x (List.mem_cons_self ..)
    simp only [List.sum_cons, List.length_cons, Int.natCast_add, Int.natCast_one, Int.mul_add, Int.mul_one]
    omega
def has (xs : List Int) (x : Int) : Bool := xs.any fun y => y == x
theorem has_iff {xs : List Int} {x : Int} : has xs x = true ↔ x ∈ xs := by simp [has]
end Go.Proofs.Ytbkhimdebpllcaa
