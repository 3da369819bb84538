/- Counts of boxes: each line holds the boxes from its first item to its last. No program. No condition. -/
import Derived.Test.YtpcjoehdbohaoaaSetPlain
import Derived.Test.YtpcjoehdbohaoaaItemL
namespace Go.Proofs.Ytpcjoehdbohaoaa

/-- How many boxes there are before item k. -/
def nbx (xs : List It) (k : Nat) : Nat := ((List.range k).filter fun i => kd xs i == 1).length
theorem nbx_zero (xs : List It) : nbx xs 0 = 0 := rfl
theorem nbx_succ (xs : List It) (k : Nat) : nbx xs (k + 1) = nbx xs k + if kd xs k = 1 then 1 else 0 := by
  unfold nbx
  rw [List.range_succ, List.filter_append, List.length_append]
  by_cases h : kd xs k = 1 <;> simp [h]
theorem nbx_yes {xs : List It} {k : Nat} (h : kd xs k = 1) : nbx xs (k + 1) = nbx xs k + 1 := by rw [nbx_succ, if_pos h]
theorem nbx_no {xs : List It} {k : Nat} (h : ¬ kd xs k = 1) : nbx xs (k + 1) = nbx xs k := by rw [nbx_succ, if_neg h]; rfl
theorem nbx_le (xs : List It) (k : Nat) : nbx xs k ≤ k := by
  unfold nbx
  refine Nat.le_trans (List.length_filter_le _ _) ?_
  simp
theorem nbx_flat {xs : List It} {a : Nat} : ∀ d, (∀ i, a ≤ i → i < a + d → kd xs i ≠ 1) → nbx xs (a + d) = nbx xs a := by
  intro d
  induction d with
  | zero => intro _; rfl
  | succ d ih =>
    intro h
    rw [← Nat.add_assoc, nbx_no (h (a + d) (by omega) (by omega))]
    exact ih fun i h1 h2 => h i h1 (by omega)
theorem posP_cnt (l : List It) (d tS tH : Int) (s : Nat) : ∀ e, (posP l d tS tH s (s + e)).length + nbx l s = nbx l (s + e) := by
  intro e
  induction e with
  | zero => rw [posP_none _ _ _ _ (by omega)]; simp
  | succ e ih =>
    rw [← Nat.add_assoc, posP_snoc _ _ _ _ (by omega)]
    by_cases h : kd l (s + e) = 1
    · rw [if_pos h, nbx_yes h, List.length_append, List.length_singleton]; omega
    · rw [if_neg h, nbx_no h]; exact ih
theorem brk_box {l : List It} {u : Nat} (h : brk l u = true) : ¬ kd l u = 1 := by
  intro e
  unfold brk at h
  rw [e, if_neg (by omega)] at h
  simp at h
theorem setP_cnt {xs : List It} {n a u : Nat} (wd : Int) (hn : xs.length = n) (hau : a ≤ u) (hu : u < n) (hb : brk xs u = true) : (setP xs a u wd).length + nbx xs a = nbx xs (u + 1) + 1 := by
  obtain ⟨h1, h2, h3, _⟩ := lst_spec hn (t := u) (by omega) hau
  obtain ⟨s, hs⟩ : ∃ s, lst xs a u = s := ⟨_, rfl⟩
  rw [hs] at h1 h2 h3
  unfold setP
  rw [hs, List.length_append, List.length_singleton, nbx_no (brk_box hb)]
  have e1 := posP_cnt xs (wd - lgW xs a u) (lgS xs a u) (lgH xs a u) s (u - s)
  have e2 := nbx_flat (xs := xs) (a := a) (s - a) (by intro i p q; exact h3 i p (by omega))
  rw [show s + (u - s) = u by omega] at e1
  rw [show a + (s - a) = s by omega] at e2
  omega
end Go.Proofs.Ytpcjoehdbohaoaa
