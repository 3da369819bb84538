/- Stretched columns: no column is narrower than before, they add up to the total, and stretching them again changes nothing. Conditions: the columns and the total are valid. No program. -/
import Derived.Test.YtbkhimdebpllcaaStretch
namespace Go.Proofs.Ytbkhimdebpllcaa

theorem str_parts {xs : List Int} {t : Int} (h : strOk xs t = true) : colsOk xs = true ∧ xs.sum ≤ t ∧ t ≤ 10000 := by
  simp only [strOk, Bool.and_eq_true, inR_iff] at h
  exact ⟨h.1, h.2.1, h.2.2⟩
theorem cols_pos {xs : List Int} (h : colsOk xs = true) : 0 ≤ xs.sum := by
  have := (cols_sum h rfl (Nat.le_refl _) rfl).1
  rwa [List.take_length] at this
theorem bord_full {xs : List Int} {t : Int} {n : Nat} (h : colsOk xs = true) (hn : xs.length = n) : bord xs t n = t := by
  have hl := cols_len h
  unfold bord
  split
  · rename_i hs
    rw [← hn, List.take_length]
    exact Int.mul_ediv_cancel _ (by omega)
  · rw [hn]
    exact Int.mul_ediv_cancel _ (by omega)
theorem bord_le {xs : List Int} {t : Int} {n k : Nat} (h : colsOk xs = true) (hn : xs.length = n) (hk : k ≤ n) (t0 : 0 ≤ t) : bord xs t k ≤ t := by
  have hl := cols_len h
  unfold bord
  split
  · rename_i hs
    have h1 : t * (xs.take k).sum ≤ t * xs.sum := Int.mul_le_mul_of_nonneg_left (cols_le h hn hk) t0
    have h2 := Int.ediv_le_ediv hs h1
    rwa [Int.mul_ediv_cancel _ (by omega)] at h2
  · have h1 : t * (k : Int) ≤ t * (xs.length : Int) := Int.mul_le_mul_of_nonneg_left (by omega) t0
    have h2 := Int.ediv_le_ediv (show (0 : Int) < (xs.length : Int) by omega) h1
    rwa [Int.mul_ediv_cancel _ (by omega)] at h2
theorem bord_more {xs : List Int} {t x : Int} {n k : Nat} (h : strOk xs t = true) (hn : xs.length = n) (hk : k < n) (hx : xs.getD k default = x) : x ≤ bord xs t (k + 1) - bord xs t k := by
  obtain ⟨ho, h1, _⟩ := str_parts h
  have hl := cols_len ho
  obtain ⟨x0, _⟩ := cols_at ho hn hk hx
  have hS := cols_pos ho
  have e : (xs.take (k + 1)).sum = (xs.take k).sum + x := by rw [tk_snoc' hn hk hx, sum_snoc]
  unfold bord
  split
  · rename_i hs
    rw [e]
    have a1 : t * (xs.take k).sum / xs.sum * xs.sum ≤ t * (xs.take k).sum := Int.ediv_mul_le _ (by omega)
    have a2 : x * xs.sum ≤ x * t := Int.mul_le_mul_of_nonneg_left h1 x0
    have a3 : (t * (xs.take k).sum / xs.sum + x) * xs.sum ≤ t * ((xs.take k).sum + x) := by
      rw [Int.add_mul, Int.mul_add, Int.mul_comm t x]
      omega
    have a4 := Int.le_ediv_of_mul_le hs a3
    omega
  · have b1 := cols_le ho hn (show k + 1 ≤ n by omega)
    have b2 := (cols_sum ho hn (show k ≤ n by omega) rfl).1
    have b3 : t * (k : Int) ≤ t * ((k + 1 : Nat) : Int) := Int.mul_le_mul_of_nonneg_left (by omega) (by omega)
    have b4 := Int.ediv_le_ediv (show (0 : Int) < (xs.length : Int) by omega) b3
    omega
theorem strL_take {xs : List Int} {t : Int} {n : Nat} (hn : xs.length = n) : ∀ k, k ≤ n → ((strL xs t).take k).sum = bord xs t k := by
  intro k
  induction k with
  | zero => intro _; rw [bord_zero]; rfl
  | succ k ih =>
    intro hk
    rw [tk_snoc' ((strL_len xs t).trans hn) (by omega) (strL_at hn (by omega)), sum_snoc, ih (by omega)]
    omega
theorem strL_sum {xs : List Int} {t : Int} (h : strOk xs t = true) : (strL xs t).sum = t := by
  obtain ⟨ho, _, _⟩ := str_parts h
  have := strL_take (t := t) (rfl : xs.length = xs.length) xs.length (Nat.le_refl _)
  rw [List.take_of_length_le (by rw [strL_len]; exact Nat.le_refl _), bord_full ho rfl] at this
  exact this
theorem strL_bound {xs : List Int} {t : Int} (h : strOk xs t = true) : ∀ x ∈ strL xs t, 0 ≤ x ∧ x ≤ 10000 := by
  intro x hx
  obtain ⟨ho, h1, h2⟩ := str_parts h
  have hS := cols_pos ho
  simp only [strL, List.mem_map, List.mem_range] at hx
  obtain ⟨k, hk, rfl⟩ := hx
  have a1 := bord_more h rfl hk rfl
  obtain ⟨a2, _⟩ := cols_at ho rfl hk rfl
  have a3 := bord_le (k := k + 1) ho rfl (by omega) (show 0 ≤ t by omega)
  have a4 := (bord_bound (k := k) ho rfl (by omega) (show 0 ≤ t by omega) h2).1
  omega
theorem strL_ok {xs : List Int} {t : Int} (h : strOk xs t = true) : strOk (strL xs t) t = true := by
  obtain ⟨ho, h1, h2⟩ := str_parts h
  have hl := cols_len ho
  simp only [strOk, colsOk, Bool.and_eq_true, inR_iff, List.all_eq_true, strL_len, strL_sum h]
  exact ⟨⟨fun x hx => inR_iff.2 (strL_bound h x hx), by omega, by omega⟩, by omega, h2⟩
theorem strL_again {xs : List Int} {t : Int} (h : strOk xs t = true) : strV (strL xs t) t = strL xs t := by
  rw [str_yes (strL_ok h)]
  obtain ⟨ho, h1, h2⟩ := str_parts h
  have hS := cols_pos ho
  have hb : ∀ k, k ≤ xs.length → bord (strL xs t) t k = bord xs t k := by
    intro k hk
    rw [bord, strL_sum h, strL_take rfl k hk]
    split
    · exact Int.mul_ediv_cancel_left _ (by omega)
    · have e : t = 0 := by omega
      subst e
      have e2 : xs.sum = 0 := by omega
      simp [bord]
  rw [strL, strL_len]
  conv => rhs; rw [strL]
  apply List.map_congr_left
  intro k hk
  rw [List.mem_range] at hk
  rw [hb _ (by omega), hb _ (by omega)]
end Go.Proofs.Ytbkhimdebpllcaa
