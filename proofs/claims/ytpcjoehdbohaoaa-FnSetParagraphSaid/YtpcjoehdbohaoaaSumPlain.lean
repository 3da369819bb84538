/- The sum of the costs of the lines that end at given breaks, in plain terms. No program. No condition. -/
import Derived.Test.YtpcjoehdbohaoaaCostPlain
import Derived.Test.YtpcjoehdbohaoaaItemL
namespace Go.Proofs.Ytpcjoehdbohaoaa

/-- What the line between the breaks f and t costs, if it is one and may be set. -/
def lc (xs : List It) (d tol f t : Int) : Option Int := if lnOk xs f t && costOk xs (f + 1).toNat t.toNat d tol then some (costV xs (f + 1).toNat t.toNat d tol) else none
def frm (bs : List Int) (j : Nat) : Int := if j = 0 then -1 else bs.getD (j - 1) default
def sumJ (xs : List It) (wd : Nat → Int) (tol : Int) (bs : List Int) : Nat → Option Int
  | 0 => some 0
  | j + 1 => match sumJ xs wd tol bs j with
    | none => none
    | some s => match lc xs (wd j) tol (frm bs j) (bs.getD j default) with
      | none => none
      | some c => some (s + c)
def chkP (xs : List It) (wd : Nat → Int) (tol : Int) (bs : List Int) : Option Int := if bs.length = 0 then none else if frm bs bs.length = (xs.length : Int) - 1 then sumJ xs wd tol bs bs.length else none
theorem frm_succ (bs : List Int) (j : Nat) : frm bs (j + 1) = bs.getD j default := by rw [frm, if_neg (by omega), Nat.add_sub_cancel]
section
variable {xs : List It} {wd : Nat → Int} {tol : Int} {bs : List Int} {j : Nat} {s d f t : Int}
theorem lc_line (h : lnOk xs f t = false) : lc xs d tol f t = none := by rw [lc, h]; rfl
theorem lc_at {a u : Nat} (hf : f = (a : Int) - 1) (ht : t = (u : Int)) (h : lnOk xs f t = true) : lc xs d tol f t = if costOk xs a u d tol then some (costV xs a u d tol) else none := by
  subst hf ht
  rw [lc, h, Bool.true_and, show ((a : Int) - 1 + 1).toNat = a by omega, Int.toNat_natCast]
theorem costV_b {n a u : Nat} (hok : itemsOk xs = true) (hn : xs.length = n) (hu : u < n) (d0 : 1 ≤ d) (d1 : d ≤ 10000) : -200000000 ≤ costV xs a u d tol ∧ costV xs a u d tol ≤ 200000000 := by
  obtain ⟨b0, b1⟩ := lnB_b (a := a) hok hn hu (show 0 ≤ d by omega) d1
  obtain ⟨_, _, _, ⟨p0, p1⟩, _⟩ := itemOk_b (itemsOk_at hok hn hu rfl)
  have := dem_b (flg xs a u) b0 b1 p0 p1
  unfold costV
  split <;> omega
theorem lc_some {n : Nat} {c : Int} (hok : itemsOk xs = true) (hn : xs.length = n) (d0 : 1 ≤ d) (d1 : d ≤ 10000) (h : lc xs d tol f t = some c) : f < t ∧ -1 ≤ f ∧ t < (n : Int) ∧ -200000000 ≤ c ∧ c ≤ 200000000 := by
  rcases hl : lnOk xs f t with _ | _
  · rw [lc_line hl] at h; cases h
  · obtain ⟨a, u, hf, ht, h1, h2, _⟩ := ln_iff hn hl
    rw [lc_at hf ht hl] at h
    split at h
    · injection h with h
      have := costV_b (a := a) (tol := tol) hok hn h2 d0 d1
      omega
    · cases h
theorem sumJ_no1 (hs : sumJ xs wd tol bs j = some s) (h : lc xs (wd j) tol (frm bs j) (bs.getD j default) = none) : sumJ xs wd tol bs (j + 1) = none := by rw [sumJ, hs]; simp only [h]
theorem sumJ_yes {c : Int} (hs : sumJ xs wd tol bs j = some s) (h : lc xs (wd j) tol (frm bs j) (bs.getD j default) = some c) : sumJ xs wd tol bs (j + 1) = some (s + c) := by rw [sumJ, hs]; simp only [h]
theorem sumJ_stop (h : sumJ xs wd tol bs j = none) (i : Nat) : sumJ xs wd tol bs (j + i) = none := by
  induction i with
  | zero => exact h
  | succ i ih => rw [← Nat.add_assoc, sumJ, ih]
theorem chk_none {n : Nat} (hn : bs.length = n) (h : sumJ xs wd tol bs (j + 1) = none) (hj : j < n) : chkP xs wd tol bs = none := by
  have := sumJ_stop h (n - (j + 1))
  rw [show j + 1 + (n - (j + 1)) = n by omega] at this
  rw [chkP, hn, this]
  split
  · rfl
  · split <;> rfl
theorem chk_zero (hn : bs.length = 0) : chkP xs wd tol bs = none := by rw [chkP, if_pos hn]
theorem chk_last {n : Nat} (hn : bs.length = n + 1) (h : ¬ bs.getD n default = (xs.length : Int) - 1) : chkP xs wd tol bs = none := by
  rw [chkP, if_neg (by omega), hn, frm_succ, if_neg h]
theorem chk_end {n : Nat} (hn : bs.length = n + 1) (h : bs.getD n default = (xs.length : Int) - 1) : chkP xs wd tol bs = sumJ xs wd tol bs (n + 1) := by
  rw [chkP, if_neg (by omega), hn, frm_succ, if_pos h]
theorem sumJ_b {n : Nat} (hok : itemsOk xs = true) (hn : xs.length = n) (hwd : ∀ k, 1 ≤ wd k ∧ wd k ≤ 10000) : ∀ (j : Nat) (s : Int), sumJ xs wd tol bs j = some s → (j : Int) ≤ frm bs j + 1 ∧ frm bs j < (n : Int) ∧ -200000000 * (j : Int) ≤ s ∧ s ≤ 200000000 * (j : Int) := by
  intro j
  induction j with
  | zero => intro s h; rw [sumJ] at h; cases h; have := (itemsOk_len hok hn).1; simp [frm]; omega
  | succ j ih =>
    intro s h
    rcases hs : sumJ xs wd tol bs j with _ | s'
    · rw [sumJ, hs] at h; cases h
    · obtain ⟨h1, h2, h3, h4⟩ := ih s' hs
      rcases hc : lc xs (wd j) tol (frm bs j) (bs.getD j default) with _ | c
      · rw [sumJ_no1 hs hc] at h; cases h
      · rw [sumJ_yes hs hc] at h
        cases h
        obtain ⟨k1, k2, k3, k4, k5⟩ := lc_some hok hn (hwd j).1 (hwd j).2 hc
        rw [frm_succ]
        omega
end
end Go.Proofs.Ytpcjoehdbohaoaa
