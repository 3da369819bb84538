/- Breaks that divide all items into lines, in plain terms. No program. No condition. -/
import Derived.Test.YtpcjoehdbohaoaaSumPlain
import Derived.Test.YtpcjoehdbohaoaaItemLs
namespace Go.Proofs.Ytpcjoehdbohaoaa

def lns (xs : List It) (bs : List Int) : Nat → Bool
  | 0 => true
  | j + 1 => lns xs bs j && lnOk xs (frm bs j) (bs.getD j default)
def vbV (xs : List It) (bs : List Int) : Bool := itemsOk xs && decide (0 < bs.length) && (frm bs bs.length == (xs.length : Int) - 1) && lns xs bs bs.length
section
variable {xs : List It} {bs : List Int} {j n m : Nat}
theorem lns_yes (h : lns xs bs j = true) (h' : lnOk xs (frm bs j) (bs.getD j default) = true) : lns xs bs (j + 1) = true := by rw [lns, h, h']; rfl
theorem lns_no (h' : lnOk xs (frm bs j) (bs.getD j default) = false) : lns xs bs (j + 1) = false := by rw [lns, h', Bool.and_false]
theorem lns_stop (h : lns xs bs j = false) (i : Nat) : lns xs bs (j + i) = false := by
  induction i with
  | zero => exact h
  | succ i ih => rw [← Nat.add_assoc, lns, ih]; rfl
theorem lns_of (h : lns xs bs n = true) : ∀ j, j < n → lnOk xs (frm bs j) (bs.getD j default) = true := by
  intro j hj
  rcases hq : lnOk xs (frm bs j) (bs.getD j default) with _ | _
  · have := lns_stop (lns_no hq) (n - (j + 1))
    rw [show j + 1 + (n - (j + 1)) = n by omega, h] at this
    cases this
  · rfl
theorem lns_b (hok : itemsOk xs = true) (hn : xs.length = n) : ∀ j, lns xs bs j = true → (j : Int) ≤ frm bs j + 1 ∧ frm bs j < (n : Int) := by
  intro j
  induction j with
  | zero => intro _; have := (itemsOk_len hok hn).1; simp [frm]; omega
  | succ j ih =>
    intro h
    rw [lns, Bool.and_eq_true] at h
    obtain ⟨h1, h2⟩ := ih h.1
    obtain ⟨a, u, e1, e2, h3, h4, _⟩ := ln_iff hn h.2
    rw [frm_succ, e2]
    omega
theorem vb_no1 (h : itemsOk xs = false) : vbV xs bs = false := by rw [vbV, h]; rfl
theorem vb_zero (h : bs.length = 0) : vbV xs bs = false := by rw [vbV, h]; simp
theorem vb_last (hn : bs.length = m) (hx : xs.length = n) {f : Int} (hf : frm bs m = f) (h : ¬ f = (n : Int) - 1) : vbV xs bs = false := by
  rw [vbV, hn, hf, hx, show (f == (n : Int) - 1) = false by simpa using h]
  simp
theorem vb_bad (hn : bs.length = m) (h : lnOk xs (frm bs j) (bs.getD j default) = false) (hj : j < m) : vbV xs bs = false := by
  have := lns_stop (lns_no h) (m - (j + 1))
  rw [show j + 1 + (m - (j + 1)) = m by omega] at this
  rw [vbV, hn, this, Bool.and_false]
theorem vb_yes (h0 : itemsOk xs = true) (hn : bs.length = m) (hp : 0 < m) (hx : xs.length = n) {f : Int} (hf : frm bs m = f) (h : f = (n : Int) - 1) (hl : lns xs bs m = true) : vbV xs bs = true := by
  rw [vbV, h0, hn, hf, hx, h, hl, decide_eq_true hp]
  simp
theorem vb_iff (hn : bs.length = m) (hx : xs.length = n) (h : vbV xs bs = true) : itemsOk xs = true ∧ 0 < m ∧ frm bs m = (n : Int) - 1 ∧ lns xs bs m = true := by
  simp only [vbV, Bool.and_eq_true, decide_eq_true_eq, beq_iff_eq, hn, hx] at h
  exact ⟨h.1.1.1, h.1.1.2, h.1.2, h.2⟩
theorem frm_last (h : 0 < m) : frm bs m = bs.getD (m - 1) default := by rw [frm, if_neg (by omega)]
end
end Go.Proofs.Ytpcjoehdbohaoaa
