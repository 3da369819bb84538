/- Positions of the boxes of a line, in plain terms. No program. No condition. -/
import Derived.Test.YtpcjoehdbohaoaaItemPlain
namespace Go.Proofs.Ytpcjoehdbohaoaa

/-- By how much a position moves behind the part u of the stretch or shrink. -/
def mvd (d tS tH u : Int) : Int := if 0 < d then (if tS = 0 then 0 else d * u / tS) else -(if tH = 0 then 0 else min (-d) tH * u / tH)
def mv (d tS tH b s h : Int) : Int := b + mvd d tS tH (if 0 < d then s else h)
theorem mvd_b {d tS tH u : Int} (h1 : -100000 ≤ d) (h2 : d ≤ 100000) (h3 : 0 ≤ u) (h4 : u ≤ 100000) (h5 : 0 ≤ tS) (h6 : 0 ≤ tH) : -10000000000 ≤ mvd d tS tH u ∧ mvd d tS tH u ≤ 10000000000 := by
  unfold mvd
  split
  · split
    · omega
    · have p0 : 0 ≤ d * u := Int.mul_nonneg (by omega) h3
      have p1 : d * u ≤ 100000 * 100000 := Int.mul_le_mul h2 h4 h3 (by omega)
      have q0 : 0 ≤ d * u / tS := Int.ediv_nonneg p0 (by omega)
      have q1 : d * u / tS ≤ d * u := Int.ediv_le_self _ p0
      omega
  · split
    · omega
    · have m0 : 0 ≤ min (-d) tH := by omega
      have p0 : 0 ≤ min (-d) tH * u := Int.mul_nonneg m0 h3
      have p1 : min (-d) tH * u ≤ 100000 * 100000 := Int.mul_le_mul (by omega) h4 h3 (by omega)
      have q0 : 0 ≤ min (-d) tH * u / tH := Int.ediv_nonneg p0 (by omega)
      have q1 : min (-d) tH * u / tH ≤ min (-d) tH * u := Int.ediv_le_self _ p0
      omega
theorem mv_b {d tS tH b s h : Int} (h1 : -100000 ≤ d) (h2 : d ≤ 100000) (hs : 0 ≤ s ∧ s ≤ 100000) (hh : 0 ≤ h ∧ h ≤ 100000) (hb : 0 ≤ b ∧ b ≤ 100000) (h5 : 0 ≤ tS) (h6 : 0 ≤ tH) : -20000000000 ≤ mv d tS tH b s h ∧ mv d tS tH b s h ≤ 20000000000 := by
  unfold mv
  have : 0 ≤ (if 0 < d then s else h) ∧ (if 0 < d then s else h) ≤ 100000 := by split <;> omega
  have := mvd_b (tS := tS) (tH := tH) h1 h2 this.1 this.2 h5 h6
  omega
/-- The positions of the boxes from item s to before item j. -/
def posP (l : List It) (d tS tH : Int) (s j : Nat) : List Int := ((List.range' s (j - s)).filter fun i => kd l i == 1).map fun i => mv d tS tH (sW (sg l s i)) (sS (sg l s i)) (sH (sg l s i))
theorem posP_none (l : List It) (d tS tH : Int) {s j : Nat} (h : j ≤ s) : posP l d tS tH s j = [] := by simp [posP, show j - s = 0 by omega]
theorem posP_snoc (l : List It) (d tS tH : Int) {s j : Nat} (h : s ≤ j) : posP l d tS tH s (j + 1) = if kd l j = 1 then posP l d tS tH s j ++ [mv d tS tH (sW (sg l s j)) (sS (sg l s j)) (sH (sg l s j))] else posP l d tS tH s j := by
  unfold posP
  rw [show j + 1 - s = (j - s) + 1 by omega, List.range'_concat, List.filter_append, List.map_append]
  have e : s + 1 * (j - s) = j := by omega
  rw [e]
  by_cases hk : kd l j = 1
  · simp [hk]
  · simp [hk]
theorem posP_len (l : List It) (d tS tH : Int) (s j : Nat) : (posP l d tS tH s j).length ≤ j - s := by
  unfold posP
  rw [List.length_map]
  refine Nat.le_trans (List.length_filter_le _ _) ?_
  simp
def setP (l : List It) (a t : Nat) (w : Int) : List Int :=
  posP l (w - lgW l a t) (lgS l a t) (lgH l a t) (lst l a t) t ++ [mv (w - lgW l a t) (lgS l a t) (lgH l a t) (lgW l a t) (lgS l a t) (lgH l a t)]
def setV (l : List It) (f t w : Int) : List Int := if lineV l f t && inR w 1 10000 then setP l (f + 1).toNat t.toNat w else []
theorem sv_no {xs : List It} {f t w : Int} (h : (lineV xs f t && inR w 1 10000) = false) : setV xs f t w = [] := by simp [setV, h]
theorem sv_yes {xs : List It} {f w : Int} {a u : Nat} (h : lineV xs f u = true) (hw : inR w 1 10000 = true) (hf : f = (a : Int) - 1) : setV xs f u w = setP xs a u w := by
  rw [setV, h, hw, show (f + 1).toNat = a by omega]
  rfl
theorem setP_len (l : List It) (a t : Nat) (w : Int) : (setP l a t w).length ≤ t - lst l a t + 1 := by
  unfold setP
  have := posP_len l (w - lgW l a t) (lgS l a t) (lgH l a t) (lst l a t) t
  simp
  omega
end Go.Proofs.Ytpcjoehdbohaoaa
