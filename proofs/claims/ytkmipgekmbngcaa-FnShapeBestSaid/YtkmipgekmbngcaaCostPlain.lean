/- What a line costs, in plain terms. No program. No condition. -/
import Derived.Test.YtkmipgekmbngcaaItemPlain
namespace Go.Proofs.Ytkmipgekmbngcaa

def badP (n h : Int) : Int := if n = 0 then 0 else if h = 0 then 10000 else min 10000 (100 * n * n * n / (h * h * h))
/-- How a glue fits a width: 1 exactly, 2 loose, 3 tight, 4 not at all. -/
def fitK (W H d : Int) : Int := if d - W = 0 then 1 else if 0 < d - W then 2 else if -(d - W) ≤ H then 3 else 4
def fitB (W S H d : Int) : Int := if d - W = 0 then 0 else if 0 < d - W then badP (d - W) S else if -(d - W) ≤ H then badP (-(d - W)) H else 10000
def dem (bad pen : Int) (fl : Bool) : Int :=
  (if 0 ≤ pen then (1 + bad + pen) * (1 + bad + pen) else if -1000 < pen then (1 + bad) * (1 + bad) - pen * pen else (1 + bad) * (1 + bad)) + (if fl then 3000 else 0)
def cl (x : Int) : Int := min x 10000
def flg (xs : List It) (a t : Nat) : Bool := decide (0 < a) && (xs.getD (a - 1) default).fl && (xs.getD t default).fl
def lnK (xs : List It) (a t : Nat) (d : Int) : Int := fitK (cl (lgW xs a t)) (cl (lgH xs a t)) d
def lnB (xs : List It) (a t : Nat) (d : Int) : Int := fitB (cl (lgW xs a t)) (cl (lgS xs a t)) (cl (lgH xs a t)) d
/-- Whether the line whose first item is a and that ends at t may be set in the width d, and what it costs. -/
def costOk (xs : List It) (a t : Nat) (d tol : Int) : Bool := !(lnK xs a t d == 4) && decide (lnB xs a t d ≤ tol)
def costV (xs : List It) (a t : Nat) (d tol : Int) : Int := if costOk xs a t d tol then dem (lnB xs a t d) (xs.getD t default).pen (flg xs a t) else 0

theorem mul_b {a b A B : Int} (h1 : 0 ≤ a) (h2 : a ≤ A) (h3 : 0 ≤ b) (h4 : b ≤ B) : 0 ≤ a * b ∧ a * b ≤ A * B :=
  ⟨Int.mul_nonneg h1 h3, Int.mul_le_mul h2 h4 h3 (by omega)⟩
theorem cl_b {x : Int} (h : 0 ≤ x) : 0 ≤ cl x ∧ cl x ≤ 10000 := by unfold cl; omega
theorem cube_b {n : Int} (h0 : 0 ≤ n) (h1 : n ≤ 20000) : (0 ≤ 100 * n ∧ 100 * n ≤ 2000000) ∧ (0 ≤ 100 * n * n ∧ 100 * n * n ≤ 40000000000) ∧ (0 ≤ 100 * n * n * n ∧ 100 * n * n * n ≤ 800000000000000) := by
  obtain ⟨a0, a1⟩ : 0 ≤ 100 * n ∧ 100 * n ≤ 2000000 := by omega
  obtain ⟨b0, b1⟩ := mul_b a0 a1 h0 h1
  obtain ⟨c0, c1⟩ := mul_b b0 b1 h0 h1
  exact ⟨⟨a0, a1⟩, ⟨b0, by omega⟩, c0, by omega⟩
theorem cube_h {h : Int} (h0 : 0 < h) (h1 : h ≤ 10000) : (0 ≤ h * h ∧ h * h ≤ 100000000) ∧ (0 < h * h * h ∧ h * h * h ≤ 1000000000000) := by
  obtain ⟨b0, b1⟩ := mul_b (show 0 ≤ h by omega) h1 (show 0 ≤ h by omega) h1
  obtain ⟨c0, c1⟩ := mul_b b0 b1 (show 0 ≤ h by omega) h1
  exact ⟨⟨b0, by omega⟩, Int.mul_pos (Int.mul_pos h0 h0) h0, by omega⟩
theorem quo_b {n h : Int} (n0 : 0 ≤ n) (n1 : n ≤ 20000) (h0 : 0 < h) (h1 : h ≤ 10000) : 0 ≤ 100 * n * n * n / (h * h * h) ∧ 100 * n * n * n / (h * h * h) ≤ 800000000000000 := by
  obtain ⟨_, _, c0, c1⟩ := cube_b n0 n1
  obtain ⟨_, d0, d1⟩ := cube_h h0 h1
  exact ⟨Int.ediv_nonneg c0 (by omega), Int.le_trans (Int.ediv_le_self _ c0) c1⟩
theorem bad_b (n h : Int) (n0 : 0 ≤ n) (n1 : n ≤ 20000) (h0 : 0 ≤ h) (h1 : h ≤ 10000) : 0 ≤ badP n h ∧ badP n h ≤ 10000 := by
  unfold badP
  split
  · omega
  · split
    · omega
    · have := quo_b n0 n1 (show 0 < h by omega) h1
      omega
/-- Beyond five times what one has, the badness is the greatest. -/
theorem bad_big {n h : Int} (h0 : 0 < h) (h1 : h ≤ 10000) (hn : 5 * h < n) (_n1 : n ≤ 20000) : badP n h = 10000 := by
  have a : 0 ≤ n := by omega
  have h5 : 0 ≤ 5 * h := by omega
  have e1 : (5 * h) * (5 * h) ≤ n * n := Int.mul_le_mul (by omega) (by omega) h5 a
  have e0 : 0 ≤ (5 * h) * (5 * h) := Int.mul_nonneg h5 h5
  have e2 : (5 * h) * (5 * h) * (5 * h) ≤ n * n * n := Int.mul_le_mul e1 (by omega) h5 (Int.mul_nonneg a a)
  have hh : 0 < h * h * h := (cube_h h0 h1).2.1
  have e3 : (5 * h) * (5 * h) * (5 * h) = 125 * (h * h * h) := by
    simp only [Int.mul_assoc, Int.mul_left_comm h 5]
    omega
  have e4 : 100 * n * n * n = 100 * (n * n * n) := by simp only [Int.mul_assoc]
  have e5 : 10000 ≤ 100 * n * n * n / (h * h * h) := by
    rw [Int.le_ediv_iff_mul_le hh, e4]
    omega
  rw [badP, if_neg (by omega), if_neg (by omega)]
  omega
theorem fitB_b {W S H d : Int} (w0 : 0 ≤ W) (w1 : W ≤ 10000) (s0 : 0 ≤ S) (s1 : S ≤ 10000) (h0 : 0 ≤ H) (h1 : H ≤ 10000) (d0 : 0 ≤ d) (d1 : d ≤ 10000) : 0 ≤ fitB W S H d ∧ fitB W S H d ≤ 10000 := by
  unfold fitB
  split
  · omega
  · split
    · exact bad_b _ _ (by omega) (by omega) s0 s1
    · split
      · exact bad_b _ _ (by omega) (by omega) h0 h1
      · omega
theorem lnB_b {xs : List It} {n a t : Nat} {d : Int} (hok : itemsOk xs = true) (hn : xs.length = n) (ht : t < n) (d0 : 0 ≤ d) (d1 : d ≤ 10000) : 0 ≤ lnB xs a t d ∧ lnB xs a t d ≤ 10000 := by
  obtain ⟨⟨a0, _⟩, ⟨b0, _⟩, c0, _⟩ := lg_b (a := a) hok hn ht
  obtain ⟨a1, a2⟩ := cl_b a0
  obtain ⟨b1, b2⟩ := cl_b b0
  obtain ⟨c1, c2⟩ := cl_b c0
  exact fitB_b a1 a2 b1 b2 c1 c2 d0 d1
theorem dem_b {bad pen : Int} (fl : Bool) (b0 : 0 ≤ bad) (b1 : bad ≤ 10000) (p0 : -1000 ≤ pen) (p1 : pen ≤ 1000) : -1000000 ≤ dem bad pen fl ∧ dem bad pen fl ≤ 200000000 := by
  have h1 := mul_b (show 0 ≤ 1 + bad by omega) (show 1 + bad ≤ 10001 by omega) (show 0 ≤ 1 + bad by omega) (show 1 + bad ≤ 10001 by omega)
  unfold dem
  have h3 : (0 : Int) ≤ (if fl then 3000 else 0) ∧ (if fl then 3000 else 0 : Int) ≤ 3000 := by split <;> omega
  split
  · have h2 := mul_b (show 0 ≤ 1 + bad + pen by omega) (show 1 + bad + pen ≤ 11001 by omega) (show 0 ≤ 1 + bad + pen by omega) (show 1 + bad + pen ≤ 11001 by omega)
    omega
  · split
    · have h2 := mul_b (show 0 ≤ -pen by omega) (show -pen ≤ 1000 by omega) (show 0 ≤ -pen by omega) (show -pen ≤ 1000 by omega)
      rw [Int.neg_mul_neg] at h2
      omega
    · omega
end Go.Proofs.Ytkmipgekmbngcaa
