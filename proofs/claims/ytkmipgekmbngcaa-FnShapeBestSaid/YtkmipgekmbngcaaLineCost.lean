/- The cost of a line, of the program and of the reference, is what the plain functions say. Conditions: the slice reads as valid items; the line is one. -/
import Derived.Test.YtkmipgekmbngcaaCost
import Derived.Test.YtkmipgekmbngcaaCostS
import Derived.BigQuiet
import Derived.BigGuardPart
import Derived.StillTail
namespace Go.Proofs.Ytkmipgekmbngcaa
open Go.RowKit

set_option maxRecDepth 100000 in
set_option maxHeartbeats 4000000 in
theorem lineCost_i (A : Option Addr) (n cap a t : Nat) (f d tol : Int) (xs : List It) (w : World) (hok : itemsOk xs = true) (hn : xs.length = n) (hcap : n ≤ cap ∧ cap ≤ maxLen) (hf : f + 1 = (a : Int)) (ha : a ≤ t) (ht : t < n) (hr : Row w w.heap.size 6 A n (itc xs)) (d0 : 1 ≤ d) (d1 : d ≤ 10000) :
    Calls Try.prog 58 #[.slice A n cap, .int .i64 f, .int .i64 (t : Int), .int .i64 d, .int .i64 tol] w fun e w' => e = .returned (.tuple #[.int .i64 (costV xs a t d tol), .bool (costOk xs a t d tol)]) ∧ Below w.heap.size w w' := by
  have hmn := (itemsOk_len hok hn).2
  obtain ⟨B0, B1⟩ := lnB_b (a := a) hok hn ht (show 0 ≤ d by omega) d1
  obtain ⟨b, off, rfl, hb, hc⟩ := id hr (by omega)
  obtain ⟨y, hy⟩ : ∃ y, xs.getD t default = y := ⟨_, rfl⟩
  obtain ⟨_, _, _, ⟨p0, p1⟩, _⟩ := itemOk_b (itemsOk_at hok hn ht hy)
  have t4 := hc t 4 ht (by omega)
  have t5 := hc t 5 ht (by omega)
  simp only [itc, itv, hy] at t4 t5
  have hyes : ∀ F, flg xs a t = F → ¬ lnK xs a t d = 4 → ¬ tol < lnB xs a t d → costOk xs a t d tol = true ∧ costV xs a t d tol = dem (lnB xs a t d) y.pen F := fun F hF h1 h2 => by
    have := cost_yes h1 h2
    rwa [hy, hF] at this
  have HYES := Lib.hid hyes
  have HNO1 := Lib.hid (fun h : lnK xs a t d = 4 => cost_no1 (tol := tol) h)
  have HNO2 := Lib.hid (fun h : tol < lnB xs a t d => cost_no2 h)
  have HY := Lib.hid hy
  have HOK := Lib.hid hok
  have HN := Lib.hid hn
  have HR := Lib.hid hr
  have HC := Lib.hid hc
  have T4 := Lib.hid t4
  have T5 := Lib.hid t5
  have hmc : off + n * 6 ≤ off + n * 6 := Nat.le_refl _
  have htn : (t : Int) < (n : Int) := by omega
  clear hyes hok hn hr hy hc t4 t5 hmc
  go_enter Try.func58, Try.ntmps58
  go_wp2_with fail
  ((with_reducible refine (fitLine_i _ _ _ _ _ _ _ xs _ HOK.out HN.out hcap hf ha ht ?_ d0 d1).mono ?_); (exact HR.out); rintro e w1 ⟨rfl, hb1⟩)
  have hB := hb1
  obtain ⟨K, hK⟩ : ∃ K, lnK xs a t d = K := ⟨_, rfl⟩
  obtain ⟨B, hBB⟩ : ∃ B, lnB xs a t d = B := ⟨_, rfl⟩
  rw [hK] at HYES HNO1 ⊢
  rw [hBB] at HYES HNO2 B0 B1 ⊢
  clear hK hBB
  by_cases e1 : K = 4
  · obtain ⟨k1, k2⟩ := HNO1.out e1
    have K1 := Lib.hid k1
    have K2 := Lib.hid k2
    clear k1 k2
    go_wp2_with fail
    (first | go_returns | (refine bodyPost_ret (by simp [results, Try.results58, go_sem, *]; try rfl) rfl ?_))
    exact ⟨by rw [K1.out, K2.out]; rfl, hB⟩
  have hKf : (K == 4) = false := by simpa using e1
  by_cases e2 : tol < B
  · obtain ⟨k1, k2⟩ := HNO2.out e2
    have K1 := Lib.hid k1
    have K2 := Lib.hid k2
    clear k1 k2
    go_wp2_with fail
    (first | go_returns | (refine bodyPost_ret (by simp [results, Try.results58, go_sem, *]; try rfl) rfl ?_))
    exact ⟨by rw [K1.out, K2.out]; rfl, hB⟩
  have hBt : decide (tol < B) = false := decide_eq_false e2
  have c4 : w1.cell? ⟨b, off + t * 6 + 4, none⟩ = _ := (hB.cell (p := ⟨b, off + t * 6 + 4, none⟩) hb).trans T4.out
  have c5 : w1.cell? ⟨b, off + t * 6 + 5, none⟩ = _ := (hB.cell (p := ⟨b, off + t * 6 + 5, none⟩) hb).trans T5.out
  rcases a with _ | k
  · obtain ⟨k1, k2⟩ := HYES.out false (flg_zero _ _) (by omega) (by omega)
    have K1 := Lib.hid k1
    have K2 := Lib.hid k2
    obtain rfl : f = -1 := by omega
    clear k1 k2
    go_wp2_with fail
    ((with_reducible refine (demerits_i _ _ _ _ B0 B1 p0 p1).mono ?_); rintro e w' ⟨rfl, rfl⟩)
    go_wp2_with fail
    (first | go_returns | (refine bodyPost_ret (by simp [results, Try.results58, go_sem, *]; try rfl) rfl ?_))
    exact ⟨by rw [K1.out, K2.out]; rfl, hB⟩
  have hkn : (k : Int) < (n : Int) := by omega
  obtain ⟨x, hx⟩ : ∃ x, xs.getD k default = x := ⟨_, rfl⟩
  have t6 := HC.out k 5 (by omega) (by omega)
  simp only [itc, itv, hx] at t6
  have c6 : w1.cell? ⟨b, off + k * 6 + 5, none⟩ = _ := (hB.cell (p := ⟨b, off + k * 6 + 5, none⟩) hb).trans t6
  obtain rfl : f = (k : Int) := by omega
  have hk0 : decide ((0 : Int) ≤ (k : Int)) = true := decide_eq_true (by omega)
  clear t6
  rcases hu : x.fl with _ | _
  · obtain ⟨k1, k2⟩ := HYES.out (false && y.fl) (flg_succ (by rw [hx, hu]) (by rw [HY.out])) (by omega) (by omega)
    have K1 := Lib.hid k1
    have K2 := Lib.hid k2
    rw [hu] at c6
    clear k1 k2 hx hu
    go_wp2_with fail
    ((with_reducible refine (demerits_i _ _ _ _ B0 B1 p0 p1).mono ?_); rintro e w' ⟨rfl, rfl⟩)
    go_wp2_with fail
    (first | go_returns | (refine bodyPost_ret (by simp [results, Try.results58, go_sem, *]; try rfl) rfl ?_))
    exact ⟨by rw [K1.out, K2.out, Bool.false_and]; rfl, hB⟩
  rcases hv : y.fl with _ | _
  all_goals
    obtain ⟨k1, k2⟩ := HYES.out (true && y.fl) (flg_succ (by rw [hx, hu]) (by rw [HY.out])) (by omega) (by omega)
    rw [hv, Bool.true_and] at k2
    have K1 := Lib.hid k1
    have K2 := Lib.hid k2
    rw [hu] at c6
    rw [hv] at c5
    clear k1 k2 hx hu hv
    go_wp2_with fail
    ((with_reducible refine (demerits_i _ _ _ _ B0 B1 p0 p1).mono ?_); rintro e w' ⟨rfl, rfl⟩)
    go_wp2_with fail
    (first | go_returns | (refine bodyPost_ret (by simp [results, Try.results58, go_sem, *]; try rfl) rfl ?_))
    exact ⟨by rw [K1.out, K2.out]; rfl, hB⟩

end Go.Proofs.Ytkmipgekmbngcaa
