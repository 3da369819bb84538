/- The cost of a line, of the reference, is what the plain functions say. Conditions: the slice reads as valid items; the line is one. -/
import Derived.Test.YtkmipgekmbngcaaCostPlain
import Derived.Test.YtkmipgekmbngcaaItemG
import Derived.Test.YtkmipgekmbngcaaItemGs
import Derived.BigQuiet
import Derived.BigGuardPart
import Derived.StillTail
namespace Go.Proofs.Ytkmipgekmbngcaa
open Go.RowKit

set_option maxHeartbeats 1000000 in
theorem badness_s (n v : Int) (w : World) (n0 : 0 ≤ n) (n1 : n ≤ 20000) (v0 : 0 ≤ v) (v1 : v ≤ 10000) :
    Calls Try.prog 92 #[.int .i64 n, .int .i64 v] w fun e w' => e = .returned (.int .i64 (badP n v)) ∧ w' = w := by
  by_cases e1 : n = 0
  · have hb : badP n v = 0 := by rw [badP, if_pos e1]
    rw [hb]
    go_enter Try.func92, Try.ntmps92
    go_wp2_with fail
    go_ret
    exact ⟨rfl, rfl⟩
  by_cases e2 : v = 0
  · have hb : badP n v = 10000 := by rw [badP, if_neg e1, if_pos e2]
    rw [hb]
    go_enter Try.func92, Try.ntmps92
    go_wp2_with fail
    go_ret
    exact ⟨rfl, rfl⟩
  by_cases e3 : 5 * v < n
  · rw [bad_big (show 0 < v by omega) v1 e3 n1]
    go_enter Try.func92, Try.ntmps92
    go_wp2_with fail
    go_ret
    exact ⟨rfl, rfl⟩
  have hb : badP n v = min 10000 (100 * n * n * n / (v * v * v)) := by rw [badP, if_neg e1, if_neg e2]
  rw [hb]
  obtain ⟨⟨a0, a1⟩, ⟨b0, b1⟩, c0, c1⟩ := cube_b n0 n1
  obtain ⟨⟨d0, d1⟩, f0, f1⟩ := cube_h (show 0 < v by omega) v1
  obtain ⟨q0, q1⟩ := quo_b n0 n1 (show 0 < v by omega) v1
  have m1 : IntKind.i64.wrap (100 * n) = 100 * n := IntWalk.i64_in _ (by omega)
  have m2 : IntKind.i64.wrap (100 * n * n) = 100 * n * n := IntWalk.i64_in _ (by omega)
  have m3 : IntKind.i64.wrap (100 * n * n * n) = 100 * n * n * n := IntWalk.i64_in _ (by omega)
  have m4 : IntKind.i64.wrap (v * v) = v * v := IntWalk.i64_in _ (by omega)
  have m5 : IntKind.i64.wrap (v * v * v) = v * v * v := IntWalk.i64_in _ (by omega)
  go_enter Try.func92, Try.ntmps92
  go_wp2_with fail
  all_goals
    go_ret
    refine ⟨?_, rfl⟩
    show Ending.returned (.int .i64 _) = _
    congr 2
    omega

set_option maxHeartbeats 1000000 in
theorem demerits_s (b p : Int) (fl : Bool) (w : World) (b0 : 0 ≤ b) (b1 : b ≤ 10000) (p0 : -1000 ≤ p) (p1 : p ≤ 1000) :
    Calls Try.prog 86 #[.int .i64 b, .int .i64 p, .bool fl] w fun e w' => e = .returned (.int .i64 (dem b p fl)) ∧ w' = w := by
  have h1 := mul_b (show 0 ≤ 1 + b by omega) (show 1 + b ≤ 10001 by omega) (show 0 ≤ 1 + b by omega) (show 1 + b ≤ 10001 by omega)
  have m0 : IntKind.i64.wrap (1 + b) = 1 + b := IntWalk.i64_in _ (by omega)
  have m1 : IntKind.i64.wrap ((1 + b) * (1 + b)) = (1 + b) * (1 + b) := IntWalk.i64_in _ (by omega)
  by_cases e1 : 0 ≤ p
  · have h2 := mul_b (show 0 ≤ 1 + b + p by omega) (show 1 + b + p ≤ 11001 by omega) (show 0 ≤ 1 + b + p by omega) (show 1 + b + p ≤ 11001 by omega)
    have m2 : IntKind.i64.wrap (1 + b + p) = 1 + b + p := IntWalk.i64_in _ (by omega)
    have m3 : IntKind.i64.wrap ((1 + b + p) * (1 + b + p)) = (1 + b + p) * (1 + b + p) := IntWalk.i64_in _ (by omega)
    have m4 : IntKind.i64.wrap ((1 + b + p) * (1 + b + p) + 3000) = (1 + b + p) * (1 + b + p) + 3000 := IntWalk.i64_in _ (by omega)
    have hb : dem b p fl = (1 + b + p) * (1 + b + p) + (if fl then 3000 else 0) := by rw [dem, if_pos e1]
    rw [hb]
    rcases fl with _ | _
    all_goals
      go_enter Try.func86, Try.ntmps86
      go_wp2_with fail
      go_ret
      refine ⟨?_, rfl⟩
      show Ending.returned (.int .i64 _) = _
      congr 2
  by_cases e2 : -1000 < p
  · have h2 := mul_b (show 0 ≤ -p by omega) (show -p ≤ 1000 by omega) (show 0 ≤ -p by omega) (show -p ≤ 1000 by omega)
    rw [Int.neg_mul_neg] at h2
    have m2 : IntKind.i64.wrap (p * p) = p * p := IntWalk.i64_in _ (by omega)
    have m3 : IntKind.i64.wrap ((1 + b) * (1 + b) - p * p) = (1 + b) * (1 + b) - p * p := IntWalk.i64_in _ (by omega)
    have m4 : IntKind.i64.wrap ((1 + b) * (1 + b) - p * p + 3000) = (1 + b) * (1 + b) - p * p + 3000 := IntWalk.i64_in _ (by omega)
    have hb : dem b p fl = (1 + b) * (1 + b) - p * p + (if fl then 3000 else 0) := by rw [dem, if_neg e1, if_pos e2]
    rw [hb]
    rcases fl with _ | _
    all_goals
      go_enter Try.func86, Try.ntmps86
      go_wp2_with fail
      go_ret
      refine ⟨?_, rfl⟩
      show Ending.returned (.int .i64 _) = _
      congr 2
  · have m4 : IntKind.i64.wrap ((1 + b) * (1 + b) + 3000) = (1 + b) * (1 + b) + 3000 := IntWalk.i64_in _ (by omega)
    have hb : dem b p fl = (1 + b) * (1 + b) + (if fl then 3000 else 0) := by rw [dem, if_neg e1, if_neg e2]
    rw [hb]
    rcases fl with _ | _
    all_goals
      go_enter Try.func86, Try.ntmps86
      go_wp2_with fail
      go_ret
      refine ⟨?_, rfl⟩
      show Ending.returned (.int .i64 _) = _
      congr 2

theorem clampGlue_s (a b c : Int) (w : World) :
    Calls Try.prog 84 #[.agg #[.int .i64 a, .int .i64 b, .int .i64 c]] w fun e w' => e = .returned (.agg #[.int .i64 (cl a), .int .i64 (cl b), .int .i64 (cl c)]) ∧ Below w.heap.size w w' := by
  go_enter Try.func84, Try.ntmps84
  go_wp2_with fail
  all_goals
    (first | go_returns | (refine bodyPost_ret (by simp [results, Try.results84, go_sem, *]; try rfl) rfl ?_))
    refine ⟨?_, by (repeat' (first | (with_reducible exact Below.refl _ _) | (with_reducible assumption) | (with_reducible refine Below.alloc ?_ ?_ _) | (with_reducible refine Below.drew ?_) | (with_reducible refine below_drewN ?_ _) | (with_reducible refine Below.setCell ?_ ?_ _) | (with_reducible refine below_then ?_ ?_ (by with_reducible assumption)) | (with_reducible exact Nat.le_refl _) | go_size | (simp only [*]; done)))⟩
    first | rw [show cl a = a by unfold cl; omega] | rw [show cl a = 10000 by unfold cl; omega]
    first | rw [show cl b = b by unfold cl; omega] | rw [show cl b = 10000 by unfold cl; omega]
    first | rw [show cl c = c by unfold cl; omega] | rw [show cl c = 10000 by unfold cl; omega]
theorem cost_no1 {xs : List It} {a t : Nat} {d tol : Int} (h : lnK xs a t d = 4) : costOk xs a t d tol = false ∧ costV xs a t d tol = 0 := by
  have e : costOk xs a t d tol = false := by rw [costOk, h]; rfl
  exact ⟨e, by rw [costV, e]; rfl⟩
theorem cost_no2 {xs : List It} {a t : Nat} {d tol : Int} (h : tol < lnB xs a t d) : costOk xs a t d tol = false ∧ costV xs a t d tol = 0 := by
  have e : costOk xs a t d tol = false := by rw [costOk, decide_eq_false (by omega), Bool.and_false]
  exact ⟨e, by rw [costV, e]; rfl⟩
theorem cost_yes {xs : List It} {a t : Nat} {d tol : Int} (h : ¬ lnK xs a t d = 4) (h' : ¬ tol < lnB xs a t d) : costOk xs a t d tol = true ∧ costV xs a t d tol = dem (lnB xs a t d) (xs.getD t default).pen (flg xs a t) := by
  have e : costOk xs a t d tol = true := by rw [costOk, decide_eq_true (by omega), Bool.and_true]; simpa using h
  exact ⟨e, by rw [costV, e]; rfl⟩
theorem flg_zero (xs : List It) (t : Nat) : flg xs 0 t = false := rfl
theorem flg_succ {xs : List It} {k t : Nat} {u v : Bool} (hu : (xs.getD k default).fl = u) (hv : (xs.getD t default).fl = v) : flg xs (k + 1) t = (u && v) := by
  rw [flg, Nat.add_sub_cancel, hu, hv, decide_eq_true (by omega), Bool.true_and]

set_option maxHeartbeats 1000000 in
theorem fitGlue_s (a b c d : Int) (w : World) (a0 : 0 ≤ a) (a1 : a ≤ 10000) (b0 : 0 ≤ b) (b1 : b ≤ 10000) (c0 : 0 ≤ c) (c1 : c ≤ 10000) (d0 : 0 ≤ d) (d1 : d ≤ 10000) :
    Calls Try.prog 83 #[.agg #[.int .i64 a, .int .i64 b, .int .i64 c], .int .i64 d] w fun e w' => e = .returned (.tuple #[.int .i64 (fitK a c d), .int .i64 (fitB a b c d)]) ∧ Below w.heap.size w w' := by
  have hk1 : d - a = 0 → fitK a c d = 1 ∧ fitB a b c d = 0 := fun h => ⟨by rw [fitK, if_pos h], by rw [fitB, if_pos h]⟩
  have hk2 : ¬ d - a = 0 → 0 < d - a → fitK a c d = 2 ∧ fitB a b c d = badP (d - a) b := fun h h' => ⟨by rw [fitK, if_neg h, if_pos h'], by rw [fitB, if_neg h, if_pos h']⟩
  have hk3 : ¬ d - a = 0 → ¬ 0 < d - a → -(d - a) ≤ c → fitK a c d = 3 ∧ fitB a b c d = badP (-(d - a)) c := fun h h' h3 => ⟨by rw [fitK, if_neg h, if_neg h', if_pos h3], by rw [fitB, if_neg h, if_neg h', if_pos h3]⟩
  have hk4 : ¬ d - a = 0 → ¬ 0 < d - a → ¬ -(d - a) ≤ c → fitK a c d = 4 ∧ fitB a b c d = 10000 := fun h h' h3 => ⟨by rw [fitK, if_neg h, if_neg h', if_neg h3], by rw [fitB, if_neg h, if_neg h', if_neg h3]⟩
  have HK1 := Lib.hid hk1
  have HK2 := Lib.hid hk2
  have HK3 := Lib.hid hk3
  have HK4 := Lib.hid hk4
  clear hk1 hk2 hk3 hk4
  obtain ⟨D, hD⟩ : ∃ D, d - a = D := ⟨_, rfl⟩
  have hDb : -10000 ≤ D ∧ D ≤ 10000 := by omega
  obtain ⟨D0, D1⟩ := hDb
  rw [hD] at HK1 HK2 HK3 HK4
  have mD : IntKind.i64.wrap (d - a) = D := by rw [hD]; exact IntWalk.i64_in _ (by omega)
  have g0 := Blk.new w 76 #[.int .i64 a, .int .i64 b, .int .i64 c]
  clear hD
  go_enter Try.func83, Try.ntmps83
  have plt := g0.lt
  have pc0 := g0.cell 0; have pf0 := g0.frozen 0
  have pc1 := g0.cell 1; have pf1 := g0.frozen 1
  have pc2 := g0.cell 2; have pf2 := g0.frozen 2
  simp only [List.getElem?_toArray, List.getElem?_cons_zero, List.getElem?_cons_succ] at pc0 pc1 pc2
  have mN : IntKind.i64.wrap (-D) = -D := IntWalk.i64_in _ (by omega)
  by_cases e1 : D = 0
  · obtain ⟨k1, k2⟩ := HK1.out e1
    have K1 := Lib.hid k1
    have K2 := Lib.hid k2
    clear k1 k2
    go_wp2_with fail
    (first | go_returns | (refine bodyPost_ret (by simp [results, Try.results83, go_sem, *]; try rfl) rfl ?_))
    exact ⟨by rw [K1.out, K2.out]; rfl, by (repeat' (first | (with_reducible exact Below.refl _ _) | (with_reducible assumption) | (with_reducible refine Below.alloc ?_ ?_ _) | (with_reducible refine Below.drew ?_) | (with_reducible refine below_drewN ?_ _) | (with_reducible refine Below.setCell ?_ ?_ _) | (with_reducible refine below_then ?_ ?_ (by with_reducible assumption)) | (with_reducible exact Nat.le_refl _) | go_size | (simp only [*]; done)))⟩
  by_cases e2 : 0 < D
  · obtain ⟨k1, k2⟩ := HK2.out e1 (by omega)
    have K1 := Lib.hid k1
    have K2 := Lib.hid k2
    clear k1 k2
    go_wp2_with fail
    ((with_reducible refine (badness_s _ _ _ (by omega) (by omega) b0 b1).mono ?_); rintro e w' ⟨rfl, rfl⟩)
    go_wp2_with fail
    (first | go_returns | (refine bodyPost_ret (by simp [results, Try.results83, go_sem, *]; try rfl) rfl ?_))
    exact ⟨by rw [K1.out, K2.out]; rfl, by (repeat' (first | (with_reducible exact Below.refl _ _) | (with_reducible assumption) | (with_reducible refine Below.alloc ?_ ?_ _) | (with_reducible refine Below.drew ?_) | (with_reducible refine below_drewN ?_ _) | (with_reducible refine Below.setCell ?_ ?_ _) | (with_reducible refine below_then ?_ ?_ (by with_reducible assumption)) | (with_reducible exact Nat.le_refl _) | go_size | (simp only [*]; done)))⟩
  by_cases e3 : c < -D
  · obtain ⟨k1, k2⟩ := HK4.out e1 (by omega) (by omega)
    have K1 := Lib.hid k1
    have K2 := Lib.hid k2
    clear k1 k2
    go_wp2_with fail
    (first | go_returns | (refine bodyPost_ret (by simp [results, Try.results83, go_sem, *]; try rfl) rfl ?_))
    exact ⟨by rw [K1.out, K2.out]; rfl, by (repeat' (first | (with_reducible exact Below.refl _ _) | (with_reducible assumption) | (with_reducible refine Below.alloc ?_ ?_ _) | (with_reducible refine Below.drew ?_) | (with_reducible refine below_drewN ?_ _) | (with_reducible refine Below.setCell ?_ ?_ _) | (with_reducible refine below_then ?_ ?_ (by with_reducible assumption)) | (with_reducible exact Nat.le_refl _) | go_size | (simp only [*]; done)))⟩
  · obtain ⟨k1, k2⟩ := HK3.out e1 (by omega) (by omega)
    have K1 := Lib.hid k1
    have K2 := Lib.hid k2
    clear k1 k2
    go_wp2_with fail
    ((with_reducible refine (badness_s _ _ _ (by omega) (by omega) c0 c1).mono ?_); rintro e w' ⟨rfl, rfl⟩)
    go_wp2_with fail
    (first | go_returns | (refine bodyPost_ret (by simp [results, Try.results83, go_sem, *]; try rfl) rfl ?_))
    exact ⟨by rw [K1.out, K2.out]; rfl, by (repeat' (first | (with_reducible exact Below.refl _ _) | (with_reducible assumption) | (with_reducible refine Below.alloc ?_ ?_ _) | (with_reducible refine Below.drew ?_) | (with_reducible refine below_drewN ?_ _) | (with_reducible refine Below.setCell ?_ ?_ _) | (with_reducible refine below_then ?_ ?_ (by with_reducible assumption)) | (with_reducible exact Nat.le_refl _) | go_size | (simp only [*]; done)))⟩

set_option maxRecDepth 100000 in
set_option maxHeartbeats 4000000 in
theorem lineCost_s (A : Option Addr) (n cap a t : Nat) (f d tol : Int) (xs : List It) (w : World) (hok : itemsOk xs = true) (hn : xs.length = n) (hF : noF xs a t = true) (hf : f + 1 = (a : Int)) (ha : a ≤ t) (ht : t < n) (hr : Row w w.heap.size 6 A n (itc xs)) (d0 : 1 ≤ d) (d1 : d ≤ 10000) :
    Calls Try.prog 63 #[.slice A n cap, .int .i64 f, .int .i64 (t : Int), .int .i64 d, .int .i64 tol] w fun e w' => e = .returned (.tuple #[.int .i64 (costV xs a t d tol), .bool (costOk xs a t d tol)]) ∧ Below w.heap.size w w' := by
  have hmn := (itemsOk_len hok hn).2
  obtain ⟨B0, B1⟩ := lnB_b (a := a) hok hn ht (show 0 ≤ d by omega) d1
  obtain ⟨b, off, rfl, hb, hc⟩ := id hr (by omega)
  obtain ⟨y, hy⟩ : ∃ y, xs.getD t default = y := ⟨_, rfl⟩
  obtain ⟨_, _, _, ⟨p0, p1⟩, _⟩ := itemOk_b (itemsOk_at hok hn ht hy)
  obtain ⟨⟨x0, x1⟩, ⟨y0, y1⟩, z0, z1⟩ := lg_b (a := a) hok hn ht
  obtain ⟨ax0, ax1⟩ := cl_b x0
  obtain ⟨ay0, ay1⟩ := cl_b y0
  obtain ⟨az0, az1⟩ := cl_b z0
  have HF := Lib.hid hF
  clear hF x0 x1 y0 y1 z0 z1
  have t4 := hc t 4 ht (by omega)
  have t5 := hc t 5 ht (by omega)
  simp only [itc, itv, hy] at t4 t5
  have hyes : ∀ F, flg xs a t = F → ¬ lnK xs a t d = 4 → ¬ tol < lnB xs a t d → costOk xs a t d tol = true ∧ costV xs a t d tol = dem (lnB xs a t d) y.pen F := fun F hF h1 h2 => by
    have := cost_yes h1 h2
    rwa [hy, hF] at this
  have HYES := Lib.hid hyes
  have HNO1 := Lib.hid (fun h : lnK xs a t d = 4 => cost_no1 (tol := tol) h)
  have HNO2 := Lib.hid (fun h : tol < lnB xs a t d => cost_no2 h)
  have HY := Lib.hid hy
  have HOK := Lib.hid hok
  have HN := Lib.hid hn
  have HR := Lib.hid hr
  have HC := Lib.hid hc
  have T4 := Lib.hid t4
  have T5 := Lib.hid t5
  have hmc : off + n * 6 ≤ off + n * 6 := Nat.le_refl _
  have htn : (t : Int) < (n : Int) := by omega
  clear hyes hok hn hr hy hc t4 t5 hmc
  go_enter Try.func63, Try.ntmps63
  go_wp2_with fail
  ((with_reducible refine (lineGlue_s _ _ _ _ _ _ xs _ HOK.out HN.out hf ha ht HF.out ?_).mono ?_); (exact HR.out); rintro e w1 ⟨rfl, hb1⟩)
  go_wp2_with fail
  ((with_reducible refine (clampGlue_s _ _ _ _).mono ?_); rintro e w2 ⟨rfl, hb2⟩)
  go_wp2_with fail
  ((with_reducible refine (fitGlue_s _ _ _ _ _ ax0 ax1 ay0 ay1 az0 az1 (by omega) d1).mono ?_); rintro e w3 ⟨rfl, hb3⟩)
  rw [show fitK (cl (lgW xs a t)) (cl (lgH xs a t)) d = lnK xs a t d from rfl, show fitB (cl (lgW xs a t)) (cl (lgS xs a t)) (cl (lgH xs a t)) d = lnB xs a t d from rfl]
  have hB := (below_then (Nat.le_refl _) (below_then (Nat.le_refl _) hb1 hb2) hb3)
  obtain ⟨K, hK⟩ : ∃ K, lnK xs a t d = K := ⟨_, rfl⟩
  obtain ⟨B, hBB⟩ : ∃ B, lnB xs a t d = B := ⟨_, rfl⟩
  rw [hK] at HYES HNO1 ⊢
  rw [hBB] at HYES HNO2 B0 B1 ⊢
  clear hK hBB
  by_cases e1 : K = 4
  · obtain ⟨k1, k2⟩ := HNO1.out e1
    have K1 := Lib.hid k1
    have K2 := Lib.hid k2
    clear k1 k2
    go_wp2_with fail
    (first | go_returns | (refine bodyPost_ret (by simp [results, Try.results63, go_sem, *]; try rfl) rfl ?_))
    exact ⟨by rw [K1.out, K2.out]; rfl, hB⟩
  have hKf : (K == 4) = false := by simpa using e1
  by_cases e2 : tol < B
  · obtain ⟨k1, k2⟩ := HNO2.out e2
    have K1 := Lib.hid k1
    have K2 := Lib.hid k2
    clear k1 k2
    go_wp2_with fail
    (first | go_returns | (refine bodyPost_ret (by simp [results, Try.results63, go_sem, *]; try rfl) rfl ?_))
    exact ⟨by rw [K1.out, K2.out]; rfl, hB⟩
  have hBt : decide (tol < B) = false := decide_eq_false e2
  have c4 : w3.cell? ⟨b, off + t * 6 + 4, none⟩ = _ := (hB.cell (p := ⟨b, off + t * 6 + 4, none⟩) hb).trans T4.out
  have c5 : w3.cell? ⟨b, off + t * 6 + 5, none⟩ = _ := (hB.cell (p := ⟨b, off + t * 6 + 5, none⟩) hb).trans T5.out
  rcases a with _ | k
  · obtain ⟨k1, k2⟩ := HYES.out false (flg_zero _ _) (by omega) (by omega)
    have K1 := Lib.hid k1
    have K2 := Lib.hid k2
    obtain rfl : f = -1 := by omega
    clear k1 k2
    go_wp2_with fail
    go_quiet ((go_at_call 86; exact Calls.quiet_of_same (demerits_s _ _ _ _ B0 B1 p0 p1)))
    go_wp2_with fail
    (first | go_returns | (refine bodyPost_ret (by simp [results, Try.results63, go_sem, *]; try rfl) rfl ?_))
    exact ⟨by rw [K1.out, K2.out]; rfl, below_drewN hB _⟩
  have hkn : (k : Int) < (n : Int) := by omega
  obtain ⟨x, hx⟩ : ∃ x, xs.getD k default = x := ⟨_, rfl⟩
  have t6 := HC.out k 5 (by omega) (by omega)
  simp only [itc, itv, hx] at t6
  have c6 : w3.cell? ⟨b, off + k * 6 + 5, none⟩ = _ := (hB.cell (p := ⟨b, off + k * 6 + 5, none⟩) hb).trans t6
  obtain rfl : f = (k : Int) := by omega
  have hk0 : decide ((0 : Int) ≤ (k : Int)) = true := decide_eq_true (by omega)
  clear t6
  rcases hu : x.fl with _ | _
  · obtain ⟨k1, k2⟩ := HYES.out (false && y.fl) (flg_succ (by rw [hx, hu]) (by rw [HY.out])) (by omega) (by omega)
    have K1 := Lib.hid k1
    have K2 := Lib.hid k2
    rw [hu] at c6
    clear k1 k2 hx hu
    go_wp2_with fail
    go_quiet ((go_at_call 86; exact Calls.quiet_of_same (demerits_s _ _ _ _ B0 B1 p0 p1)))
    go_wp2_with fail
    (first | go_returns | (refine bodyPost_ret (by simp [results, Try.results63, go_sem, *]; try rfl) rfl ?_))
    exact ⟨by rw [K1.out, K2.out, Bool.false_and]; rfl, below_drewN hB _⟩
  rcases hv : y.fl with _ | _
  all_goals
    obtain ⟨k1, k2⟩ := HYES.out (true && y.fl) (flg_succ (by rw [hx, hu]) (by rw [HY.out])) (by omega) (by omega)
    rw [hv, Bool.true_and] at k2
    have K1 := Lib.hid k1
    have K2 := Lib.hid k2
    rw [hu] at c6
    rw [hv] at c5
    clear k1 k2 hx hu hv
    go_wp2_with fail
    go_quiet ((go_at_call 86; exact Calls.quiet_of_same (demerits_s _ _ _ _ B0 B1 p0 p1)))
    go_wp2_with fail
    (first | go_returns | (refine bodyPost_ret (by simp [results, Try.results63, go_sem, *]; try rfl) rfl ?_))
    exact ⟨by rw [K1.out, K2.out]; rfl, below_drewN hB _⟩
end Go.Proofs.Ytkmipgekmbngcaa
