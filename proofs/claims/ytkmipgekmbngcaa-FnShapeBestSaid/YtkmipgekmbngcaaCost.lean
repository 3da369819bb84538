/- The cost of a line, of the program and of the reference, is what the plain functions say. Conditions: the slice reads as valid items; the line is one. -/
import Derived.Test.YtkmipgekmbngcaaCostPlain
import Derived.Test.YtkmipgekmbngcaaItemG
import Derived.Test.YtkmipgekmbngcaaItemGs
import Derived.Test.YtkmipgekmbngcaaCostS
namespace Go.Proofs.Ytkmipgekmbngcaa
open Go.RowKit

set_option maxHeartbeats 1000000 in
theorem badness_i (n v : Int) (w : World) (n0 : 0 ≤ n) (n1 : n ≤ 20000) (v0 : 0 ≤ v) (v1 : v ≤ 10000) :
    Calls Try.prog 98 #[.int .i64 n, .int .i64 v] w fun e w' => e = .returned (.int .i64 (badP n v)) ∧ w' = w := by
  by_cases e1 : n = 0
  · have hb : badP n v = 0 := by rw [badP, if_pos e1]
    rw [hb]
    go_enter Try.func98, Try.ntmps98
    go_wp2_with fail
    go_ret
    exact ⟨rfl, rfl⟩
  by_cases e2 : v = 0
  · have hb : badP n v = 10000 := by rw [badP, if_neg e1, if_pos e2]
    rw [hb]
    go_enter Try.func98, Try.ntmps98
    go_wp2_with fail
    go_ret
    exact ⟨rfl, rfl⟩
  have hb : badP n v = min 10000 (100 * n * n * n / (v * v * v)) := by rw [badP, if_neg e1, if_neg e2]
  rw [hb]
  obtain ⟨⟨a0, a1⟩, ⟨b0, b1⟩, c0, c1⟩ := cube_b n0 n1
  obtain ⟨⟨d0, d1⟩, f0, f1⟩ := cube_h (show 0 < v by omega) v1
  obtain ⟨q0, q1⟩ := quo_b n0 n1 (show 0 < v by omega) v1
  have m1 : IntKind.i64.wrap (100 * n) = 100 * n := IntWalk.i64_in _ (by omega)
  have m2 : IntKind.i64.wrap (100 * n * n) = 100 * n * n := IntWalk.i64_in _ (by omega)
  have m3 : IntKind.i64.wrap (100 * n * n * n) = 100 * n * n * n := IntWalk.i64_in _ (by omega)
  have m4 : IntKind.i64.wrap (v * v) = v * v := IntWalk.i64_in _ (by omega)
  have m5 : IntKind.i64.wrap (v * v * v) = v * v * v := IntWalk.i64_in _ (by omega)
  go_enter Try.func98, Try.ntmps98
  go_wp2_with fail
  all_goals
    go_ret
    refine ⟨?_, rfl⟩
    show Ending.returned (.int .i64 _) = _
    congr 2
    omega

set_option maxHeartbeats 1000000 in
theorem demerits_i (b p : Int) (fl : Bool) (w : World) (b0 : 0 ≤ b) (b1 : b ≤ 10000) (p0 : -1000 ≤ p) (p1 : p ≤ 1000) :
    Calls Try.prog 82 #[.int .i64 b, .int .i64 p, .bool fl] w fun e w' => e = .returned (.int .i64 (dem b p fl)) ∧ w' = w := by
  have h1 := mul_b (show 0 ≤ 1 + b by omega) (show 1 + b ≤ 10001 by omega) (show 0 ≤ 1 + b by omega) (show 1 + b ≤ 10001 by omega)
  have m0 : IntKind.i64.wrap (1 + b) = 1 + b := IntWalk.i64_in _ (by omega)
  have m1 : IntKind.i64.wrap ((1 + b) * (1 + b)) = (1 + b) * (1 + b) := IntWalk.i64_in _ (by omega)
  by_cases e1 : 0 ≤ p
  · have h2 := mul_b (show 0 ≤ 1 + b + p by omega) (show 1 + b + p ≤ 11001 by omega) (show 0 ≤ 1 + b + p by omega) (show 1 + b + p ≤ 11001 by omega)
    have m2 : IntKind.i64.wrap (1 + b + p) = 1 + b + p := IntWalk.i64_in _ (by omega)
    have m3 : IntKind.i64.wrap ((1 + b + p) * (1 + b + p)) = (1 + b + p) * (1 + b + p) := IntWalk.i64_in _ (by omega)
    have m4 : IntKind.i64.wrap ((1 + b + p) * (1 + b + p) + 3000) = (1 + b + p) * (1 + b + p) + 3000 := IntWalk.i64_in _ (by omega)
    have hb : dem b p fl = (1 + b + p) * (1 + b + p) + (if fl then 3000 else 0) := by rw [dem, if_pos e1]
    rw [hb]
    rcases fl with _ | _
    all_goals
      go_enter Try.func82, Try.ntmps82
      go_wp2_with fail
      go_ret
      refine ⟨?_, rfl⟩
      show Ending.returned (.int .i64 _) = _
      congr 2
  by_cases e2 : -1000 < p
  · have h2 := mul_b (show 0 ≤ -p by omega) (show -p ≤ 1000 by omega) (show 0 ≤ -p by omega) (show -p ≤ 1000 by omega)
    rw [Int.neg_mul_neg] at h2
    have m2 : IntKind.i64.wrap (p * p) = p * p := IntWalk.i64_in _ (by omega)
    have m3 : IntKind.i64.wrap ((1 + b) * (1 + b) - p * p) = (1 + b) * (1 + b) - p * p := IntWalk.i64_in _ (by omega)
    have m4 : IntKind.i64.wrap ((1 + b) * (1 + b) - p * p + 3000) = (1 + b) * (1 + b) - p * p + 3000 := IntWalk.i64_in _ (by omega)
    have hb : dem b p fl = (1 + b) * (1 + b) - p * p + (if fl then 3000 else 0) := by rw [dem, if_neg e1, if_pos e2]
    rw [hb]
    rcases fl with _ | _
    all_goals
      go_enter Try.func82, Try.ntmps82
      go_wp2_with fail
      go_ret
      refine ⟨?_, rfl⟩
      show Ending.returned (.int .i64 _) = _
      congr 2
  · have m4 : IntKind.i64.wrap ((1 + b) * (1 + b) + 3000) = (1 + b) * (1 + b) + 3000 := IntWalk.i64_in _ (by omega)
    have hb : dem b p fl = (1 + b) * (1 + b) + (if fl then 3000 else 0) := by rw [dem, if_neg e1, if_neg e2]
    rw [hb]
    rcases fl with _ | _
    all_goals
      go_enter Try.func82, Try.ntmps82
      go_wp2_with fail
      go_ret
      refine ⟨?_, rfl⟩
      show Ending.returned (.int .i64 _) = _
      congr 2

theorem validGlue_i (a b c : Int) (w : World) (a0 : 0 ≤ a) (a1 : a ≤ 10000) (b0 : 0 ≤ b) (b1 : b ≤ 10000) (c0 : 0 ≤ c) (c1 : c ≤ 10000) :
    Calls Try.prog 97 #[.agg #[.int .i64 a, .int .i64 b, .int .i64 c]] w fun e w' => e = .returned (.bool true) ∧ Below w.heap.size w w' := by
  have ha : inR a (-10000) 10000 = true := inR_iff.2 ⟨by omega, by omega⟩
  have hb : inR b 0 10000 = true := inR_iff.2 ⟨by omega, by omega⟩
  have hc : inR c 0 10000 = true := inR_iff.2 ⟨by omega, by omega⟩
  have g0 := Blk.new w 76 #[.int .i64 a, .int .i64 b, .int .i64 c]
  have plt := g0.lt
  have pc0 := g0.cell 0; have pf0 := g0.frozen 0
  have pc1 := g0.cell 1; have pf1 := g0.frozen 1
  have pc2 := g0.cell 2; have pf2 := g0.frozen 2
  simp only [List.getElem?_toArray, List.getElem?_cons_zero, List.getElem?_cons_succ] at pc0 pc1 pc2
  go_enter Try.func97, Try.ntmps97
  go_wp2_with fail
  ((with_reducible refine (within_any _ _ _ _).mono ?_); rintro e w' ⟨rfl, rfl⟩)
  rw [ha]
  go_wp2_with fail
  ((with_reducible refine (within_any _ _ _ _).mono ?_); rintro e w' ⟨rfl, rfl⟩)
  rw [hb]
  go_wp2_with fail
  ((with_reducible refine (within_any _ _ _ _).mono ?_); rintro e w' ⟨rfl, rfl⟩)
  rw [hc]
  go_wp2_with fail
  go_ret
  exact ⟨rfl, by (repeat' (first | (with_reducible exact Below.refl _ _) | (with_reducible assumption) | (with_reducible refine Below.alloc ?_ ?_ _) | (with_reducible refine Below.drew ?_) | (with_reducible refine below_drewN ?_ _) | (with_reducible refine Below.setCell ?_ ?_ _) | (with_reducible refine below_then ?_ ?_ (by with_reducible assumption)) | (with_reducible exact Nat.le_refl _) | go_size | (simp only [*]; done)))⟩

set_option maxHeartbeats 1000000 in
theorem fitGlue_i (a b c d : Int) (w : World) (a0 : 0 ≤ a) (a1 : a ≤ 10000) (b0 : 0 ≤ b) (b1 : b ≤ 10000) (c0 : 0 ≤ c) (c1 : c ≤ 10000) (d0 : 0 ≤ d) (d1 : d ≤ 10000) :
    Calls Try.prog 91 #[.agg #[.int .i64 a, .int .i64 b, .int .i64 c], .int .i64 d] w fun e w' => e = .returned (.tuple #[.int .i64 (fitK a c d), .int .i64 (fitB a b c d)]) ∧ Below w.heap.size w w' := by
  have hd : inR d 0 10000 = true := inR_iff.2 ⟨by omega, by omega⟩
  have hk1 : d - a = 0 → fitK a c d = 1 ∧ fitB a b c d = 0 := fun h => ⟨by rw [fitK, if_pos h], by rw [fitB, if_pos h]⟩
  have hk2 : ¬ d - a = 0 → 0 < d - a → fitK a c d = 2 ∧ fitB a b c d = badP (d - a) b := fun h h' => ⟨by rw [fitK, if_neg h, if_pos h'], by rw [fitB, if_neg h, if_pos h']⟩
  have hk3 : ¬ d - a = 0 → ¬ 0 < d - a → -(d - a) ≤ c → fitK a c d = 3 ∧ fitB a b c d = badP (-(d - a)) c := fun h h' h3 => ⟨by rw [fitK, if_neg h, if_neg h', if_pos h3], by rw [fitB, if_neg h, if_neg h', if_pos h3]⟩
  have hk4 : ¬ d - a = 0 → ¬ 0 < d - a → ¬ -(d - a) ≤ c → fitK a c d = 4 ∧ fitB a b c d = 10000 := fun h h' h3 => ⟨by rw [fitK, if_neg h, if_neg h', if_neg h3], by rw [fitB, if_neg h, if_neg h', if_neg h3]⟩
  have HK1 := Lib.hid hk1
  have HK2 := Lib.hid hk2
  have HK3 := Lib.hid hk3
  have HK4 := Lib.hid hk4
  clear hk1 hk2 hk3 hk4
  obtain ⟨D, hD⟩ : ∃ D, d - a = D := ⟨_, rfl⟩
  have hDb : -10000 ≤ D ∧ D ≤ 10000 := by omega
  obtain ⟨D0, D1⟩ := hDb
  rw [hD] at HK1 HK2 HK3 HK4
  have mD : IntKind.i64.wrap (d - a) = D := by rw [hD]; exact IntWalk.i64_in _ (by omega)
  have g0 := Blk.new w 76 #[.int .i64 a, .int .i64 b, .int .i64 c]
  have G0 := Lib.hid g0
  clear hD
  go_enter Try.func91, Try.ntmps91
  have plt := g0.lt
  have pc0 := g0.cell 0; have pf0 := g0.frozen 0
  have pc1 := g0.cell 1; have pf1 := g0.frozen 1
  have pc2 := g0.cell 2; have pf2 := g0.frozen 2
  simp only [List.getElem?_toArray, List.getElem?_cons_zero, List.getElem?_cons_succ] at pc0 pc1 pc2
  go_wp2_with fail
  ((with_reducible refine (validGlue_i _ _ _ _ a0 a1 b0 b1 c0 c1).mono ?_); rintro e w1 ⟨rfl, hb1⟩)
  have g1 := G0.out.then_ hb1
  have hB1 : Below w.heap.size w w1 := below_then (Nat.le_refl _) (by (repeat' (first | (with_reducible exact Below.refl _ _) | (with_reducible assumption) | (with_reducible refine Below.alloc ?_ ?_ _) | (with_reducible refine Below.drew ?_) | (with_reducible refine below_drewN ?_ _) | (with_reducible refine Below.setCell ?_ ?_ _) | (with_reducible refine below_then ?_ ?_ (by with_reducible assumption)) | (with_reducible exact Nat.le_refl _) | go_size | (simp only [*]; done)))) hb1
  clear plt pc0 pc1 pc2 pf0 pf1 pf2
  have qlt := g1.lt
  have qc0 := g1.cell 0; have qf0 := g1.frozen 0
  have qc1 := g1.cell 1; have qf1 := g1.frozen 1
  have qc2 := g1.cell 2; have qf2 := g1.frozen 2
  simp only [List.getElem?_toArray, List.getElem?_cons_zero, List.getElem?_cons_succ] at qc0 qc1 qc2
  go_wp2_with fail
  ((with_reducible refine (within_any _ _ _ _).mono ?_); rintro e w' ⟨rfl, rfl⟩)
  rw [hd]
  by_cases e1 : D = 0
  · obtain ⟨k1, k2⟩ := HK1.out e1
    have K1 := Lib.hid k1
    have K2 := Lib.hid k2
    clear k1 k2
    go_wp2_with fail
    (first | go_returns | (refine bodyPost_ret (by simp [results, Try.results91, go_sem, *]; try rfl) rfl ?_))
    exact ⟨by rw [K1.out, K2.out]; rfl, hB1⟩
  by_cases e2 : 0 < D
  · obtain ⟨k1, k2⟩ := HK2.out e1 (by omega)
    have K1 := Lib.hid k1
    have K2 := Lib.hid k2
    clear k1 k2
    go_wp2_with fail
    ((with_reducible refine (badness_i _ _ _ (by omega) (by omega) b0 b1).mono ?_); rintro e w' ⟨rfl, rfl⟩)
    go_wp2_with fail
    (first | go_returns | (refine bodyPost_ret (by simp [results, Try.results91, go_sem, *]; try rfl) rfl ?_))
    exact ⟨by rw [K1.out, K2.out]; rfl, hB1⟩
  have mN : IntKind.i64.wrap (-D) = -D := IntWalk.i64_in _ (by omega)
  by_cases e3 : -D ≤ c
  · obtain ⟨k1, k2⟩ := HK3.out e1 (by omega) (by omega)
    have K1 := Lib.hid k1
    have K2 := Lib.hid k2
    clear k1 k2
    go_wp2_with fail
    ((with_reducible refine (badness_i _ _ _ (by omega) (by omega) c0 c1).mono ?_); rintro e w' ⟨rfl, rfl⟩)
    go_wp2_with fail
    (first | go_returns | (refine bodyPost_ret (by simp [results, Try.results91, go_sem, *]; try rfl) rfl ?_))
    exact ⟨by rw [K1.out, K2.out]; rfl, hB1⟩
  · obtain ⟨k1, k2⟩ := HK4.out e1 (by omega) (by omega)
    have K1 := Lib.hid k1
    have K2 := Lib.hid k2
    clear k1 k2
    go_wp2_with fail
    (first | go_returns | (refine bodyPost_ret (by simp [results, Try.results91, go_sem, *]; try rfl) rfl ?_))
    exact ⟨by rw [K1.out, K2.out]; rfl, hB1⟩

set_option maxHeartbeats 2000000 in
theorem fitLine_i (A : Option Addr) (n cap a t : Nat) (f d : Int) (xs : List It) (w : World) (hok : itemsOk xs = true) (hn : xs.length = n) (hcap : n ≤ cap ∧ cap ≤ maxLen) (hf : f + 1 = (a : Int)) (ha : a ≤ t) (ht : t < n) (hr : Row w w.heap.size 6 A n (itc xs)) (d0 : 1 ≤ d) (d1 : d ≤ 10000) :
    Calls Try.prog 81 #[.slice A n cap, .int .i64 f, .int .i64 (t : Int), .int .i64 d] w fun e w' => e = .returned (.tuple #[.int .i64 (lnK xs a t d), .int .i64 (lnB xs a t d)]) ∧ Below w.heap.size w w' := by
  obtain ⟨⟨x0, x1⟩, ⟨y0, y1⟩, z0, z1⟩ := lg_b (a := a) hok hn ht
  have hK : lnK xs a t d = fitK (cl (lgW xs a t)) (cl (lgH xs a t)) d := rfl
  have hB : lnB xs a t d = fitB (cl (lgW xs a t)) (cl (lgS xs a t)) (cl (lgH xs a t)) d := rfl
  obtain ⟨X, hX⟩ : ∃ X, lgW xs a t = X := ⟨_, rfl⟩
  obtain ⟨Y, hY⟩ : ∃ X, lgS xs a t = X := ⟨_, rfl⟩
  obtain ⟨Z, hZ⟩ : ∃ X, lgH xs a t = X := ⟨_, rfl⟩
  rw [hX] at x0 x1 hK hB
  rw [hY] at y0 y1 hB
  rw [hZ] at z0 z1 hK hB
  rw [hK, hB]
  have HX := Lib.hid hX
  have HY := Lib.hid hY
  have HZ := Lib.hid hZ
  have HOK := Lib.hid hok
  have HN := Lib.hid hn
  clear hX hY hZ hK hB hok hn
  go_enter Try.func81, Try.ntmps81
  go_wp2_with fail
  ((with_reducible refine (lineGlue_i _ _ _ _ _ _ xs _ HOK.out HN.out hcap hf ha ht ?_).mono ?_); (exact hr); rintro e w1 ⟨rfl, hb1⟩)
  rw [HX.out, HY.out, HZ.out]
  go_wp2_with fail
  all_goals
    ((with_reducible refine (fitGlue_i _ _ _ _ _ (by omega) (by omega) (by omega) (by omega) (by omega) (by omega) (by omega) d1).mono ?_); rintro e w2 ⟨rfl, hb2⟩)
    have hB2 := below_then (Nat.le_refl _) (hb1.alloc hb1.size (.cells #[.int .i64 X, .int .i64 Y, .int .i64 Z] 76)) hb2
    go_wp2_with fail
    (first | go_returns | (refine bodyPost_ret (by simp [results, Try.results81, go_sem, *]; try rfl) rfl ?_))
    refine ⟨?_, hB2⟩
    first | rw [show cl X = X by unfold cl; omega] | rw [show cl X = 10000 by unfold cl; omega]
    first | rw [show cl Y = Y by unfold cl; omega] | rw [show cl Y = 10000 by unfold cl; omega]
    first | rw [show cl Z = Z by unfold cl; omega] | rw [show cl Z = 10000 by unfold cl; omega]
    rfl
end Go.Proofs.Ytkmipgekmbngcaa
