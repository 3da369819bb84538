/- By how much a position of a line moves, of the program and of the reference. Conditions: the numbers are small; the captured variables hold what they are said to hold. -/
import Derived.Test.YtpcjoehdbohaoaaSetPlain
import Derived.Deep.QuietTactic
import Derived.BigQuiet
namespace Go.Proofs.Ytpcjoehdbohaoaa
open Go.RowKit

set_option maxHeartbeats 1000000 in
theorem move_i (bw bs bh wd tW tS tH : Int) (g1 g2 : Nat) (t1 : TypeId) (w : World) (h1 : Blk w g1 t1 #[.int .i64 wd]) (h2 : Blk w g2 37 #[.int .i64 tW, .int .i64 tS, .int .i64 tH])
    (hw : 1 ≤ wd ∧ wd ≤ 10000) (hW : 0 ≤ tW ∧ tW ≤ 100000 - 1) (hS : 0 ≤ tS ∧ tS ≤ 100000) (hH : 0 ≤ tH ∧ tH ≤ 100000) (hbw : 0 ≤ bw ∧ bw ≤ 100000) (hbs : 0 ≤ bs ∧ bs ≤ 100000) (hbh : 0 ≤ bh ∧ bh ≤ 100000) :
    Calls Try.prog 50 #[.agg #[.int .i64 bw, .int .i64 bs, .int .i64 bh], .pointer (some ⟨g1, 0, none⟩), .pointer (some ⟨g2, 0, none⟩)] w fun e w' => e = .returned (.int .i64 (mv (wd - tW) tS tH bw bs bh)) ∧ Below w.heap.size w w' := by
  obtain ⟨w0, w1⟩ := hw
  obtain ⟨W0, W1⟩ := hW
  obtain ⟨S0, S1⟩ := hS
  obtain ⟨H0, H1⟩ := hH
  obtain ⟨b0, b1⟩ := hbw
  obtain ⟨s0, s1⟩ := hbs
  obtain ⟨y0, y1⟩ := hbh
  have alt := h1.lt
  have ac0 := h1.cell 0; have af0 := h1.frozen 0
  simp only [List.getElem?_toArray, List.getElem?_cons_zero, List.getElem?_cons_succ] at ac0
  have tlt := h2.lt
  have tc0 := h2.cell 0; have tf0 := h2.frozen 0
  have tc1 := h2.cell 1; have tf1 := h2.frozen 1
  have tc2 := h2.cell 2; have tf2 := h2.frozen 2
  simp only [List.getElem?_toArray, List.getElem?_cons_zero, List.getElem?_cons_succ] at tc0 tc1 tc2
  clear h1 h2
  have hmb := mvd_b (d := wd - tW) (tS := tS) (tH := tH) (u := if 0 < wd - tW then bs else bh) (by omega) (by omega) (by split <;> omega) (by split <;> omega) S0 H0
  by_cases hd : 0 < wd - tW
  · rw [if_pos hd, mvd, if_pos hd] at hmb
    by_cases hs : 0 < tS
    · have e : mv (wd - tW) tS tH bw bs bh = bw + (wd - tW) * bs / tS := by rw [mv, mvd, if_pos hd, if_pos hd, if_neg (by omega)]
      rw [e]
      rw [if_neg (by omega)] at hmb
      have p0 : 0 ≤ (wd - tW) * bs := Int.mul_nonneg (by omega) s0
      have p1 : (wd - tW) * bs ≤ 100000 * 100000 := Int.mul_le_mul (by omega) s1 s0 (by omega)
      have p2 : IntKind.i64.wrap ((wd - tW) * bs) = (wd - tW) * bs := IntWalk.i64_in _ (by omega)
      have q0 : 0 ≤ (wd - tW) * bs / tS := Int.ediv_nonneg p0 (by omega)
      obtain ⟨m0, m1⟩ := hmb
      clear e
      go_enter Try.func50, Try.ntmps50
      go_wp2_with fail
      go_quiet (fail)
      go_wp2
      go_returns
      exact ⟨rfl, by (repeat' (first | (with_reducible exact Below.refl _ _) | (with_reducible assumption) | (with_reducible refine Below.alloc ?_ ?_ _) | (with_reducible refine Below.drew ?_) | (with_reducible refine below_drewN ?_ _) | (with_reducible refine Below.setCell ?_ ?_ _) | (with_reducible refine below_then ?_ ?_ (by with_reducible assumption)) | (with_reducible exact Nat.le_refl _) | go_size | (simp only [*]; done)))⟩
    · have hs0 : tS = 0 := by omega
      subst hs0
      have e : mv (wd - tW) 0 tH bw bs bh = bw := by rw [mv, mvd, if_pos hd, if_pos rfl]; omega
      rw [e]
      clear e hmb
      go_enter Try.func50, Try.ntmps50
      go_wp2
      go_returns
      exact ⟨rfl, by (repeat' (first | (with_reducible exact Below.refl _ _) | (with_reducible assumption) | (with_reducible refine Below.alloc ?_ ?_ _) | (with_reducible refine Below.drew ?_) | (with_reducible refine below_drewN ?_ _) | (with_reducible refine Below.setCell ?_ ?_ _) | (with_reducible refine below_then ?_ ?_ (by with_reducible assumption)) | (with_reducible exact Nat.le_refl _) | go_size | (simp only [*]; done)))⟩
  · rw [if_neg hd, mvd, if_neg hd] at hmb
    by_cases hs : 0 < tH
    · rw [if_neg (by omega)] at hmb
      obtain ⟨M, hM⟩ : ∃ M, min (-(wd - tW)) tH = M := ⟨_, rfl⟩
      have hM0 : 0 ≤ M ∧ M ≤ 100000 := by omega
      have e : mv (wd - tW) tS tH bw bs bh = bw - M * bh / tH := by rw [mv, mvd, if_neg hd, if_neg hd, if_neg (by omega), hM]; omega
      rw [hM] at hmb
      have p0 : 0 ≤ M * bh := Int.mul_nonneg hM0.1 y0
      have p1 : M * bh ≤ 100000 * 100000 := Int.mul_le_mul hM0.2 y1 y0 (by omega)
      have p2 : IntKind.i64.wrap (M * bh) = M * bh := IntWalk.i64_in _ (by omega)
      have q0 : 0 ≤ M * bh / tH := Int.ediv_nonneg p0 (by omega)
      obtain ⟨m0, m1⟩ := hmb
      rw [e]
      clear e
      by_cases hle : -(wd - tW) ≤ tH
      · have hM' : M = -(wd - tW) := by omega
        subst hM'
        clear hM hM0
        go_enter Try.func50, Try.ntmps50
        go_wp2_with fail
        go_region
        all_goals go_wp2
        all_goals go_returns
        all_goals exact ⟨rfl, by (repeat' (first | (with_reducible exact Below.refl _ _) | (with_reducible assumption) | (with_reducible refine Below.alloc ?_ ?_ _) | (with_reducible refine Below.drew ?_) | (with_reducible refine below_drewN ?_ _) | (with_reducible refine Below.setCell ?_ ?_ _) | (with_reducible refine below_then ?_ ?_ (by with_reducible assumption)) | (with_reducible exact Nat.le_refl _) | go_size | (simp only [*]; done)))⟩
      · have hM' : M = tH := by omega
        subst hM'
        clear hM hM0
        go_enter Try.func50, Try.ntmps50
        go_wp2_with fail
        go_region
        all_goals go_wp2
        all_goals go_returns
        all_goals exact ⟨rfl, by (repeat' (first | (with_reducible exact Below.refl _ _) | (with_reducible assumption) | (with_reducible refine Below.alloc ?_ ?_ _) | (with_reducible refine Below.drew ?_) | (with_reducible refine below_drewN ?_ _) | (with_reducible refine Below.setCell ?_ ?_ _) | (with_reducible refine below_then ?_ ?_ (by with_reducible assumption)) | (with_reducible exact Nat.le_refl _) | go_size | (simp only [*]; done)))⟩
    · have hs0 : tH = 0 := by omega
      subst hs0
      have e : mv (wd - tW) tS 0 bw bs bh = bw := by rw [mv, mvd, if_neg hd, if_pos rfl]; omega
      rw [e]
      clear e hmb
      go_enter Try.func50, Try.ntmps50
      go_wp2
      go_returns
      exact ⟨rfl, by (repeat' (first | (with_reducible exact Below.refl _ _) | (with_reducible assumption) | (with_reducible refine Below.alloc ?_ ?_ _) | (with_reducible refine Below.drew ?_) | (with_reducible refine below_drewN ?_ _) | (with_reducible refine Below.setCell ?_ ?_ _) | (with_reducible refine below_then ?_ ?_ (by with_reducible assumption)) | (with_reducible exact Nat.le_refl _) | go_size | (simp only [*]; done)))⟩

theorem share_s (a u t : Int) (w : World) (ha : 0 ≤ a ∧ a ≤ 100000) (hu : 0 ≤ u ∧ u ≤ 100000) (ht : 0 ≤ t) :
    Calls Try.prog 79 #[.int .i64 a, .int .i64 u, .int .i64 t] w fun e w' => e = .returned (.int .i64 (if t = 0 then 0 else a * u / t)) ∧ w = w' := by
  obtain ⟨a0, a1⟩ := ha
  obtain ⟨u0, u1⟩ := hu
  by_cases h0 : t = 0
  · rw [if_pos h0]
    subst h0
    go_enter Try.func79, Try.ntmps79
    go_wp2
    go_ret
    exact ⟨rfl, rfl⟩
  · rw [if_neg h0]
    have ht1 : 0 < t := by omega
    have h0' : (t == 0) = false := by simp [h0]
    have p0 : 0 ≤ a * u := Int.mul_nonneg a0 u0
    have p1 : a * u ≤ 100000 * 100000 := Int.mul_le_mul a1 u1 u0 (by omega)
    have p2 : IntKind.i64.wrap (a * u) = a * u := IntWalk.i64_in _ (by omega)
    have q0 : 0 ≤ a * u / t := Int.ediv_nonneg p0 (by omega)
    have q1 : a * u / t ≤ a * u := Int.ediv_le_self _ p0
    clear h0
    go_enter Try.func79, Try.ntmps79
    go_wp2
    go_ret
    exact ⟨rfl, rfl⟩
set_option maxHeartbeats 1000000 in
theorem moved_s (d u tW tS tH : Int) (w : World) (hd : -100000 ≤ d ∧ d ≤ 100000) (hu : 0 ≤ u ∧ u ≤ 100000) (hS : 0 ≤ tS ∧ tS ≤ 100000) (hH : 0 ≤ tH ∧ tH ≤ 100000) :
    Calls Try.prog 73 #[.int .i64 d, .int .i64 u, .agg #[.int .i64 tW, .int .i64 tS, .int .i64 tH]] w fun e w' => e = .returned (.int .i64 (mvd d tS tH u)) ∧ Below w.heap.size w w' := by
  obtain ⟨d0, d1⟩ := hd
  obtain ⟨S0, S1⟩ := hS
  obtain ⟨H0, H1⟩ := hH
  by_cases h0 : 0 < d
  · rw [mvd, if_pos h0]
    obtain ⟨V, hV⟩ : ∃ V, (if tS = 0 then 0 else d * u / tS) = V := ⟨_, rfl⟩
    rw [hV]
    have HV := Lib.hid hV
    clear hV
    go_enter Try.func73, Try.ntmps73
    go_wp2_with fail
    ((with_reducible refine (share_s _ _ _ _ (by omega) hu S0).mono ?_); rintro e w' ⟨rfl, rfl⟩)
    rw [HV.out]
    go_wp2_with fail
    go_returns
    exact ⟨rfl, by (repeat' (first | (with_reducible exact Below.refl _ _) | (with_reducible assumption) | (with_reducible refine Below.alloc ?_ ?_ _) | (with_reducible refine Below.drew ?_) | (with_reducible refine below_drewN ?_ _) | (with_reducible refine Below.setCell ?_ ?_ _) | (with_reducible refine below_then ?_ ?_ (by with_reducible assumption)) | (with_reducible exact Nat.le_refl _) | go_size | (simp only [*]; done)))⟩
  · have hm := mvd_b (d := d) (tS := tS) (tH := tH) d0 d1 hu.1 hu.2 S0 H0
    rw [mvd, if_neg h0] at hm ⊢
    by_cases hle : -d ≤ tH
    · rw [Int.min_eq_left hle] at hm ⊢
      obtain ⟨V, hV⟩ : ∃ V, (if tH = 0 then 0 else -d * u / tH) = V := ⟨_, rfl⟩
      rw [hV] at hm ⊢
      have HV := Lib.hid hV
      clear hV
      obtain ⟨m0, m1⟩ := hm
      go_enter Try.func73, Try.ntmps73
      go_wp2_with fail
      ((with_reducible refine (share_s _ _ _ _ (by omega) hu H0).mono ?_); rintro e w' ⟨rfl, rfl⟩)
      rw [HV.out]
      go_wp2_with fail
      go_returns
      exact ⟨rfl, by (repeat' (first | (with_reducible exact Below.refl _ _) | (with_reducible assumption) | (with_reducible refine Below.alloc ?_ ?_ _) | (with_reducible refine Below.drew ?_) | (with_reducible refine below_drewN ?_ _) | (with_reducible refine Below.setCell ?_ ?_ _) | (with_reducible refine below_then ?_ ?_ (by with_reducible assumption)) | (with_reducible exact Nat.le_refl _) | go_size | (simp only [*]; done)))⟩
    · rw [Int.min_eq_right (by omega)] at hm ⊢
      obtain ⟨V, hV⟩ : ∃ V, (if tH = 0 then 0 else tH * u / tH) = V := ⟨_, rfl⟩
      rw [hV] at hm ⊢
      have HV := Lib.hid hV
      clear hV
      obtain ⟨m0, m1⟩ := hm
      go_enter Try.func73, Try.ntmps73
      go_wp2_with fail
      ((with_reducible refine (share_s _ _ _ _ (by omega) hu H0).mono ?_); rintro e w' ⟨rfl, rfl⟩)
      rw [HV.out]
      go_wp2_with fail
      go_returns
      exact ⟨rfl, by (repeat' (first | (with_reducible exact Below.refl _ _) | (with_reducible assumption) | (with_reducible refine Below.alloc ?_ ?_ _) | (with_reducible refine Below.drew ?_) | (with_reducible refine below_drewN ?_ _) | (with_reducible refine Below.setCell ?_ ?_ _) | (with_reducible refine below_then ?_ ?_ (by with_reducible assumption)) | (with_reducible exact Nat.le_refl _) | go_size | (simp only [*]; done)))⟩
end Go.Proofs.Ytpcjoehdbohaoaa
