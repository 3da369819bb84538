/- The generator anyItems returns some items, in memory of their own; the widths and tolerances are some numbers. Conditions: the reader has yielded fewer than 2^47 numbers. -/
import Derived.Test.YtkmipgekmbngcaaMLlG
import Derived.BigQuiet
import Derived.BigGuardPart
import Derived.StillTail
import Derived.Shelf.Abstract
namespace Go.Proofs.Ytkmipgekmbngcaa
open Go.RowKit

/-- What a call leaves that draws a slice of items that may be no paragraph. -/
def AnyItems (w : World) (rb p K : Nat) (e : Ending) (w' : World) : Prop :=
  ∃ (g n c : Nat) (xs : List It) (p' : Nat), e = .returned (.slice (some ⟨g, 0, none⟩) n c) ∧ xs.length = n ∧ n ≤ 23 ∧ (n ≤ c ∧ c ≤ maxLen) ∧ Row w' w'.heap.size 6 (some ⟨g, 0, none⟩) n (itc xs) ∧ w.heap.size ≤ g ∧ p' ≤ p + K ∧ Rd w' rb p' ∧ w.grownBy w' (some rb)
theorem OwT.ownP {w : World} {base g n c : Nat} {xs : List It} (h : OwT w base g n c xs) (hl : xs.length = n) : OwnP w base 78 6 (some ⟨g, 0, none⟩) n c (itc xs) :=
  OwnP.of_list h fun i q hi hq => itl_at i q (by omega) hq
theorem itc_set {xs : List It} {n k : Nat} {x : It} (hn : xs.length = n) (hk : k < n) (i q : Nat) : itc (xs.set k x) i q = if i = k then itv x q else itc xs i q := by
  unfold itc
  by_cases e : i = k
  · subst e
    rw [if_pos rfl, List.getD_eq_getElem?_getD, List.getElem?_set_self (by omega)]
    rfl
  · rw [if_neg e, List.getD_eq_getElem?_getD, List.getElem?_set_ne (fun h => e h.symm), ← List.getD_eq_getElem?_getD]
theorem set_k {xs : List It} {n k : Nat} {x : It} (hn : xs.length = n) (hk : k < n) (hx : xs.getD k default = x) (v : Int) : ∀ i q, i < n → q < 6 → (if i = k ∧ q = 0 then .int .i64 v else itc xs i q) = itc (xs.set k { x with k := v }) i q := by
  intro i q _ hq
  rw [itc_set hn hk]
  by_cases e : i = k
  · subst e
    match q, hq with
    | 0, _ => simp [itv]
    | 1, _ => simp [itv, itc, ← hx]
    | 2, _ => simp [itv, itc, ← hx]
    | 3, _ => simp [itv, itc, ← hx]
    | 4, _ => simp [itv, itc, ← hx]
    | 5, _ => simp [itv, itc, ← hx]
  · simp [e]
theorem set_w {xs : List It} {n k : Nat} {x : It} (hn : xs.length = n) (hk : k < n) (hx : xs.getD k default = x) (v : Int) : ∀ i q, i < n → q < 6 → (if i = k ∧ q = 1 then .int .i64 v else itc xs i q) = itc (xs.set k { x with w := v }) i q := by
  intro i q _ hq
  rw [itc_set hn hk]
  by_cases e : i = k
  · subst e
    match q, hq with
    | 0, _ => simp [itv, itc, ← hx]
    | 1, _ => simp [itv]
    | 2, _ => simp [itv, itc, ← hx]
    | 3, _ => simp [itv, itc, ← hx]
    | 4, _ => simp [itv, itc, ← hx]
    | 5, _ => simp [itv, itc, ← hx]
  · simp [e]
theorem set_p {xs : List It} {n k : Nat} {x : It} (hn : xs.length = n) (hk : k < n) (hx : xs.getD k default = x) (v : Int) : ∀ i q, i < n → q < 6 → (if i = k ∧ q = 4 then .int .i64 v else itc xs i q) = itc (xs.set k { x with pen := v }) i q := by
  intro i q _ hq
  rw [itc_set hn hk]
  by_cases e : i = k
  · subst e
    match q, hq with
    | 0, _ => simp [itv, itc, ← hx]
    | 1, _ => simp [itv, itc, ← hx]
    | 2, _ => simp [itv, itc, ← hx]
    | 3, _ => simp [itv, itc, ← hx]
    | 4, _ => simp [itv]
    | 5, _ => simp [itv, itc, ← hx]
  · simp [e]

set_option maxRecDepth 100000 in
set_option maxHeartbeats 4000000 in
theorem anyItems_any (rb p : Nat) (w : World) (h : Rd w rb p) (hp : p ≤ 70368744177664) : Calls Try.prog 35 #[.pointer (some ⟨rb, 0, none⟩)] w (fun e w' => AnyItems w rb p 84 e w') := by
  have hlt := h.lt
  go_enter Try.func35, Try.ntmps35
  go_wp2_with fail
  ((with_reducible refine (randomItems_any rb p _ h (by omega)).mono ?_); rintro e w1 ⟨g, n, c, xs, p1, rfl, hxl, ⟨hn0, hn⟩, hown1, hp1, hr1, hO1⟩)
  have HXL := Lib.hid hxl; clear hxl
  have hgb := (hown1.lt g rfl).1
  have hs1 := hO1.size
  go_wp2_with fail
  ((with_reducible refine (pick_any _ _ _ _ hr1 (by omega)).mono ?_); rintro e w2 ⟨x, rfl, hx0, hx1, hr2, ho2⟩)
  have hx2 := hx1 (by omega)
  clear hx1
  obtain ⟨k, rfl⟩ := Int.eq_ofNat_of_zero_le hx0
  have hkn : k < n := by omega
  have hown2 := hown1.kept ho2 (.inr (by simp [Value.ownBlock]; omega))
  have hO2 := only_trans hO1 ho2
  have hs2 := hO2.size
  clear hown1
  go_wp2_with fail
  ((with_reducible refine (pick_any _ _ _ _ hr2 (by omega)).mono ?_); rintro e w3 ⟨y, rfl, hy0, hy1, hr3, ho3⟩)
  clear hy1
  have hown3 := hown2.kept ho3 (.inr (by simp [Value.ownBlock]; omega))
  have hO3 := only_trans hO2 ho3
  have hs3 := hO3.size
  clear hown2
  obtain ⟨z, hz⟩ : ∃ z, xs.getD k default = z := ⟨_, rfl⟩
  have HZ := Lib.hid hz
  clear hz
  have hcap := own_cap hown3
  by_cases y0 : y = 0
  · subst y0
    go_wp2_with fail
    ((with_reducible refine (one_any rb _ w3.heap.size 4 4 (fun i => [0, 4, 1, 2].getD i 0) _ (hr3.alloc _) (by omega) (by omega) (by omega) (by omega) (lit_cells [0, 4, 1, 2] (Blk.new _ _ _) rfl)).mono ?_); rintro e w4 ⟨v, _, rfl, hr4, ho4⟩)
    have hown4 := OwT.ownP ((hown3.alloc (.cells #[.int .i64 0, .int .i64 4, .int .i64 1, .int .i64 2] 3)).kept ho4 (.inr (by simp [Value.ownBlock]; omega))) HXL.out
    have hO4 := only_trans (only_alloc hO3 _) ho4
    have k0 := hown4.cell (i := k) (q := 0) hkn (by omega)
    have l0 := hown4.frozen (k * 6)
    simp only [Nat.add_zero] at k0
    have HO4 := Lib.hid hown4
    have hkn' : (k : Int) < (n : Int) := by omega
    clear hown3 hown4
    go_wp2_with fail
    go_ret
    have hst := (HO4.out.set_at (o := k * 6) hkn (show 0 < 6 by omega) (by omega) (.int .i64 v)).congr (set_k HXL.out hkn HZ.out v)
    exact ⟨g, n, c, _, _, rfl, by rw [List.length_set]; exact HXL.out, hn, ⟨hcap.1, hcap.2.1⟩, hst.row, hgb, by omega, hr4.setCell (by simp; omega) _, only_setCell hO4 (by right; simpa using hgb) _⟩
  by_cases y1 : y = 1
  · subst y1
    go_wp2_with fail
    ((with_reducible refine (one_any rb _ w3.heap.size 3 3 (fun i => [-1, 1001, 1000].getD i 0) _ (hr3.alloc _) (by omega) (by omega) (by omega) (by omega) (lit_cells [-1, 1001, 1000] (Blk.new _ _ _) rfl)).mono ?_); rintro e w4 ⟨v, _, rfl, hr4, ho4⟩)
    have hown4 := OwT.ownP ((hown3.alloc (.cells #[.int .i64 (-1), .int .i64 1001, .int .i64 1000] 3)).kept ho4 (.inr (by simp [Value.ownBlock]; omega))) HXL.out
    have hO4 := only_trans (only_alloc hO3 _) ho4
    have k0 := hown4.cell (i := k) (q := 1) hkn (by omega)
    have l0 := hown4.frozen (k * 6 + 1)
    have HO4 := Lib.hid hown4
    have hkn' : (k : Int) < (n : Int) := by omega
    clear hown3 hown4
    go_wp2_with fail
    go_ret
    have hst := (HO4.out.set_at (o := k * 6 + 1) hkn (show 1 < 6 by omega) rfl (.int .i64 v)).congr (set_w HXL.out hkn HZ.out v)
    exact ⟨g, n, c, _, _, rfl, by rw [List.length_set]; exact HXL.out, hn, ⟨hcap.1, hcap.2.1⟩, hst.row, hgb, by omega, hr4.setCell (by simp; omega) _, only_setCell hO4 (by right; simpa using hgb) _⟩
  by_cases y2 : y = 2
  · subst y2
    go_wp2_with fail
    ((with_reducible refine (one_any rb _ w3.heap.size 3 3 (fun i => [1001, -1001, 5].getD i 0) _ (hr3.alloc _) (by omega) (by omega) (by omega) (by omega) (lit_cells [1001, -1001, 5] (Blk.new _ _ _) rfl)).mono ?_); rintro e w4 ⟨v, _, rfl, hr4, ho4⟩)
    have hown4 := OwT.ownP ((hown3.alloc (.cells #[.int .i64 1001, .int .i64 (-1001), .int .i64 5] 3)).kept ho4 (.inr (by simp [Value.ownBlock]; omega))) HXL.out
    have hO4 := only_trans (only_alloc hO3 _) ho4
    have k0 := hown4.cell (i := k) (q := 4) hkn (by omega)
    have l0 := hown4.frozen (k * 6 + 4)
    have HO4 := Lib.hid hown4
    have hkn' : (k : Int) < (n : Int) := by omega
    clear hown3 hown4
    go_wp2_with fail
    go_ret
    have hst := (HO4.out.set_at (o := k * 6 + 4) hkn (show 4 < 6 by omega) rfl (.int .i64 v)).congr (set_p HXL.out hkn HZ.out v)
    exact ⟨g, n, c, _, _, rfl, by rw [List.length_set]; exact HXL.out, hn, ⟨hcap.1, hcap.2.1⟩, hst.row, hgb, by omega, hr4.setCell (by simp; omega) _, only_setCell hO4 (by right; simpa using hgb) _⟩
  have hrow := (OwT.ownP hown3 HXL.out).row
  have HROW := Lib.hid hrow
  clear hown3 hrow
  have z0 : (y == 0) = false := by simp; omega
  have z1 : (y == 1) = false := by simp; omega
  have z2 : (y == 2) = false := by simp; omega
  by_cases y3 : y = 3
  · subst y3
    obtain ⟨m, rfl⟩ : ∃ m, n = m + 1 := ⟨n - 1, by omega⟩
    have hc1 : (m : Int) ≤ (c : Int) := by omega
    go_wp2_with fail
    go_ret
    refine ⟨g, m, c, xs.take m, _, rfl, by rw [List.length_take, HXL.out]; omega, by omega, ⟨by omega, hcap.2.1⟩, (HROW.out.init (by omega)).congr (fun i j hi hj => ?_), hgb, by omega, hr3, hO3⟩
    unfold itc
    rw [List.getD_eq_getElem?_getD, List.getD_eq_getElem?_getD, List.getElem?_take_of_lt hi]
  · have z3 : (y == 3) = false := by simp; omega
    go_wp2_with fail
    go_ret
    exact ⟨g, n, c, xs, _, rfl, HXL.out, hn, ⟨hcap.1, hcap.2.1⟩, HROW.out, hgb, by omega, hr3, hO3⟩

/-- What a call leaves that draws a number. -/
def DrawnN (w : World) (rb p K : Nat) (lo hi : Int) (e : Ending) (w' : World) : Prop :=
  ∃ (x : Int) (p' : Nat), e = .returned (.int .i64 x) ∧ lo ≤ x ∧ x ≤ hi ∧ p' ≤ p + K ∧ Rd w' rb p' ∧ w.grownBy w' (some rb)
theorem someWidth_any (rb p : Nat) (w : World) (h : Rd w rb p) (hp : p ≤ 140737488355328) : Calls Try.prog 50 #[.pointer (some ⟨rb, 0, none⟩)] w (DrawnN w rb p 2 0 10001) := by
  have hlt := h.lt
  go_enter Try.func50, Try.ntmps50
  go_wp2_with fail
  ((with_reducible refine (pick_any rb _ _ _ h (by omega)).mono ?_); rintro e w1 ⟨v, rfl, hv1, hv2, hr1, ho1⟩)
  clear hv2
  have hs1 := ho1.size
  by_cases v0 : v = 0
  · subst v0
    go_wp2_with fail
    ((with_reducible refine (one_any rb _ w1.heap.size 4 4 (fun i => [0, 10001, 10000, 1].getD i 0) _ (hr1.alloc _) (by omega) (by omega) (by omega) (by omega) (lit_cells [0, 10001, 10000, 1] (Blk.new _ _ _) rfl)).mono ?_); rintro e w4 ⟨x, hx, rfl, hr4, ho4⟩)
    obtain ⟨b0, b1⟩ := lit_bound [0, 10001, 10000, 1] 0 10001 (by decide) (by decide) hx
    go_wp2_with fail
    go_ret
    exact ⟨x, _, rfl, b0, b1, by omega, hr4, only_trans (only_alloc ho1 _) ho4⟩
  · have z0 : (v == 0) = false := by simp; omega
    go_wp2_with fail
    ((with_reducible refine (one_any rb _ w1.heap.size 7 7 (fun i => [12, 15, 20, 25, 30, 40, 18].getD i 0) _ (hr1.alloc _) (by omega) (by omega) (by omega) (by omega) (lit_cells [12, 15, 20, 25, 30, 40, 18] (Blk.new _ _ _) rfl)).mono ?_); rintro e w4 ⟨x, hx, rfl, hr4, ho4⟩)
    obtain ⟨b0, b1⟩ := lit_bound [12, 15, 20, 25, 30, 40, 18] 0 10001 (by decide) (by decide) hx
    go_wp2_with fail
    go_ret
    exact ⟨x, _, rfl, b0, b1, by omega, hr4, only_trans (only_alloc ho1 _) ho4⟩
end Go.Proofs.Ytkmipgekmbngcaa
/- The generator of tolerances returns some number. Conditions: the reader has yielded fewer than 2^47 numbers. -/
namespace Go.Proofs.Ytkmipgekmbngcaa
open Go.RowKit

theorem someTolerance_any (rb p : Nat) (w : World) (h : Rd w rb p) (hp : p ≤ 140737488355328) : Calls Try.prog 37 #[.pointer (some ⟨rb, 0, none⟩)] w (DrawnN w rb p 2 (-1) 10001) := by
  have hlt := h.lt
  go_enter Try.func37, Try.ntmps37
  go_wp2_with fail
  ((with_reducible refine (one_any rb _ w.heap.size 10 10 (fun i => [10000, 10000, 10000, 2000, 200, 50, 0, 10001, -1, 5000].getD i 0) _ (h.alloc _) (by omega) (by omega) (by omega) (by omega) (lit_cells [10000, 10000, 10000, 2000, 200, 50, 0, 10001, -1, 5000] (Blk.new _ _ _) rfl)).mono ?_); rintro e w4 ⟨x, hx, rfl, hr4, ho4⟩)
  obtain ⟨b0, b1⟩ := lit_bound [10000, 10000, 10000, 2000, 200, 50, 0, 10001, -1, 5000] (-1) 10001 (by decide) (by decide) hx
  go_wp2_with fail
  go_ret
  exact ⟨x, _, rfl, b0, b1, by omega, hr4, only_trans (only_alloc (only_refl _ _) _) ho4⟩
end Go.Proofs.Ytkmipgekmbngcaa
/- The cost of a line, of the program and of the reference, is what the plain functions say. Conditions: the slice reads as valid items; the line is one. -/
namespace Go.Proofs.Ytkmipgekmbngcaa
open Go.RowKit

set_option maxHeartbeats 1000000 in
theorem badness_i (n v : Int) (w : World) (n0 : 0 ≤ n) (n1 : n ≤ 20000) (v0 : 0 ≤ v) (v1 : v ≤ 10000) :
    Calls Try.prog 98 #[.int .i64 n, .int .i64 v] w fun e w' => e = .returned (.int .i64 (badP n v)) ∧ w' = w := by
  by_cases e1 : n = 0
  · have hb : badP n v = 0 := by rw [badP, if_pos e1]
    rw [hb]
    go_enter Try.func98, Try.ntmps98
    go_wp2_with fail
    go_ret
    exact ⟨rfl, rfl⟩
  by_cases e2 : v = 0
  · have hb : badP n v = 10000 := by rw [badP, if_neg e1, if_pos e2]
    rw [hb]
    go_enter Try.func98, Try.ntmps98
    go_wp2_with fail
    go_ret
    exact ⟨rfl, rfl⟩
  have hb : badP n v = min 10000 (100 * n * n * n / (v * v * v)) := by rw [badP, if_neg e1, if_neg e2]
  rw [hb]
  obtain ⟨⟨a0, a1⟩, ⟨b0, b1⟩, c0, c1⟩ := cube_b n0 n1
  obtain ⟨⟨d0, d1⟩, f0, f1⟩ := cube_h (show 0 < v by omega) v1
  obtain ⟨q0, q1⟩ := quo_b n0 n1 (show 0 < v by omega) v1
  have m1 : IntKind.i64.wrap (100 * n) = 100 * n := IntWalk.i64_in _ (by omega)
  have m2 : IntKind.i64.wrap (100 * n * n) = 100 * n * n := IntWalk.i64_in _ (by omega)
  have m3 : IntKind.i64.wrap (100 * n * n * n) = 100 * n * n * n := IntWalk.i64_in _ (by omega)
  have m4 : IntKind.i64.wrap (v * v) = v * v := IntWalk.i64_in _ (by omega)
  have m5 : IntKind.i64.wrap (v * v * v) = v * v * v := IntWalk.i64_in _ (by omega)
  go_enter Try.func98, Try.ntmps98
  go_wp2_with fail
  all_goals
    go_ret
    refine ⟨?_, rfl⟩
    show Ending.returned (.int .i64 _) = _
    congr 2
    omega

set_option maxHeartbeats 1000000 in
theorem demerits_i (b p : Int) (fl : Bool) (w : World) (b0 : 0 ≤ b) (b1 : b ≤ 10000) (p0 : -1000 ≤ p) (p1 : p ≤ 1000) :
    Calls Try.prog 82 #[.int .i64 b, .int .i64 p, .bool fl] w fun e w' => e = .returned (.int .i64 (dem b p fl)) ∧ w' = w := by
  have h1 := mul_b (show 0 ≤ 1 + b by omega) (show 1 + b ≤ 10001 by omega) (show 0 ≤ 1 + b by omega) (show 1 + b ≤ 10001 by omega)
  have m0 : IntKind.i64.wrap (1 + b) = 1 + b := IntWalk.i64_in _ (by omega)
  have m1 : IntKind.i64.wrap ((1 + b) * (1 + b)) = (1 + b) * (1 + b) := IntWalk.i64_in _ (by omega)
  by_cases e1 : 0 ≤ p
  · have h2 := mul_b (show 0 ≤ 1 + b + p by omega) (show 1 + b + p ≤ 11001 by omega) (show 0 ≤ 1 + b + p by omega) (show 1 + b + p ≤ 11001 by omega)
    have m2 : IntKind.i64.wrap (1 + b + p) = 1 + b + p := IntWalk.i64_in _ (by omega)
    have m3 : IntKind.i64.wrap ((1 + b + p) * (1 + b + p)) = (1 + b + p) * (1 + b + p) := IntWalk.i64_in _ (by omega)
    have m4 : IntKind.i64.wrap ((1 + b + p) * (1 + b + p) + 3000) = (1 + b + p) * (1 + b + p) + 3000 := IntWalk.i64_in _ (by omega)
    have hb : dem b p fl = (1 + b + p) * (1 + b + p) + (if fl then 3000 else 0) := by rw [dem, if_pos e1]
    rw [hb]
    rcases fl with _ | _
    all_goals
      go_enter Try.func82, Try.ntmps82
      go_wp2_with fail
      go_ret
      refine ⟨?_, rfl⟩
      show Ending.returned (.int .i64 _) = _
      congr 2
  by_cases e2 : -1000 < p
  · have h2 := mul_b (show 0 ≤ -p by omega) (show -p ≤ 1000 by omega) (show 0 ≤ -p by omega) (show -p ≤ 1000 by omega)
    rw [Int.neg_mul_neg] at h2
    have m2 : IntKind.i64.wrap (p * p) = p * p := IntWalk.i64_in _ (by omega)
    have m3 : IntKind.i64.wrap ((1 + b) * (1 + b) - p * p) = (1 + b) * (1 + b) - p * p := IntWalk.i64_in _ (by omega)
    have m4 : IntKind.i64.wrap ((1 + b) * (1 + b) - p * p + 3000) = (1 + b) * (1 + b) - p * p + 3000 := IntWalk.i64_in _ (by omega)
    have hb : dem b p fl = (1 + b) * (1 + b) - p * p + (if fl then 3000 else 0) := by rw [dem, if_neg e1, if_pos e2]
    rw [hb]
    rcases fl with _ | _
    all_goals
      go_enter Try.func82, Try.ntmps82
      go_wp2_with fail
      go_ret
      refine ⟨?_, rfl⟩
      show Ending.returned (.int .i64 _) = _
      congr 2
  · have m4 : IntKind.i64.wrap ((1 + b) * (1 + b) + 3000) = (1 + b) * (1 + b) + 3000 := IntWalk.i64_in _ (by omega)
    have hb : dem b p fl = (1 + b) * (1 + b) + (if fl then 3000 else 0) := by rw [dem, if_neg e1, if_neg e2]
    rw [hb]
    rcases fl with _ | _
    all_goals
      go_enter Try.func82, Try.ntmps82
      go_wp2_with fail
      go_ret
      refine ⟨?_, rfl⟩
      show Ending.returned (.int .i64 _) = _
      congr 2

theorem validGlue_i (a b c : Int) (w : World) (a0 : 0 ≤ a) (a1 : a ≤ 10000) (b0 : 0 ≤ b) (b1 : b ≤ 10000) (c0 : 0 ≤ c) (c1 : c ≤ 10000) :
    Calls Try.prog 97 #[.agg #[.int .i64 a, .int .i64 b, .int .i64 c]] w fun e w' => e = .returned (.bool true) ∧ Below w.heap.size w w' := by
  have ha : inR a (-10000) 10000 = true := inR_iff.2 ⟨by omega, by omega⟩
  have hb : inR b 0 10000 = true := inR_iff.2 ⟨by omega, by omega⟩
  have hc : inR c 0 10000 = true := inR_iff.2 ⟨by omega, by omega⟩
  have g0 := Blk.new w 76 #[.int .i64 a, .int .i64 b, .int .i64 c]
  have plt := g0.lt
  have pc0 := g0.cell 0; have pf0 := g0.frozen 0
  have pc1 := g0.cell 1; have pf1 := g0.frozen 1
  have pc2 := g0.cell 2; have pf2 := g0.frozen 2
  simp only [List.getElem?_toArray, List.getElem?_cons_zero, List.getElem?_cons_succ] at pc0 pc1 pc2
  go_enter Try.func97, Try.ntmps97
  go_wp2_with fail
  ((with_reducible refine (within_any _ _ _ _).mono ?_); rintro e w' ⟨rfl, rfl⟩)
  rw [ha]
  go_wp2_with fail
  ((with_reducible refine (within_any _ _ _ _).mono ?_); rintro e w' ⟨rfl, rfl⟩)
  rw [hb]
  go_wp2_with fail
  ((with_reducible refine (within_any _ _ _ _).mono ?_); rintro e w' ⟨rfl, rfl⟩)
  rw [hc]
  go_wp2_with fail
  go_ret
  exact ⟨rfl, by (repeat' (first | (with_reducible exact Below.refl _ _) | (with_reducible assumption) | (with_reducible refine Below.alloc ?_ ?_ _) | (with_reducible refine Below.drew ?_) | (with_reducible refine below_drewN ?_ _) | (with_reducible refine Below.setCell ?_ ?_ _) | (with_reducible refine below_then ?_ ?_ (by with_reducible assumption)) | (with_reducible exact Nat.le_refl _) | go_size | (simp only [*]; done)))⟩

set_option maxHeartbeats 1000000 in
theorem fitGlue_i (a b c d : Int) (w : World) (a0 : 0 ≤ a) (a1 : a ≤ 10000) (b0 : 0 ≤ b) (b1 : b ≤ 10000) (c0 : 0 ≤ c) (c1 : c ≤ 10000) (d0 : 0 ≤ d) (d1 : d ≤ 10000) :
    Calls Try.prog 91 #[.agg #[.int .i64 a, .int .i64 b, .int .i64 c], .int .i64 d] w fun e w' => e = .returned (.tuple #[.int .i64 (fitK a c d), .int .i64 (fitB a b c d)]) ∧ Below w.heap.size w w' := by
  have hd : inR d 0 10000 = true := inR_iff.2 ⟨by omega, by omega⟩
  have hk1 : d - a = 0 → fitK a c d = 1 ∧ fitB a b c d = 0 := fun h => ⟨by rw [fitK, if_pos h], by rw [fitB, if_pos h]⟩
  have hk2 : ¬ d - a = 0 → 0 < d - a → fitK a c d = 2 ∧ fitB a b c d = badP (d - a) b := fun h h' => ⟨by rw [fitK, if_neg h, if_pos h'], by rw [fitB, if_neg h, if_pos h']⟩
  have hk3 : ¬ d - a = 0 → ¬ 0 < d - a → -(d - a) ≤ c → fitK a c d = 3 ∧ fitB a b c d = badP (-(d - a)) c := fun h h' h3 => ⟨by rw [fitK, if_neg h, if_neg h', if_pos h3], by rw [fitB, if_neg h, if_neg h', if_pos h3]⟩
  have hk4 : ¬ d - a = 0 → ¬ 0 < d - a → ¬ -(d - a) ≤ c → fitK a c d = 4 ∧ fitB a b c d = 10000 := fun h h' h3 => ⟨by rw [fitK, if_neg h, if_neg h', if_neg h3], by rw [fitB, if_neg h, if_neg h', if_neg h3]⟩
  have HK1 := Lib.hid hk1
  have HK2 := Lib.hid hk2
  have HK3 := Lib.hid hk3
  have HK4 := Lib.hid hk4
  clear hk1 hk2 hk3 hk4
  obtain ⟨D, hD⟩ : ∃ D, d - a = D := ⟨_, rfl⟩
  have hDb : -10000 ≤ D ∧ D ≤ 10000 := by omega
  obtain ⟨D0, D1⟩ := hDb
  rw [hD] at HK1 HK2 HK3 HK4
  have mD : IntKind.i64.wrap (d - a) = D := by rw [hD]; exact IntWalk.i64_in _ (by omega)
  have g0 := Blk.new w 76 #[.int .i64 a, .int .i64 b, .int .i64 c]
  have G0 := Lib.hid g0
  clear hD
  go_enter Try.func91, Try.ntmps91
  have plt := g0.lt
  have pc0 := g0.cell 0; have pf0 := g0.frozen 0
  have pc1 := g0.cell 1; have pf1 := g0.frozen 1
  have pc2 := g0.cell 2; have pf2 := g0.frozen 2
  simp only [List.getElem?_toArray, List.getElem?_cons_zero, List.getElem?_cons_succ] at pc0 pc1 pc2
  go_wp2_with fail
  ((with_reducible refine (validGlue_i _ _ _ _ a0 a1 b0 b1 c0 c1).mono ?_); rintro e w1 ⟨rfl, hb1⟩)
  have g1 := G0.out.then_ hb1
  have hB1 : Below w.heap.size w w1 := below_then (Nat.le_refl _) (by (repeat' (first | (with_reducible exact Below.refl _ _) | (with_reducible assumption) | (with_reducible refine Below.alloc ?_ ?_ _) | (with_reducible refine Below.drew ?_) | (with_reducible refine below_drewN ?_ _) | (with_reducible refine Below.setCell ?_ ?_ _) | (with_reducible refine below_then ?_ ?_ (by with_reducible assumption)) | (with_reducible exact Nat.le_refl _) | go_size | (simp only [*]; done)))) hb1
  clear plt pc0 pc1 pc2 pf0 pf1 pf2
  have qlt := g1.lt
  have qc0 := g1.cell 0; have qf0 := g1.frozen 0
  have qc1 := g1.cell 1; have qf1 := g1.frozen 1
  have qc2 := g1.cell 2; have qf2 := g1.frozen 2
  simp only [List.getElem?_toArray, List.getElem?_cons_zero, List.getElem?_cons_succ] at qc0 qc1 qc2
  go_wp2_with fail
  ((with_reducible refine (within_any _ _ _ _).mono ?_); rintro e w' ⟨rfl, rfl⟩)
  rw [hd]
  by_cases e1 : D = 0
  · obtain ⟨k1, k2⟩ := HK1.out e1
    have K1 := Lib.hid k1
    have K2 := Lib.hid k2
    clear k1 k2
    go_wp2_with fail
    (first | go_returns | (refine bodyPost_ret (by simp [results, Try.results91, go_sem, *]; try rfl) rfl ?_))
    exact ⟨by rw [K1.out, K2.out]; rfl, hB1⟩
  by_cases e2 : 0 < D
  · obtain ⟨k1, k2⟩ := HK2.out e1 (by omega)
    have K1 := Lib.hid k1
    have K2 := Lib.hid k2
    clear k1 k2
    go_wp2_with fail
    ((with_reducible refine (badness_i _ _ _ (by omega) (by omega) b0 b1).mono ?_); rintro e w' ⟨rfl, rfl⟩)
    go_wp2_with fail
    (first | go_returns | (refine bodyPost_ret (by simp [results, Try.results91, go_sem, *]; try rfl) rfl ?_))
    exact ⟨by rw [K1.out, K2.out]; rfl, hB1⟩
  have mN : IntKind.i64.wrap (-D) = -D := IntWalk.i64_in _ (by omega)
  by_cases e3 : -D ≤ c
  · obtain ⟨k1, k2⟩ := HK3.out e1 (by omega) (by omega)
    have K1 := Lib.hid k1
    have K2 := Lib.hid k2
    clear k1 k2
    go_wp2_with fail
    ((with_reducible refine (badness_i _ _ _ (by omega) (by omega) c0 c1).mono ?_); rintro e w' ⟨rfl, rfl⟩)
    go_wp2_with fail
    (first | go_returns | (refine bodyPost_ret (by simp [results, Try.results91, go_sem, *]; try rfl) rfl ?_))
    exact ⟨by rw [K1.out, K2.out]; rfl, hB1⟩
  · obtain ⟨k1, k2⟩ := HK4.out e1 (by omega) (by omega)
    have K1 := Lib.hid k1
    have K2 := Lib.hid k2
    clear k1 k2
    go_wp2_with fail
    (first | go_returns | (refine bodyPost_ret (by simp [results, Try.results91, go_sem, *]; try rfl) rfl ?_))
    exact ⟨by rw [K1.out, K2.out]; rfl, hB1⟩

set_option maxHeartbeats 2000000 in
theorem fitLine_i (A : Option Addr) (n cap a t : Nat) (f d : Int) (xs : List It) (w : World) (hok : itemsOk xs = true) (hn : xs.length = n) (hcap : n ≤ cap ∧ cap ≤ maxLen) (hf : f + 1 = (a : Int)) (ha : a ≤ t) (ht : t < n) (hr : Row w w.heap.size 6 A n (itc xs)) (d0 : 1 ≤ d) (d1 : d ≤ 10000) :
    Calls Try.prog 81 #[.slice A n cap, .int .i64 f, .int .i64 (t : Int), .int .i64 d] w fun e w' => e = .returned (.tuple #[.int .i64 (lnK xs a t d), .int .i64 (lnB xs a t d)]) ∧ Below w.heap.size w w' := by
  obtain ⟨⟨x0, x1⟩, ⟨y0, y1⟩, z0, z1⟩ := lg_b (a := a) hok hn ht
  have hK : lnK xs a t d = fitK (cl (lgW xs a t)) (cl (lgH xs a t)) d := rfl
  have hB : lnB xs a t d = fitB (cl (lgW xs a t)) (cl (lgS xs a t)) (cl (lgH xs a t)) d := rfl
  obtain ⟨X, hX⟩ : ∃ X, lgW xs a t = X := ⟨_, rfl⟩
  obtain ⟨Y, hY⟩ : ∃ X, lgS xs a t = X := ⟨_, rfl⟩
  obtain ⟨Z, hZ⟩ : ∃ X, lgH xs a t = X := ⟨_, rfl⟩
  rw [hX] at x0 x1 hK hB
  rw [hY] at y0 y1 hB
  rw [hZ] at z0 z1 hK hB
  rw [hK, hB]
  have HX := Lib.hid hX
  have HY := Lib.hid hY
  have HZ := Lib.hid hZ
  have HOK := Lib.hid hok
  have HN := Lib.hid hn
  clear hX hY hZ hK hB hok hn
  go_enter Try.func81, Try.ntmps81
  go_wp2_with fail
  ((with_reducible refine (lineGlue_i _ _ _ _ _ _ xs _ HOK.out HN.out hcap hf ha ht ?_).mono ?_); (exact hr); rintro e w1 ⟨rfl, hb1⟩)
  rw [HX.out, HY.out, HZ.out]
  go_wp2_with fail
  all_goals
    ((with_reducible refine (fitGlue_i _ _ _ _ _ (by omega) (by omega) (by omega) (by omega) (by omega) (by omega) (by omega) d1).mono ?_); rintro e w2 ⟨rfl, hb2⟩)
    have hB2 := below_then (Nat.le_refl _) (hb1.alloc hb1.size (.cells #[.int .i64 X, .int .i64 Y, .int .i64 Z] 76)) hb2
    go_wp2_with fail
    (first | go_returns | (refine bodyPost_ret (by simp [results, Try.results81, go_sem, *]; try rfl) rfl ?_))
    refine ⟨?_, hB2⟩
    first | rw [show cl X = X by unfold cl; omega] | rw [show cl X = 10000 by unfold cl; omega]
    first | rw [show cl Y = Y by unfold cl; omega] | rw [show cl Y = 10000 by unfold cl; omega]
    first | rw [show cl Z = Z by unfold cl; omega] | rw [show cl Z = 10000 by unfold cl; omega]
    rfl
end Go.Proofs.Ytkmipgekmbngcaa
/- The cost of a line, of the program and of the reference, is what the plain functions say. Conditions: the slice reads as valid items; the line is one. -/
namespace Go.Proofs.Ytkmipgekmbngcaa
open Go.RowKit

set_option maxRecDepth 100000 in
set_option maxHeartbeats 4000000 in
theorem lineCost_i (A : Option Addr) (n cap a t : Nat) (f d tol : Int) (xs : List It) (w : World) (hok : itemsOk xs = true) (hn : xs.length = n) (hcap : n ≤ cap ∧ cap ≤ maxLen) (hf : f + 1 = (a : Int)) (ha : a ≤ t) (ht : t < n) (hr : Row w w.heap.size 6 A n (itc xs)) (d0 : 1 ≤ d) (d1 : d ≤ 10000) :
    Calls Try.prog 58 #[.slice A n cap, .int .i64 f, .int .i64 (t : Int), .int .i64 d, .int .i64 tol] w fun e w' => e = .returned (.tuple #[.int .i64 (costV xs a t d tol), .bool (costOk xs a t d tol)]) ∧ Below w.heap.size w w' := by
  have hmn := (itemsOk_len hok hn).2
  obtain ⟨B0, B1⟩ := lnB_b (a := a) hok hn ht (show 0 ≤ d by omega) d1
  obtain ⟨b, off, rfl, hb, hc⟩ := id hr (by omega)
  obtain ⟨y, hy⟩ : ∃ y, xs.getD t default = y := ⟨_, rfl⟩
  obtain ⟨_, _, _, ⟨p0, p1⟩, _⟩ := itemOk_b (itemsOk_at hok hn ht hy)
  have t4 := hc t 4 ht (by omega)
  have t5 := hc t 5 ht (by omega)
  simp only [itc, itv, hy] at t4 t5
  have hyes : ∀ F, flg xs a t = F → ¬ lnK xs a t d = 4 → ¬ tol < lnB xs a t d → costOk xs a t d tol = true ∧ costV xs a t d tol = dem (lnB xs a t d) y.pen F := fun F hF h1 h2 => by
    have := cost_yes h1 h2
    rwa [hy, hF] at this
  have HYES := Lib.hid hyes
  have HNO1 := Lib.hid (fun h : lnK xs a t d = 4 => cost_no1 (tol := tol) h)
  have HNO2 := Lib.hid (fun h : tol < lnB xs a t d => cost_no2 h)
  have HY := Lib.hid hy
  have HOK := Lib.hid hok
  have HN := Lib.hid hn
  have HR := Lib.hid hr
  have HC := Lib.hid hc
  have T4 := Lib.hid t4
  have T5 := Lib.hid t5
  have hmc : off + n * 6 ≤ off + n * 6 := Nat.le_refl _
  have htn : (t : Int) < (n : Int) := by omega
  clear hyes hok hn hr hy hc t4 t5 hmc
  go_enter Try.func58, Try.ntmps58
  go_wp2_with fail
  ((with_reducible refine (fitLine_i _ _ _ _ _ _ _ xs _ HOK.out HN.out hcap hf ha ht ?_ d0 d1).mono ?_); (exact HR.out); rintro e w1 ⟨rfl, hb1⟩)
  have hB := hb1
  obtain ⟨K, hK⟩ : ∃ K, lnK xs a t d = K := ⟨_, rfl⟩
  obtain ⟨B, hBB⟩ : ∃ B, lnB xs a t d = B := ⟨_, rfl⟩
  rw [hK] at HYES HNO1 ⊢
  rw [hBB] at HYES HNO2 B0 B1 ⊢
  clear hK hBB
  by_cases e1 : K = 4
  · obtain ⟨k1, k2⟩ := HNO1.out e1
    have K1 := Lib.hid k1
    have K2 := Lib.hid k2
    clear k1 k2
    go_wp2_with fail
    (first | go_returns | (refine bodyPost_ret (by simp [results, Try.results58, go_sem, *]; try rfl) rfl ?_))
    exact ⟨by rw [K1.out, K2.out]; rfl, hB⟩
  have hKf : (K == 4) = false := by simpa using e1
  by_cases e2 : tol < B
  · obtain ⟨k1, k2⟩ := HNO2.out e2
    have K1 := Lib.hid k1
    have K2 := Lib.hid k2
    clear k1 k2
    go_wp2_with fail
    (first | go_returns | (refine bodyPost_ret (by simp [results, Try.results58, go_sem, *]; try rfl) rfl ?_))
    exact ⟨by rw [K1.out, K2.out]; rfl, hB⟩
  have hBt : decide (tol < B) = false := decide_eq_false e2
  have c4 : w1.cell? ⟨b, off + t * 6 + 4, none⟩ = _ := (hB.cell (p := ⟨b, off + t * 6 + 4, none⟩) hb).trans T4.out
  have c5 : w1.cell? ⟨b, off + t * 6 + 5, none⟩ = _ := (hB.cell (p := ⟨b, off + t * 6 + 5, none⟩) hb).trans T5.out
  rcases a with _ | k
  · obtain ⟨k1, k2⟩ := HYES.out false (flg_zero _ _) (by omega) (by omega)
    have K1 := Lib.hid k1
    have K2 := Lib.hid k2
    obtain rfl : f = -1 := by omega
    clear k1 k2
    go_wp2_with fail
    ((with_reducible refine (demerits_i _ _ _ _ B0 B1 p0 p1).mono ?_); rintro e w' ⟨rfl, rfl⟩)
    go_wp2_with fail
    (first | go_returns | (refine bodyPost_ret (by simp [results, Try.results58, go_sem, *]; try rfl) rfl ?_))
    exact ⟨by rw [K1.out, K2.out]; rfl, hB⟩
  have hkn : (k : Int) < (n : Int) := by omega
  obtain ⟨x, hx⟩ : ∃ x, xs.getD k default = x := ⟨_, rfl⟩
  have t6 := HC.out k 5 (by omega) (by omega)
  simp only [itc, itv, hx] at t6
  have c6 : w1.cell? ⟨b, off + k * 6 + 5, none⟩ = _ := (hB.cell (p := ⟨b, off + k * 6 + 5, none⟩) hb).trans t6
  obtain rfl : f = (k : Int) := by omega
  have hk0 : decide ((0 : Int) ≤ (k : Int)) = true := decide_eq_true (by omega)
  clear t6
  rcases hu : x.fl with _ | _
  · obtain ⟨k1, k2⟩ := HYES.out (false && y.fl) (flg_succ (by rw [hx, hu]) (by rw [HY.out])) (by omega) (by omega)
    have K1 := Lib.hid k1
    have K2 := Lib.hid k2
    rw [hu] at c6
    clear k1 k2 hx hu
    go_wp2_with fail
    ((with_reducible refine (demerits_i _ _ _ _ B0 B1 p0 p1).mono ?_); rintro e w' ⟨rfl, rfl⟩)
    go_wp2_with fail
    (first | go_returns | (refine bodyPost_ret (by simp [results, Try.results58, go_sem, *]; try rfl) rfl ?_))
    exact ⟨by rw [K1.out, K2.out, Bool.false_and]; rfl, hB⟩
  rcases hv : y.fl with _ | _
  all_goals
    obtain ⟨k1, k2⟩ := HYES.out (true && y.fl) (flg_succ (by rw [hx, hu]) (by rw [HY.out])) (by omega) (by omega)
    rw [hv, Bool.true_and] at k2
    have K1 := Lib.hid k1
    have K2 := Lib.hid k2
    rw [hu] at c6
    rw [hv] at c5
    clear k1 k2 hx hu hv
    go_wp2_with fail
    ((with_reducible refine (demerits_i _ _ _ _ B0 B1 p0 p1).mono ?_); rintro e w' ⟨rfl, rfl⟩)
    go_wp2_with fail
    (first | go_returns | (refine bodyPost_ret (by simp [results, Try.results58, go_sem, *]; try rfl) rfl ?_))
    exact ⟨by rw [K1.out, K2.out]; rfl, hB⟩

end Go.Proofs.Ytkmipgekmbngcaa
/- sumLines of the program returns what the plain function says, with any function value for the widths. Conditions: the slices read as valid items and as a list; the function value tells the widths, in memory of its own. -/
namespace Go.Proofs.Ytkmipgekmbngcaa
open Go.RowKit

set_option maxRecDepth 100000 in
set_option maxHeartbeats 4000000 in
theorem sumLines_i (K : Nat) (caps : Array Value) (A B : Option Addr) (n cap nb capb : Nat) (xs : List It) (bs : List Int) (wd : Nat → Int) (tol : Int) (w : World) (eg : ∀ args w, (callFunc K args).run Try.prog w = .ok (.enter K args) w)
    (hok : itemsOk xs = true) (hn : xs.length = n) (hcap : n ≤ cap ∧ cap ≤ maxLen) (hr : Row w w.heap.size 6 A n (itc xs)) (hbn : bs.length = nb) (hbm : nb ≤ maxLen) (hbr : Row w w.heap.size 1 B nb (inc bs)) (hwd : ∀ k, 1 ≤ wd k ∧ wd k ≤ 10000)
    (hcall : ∀ (k : Nat) W, k < nb → Below w.heap.size w W → Calls Try.prog K (#[.int .i64 (k : Int)] ++ caps) W fun e W' => e = .returned (.int .i64 (wd k)) ∧ Below W.heap.size W W') :
    Calls Try.prog 46 #[.slice A n cap, .slice B nb capb, .int .i64 tol, .func (.func K) #[] caps] w fun e w' => e = .returned (.tuple #[.int .i64 ((chkP xs wd tol bs).getD 0), .bool (chkP xs wd tol bs).isSome]) ∧ Below w.heap.size w w' := by
  have hm60 := (itemsOk_len hok hn).2
  have hm1 := (itemsOk_len hok hn).1
  unfold maxLen at hbm
  have HOK := Lib.hid hok
  have HN := Lib.hid hn
  have HR := Lib.hid hr
  have HBN := Lib.hid hbn
  have HBR := Lib.hid hbr
  have HWD := Lib.hid hwd
  have HCALL := Lib.hid hcall
  by_cases hz : nb = 0
  · subst hz
    have HE := Lib.hid (chk_zero (xs := xs) (wd := wd) (tol := tol) hbn)
    clear hok hn hr hbn hbr hwd hcall
    go_enter Try.func46, Try.ntmps46
    go_wp2_with fail
    (first | go_returns | (refine bodyPost_ret (by simp [results, Try.results46, go_sem, *]; try rfl) rfl ?_))
    exact ⟨by rw [HE.out]; rfl, Below.refl _ _⟩
  have hpos : 0 < nb := by omega
  have hzf : ((nb : Int) == 0) = false := by simpa using hz
  obtain ⟨b, off, rfl, hb, hc⟩ := id hbr hpos
  obtain ⟨L, hL⟩ : ∃ L, bs.getD (nb - 1) default = L := ⟨_, rfl⟩
  have c0 : w.cell? ⟨b, off + (nb - 1), none⟩ = some (.int .i64 L) := by
    have := hc (nb - 1) 0 (by omega) (by omega)
    simpa only [inc, hL, Nat.mul_one, Nat.add_zero] using this
  have hbn' : bs.length = (nb - 1) + 1 := by omega
  by_cases hl : L = (n : Int) - 1
  case neg =>
    have HE := Lib.hid (chk_last (xs := xs) (wd := wd) (tol := tol) hbn' (by rw [hL, hn]; exact hl))
    have hlf : (L == (n : Int) - 1) = false := by simpa using hl
    clear hok hn hr hbn hbn' hbr hwd hcall hc hL hl
    go_enter Try.func46, Try.ntmps46
    go_wp2_with fail
    (first | go_returns | (refine bodyPost_ret (by simp [results, Try.results46, go_sem, *]; try rfl) rfl ?_))
    exact ⟨by rw [HE.out]; rfl, Below.refl _ _⟩
  have hend := chk_end (xs := xs) (wd := wd) (tol := tol) hbn' (by rw [hL, hn]; exact hl)
  rw [show nb - 1 + 1 = nb by omega] at hend
  have HEND := Lib.hid hend
  have HC := Lib.hid hc
  clear hok hn hr hbn hbn' hbr hwd hcall hc hL hend
  subst hl
  go_enter Try.func46, Try.ntmps46
  go_wp2_with fail
  clear c0 hz hzf
  go_loopg [10, 11, 33] nb (fun k sv fv i wr => ∃ (j : Nat) (s f : Int), j ≤ nb ∧ k = nb - j ∧ i = .int .i64 (j : Int) ∧ sv = .int .i64 s ∧ fv = .int .i64 f ∧ Hid (sumJ xs wd tol bs j = some s) ∧ Hid (frm bs j = f) ∧ Below w.heap.size w wr)
  case atStart => exact ⟨0, 0, -1, Nat.zero_le _, rfl, rfl, rfl, rfl, rfl, rfl, Below.refl _ _⟩
  case round =>
    obtain ⟨j, s, f, hj, hk, rfl, rfl, rfl, hs, hf, hbel⟩ := hrel
    have HK := Lib.hid hk; clear hk
    have hsz := hbel.size
    obtain ⟨j0, j1, s0, s1⟩ := sumJ_b HOK.out HN.out HWD.out j s hs.out
    rw [hf.out] at j0 j1
    by_cases hlt : j < nb
    · obtain ⟨t, ht⟩ : ∃ t, bs.getD j default = t := ⟨_, rfl⟩
      have c0 : wr.cell? ⟨b, off + j, none⟩ = some (.int .i64 t) := by
        have := (hbel.cell (p := ⟨b, off + j, none⟩) hb).trans (by have := HC.out j 0 hlt (by omega); simpa only [inc, ht, Nat.mul_one, Nat.add_zero] using this)
        exact this
      have hjn : (j : Int) < (nb : Int) := by omega
      have HT := Lib.hid ht
      clear ht
      go_wp2_with fail
      ((with_reducible refine (isLine_i _ _ _ _ _ xs _ HN.out hm60 hcap ?_).mono ?_); (exact (HR.out.below hbel).more hbel.size); rintro e w1 ⟨rfl, hb1⟩)
      have hB1 := below_then (Nat.le_refl _) hbel hb1
      rcases hl : lnOk xs f t with _ | _
      · have HE := Lib.hid (chk_none HBN.out (sumJ_no1 hs.out (by rw [hf.out, HT.out]; exact lc_line hl)) hlt)
        clear hl
        go_wp2_with fail
        (first | go_returns | (refine bodyPost_ret (by simp [results, Try.results46, go_sem, *]; try rfl) rfl ?_))
        exact ⟨by rw [HE.out]; rfl, hB1⟩
      obtain ⟨a, u, ef, et, hau, hun, _⟩ := ln_iff HN.out hl
      subst ef et
      obtain ⟨d0, d1⟩ := HWD.out j
      have hlc : lc xs (wd j) tol (frm bs j) (bs.getD j default) = if costOk xs a u (wd j) tol then some (costV xs a u (wd j) tol) else none := by rw [hf.out, HT.out]; exact lc_at rfl rfl hl
      have HLC := Lib.hid hlc
      have hfa : (a : Int) - 1 + 1 = (a : Int) := by omega
      have HFA := Lib.hid hfa
      clear hl hlc hfa
      go_wp2_with (go_at_fn K; refine (HCALL.out j _ hlt hB1).mono ?_; rintro e w2 ⟨rfl, hb2⟩)
      have hB2 := below_then (Nat.le_refl _) hB1 hb2
      go_wp2_with fail
      ((with_reducible refine (lineCost_i _ _ _ a u _ _ _ xs _ HOK.out HN.out hcap HFA.out hau hun ?_ d0 d1).mono ?_); (exact (HR.out.below hB2).more hB2.size); rintro e w3 ⟨rfl, hb3⟩)
      have hB3 := below_then (Nat.le_refl _) hB2 hb3
      obtain ⟨v0, v1⟩ := costV_b (a := a) (tol := tol) HOK.out HN.out hun d0 d1
      obtain ⟨V, hV⟩ : ∃ V, costV xs a u (wd j) tol = V := ⟨_, rfl⟩
      rw [hV] at HLC v0 v1 ⊢
      clear hV
      rcases hq : costOk xs a u (wd j) tol with _ | _
      · have hc0 := HLC.out
        rw [hq] at hc0
        have HE := Lib.hid (chk_none HBN.out (sumJ_no1 hs.out hc0) hlt)
        clear hq hc0
        go_wp2_with fail
        (first | go_returns | (refine bodyPost_ret (by simp [results, Try.results46, go_sem, *]; try rfl) rfl ?_))
        exact ⟨by rw [HE.out]; rfl, hB3⟩
      · have hc0 := HLC.out
        rw [hq] at hc0
        have HS := Lib.hid (sumJ_yes hs.out hc0)
        clear hq hc0
        go_wp2_with fail
        go_roundg (nb - (j + 1))
        case measure => have := HK.out; omega
        case rel => exact ⟨j + 1, s + V, _, by omega, rfl, by go_num, rfl, rfl, HS.out, by show _ = _; rw [frm_succ, HT.out], hB3⟩
    · have ej : j = nb := by omega
      subst ej
      have HE := Lib.hid (HEND.out.trans hs.out)
      go_wp2_with fail
      (first | go_returns | (refine bodyPost_ret (by simp [results, Try.results46, go_sem, *]; try rfl) rfl ?_))
      exact ⟨by rw [HE.out]; rfl, hbel⟩
end Go.Proofs.Ytkmipgekmbngcaa
/- Shapes, of the program and of the reference: validShape and WidthOfLine return what the plain functions say. Conditions: the slice reads as the list. -/
namespace Go.Proofs.Ytkmipgekmbngcaa
open Go.RowKit

def shapeOk (l : List Int) : Bool := l.all widthOk && inR l.length 1 12
/-- The width of line n of a valid shape. -/
def wof (l : List Int) (n : Nat) : Int := l.getD (min n (l.length - 1)) default
def wol (l : List Int) (n : Int) : Int := if shapeOk l && decide (0 ≤ n) then wof l n.toNat else 0
theorem shapeOk_len {l : List Int} (h : shapeOk l = true) : 1 ≤ l.length ∧ l.length ≤ 12 := by
  simp only [shapeOk, Bool.and_eq_true, inR_iff] at h
  omega
theorem shapeOk_at {l : List Int} (h : shapeOk l = true) {k : Nat} (hk : k < l.length) {x : Int} (hx : l.getD k default = x) : 1 ≤ x ∧ x ≤ 10000 := by
  simp only [shapeOk, Bool.and_eq_true] at h
  exact inR_iff.1 (show inR x 1 10000 = true from all_at (p := widthOk) h.1 rfl hk hx)
theorem wof_bound {l : List Int} (h : shapeOk l = true) (k : Nat) : 1 ≤ wof l k ∧ wof l k ≤ 10000 := by
  have := shapeOk_len h
  exact shapeOk_at h (k := min k (l.length - 1)) (by omega) rfl
theorem shape_bad {xs : List Int} {n j : Nat} {x : Int} (hn : xs.length = n) (hj : j < n) (hx : xs.getD j default = x) (hv : widthOk x = false) : shapeOk xs = false := by
  simp [shapeOk, all_bad hn hj hx hv]
theorem shape_end {xs : List Int} {n j : Nat} (hn : xs.length = n) (hj : n ≤ j) (h : (xs.take j).all widthOk = true) : shapeOk xs = inR n 1 12 := by
  rw [shapeOk, all_end hn hj h, hn]; rfl

theorem validShape_i (A : Option Addr) (n cap : Nat) (xs : List Int) (w : World) (hn : xs.length = n) (hm : n ≤ maxLen) (hr : Row w w.heap.size 1 A n (inc xs)) :
    Calls Try.prog 39 #[.slice A n cap] w fun e w' => e = .returned (.bool (shapeOk xs)) ∧ Below w.heap.size w w' := by
  unfold maxLen at hm
  have HN := Lib.hid hn; clear hn
  go_enter Try.func39, Try.ntmps39
  go_wp2_with fail
  go_loopg [7] n (fun k i wr => ∃ j : Nat, j ≤ n ∧ k = n - j ∧ i = .int .i64 j ∧ Hid ((xs.take j).all widthOk = true) ∧ Below w.heap.size w wr)
  case atStart => exact ⟨0, Nat.zero_le _, rfl, rfl, by simp [Hid], Below.refl _ _⟩
  case round =>
    obtain ⟨j, hj, hk, rfl, hall, hbel⟩ := hrel
    have HK := Lib.hid hk; clear hk
    have hsz := hbel.size
    by_cases hlt : j < n
    · obtain ⟨b, off, rfl, hb, hc⟩ := hr.at1 (by omega)
      have c0 : wr.cell? ⟨b, off + j, none⟩ = _ := (hbel.cell (p := ⟨b, off + j, none⟩) hb).trans (hc j hlt)
      obtain ⟨x, hx⟩ : ∃ x, xs.getD j default = x := ⟨_, rfl⟩
      simp only [inc, hx] at c0
      have Hx := Lib.hid hx; clear hx hc
      rcases hv : widthOk x with _ | _
      · have HV := Lib.hid hv; clear hv
        go_wp2_with fail
        ((with_reducible refine (within_any _ _ _ _).mono ?_); rintro e w' ⟨rfl, rfl⟩)
        rw [show inR x 1 10000 = false from HV.out]
        go_wp2_with fail
        go_ret
        exact ⟨ret_bool (shape_bad HN.out hlt Hx.out HV.out).symm, by (repeat' (first | (with_reducible exact Below.refl _ _) | (with_reducible assumption) | (with_reducible refine Below.alloc ?_ ?_ _) | (with_reducible refine Below.drew ?_) | (with_reducible refine below_drewN ?_ _) | (with_reducible refine Below.setCell ?_ ?_ _) | (with_reducible refine below_then ?_ ?_ (by with_reducible assumption)) | (with_reducible exact Nat.le_refl _) | go_size | (simp only [*]; done)))⟩
      · have HV := Lib.hid hv; clear hv
        go_wp2_with fail
        ((with_reducible refine (within_any _ _ _ _).mono ?_); rintro e w' ⟨rfl, rfl⟩)
        rw [show inR x 1 10000 = true from HV.out]
        go_wp2_with fail
        go_roundg (n - (j + 1))
        case measure => have := HK.out; omega
        case rel => exact ⟨j + 1, by omega, rfl, by go_num, all_more HN.out hlt Hx.out hall.out HV.out, by (repeat' (first | (with_reducible exact Below.refl _ _) | (with_reducible assumption) | (with_reducible refine Below.alloc ?_ ?_ _) | (with_reducible refine Below.drew ?_) | (with_reducible refine below_drewN ?_ _) | (with_reducible refine Below.setCell ?_ ?_ _) | (with_reducible refine below_then ?_ ?_ (by with_reducible assumption)) | (with_reducible exact Nat.le_refl _) | go_size | (simp only [*]; done)))⟩
    · go_wp2_with fail
      ((with_reducible refine (within_any _ _ _ _).mono ?_); rintro e w' ⟨rfl, rfl⟩)
      go_wp2_with fail
      go_ret
      exact ⟨ret_bool (shape_end HN.out (by omega) hall.out).symm, hbel⟩

theorem validShape_s (A : Option Addr) (n cap : Nat) (xs : List Int) (w : World) (hn : xs.length = n) (hm : n ≤ maxLen) (hr : Row w w.heap.size 1 A n (inc xs)) :
    Calls Try.prog 43 #[.slice A n cap] w fun e w' => e = .returned (.bool (shapeOk xs)) ∧ Below w.heap.size w w' := by
  unfold maxLen at hm
  have HN := Lib.hid hn; clear hn
  go_enter Try.func43, Try.ntmps43
  go_wp2_with fail
  go_loopg [3] n (fun k i wr => ∃ j : Nat, j ≤ n ∧ k = n - j ∧ i = .int .i64 j ∧ Hid ((xs.take j).all widthOk = true) ∧ Below w.heap.size w wr)
  case atStart => exact ⟨0, Nat.zero_le _, rfl, rfl, by simp [Hid], Below.refl _ _⟩
  case round =>
    obtain ⟨j, hj, hk, rfl, hall, hbel⟩ := hrel
    have HK := Lib.hid hk; clear hk
    have hsz := hbel.size
    by_cases hlt : j < n
    · obtain ⟨b, off, rfl, hb, hc⟩ := hr.at1 (by omega)
      have c0 : wr.cell? ⟨b, off + j, none⟩ = _ := (hbel.cell (p := ⟨b, off + j, none⟩) hb).trans (hc j hlt)
      obtain ⟨x, hx⟩ : ∃ x, xs.getD j default = x := ⟨_, rfl⟩
      simp only [inc, hx] at c0
      have Hx := Lib.hid hx; clear hx hc
      rcases hv : widthOk x with _ | _
      · have HV := Lib.hid hv; clear hv
        go_wp2_with fail
        ((with_reducible refine (validWidth_any _ _).mono ?_); rintro e w' ⟨rfl, rfl⟩)
        rw [HV.out]
        go_wp2_with fail
        go_ret
        exact ⟨ret_bool (shape_bad HN.out hlt Hx.out HV.out).symm, by (repeat' (first | (with_reducible exact Below.refl _ _) | (with_reducible assumption) | (with_reducible refine Below.alloc ?_ ?_ _) | (with_reducible refine Below.drew ?_) | (with_reducible refine below_drewN ?_ _) | (with_reducible refine Below.setCell ?_ ?_ _) | (with_reducible refine below_then ?_ ?_ (by with_reducible assumption)) | (with_reducible exact Nat.le_refl _) | go_size | (simp only [*]; done)))⟩
      · have HV := Lib.hid hv; clear hv
        go_wp2_with fail
        ((with_reducible refine (validWidth_any _ _).mono ?_); rintro e w' ⟨rfl, rfl⟩)
        rw [HV.out]
        go_wp2_with fail
        go_roundg (n - (j + 1))
        case measure => have := HK.out; omega
        case rel => exact ⟨j + 1, by omega, rfl, by go_num, all_more HN.out hlt Hx.out hall.out HV.out, by (repeat' (first | (with_reducible exact Below.refl _ _) | (with_reducible assumption) | (with_reducible refine Below.alloc ?_ ?_ _) | (with_reducible refine Below.drew ?_) | (with_reducible refine below_drewN ?_ _) | (with_reducible refine Below.setCell ?_ ?_ _) | (with_reducible refine below_then ?_ ?_ (by with_reducible assumption)) | (with_reducible exact Nat.le_refl _) | go_size | (simp only [*]; done)))⟩
    · go_wp2_with fail
      ((with_reducible refine (inRange_any _ _ _ _).mono ?_); rintro e w' ⟨rfl, rfl⟩)
      go_wp2_with fail
      go_ret
      exact ⟨ret_bool (shape_end HN.out (by omega) hall.out).symm, hbel⟩

theorem wol_no {xs : List Int} {m : Int} (h : shapeOk xs = false) : wol xs m = 0 := by simp [wol, h]
theorem wol_neg {xs : List Int} {m : Int} (h : m < 0) : wol xs m = 0 := by
  have : decide (0 ≤ m) = false := by simp; omega
  simp [wol, this]
theorem wol_yes {xs : List Int} {k : Nat} (h : shapeOk xs = true) : wol xs (k : Int) = wof xs k := by simp [wol, h]
theorem wof_lt {xs : List Int} {n k : Nat} (hn : xs.length = n) (h : k < n) : wof xs k = xs.getD k default := by
  rw [wof, hn, Nat.min_eq_left (by omega)]
theorem wof_ge {xs : List Int} {n k : Nat} (hn : xs.length = n) (h : n ≤ k + 1) : wof xs k = xs.getD (n - 1) default := by
  rw [wof, hn, Nat.min_eq_right (by omega)]

theorem widthOf_s (A : Option Addr) (n cap k : Nat) (xs : List Int) (w : World) (hn : xs.length = n) (h1 : 1 ≤ n) (hm : n ≤ 12) (hk : k ≤ 9223372036854775807) (hr : Row w w.heap.size 1 A n (inc xs)) :
    Calls Try.prog 65 #[.slice A n cap, .int .i64 (k : Int)] w fun e w' => e = .returned (.int .i64 (wof xs k)) ∧ Below w.heap.size w w' := by
  have HN := Lib.hid hn; clear hn
  obtain ⟨b, off, rfl, hb, hc⟩ := hr.at1 (by omega)
  by_cases hlt : k < n
  · have c0 := hc k hlt
    obtain ⟨x, hx⟩ : ∃ x, xs.getD k default = x := ⟨_, rfl⟩
    simp only [inc, hx] at c0
    have Hx := Lib.hid hx; clear hx hc
    go_enter Try.func65, Try.ntmps65
    go_wp2
    all_goals
      first
        | (exfalso; omega)
        | (go_ret; exact ⟨ret_int (by rw [wof_lt HN.out hlt, Hx.out]), by (repeat' (first | (with_reducible exact Below.refl _ _) | (with_reducible assumption) | (with_reducible refine Below.alloc ?_ ?_ _) | (with_reducible refine Below.drew ?_) | (with_reducible refine below_drewN ?_ _) | (with_reducible refine Below.setCell ?_ ?_ _) | (with_reducible refine below_then ?_ ?_ (by with_reducible assumption)) | (with_reducible exact Nat.le_refl _) | go_size | (simp only [*]; done)))⟩)
  · have c0 := hc (n - 1) (by omega)
    obtain ⟨x, hx⟩ : ∃ x, xs.getD (n - 1) default = x := ⟨_, rfl⟩
    simp only [inc, hx] at c0
    have Hx := Lib.hid hx; clear hx hc
    go_enter Try.func65, Try.ntmps65
    go_wp2
    all_goals
      first
        | (exfalso; omega)
        | (go_ret; exact ⟨ret_int (by rw [wof_ge HN.out (by omega), Hx.out]), by (repeat' (first | (with_reducible exact Below.refl _ _) | (with_reducible assumption) | (with_reducible refine Below.alloc ?_ ?_ _) | (with_reducible refine Below.drew ?_) | (with_reducible refine below_drewN ?_ _) | (with_reducible refine Below.setCell ?_ ?_ _) | (with_reducible refine below_then ?_ ?_ (by with_reducible assumption)) | (with_reducible exact Nat.le_refl _) | go_size | (simp only [*]; done)))⟩)

theorem widthOfLine_i (A : Option Addr) (n cap : Nat) (m : Int) (xs : List Int) (w : World) (hn : xs.length = n) (hm : n ≤ maxLen) (hmm : m ≤ 9223372036854775807) (hr : Row w w.heap.size 1 A n (inc xs)) :
    Calls Try.prog 48 #[.slice A n cap, .int .i64 m] w fun e w' => e = .returned (.int .i64 (wol xs m)) ∧ Below w.heap.size w w' := by
  rcases hv : shapeOk xs with _ | _
  · rw [wol_no hv]
    have HN := Lib.hid hn; clear hn
    go_enter Try.func48, Try.ntmps48
    go_wp2_with fail
    ((with_reducible refine (validShape_i _ _ _ xs _ HN.out hm ?_).mono ?_); (exact hr); rintro e w1 ⟨rfl, hb⟩)
    rw [hv]
    go_wp2
    go_ret
    exact ⟨rfl, hb⟩
  · have hl := shapeOk_len hv
    rw [hn] at hl
    have HN := Lib.hid hn; clear hn
    have HV := Lib.hid hv; clear hv
    by_cases h0 : m < 0
    · rw [wol_neg h0]
      go_enter Try.func48, Try.ntmps48
      go_wp2_with fail
      ((with_reducible refine (validShape_i _ _ _ xs _ HN.out hm ?_).mono ?_); (exact hr); rintro e w1 ⟨rfl, hb⟩)
      rw [HV.out]
      go_wp2
      go_ret
      exact ⟨rfl, hb⟩
    · obtain ⟨k, rfl⟩ := Int.eq_ofNat_of_zero_le (show 0 ≤ m by omega)
      rw [wol_yes HV.out]
      go_enter Try.func48, Try.ntmps48
      go_wp2_with fail
      ((with_reducible refine (validShape_i _ _ _ xs _ HN.out hm ?_).mono ?_); (exact hr); rintro e w1 ⟨rfl, hb⟩)
      rw [HV.out]
      have hr1 := hr.then_ hb
      obtain ⟨b, off, rfl, hbb, hc⟩ := hr1.at1 (by omega)
      by_cases hlt : k < n
      · have c0 := hc k hlt
        obtain ⟨x, hx⟩ : ∃ x, xs.getD k default = x := ⟨_, rfl⟩
        simp only [inc, hx] at c0
        have Hx := Lib.hid hx; clear hx hc
        go_wp2
        all_goals
          first
            | (exfalso; omega)
            | (go_ret; exact ⟨ret_int (by rw [wof_lt HN.out hlt, Hx.out]), by (repeat' (first | (with_reducible exact Below.refl _ _) | (with_reducible assumption) | (with_reducible refine Below.alloc ?_ ?_ _) | (with_reducible refine Below.drew ?_) | (with_reducible refine below_drewN ?_ _) | (with_reducible refine Below.setCell ?_ ?_ _) | (with_reducible refine below_then ?_ ?_ (by with_reducible assumption)) | (with_reducible exact Nat.le_refl _) | go_size | (simp only [*]; done)))⟩)
      · have c0 := hc (n - 1) (by omega)
        obtain ⟨x, hx⟩ : ∃ x, xs.getD (n - 1) default = x := ⟨_, rfl⟩
        simp only [inc, hx] at c0
        have Hx := Lib.hid hx; clear hx hc
        go_wp2
        all_goals
          first
            | (exfalso; omega)
            | (go_ret; exact ⟨ret_int (by rw [wof_ge HN.out (by omega), Hx.out]), by (repeat' (first | (with_reducible exact Below.refl _ _) | (with_reducible assumption) | (with_reducible refine Below.alloc ?_ ?_ _) | (with_reducible refine Below.drew ?_) | (with_reducible refine below_drewN ?_ _) | (with_reducible refine Below.setCell ?_ ?_ _) | (with_reducible refine below_then ?_ ?_ (by with_reducible assumption)) | (with_reducible exact Nat.le_refl _) | go_size | (simp only [*]; done)))⟩)
end Go.Proofs.Ytkmipgekmbngcaa
/- LineCost of the reference returns what the plain function says. Conditions: the slice reads as the list. -/
namespace Go.Proofs.Ytkmipgekmbngcaa
open Go.RowKit

def lcV (xs : List It) (d tol f t : Int) : Option Int := if itemsOk xs && widthOk d && inR tol 0 10000 then lc xs d tol f t else none
section
variable {xs : List It} {d tol f t : Int}
theorem lcV_no1 (h : lineV xs f t = false) : lcV xs d tol f t = none := by
  rw [lcV]
  rw [lineV] at h
  rcases hk : itemsOk xs with _ | _
  · rfl
  · rw [hk, Bool.true_and] at h
    rw [lc_line h]
    split <;> rfl
theorem lcV_no2 (h : widthOk d = false) : lcV xs d tol f t = none := by rw [lcV, h, Bool.and_false]; rfl
theorem lcV_no3 (h : inR tol 0 10000 = false) : lcV xs d tol f t = none := by rw [lcV, h, Bool.and_false]; rfl
theorem lcV_yes (h0 : itemsOk xs = true) (h1 : widthOk d = true) (h2 : inR tol 0 10000 = true) : lcV xs d tol f t = lc xs d tol f t := by rw [lcV, h0, h1, h2]; rfl
end
/-- An optional number as it is returned. -/
def optV (r : Option Int) : Value := .tuple #[.int .i64 (r.getD 0), .bool r.isSome]

set_option maxRecDepth 100000 in
set_option maxHeartbeats 2000000 in
theorem lineCost_S (A : Option Addr) (n cap : Nat) (f t d tol : Int) (xs : List It) (w : World) (hn : xs.length = n) (hm : n ≤ maxLen) (hr : Row w w.heap.size 6 A n (itc xs)) :
    Calls Try.prog 54 #[.slice A n cap, .int .i64 f, .int .i64 t, .int .i64 d, .int .i64 tol] w fun e w' => e = .returned (optV (lcV xs d tol f t)) ∧ Below w.heap.size w w' := by
  have HR := Lib.hid hr
  rcases hv : lineV xs f t with _ | _
  · have HE := Lib.hid (lcV_no1 (d := d) (tol := tol) hv)
    have HV := Lib.hid hv
    clear hv
    go_enter Try.func54, Try.ntmps54
    go_wp2_with fail
    ((with_reducible refine (validLine_s _ _ _ _ _ xs _ hn hm ?_).mono ?_); (exact HR.out); rintro e w1 ⟨rfl, hb1⟩)
    rw [HV.out]
    go_wp2_with fail
    (first | go_returns | (refine bodyPost_ret (by simp [results, Try.results54, go_sem, *]; try rfl) rfl ?_))
    exact ⟨by rw [HE.out]; rfl, hb1⟩
  rcases hw : widthOk d with _ | _
  · have HE := Lib.hid (lcV_no2 (xs := xs) (f := f) (t := t) (tol := tol) hw)
    have HV := Lib.hid hv
    have HW := Lib.hid hw
    clear hv hw
    go_enter Try.func54, Try.ntmps54
    go_wp2_with fail
    ((with_reducible refine (validLine_s _ _ _ _ _ xs _ hn hm ?_).mono ?_); (exact HR.out); rintro e w1 ⟨rfl, hb1⟩)
    rw [HV.out]
    go_wp2_with fail
    ((with_reducible refine (validWidth_any _ _).mono ?_); rintro e w' ⟨rfl, rfl⟩)
    rw [HW.out]
    go_wp2_with fail
    (first | go_returns | (refine bodyPost_ret (by simp [results, Try.results54, go_sem, *]; try rfl) rfl ?_))
    exact ⟨by rw [HE.out]; rfl, hb1⟩
  rcases ht : inR tol 0 10000 with _ | _
  · have HE := Lib.hid (lcV_no3 (xs := xs) (f := f) (t := t) (d := d) ht)
    have HV := Lib.hid hv
    have HW := Lib.hid hw
    have HT := Lib.hid ht
    clear hv hw ht
    go_enter Try.func54, Try.ntmps54
    go_wp2_with fail
    ((with_reducible refine (validLine_s _ _ _ _ _ xs _ hn hm ?_).mono ?_); (exact HR.out); rintro e w1 ⟨rfl, hb1⟩)
    rw [HV.out]
    go_wp2_with fail
    ((with_reducible refine (validWidth_any _ _).mono ?_); rintro e w' ⟨rfl, rfl⟩)
    rw [HW.out]
    go_wp2_with fail
    ((with_reducible refine (inRange_any _ _ _ _).mono ?_); rintro e w' ⟨rfl, rfl⟩)
    rw [HT.out]
    go_wp2_with fail
    (first | go_returns | (refine bodyPost_ret (by simp [results, Try.results54, go_sem, *]; try rfl) rfl ?_))
    exact ⟨by rw [HE.out]; rfl, hb1⟩
  have hv' := hv
  rw [lineV, Bool.and_eq_true] at hv'
  obtain ⟨hok, hl⟩ := hv'
  obtain ⟨a, u, ef, et, hau, hun, _, hF, _⟩ := ln_iff hn hl
  subst ef et
  obtain ⟨d0, d1⟩ := inR_iff.1 hw
  have he : lcV xs d tol ((a : Int) - 1) (u : Int) = if costOk xs a u d tol then some (costV xs a u d tol) else none := by rw [lcV_yes hok hw ht]; exact lc_at rfl rfl hl
  have hfin : optV (lcV xs d tol ((a : Int) - 1) (u : Int)) = .tuple #[.int .i64 (costV xs a u d tol), .bool (costOk xs a u d tol)] := by
    rw [he, optV]
    rcases hq : costOk xs a u d tol with _ | _
    · rw [show costV xs a u d tol = 0 by rw [costV, hq]; rfl]; rfl
    · rfl
  have HE := Lib.hid hfin
  have HV := Lib.hid hv
  have HW := Lib.hid hw
  have HT := Lib.hid ht
  have HOK := Lib.hid hok
  have HF := Lib.hid hF
  have HFA := Lib.hid (show (a : Int) - 1 + 1 = (a : Int) by omega)
  clear hv hw ht hok hF hl he hfin
  go_enter Try.func54, Try.ntmps54
  go_wp2_with fail
  ((with_reducible refine (validLine_s _ _ _ _ _ xs _ hn hm ?_).mono ?_); (exact HR.out); rintro e w1 ⟨rfl, hb1⟩)
  rw [HV.out]
  have hr1 := HR.out.then_ hb1
  go_wp2_with fail
  ((with_reducible refine (validWidth_any _ _).mono ?_); rintro e w' ⟨rfl, rfl⟩)
  rw [HW.out]
  go_wp2_with fail
  ((with_reducible refine (inRange_any _ _ _ _).mono ?_); rintro e w' ⟨rfl, rfl⟩)
  rw [HT.out]
  go_wp2_with fail
  ((with_reducible refine (lineCost_s _ _ _ a u _ _ _ xs _ HOK.out hn HF.out HFA.out hau hun ?_ d0 d1).mono ?_); (exact hr1); rintro e w3 ⟨rfl, hb3⟩)
  go_wp2_with fail
  (first | go_returns | (refine bodyPost_ret (by simp [results, Try.results54, go_sem, *]; try rfl) rfl ?_))
  exact ⟨by rw [HE.out]; rfl, below_then (Nat.le_refl _) hb1 hb3⟩
end Go.Proofs.Ytkmipgekmbngcaa
/- CheckShape, of the program and of the reference, returns what the plain function says. Conditions: the slices read as lists. -/
namespace Go.Proofs.Ytkmipgekmbngcaa
open Go.RowKit Go.Shelf

def chkV (xs : List It) (sh : List Int) (tol : Int) (bs : List Int) : Option Int := if itemsOk xs && shapeOk sh && inR tol 0 10000 then chkP xs (wof sh) tol bs else none
section
variable {xs : List It} {sh bs : List Int} {tol : Int}
theorem chkV_no1 (h : itemsOk xs = false) : chkV xs sh tol bs = none := by rw [chkV, h]; rfl
theorem chkV_no2 (h : shapeOk sh = false) : chkV xs sh tol bs = none := by rw [chkV, h, Bool.and_false]; rfl
theorem chkV_no3 (h : inR tol 0 10000 = false) : chkV xs sh tol bs = none := by rw [chkV, h, Bool.and_false]; rfl
theorem chkV_yes (h0 : itemsOk xs = true) (h1 : shapeOk sh = true) (h2 : inR tol 0 10000 = true) : chkV xs sh tol bs = chkP xs (wof sh) tol bs := by rw [chkV, h0, h1, h2]; rfl
theorem chkV_of_none (h : chkP xs (wof sh) tol bs = none) : chkV xs sh tol bs = none := by rw [chkV, h]; split <;> rfl
end

theorem shapeFn_i (g ns capn : Nat) (S : Option Addr) (sh : List Int) (k : Nat) (w : World) (hg : Blk w g 24 #[.slice S ns capn]) (hok : shapeOk sh = true) (hn : sh.length = ns) (hk : k ≤ maxLen) (hr : Row w w.heap.size 1 S ns (inc sh)) :
    Calls Try.prog 47 #[.int .i64 (k : Int), .pointer (some ⟨g, 0, none⟩)] w fun e w' => e = .returned (.int .i64 (wof sh k)) ∧ Below w.heap.size w w' := by
  have hl := shapeOk_len hok
  unfold maxLen at hk
  have HE := Lib.hid (wol_yes (k := k) hok)
  have plt := hg.lt
  have pc0 := hg.cell 0; have pf0 := hg.frozen 0
  simp only [List.getElem?_toArray, List.getElem?_cons_zero, List.getElem?_cons_succ] at pc0
  go_enter Try.func47, Try.ntmps47
  go_wp2_with fail
  ((with_reducible refine (widthOfLine_i _ _ _ _ sh _ hn (by unfold maxLen; omega) (by omega) ?_).mono ?_); (exact hr); rintro e w1 ⟨rfl, hb1⟩)
  go_wp2_with fail
  go_ret
  exact ⟨ret_int HE.out, hb1⟩

set_option maxRecDepth 100000 in
set_option maxHeartbeats 2000000 in
theorem checkShape_i (A S B : Option Addr) (n cap ns capn nb capb : Nat) (tol : Int) (xs : List It) (sh bs : List Int) (w : World) (hn : xs.length = n) (hm : n ≤ maxLen) (hcap : n ≤ cap ∧ cap ≤ maxLen) (hr : Row w w.heap.size 6 A n (itc xs))
    (hns : sh.length = ns) (hms : ns ≤ maxLen) (hrs : Row w w.heap.size 1 S ns (inc sh)) (hnb : bs.length = nb) (hmb : nb ≤ maxLen) (hrb : Row w w.heap.size 1 B nb (inc bs)) :
    Calls Try.prog 14 #[.slice A n cap, .slice S ns capn, .int .i64 tol, .slice B nb capb] w fun e w' => e = .returned (optV (chkV xs sh tol bs)) ∧ Below w.heap.size w w' := by
  have HR := Lib.hid hr
  have HRS := Lib.hid hrs
  have HRB := Lib.hid hrb
  have HNS := Lib.hid hns
  have HNB := Lib.hid hnb
  have eg : ∀ args w, (callFunc 47 args).run Try.prog w = .ok (.enter 47 args) w := enters_of Try.func47 (by kernel_rfl) rfl
  have EG := Lib.hid eg
  have g0 := Blk.new w 24 #[.slice S ns capn]
  have G0 := Lib.hid g0
  have hB0 : Below w.heap.size w (w.alloc (.cells #[.slice S ns capn] 24)) := (Below.refl _ _).alloc (Nat.le_refl _) _
  clear eg hrs hrb hns hnb
  rcases hv : itemsOk xs with _ | _
  · have HE := Lib.hid (chkV_no1 (sh := sh) (tol := tol) (bs := bs) hv)
    have HV := Lib.hid hv
    clear hv g0
    go_enter Try.func14, Try.ntmps14
    go_wp2_with fail
    ((with_reducible refine (validItems_i _ _ _ xs _ hn hm ?_).mono ?_); (exact HR.out.then_ hB0); rintro e w1 ⟨rfl, hb1⟩)
    rw [HV.out]
    go_wp2_with fail
    (first | go_returns | (refine bodyPost_ret (by simp [results, Try.results14, go_sem, *]; try rfl) rfl ?_))
    exact ⟨by rw [HE.out]; rfl, below_then (Nat.le_refl _) hB0 hb1⟩
  rcases hw : shapeOk sh with _ | _
  · have HE := Lib.hid (chkV_no2 (xs := xs) (tol := tol) (bs := bs) hw)
    have HV := Lib.hid hv
    have HW := Lib.hid hw
    clear hv hw g0
    go_enter Try.func14, Try.ntmps14
    go_wp2_with fail
    ((with_reducible refine (validItems_i _ _ _ xs _ hn hm ?_).mono ?_); (exact HR.out.then_ hB0); rintro e w1 ⟨rfl, hb1⟩)
    rw [HV.out]
    have g1 := G0.out.then_ hb1
    have hB1 := below_then (Nat.le_refl _) hB0 hb1
    have plt := g1.lt
    have pc0 := g1.cell 0; have pf0 := g1.frozen 0
    simp only [List.getElem?_toArray, List.getElem?_cons_zero, List.getElem?_cons_succ] at pc0
    go_wp2_with fail
    ((with_reducible refine (validShape_i _ _ _ sh _ HNS.out hms ?_).mono ?_); (exact HRS.out.then_ hB1); rintro e w2 ⟨rfl, hb2⟩)
    rw [HW.out]
    have hB2 := below_then (Nat.le_refl _) hB1 hb2
    go_wp2_with fail
    (first | go_returns | (refine bodyPost_ret (by simp [results, Try.results14, go_sem, *]; try rfl) rfl ?_))
    exact ⟨by rw [HE.out]; rfl, hB2⟩
  rcases ht : inR tol 0 10000 with _ | _
  · have HE := Lib.hid (chkV_no3 (xs := xs) (sh := sh) (bs := bs) ht)
    have HV := Lib.hid hv
    have HW := Lib.hid hw
    have HT := Lib.hid ht
    clear hv hw ht g0
    go_enter Try.func14, Try.ntmps14
    go_wp2_with fail
    ((with_reducible refine (validItems_i _ _ _ xs _ hn hm ?_).mono ?_); (exact HR.out.then_ hB0); rintro e w1 ⟨rfl, hb1⟩)
    rw [HV.out]
    have g1 := G0.out.then_ hb1
    have hB1 := below_then (Nat.le_refl _) hB0 hb1
    have plt := g1.lt
    have pc0 := g1.cell 0; have pf0 := g1.frozen 0
    simp only [List.getElem?_toArray, List.getElem?_cons_zero, List.getElem?_cons_succ] at pc0
    go_wp2_with fail
    ((with_reducible refine (validShape_i _ _ _ sh _ HNS.out hms ?_).mono ?_); (exact HRS.out.then_ hB1); rintro e w2 ⟨rfl, hb2⟩)
    rw [HW.out]
    have hB2 := below_then (Nat.le_refl _) hB1 hb2
    go_wp2_with fail
    ((with_reducible refine (within_any _ _ _ _).mono ?_); rintro e w' ⟨rfl, rfl⟩)
    rw [HT.out]
    go_wp2_with fail
    (first | go_returns | (refine bodyPost_ret (by simp [results, Try.results14, go_sem, *]; try rfl) rfl ?_))
    exact ⟨by rw [HE.out]; rfl, hB2⟩
  have HE := Lib.hid (chkV_yes (bs := bs) hv hw ht)
  have HV := Lib.hid hv
  have HW := Lib.hid hw
  have HT := Lib.hid ht
  clear hv hw ht g0
  go_enter Try.func14, Try.ntmps14
  go_wp2_with fail
  ((with_reducible refine (validItems_i _ _ _ xs _ hn hm ?_).mono ?_); (exact HR.out.then_ hB0); rintro e w1 ⟨rfl, hb1⟩)
  rw [HV.out]
  have g1 := G0.out.then_ hb1
  have hB1 := below_then (Nat.le_refl _) hB0 hb1
  have plt := g1.lt
  have pc0 := g1.cell 0; have pf0 := g1.frozen 0
  simp only [List.getElem?_toArray, List.getElem?_cons_zero, List.getElem?_cons_succ] at pc0
  go_wp2_with fail
  ((with_reducible refine (validShape_i _ _ _ sh _ HNS.out hms ?_).mono ?_); (exact HRS.out.then_ hB1); rintro e w2 ⟨rfl, hb2⟩)
  rw [HW.out]
  have hB2 := below_then (Nat.le_refl _) hB1 hb2
  have g2 := g1.then_ hb2
  go_wp2_with fail
  ((with_reducible refine (within_any _ _ _ _).mono ?_); rintro e w' ⟨rfl, rfl⟩)
  rw [HT.out]
  go_wp2_with fail
  ((with_reducible refine (sumLines_i 47 #[.pointer (some ⟨w.heap.size, 0, none⟩)] _ _ _ _ _ _ xs bs (wof sh) _ _ EG.out HV.out hn hcap ?_ HNB.out hmb ?_ (wof_bound HW.out) ?_).mono ?_); (exact HR.out.then_ hB2); (exact HRB.out.then_ hB2); rotate_left; rintro e w3 ⟨rfl, hb3⟩)
  · have hB3 := below_then (Nat.le_refl _) hB2 hb3
    go_wp2_with fail
    (first | go_returns | (refine bodyPost_ret (by simp [results, Try.results14, go_sem, *]; try rfl) rfl ?_))
    exact ⟨by rw [HE.out]; rfl, hB3⟩
  · intro k W hk hW
    exact shapeFn_i _ _ _ _ sh k W (g2.then_ hW) HW.out HNS.out (Nat.le_trans (Nat.le_of_lt hk) hmb) ((HRS.out.then_ hB2).then_ hW)
end Go.Proofs.Ytkmipgekmbngcaa
