/- The generator anyItems returns some items, in memory of their own; the widths and tolerances are some numbers. Conditions: the reader has yielded fewer than 2^47 numbers. -/
import Derived.Test.YtkmipgekmbngcaaItemsDraw
import Derived.Test.YtkmipgekmbngcaaMSb2
namespace Go.Proofs.Ytkmipgekmbngcaa
open Go.RowKit

/-- What a call leaves that draws a slice of items that may be no paragraph. -/
def AnyItems (w : World) (rb p K : Nat) (e : Ending) (w' : World) : Prop :=
  ∃ (g n c : Nat) (xs : List It) (p' : Nat), e = .returned (.slice (some ⟨g, 0, none⟩) n c) ∧ xs.length = n ∧ n ≤ 23 ∧ (n ≤ c ∧ c ≤ maxLen) ∧ Row w' w'.heap.size 6 (some ⟨g, 0, none⟩) n (itc xs) ∧ w.heap.size ≤ g ∧ p' ≤ p + K ∧ Rd w' rb p' ∧ w.grownBy w' (some rb)
theorem OwT.ownP {w : World} {base g n c : Nat} {xs : List It} (h : OwT w base g n c xs) (hl : xs.length = n) : OwnP w base 78 6 (some ⟨g, 0, none⟩) n c (itc xs) :=
  OwnP.of_list h fun i q hi hq => itl_at i q (by omega) hq
theorem itc_set {xs : List It} {n k : Nat} {x : It} (hn : xs.length = n) (hk : k < n) (i q : Nat) : itc (xs.set k x) i q = if i = k then itv x q else itc xs i q := by
  unfold itc
  by_cases e : i = k
  · subst e
    rw [if_pos rfl, List.getD_eq_getElem?_getD, List.getElem?_set_self (by omega)]
    rfl
  · rw [if_neg e, List.getD_eq_getElem?_getD, List.getElem?_set_ne (fun h => e h.symm), ← List.getD_eq_getElem?_getD]
theorem set_k {xs : List It} {n k : Nat} {x : It} (hn : xs.length = n) (hk : k < n) (hx : xs.getD k default = x) (v : Int) : ∀ i q, i < n → q < 6 → (if i = k ∧ q = 0 then .int .i64 v else itc xs i q) = itc (xs.set k { x with k := v }) i q := by
  intro i q _ hq
  rw [itc_set hn hk]
  by_cases e : i = k
  · subst e
    match q, hq with
    | 0, _ => simp [itv]
    | 1, _ => simp [itv, itc, ← hx]
    | 2, _ => simp [itv, itc, ← hx]
    | 3, _ => simp [itv, itc, ← hx]
    | 4, _ => simp [itv, itc, ← hx]
    | 5, _ => simp [itv, itc, ← hx]
  · simp [e]
theorem set_w {xs : List It} {n k : Nat} {x : It} (hn : xs.length = n) (hk : k < n) (hx : xs.getD k default = x) (v : Int) : ∀ i q, i < n → q < 6 → (if i = k ∧ q = 1 then .int .i64 v else itc xs i q) = itc (xs.set k { x with w := v }) i q := by
  intro i q _ hq
  rw [itc_set hn hk]
  by_cases e : i = k
  · subst e
    match q, hq with
    | 0, _ => simp [itv, itc, ← hx]
    | 1, _ => simp [itv]
    | 2, _ => simp [itv, itc, ← hx]
    | 3, _ => simp [itv, itc, ← hx]
    | 4, _ => simp [itv, itc, ← hx]
    | 5, _ => simp [itv, itc, ← hx]
  · simp [e]
theorem set_p {xs : List It} {n k : Nat} {x : It} (hn : xs.length = n) (hk : k < n) (hx : xs.getD k default = x) (v : Int) : ∀ i q, i < n → q < 6 → (if i = k ∧ q = 4 then .int .i64 v else itc xs i q) = itc (xs.set k { x with pen := v }) i q := by
  intro i q _ hq
  rw [itc_set hn hk]
  by_cases e : i = k
  · subst e
    match q, hq with
    | 0, _ => simp [itv, itc, ← hx]
    | 1, _ => simp [itv, itc, ← hx]
    | 2, _ => simp [itv, itc, ← hx]
    | 3, _ => simp [itv, itc, ← hx]
    | 4, _ => simp [itv]
    | 5, _ => simp [itv, itc, ← hx]
  · simp [e]

set_option maxRecDepth 100000 in
set_option maxHeartbeats 4000000 in
theorem anyItems_any (rb p : Nat) (w : World) (h : Rd w rb p) (hp : p ≤ 70368744177664) : Calls Try.prog 35 #[.pointer (some ⟨rb, 0, none⟩)] w (fun e w' => AnyItems w rb p 84 e w') := by
  have hlt := h.lt
  go_enter Try.func35, Try.ntmps35
  go_wp2_with fail
  ((with_reducible refine (randomItems_any rb p _ h (by omega)).mono ?_); rintro e w1 ⟨g, n, c, xs, p1, rfl, hxl, ⟨hn0, hn⟩, hown1, hp1, hr1, hO1⟩)
  have HXL := Lib.hid hxl; clear hxl
  have hgb := (hown1.lt g rfl).1
  have hs1 := hO1.size
  go_wp2_with fail
  ((with_reducible refine (pick_any _ _ _ _ hr1 (by omega)).mono ?_); rintro e w2 ⟨x, rfl, hx0, hx1, hr2, ho2⟩)
  have hx2 := hx1 (by omega)
  clear hx1
  obtain ⟨k, rfl⟩ := Int.eq_ofNat_of_zero_le hx0
  have hkn : k < n := by omega
  have hown2 := hown1.kept ho2 (.inr (by simp [Value.ownBlock]; omega))
  have hO2 := only_trans hO1 ho2
  have hs2 := hO2.size
  clear hown1
  go_wp2_with fail
  ((with_reducible refine (pick_any _ _ _ _ hr2 (by omega)).mono ?_); rintro e w3 ⟨y, rfl, hy0, hy1, hr3, ho3⟩)
  clear hy1
  have hown3 := hown2.kept ho3 (.inr (by simp [Value.ownBlock]; omega))
  have hO3 := only_trans hO2 ho3
  have hs3 := hO3.size
  clear hown2
  obtain ⟨z, hz⟩ : ∃ z, xs.getD k default = z := ⟨_, rfl⟩
  have HZ := Lib.hid hz
  clear hz
  have hcap := own_cap hown3
  by_cases y0 : y = 0
  · subst y0
    go_wp2_with fail
    ((with_reducible refine (one_any rb _ w3.heap.size 4 4 (fun i => [0, 4, 1, 2].getD i 0) _ (hr3.alloc _) (by omega) (by omega) (by omega) (by omega) (lit_cells [0, 4, 1, 2] (Blk.new _ _ _) rfl)).mono ?_); rintro e w4 ⟨v, _, rfl, hr4, ho4⟩)
    have hown4 := OwT.ownP ((hown3.alloc (.cells #[.int .i64 0, .int .i64 4, .int .i64 1, .int .i64 2] 3)).kept ho4 (.inr (by simp [Value.ownBlock]; omega))) HXL.out
    have hO4 := only_trans (only_alloc hO3 _) ho4
    have k0 := hown4.cell (i := k) (q := 0) hkn (by omega)
    have l0 := hown4.frozen (k * 6)
    simp only [Nat.add_zero] at k0
    have HO4 := Lib.hid hown4
    have hkn' : (k : Int) < (n : Int) := by omega
    clear hown3 hown4
    go_wp2_with fail
    go_ret
    have hst := (HO4.out.set_at (o := k * 6) hkn (show 0 < 6 by omega) (by omega) (.int .i64 v)).congr (set_k HXL.out hkn HZ.out v)
    exact ⟨g, n, c, _, _, rfl, by rw [List.length_set]; exact HXL.out, hn, ⟨hcap.1, hcap.2.1⟩, hst.row, hgb, by omega, hr4.setCell (by simp; omega) _, only_setCell hO4 (by right; simpa using hgb) _⟩
  by_cases y1 : y = 1
  · subst y1
    go_wp2_with fail
    ((with_reducible refine (one_any rb _ w3.heap.size 3 3 (fun i => [-1, 1001, 1000].getD i 0) _ (hr3.alloc _) (by omega) (by omega) (by omega) (by omega) (lit_cells [-1, 1001, 1000] (Blk.new _ _ _) rfl)).mono ?_); rintro e w4 ⟨v, _, rfl, hr4, ho4⟩)
    have hown4 := OwT.ownP ((hown3.alloc (.cells #[.int .i64 (-1), .int .i64 1001, .int .i64 1000] 3)).kept ho4 (.inr (by simp [Value.ownBlock]; omega))) HXL.out
    have hO4 := only_trans (only_alloc hO3 _) ho4
    have k0 := hown4.cell (i := k) (q := 1) hkn (by omega)
    have l0 := hown4.frozen (k * 6 + 1)
    have HO4 := Lib.hid hown4
    have hkn' : (k : Int) < (n : Int) := by omega
    clear hown3 hown4
    go_wp2_with fail
    go_ret
    have hst := (HO4.out.set_at (o := k * 6 + 1) hkn (show 1 < 6 by omega) rfl (.int .i64 v)).congr (set_w HXL.out hkn HZ.out v)
    exact ⟨g, n, c, _, _, rfl, by rw [List.length_set]; exact HXL.out, hn, ⟨hcap.1, hcap.2.1⟩, hst.row, hgb, by omega, hr4.setCell (by simp; omega) _, only_setCell hO4 (by right; simpa using hgb) _⟩
  by_cases y2 : y = 2
  · subst y2
    go_wp2_with fail
    ((with_reducible refine (one_any rb _ w3.heap.size 3 3 (fun i => [1001, -1001, 5].getD i 0) _ (hr3.alloc _) (by omega) (by omega) (by omega) (by omega) (lit_cells [1001, -1001, 5] (Blk.new _ _ _) rfl)).mono ?_); rintro e w4 ⟨v, _, rfl, hr4, ho4⟩)
    have hown4 := OwT.ownP ((hown3.alloc (.cells #[.int .i64 1001, .int .i64 (-1001), .int .i64 5] 3)).kept ho4 (.inr (by simp [Value.ownBlock]; omega))) HXL.out
    have hO4 := only_trans (only_alloc hO3 _) ho4
    have k0 := hown4.cell (i := k) (q := 4) hkn (by omega)
    have l0 := hown4.frozen (k * 6 + 4)
    have HO4 := Lib.hid hown4
    have hkn' : (k : Int) < (n : Int) := by omega
    clear hown3 hown4
    go_wp2_with fail
    go_ret
    have hst := (HO4.out.set_at (o := k * 6 + 4) hkn (show 4 < 6 by omega) rfl (.int .i64 v)).congr (set_p HXL.out hkn HZ.out v)
    exact ⟨g, n, c, _, _, rfl, by rw [List.length_set]; exact HXL.out, hn, ⟨hcap.1, hcap.2.1⟩, hst.row, hgb, by omega, hr4.setCell (by simp; omega) _, only_setCell hO4 (by right; simpa using hgb) _⟩
  have hrow := (OwT.ownP hown3 HXL.out).row
  have HROW := Lib.hid hrow
  clear hown3 hrow
  have z0 : (y == 0) = false := by simp; omega
  have z1 : (y == 1) = false := by simp; omega
  have z2 : (y == 2) = false := by simp; omega
  by_cases y3 : y = 3
  · subst y3
    obtain ⟨m, rfl⟩ : ∃ m, n = m + 1 := ⟨n - 1, by omega⟩
    have hc1 : (m : Int) ≤ (c : Int) := by omega
    go_wp2_with fail
    go_ret
    refine ⟨g, m, c, xs.take m, _, rfl, by rw [List.length_take, HXL.out]; omega, by omega, ⟨by omega, hcap.2.1⟩, (HROW.out.init (by omega)).congr (fun i j hi hj => ?_), hgb, by omega, hr3, hO3⟩
    unfold itc
    rw [List.getD_eq_getElem?_getD, List.getD_eq_getElem?_getD, List.getElem?_take_of_lt hi]
  · have z3 : (y == 3) = false := by simp; omega
    go_wp2_with fail
    go_ret
    exact ⟨g, n, c, xs, _, rfl, HXL.out, hn, ⟨hcap.1, hcap.2.1⟩, HROW.out, hgb, by omega, hr3, hO3⟩

/-- What a call leaves that draws a number. -/
def DrawnN (w : World) (rb p K : Nat) (lo hi : Int) (e : Ending) (w' : World) : Prop :=
  ∃ (x : Int) (p' : Nat), e = .returned (.int .i64 x) ∧ lo ≤ x ∧ x ≤ hi ∧ p' ≤ p + K ∧ Rd w' rb p' ∧ w.grownBy w' (some rb)
theorem someWidth_any (rb p : Nat) (w : World) (h : Rd w rb p) (hp : p ≤ 140737488355328) : Calls Try.prog 50 #[.pointer (some ⟨rb, 0, none⟩)] w (DrawnN w rb p 2 0 10001) := by
  have hlt := h.lt
  go_enter Try.func50, Try.ntmps50
  go_wp2_with fail
  ((with_reducible refine (pick_any rb _ _ _ h (by omega)).mono ?_); rintro e w1 ⟨v, rfl, hv1, hv2, hr1, ho1⟩)
  clear hv2
  have hs1 := ho1.size
  by_cases v0 : v = 0
  · subst v0
    go_wp2_with fail
    ((with_reducible refine (one_any rb _ w1.heap.size 4 4 (fun i => [0, 10001, 10000, 1].getD i 0) _ (hr1.alloc _) (by omega) (by omega) (by omega) (by omega) (lit_cells [0, 10001, 10000, 1] (Blk.new _ _ _) rfl)).mono ?_); rintro e w4 ⟨x, hx, rfl, hr4, ho4⟩)
    obtain ⟨b0, b1⟩ := lit_bound [0, 10001, 10000, 1] 0 10001 (by decide) (by decide) hx
    go_wp2_with fail
    go_ret
    exact ⟨x, _, rfl, b0, b1, by omega, hr4, only_trans (only_alloc ho1 _) ho4⟩
  · have z0 : (v == 0) = false := by simp; omega
    go_wp2_with fail
    ((with_reducible refine (one_any rb _ w1.heap.size 7 7 (fun i => [12, 15, 20, 25, 30, 40, 18].getD i 0) _ (hr1.alloc _) (by omega) (by omega) (by omega) (by omega) (lit_cells [12, 15, 20, 25, 30, 40, 18] (Blk.new _ _ _) rfl)).mono ?_); rintro e w4 ⟨x, hx, rfl, hr4, ho4⟩)
    obtain ⟨b0, b1⟩ := lit_bound [12, 15, 20, 25, 30, 40, 18] 0 10001 (by decide) (by decide) hx
    go_wp2_with fail
    go_ret
    exact ⟨x, _, rfl, b0, b1, by omega, hr4, only_trans (only_alloc ho1 _) ho4⟩
end Go.Proofs.Ytkmipgekmbngcaa
