/- Items of a paragraph, of the program: breaks and valid items are what the plain functions say. Conditions: the slice reads as the list. -/
import Derived.Test.YtkmipgekmbngcaaItemV
import Derived.Test.YtkmipgekmbngcaaAnyItems
namespace Go.Proofs.Ytkmipgekmbngcaa
open Go.RowKit

theorem isForced_i (k a b c p : Int) (f : Bool) (w : World) :
    Calls Try.prog 72 #[.agg #[.int .i64 k, .int .i64 a, .int .i64 b, .int .i64 c, .int .i64 p, .bool f]] w fun e w' => e = .returned (.bool (forced ⟨k, a, b, c, p, f⟩)) ∧ Below w.heap.size w w' := by
  rcases h1 : (k == 3) with _ | _
  · have e : forced ⟨k, a, b, c, p, f⟩ = false := by simp only [forced, h1, Bool.false_and]
    rw [e]; clear e
    go_enter Try.func72, Try.ntmps72
    go_wp2
    go_returns
    exact ⟨rfl, by (repeat' (first | (with_reducible exact Below.refl _ _) | (with_reducible assumption) | (with_reducible refine Below.alloc ?_ ?_ _) | (with_reducible refine Below.drew ?_) | (with_reducible refine below_drewN ?_ _) | (with_reducible refine Below.setCell ?_ ?_ _) | (with_reducible refine below_then ?_ ?_ (by with_reducible assumption)) | (with_reducible exact Nat.le_refl _) | go_size | (simp only [*]; done)))⟩
  · rcases h2 : (p == -1000) with _ | _
    · have e : forced ⟨k, a, b, c, p, f⟩ = false := by simp only [forced, h1, h2, Bool.and_false]
      rw [e]; clear e
      go_enter Try.func72, Try.ntmps72
      go_wp2
      go_returns
      exact ⟨rfl, by (repeat' (first | (with_reducible exact Below.refl _ _) | (with_reducible assumption) | (with_reducible refine Below.alloc ?_ ?_ _) | (with_reducible refine Below.drew ?_) | (with_reducible refine below_drewN ?_ _) | (with_reducible refine Below.setCell ?_ ?_ _) | (with_reducible refine below_then ?_ ?_ (by with_reducible assumption)) | (with_reducible exact Nat.le_refl _) | go_size | (simp only [*]; done)))⟩
    · have e : forced ⟨k, a, b, c, p, f⟩ = true := by simp only [forced, h1, h2, Bool.and_true]
      rw [e]; clear e
      go_enter Try.func72, Try.ntmps72
      go_wp2
      go_returns
      exact ⟨rfl, by (repeat' (first | (with_reducible exact Below.refl _ _) | (with_reducible assumption) | (with_reducible refine Below.alloc ?_ ?_ _) | (with_reducible refine Below.drew ?_) | (with_reducible refine below_drewN ?_ _) | (with_reducible refine Below.setCell ?_ ?_ _) | (with_reducible refine below_then ?_ ?_ (by with_reducible assumption)) | (with_reducible exact Nat.le_refl _) | go_size | (simp only [*]; done)))⟩
theorem brk_zero {l : List It} {x : It} (hx : l.getD 0 default = x) : brk l 0 = ((x.k == 3) && decide (x.pen < 1000)) := by
  unfold brk kd
  rw [hx]
  by_cases h : x.k = 3
  · simp [h]
  · simp [h]
theorem brk_succ {l : List It} {j : Nat} {x y : It} (hx : l.getD (j + 1) default = x) (hy : l.getD j default = y) : brk l (j + 1) = if x.k = 3 then decide (x.pen < 1000) else (x.k == 2) && (y.k == 1) := by
  unfold brk kd
  rw [hx, Nat.add_sub_cancel, hy]
  by_cases h : x.k = 3
  · simp [h]
  · simp [h]
set_option maxHeartbeats 1000000 in
theorem isBreak_i (A : Option Addr) (n cap k : Nat) (xs : List It) (w : World) (hn : xs.length = n) (hk : k < n) (hm : n ≤ 60) (hr : Row w w.heap.size 6 A n (itc xs)) :
    Calls Try.prog 75 #[.slice A n cap, .int .i64 (k : Int)] w fun e w' => e = .returned (.bool (brk xs k)) ∧ Below w.heap.size w w' := by
  obtain ⟨b, off, rfl, hb, hc⟩ := hr (by omega)
  have c0 := hc k 0 hk (by omega)
  have c4 := hc k 4 hk (by omega)
  obtain ⟨x, hx⟩ : ∃ x, xs.getD k default = x := ⟨_, rfl⟩
  simp only [itc, itv, hx, Nat.add_zero] at c0 c4
  have Hx := Lib.hid hx
  have hin : inR (k : Int) 0 ((n : Int) - 1) = true := inR_iff.2 ⟨by omega, by omega⟩
  have HI := Lib.hid hin
  have hlt : (k : Int) < (n : Int) := by omega
  clear hx hin hn
  cases k with
  | zero =>
    have E := brk_zero Hx.out
    simp only [Nat.zero_mul, Nat.add_zero] at c0 c4
    show Calls _ _ #[.slice (some ⟨b, off, none⟩) n cap, .int .i64 0] w _
    rcases h1 : (x.k == 3) with _ | _
    · rw [h1] at E
      have HE := Lib.hid E
      clear E hc
      go_enter Try.func75, Try.ntmps75
      go_wp2_with fail
      ((with_reducible refine (within_any _ _ _ _).mono ?_); rintro e w' ⟨rfl, rfl⟩)
      rw [show inR 0 0 ((n : Int) - 1) = true from HI.out]
      rcases h2 : (x.k == 2) with _ | _
      · go_wp2_with fail
        go_ret
        exact ⟨ret_bool (by simp [HE.out]), Below.refl _ _⟩
      · go_wp2_with fail
        go_ret
        exact ⟨ret_bool (by simp [HE.out]), Below.refl _ _⟩
    · rw [h1] at E
      have HE := Lib.hid E
      clear E hc
      go_enter Try.func75, Try.ntmps75
      go_wp2_with fail
      ((with_reducible refine (within_any _ _ _ _).mono ?_); rintro e w' ⟨rfl, rfl⟩)
      rw [show inR 0 0 ((n : Int) - 1) = true from HI.out]
      by_cases h2 : x.pen < 1000
      · go_wp2_with fail
        go_ret
        exact ⟨ret_bool (by simp [HE.out, h2]), Below.refl _ _⟩
      · go_wp2_with fail
        go_ret
        exact ⟨ret_bool (by simp [HE.out]), Below.refl _ _⟩
  | succ j =>
    have d0 := hc j 0 (by omega) (by omega)
    obtain ⟨y, hy⟩ : ∃ y, xs.getD j default = y := ⟨_, rfl⟩
    simp only [itc, itv, hy, Nat.add_zero] at d0
    have E := brk_succ Hx.out hy
    have hj1 : inR ((j : Int) + 1) 0 ((n : Int) - 1) = true := inR_iff.2 ⟨by omega, by omega⟩
    have HJ := Lib.hid hj1
    clear hj1
    rw [show ((j + 1 : Nat) : Int) = (j : Int) + 1 by omega] at hlt ⊢
    clear hy hc
    by_cases h1 : x.k = 3
    · rw [if_pos h1] at E
      have HE := Lib.hid E
      have h1' : (x.k == 3) = true := by simp [h1]
      clear E h1
      go_enter Try.func75, Try.ntmps75
      go_wp2_with fail
      ((with_reducible refine (within_any _ _ _ _).mono ?_); rintro e w' ⟨rfl, rfl⟩)
      rw [HJ.out]
      by_cases h2 : x.pen < 1000
      · go_wp2_with fail
        go_ret
        exact ⟨ret_bool (by simp [HE.out, h2]), Below.refl _ _⟩
      · go_wp2_with fail
        go_ret
        exact ⟨ret_bool (by simp [HE.out]), Below.refl _ _⟩
    · rw [if_neg h1] at E
      have HE := Lib.hid E
      have h1' : (x.k == 3) = false := by simp [h1]
      clear E h1
      go_enter Try.func75, Try.ntmps75
      go_wp2_with fail
      ((with_reducible refine (within_any _ _ _ _).mono ?_); rintro e w' ⟨rfl, rfl⟩)
      rw [HJ.out]
      rcases h2 : (x.k == 2) with _ | _
      · go_wp2_with fail
        go_ret
        exact ⟨ret_bool (by simp [HE.out, h2]), Below.refl _ _⟩
      · go_wp2_with fail
        go_ret
        exact ⟨ret_bool (by simp [HE.out, h2]), Below.refl _ _⟩
theorem isBreak_out (A : Option Addr) (n cap : Nat) (i : Int) (w : World) (hi : i < 0 ∨ (n : Int) ≤ i) (hm : n ≤ 60) :
    Calls Try.prog 75 #[.slice A n cap, .int .i64 i] w fun e w' => e = .returned (.bool false) ∧ Below w.heap.size w w' := by
  have hin : inR i 0 ((n : Int) - 1) = false := inR_no.2 (by omega)
  have HI := Lib.hid hin
  clear hin hi
  go_enter Try.func75, Try.ntmps75
  go_wp2_with fail
  ((with_reducible refine (within_any _ _ _ _).mono ?_); rintro e w' ⟨rfl, rfl⟩)
  rw [HI.out]
  go_wp2_with fail
  go_ret
  exact ⟨rfl, Below.refl _ _⟩

set_option maxHeartbeats 1000000 in
theorem validItems_i (A : Option Addr) (n cap : Nat) (xs : List It) (w : World) (hn : xs.length = n) (hm : n ≤ maxLen) (hr : Row w w.heap.size 6 A n (itc xs)) :
    Calls Try.prog 38 #[.slice A n cap] w fun e w' => e = .returned (.bool (itemsOk xs)) ∧ Below w.heap.size w w' := by
  unfold maxLen at hm
  rcases hl : inR n 1 60 with _ | _
  · rw [items_len hn hl]
    have HL := Lib.hid hl
    clear hl hn
    go_enter Try.func38, Try.ntmps38
    go_wp2_with fail
    ((with_reducible refine (within_any _ _ _ _).mono ?_); rintro e w' ⟨rfl, rfl⟩)
    rw [HL.out]
    go_wp2_with fail
    go_ret
    exact ⟨rfl, Below.refl _ _⟩
  have h60 := inR_iff.1 hl
  have HL := Lib.hid hl; clear hl
  have HN := Lib.hid hn; clear hn
  have hr0 := Lib.hid hr
  go_enter Try.func38, Try.ntmps38
  go_wp2_with fail
  ((with_reducible refine (within_any _ _ _ _).mono ?_); rintro e w' ⟨rfl, rfl⟩)
  rw [HL.out]
  go_wp2_with fail
  go_loopg [11] n (fun k i wr => ∃ j : Nat, j ≤ n ∧ k = n - j ∧ i = .int .i64 j ∧ Hid ((xs.take j).all itemOk = true) ∧ Below w.heap.size w wr)
  case atStart => exact ⟨0, Nat.zero_le _, rfl, rfl, by simp [Hid], Below.refl _ _⟩
  case round =>
    obtain ⟨j, hj, hk, rfl, hall, hbel⟩ := hrel
    have HK := Lib.hid hk; clear hk
    have hsz := hbel.size
    by_cases hlt : j < n
    · obtain ⟨b, off, rfl, hb, hc⟩ := hr (by omega)
      have c0 : wr.cell? ⟨b, off + j * 6, none⟩ = _ := (hbel.cell (p := ⟨b, off + j * 6, none⟩) hb).trans (hc j 0 hlt (by omega))
      have c1 : wr.cell? ⟨b, off + j * 6 + 1, none⟩ = _ := (hbel.cell (p := ⟨b, off + j * 6 + 1, none⟩) hb).trans (hc j 1 hlt (by omega))
      have c2 : wr.cell? ⟨b, off + j * 6 + 2, none⟩ = _ := (hbel.cell (p := ⟨b, off + j * 6 + 2, none⟩) hb).trans (hc j 2 hlt (by omega))
      have c3 : wr.cell? ⟨b, off + j * 6 + 3, none⟩ = _ := (hbel.cell (p := ⟨b, off + j * 6 + 3, none⟩) hb).trans (hc j 3 hlt (by omega))
      have c4 : wr.cell? ⟨b, off + j * 6 + 4, none⟩ = _ := (hbel.cell (p := ⟨b, off + j * 6 + 4, none⟩) hb).trans (hc j 4 hlt (by omega))
      have c5 : wr.cell? ⟨b, off + j * 6 + 5, none⟩ = _ := (hbel.cell (p := ⟨b, off + j * 6 + 5, none⟩) hb).trans (hc j 5 hlt (by omega))
      obtain ⟨x, hx⟩ : ∃ x, xs.getD j default = x := ⟨_, rfl⟩
      simp only [itc, hx] at c0 c1 c2 c3 c4 c5
      have Hx := Lib.hid hx; clear hx hc
      obtain ⟨xk, xw, xst, xsh, xp, xf⟩ := x
      simp only [itv] at c0 c1 c2 c3 c4 c5
      obtain ⟨V, hV⟩ : ∃ V, itemOk ⟨xk, xw, xst, xsh, xp, xf⟩ = V := ⟨_, rfl⟩
      have HV := Lib.hid hV; clear hV
      go_wp2_with fail
      ((with_reducible refine (validItem_i _ _ _ _ _ _ _).mono ?_); rintro e w1 ⟨rfl, hb1⟩)
      have hB : Below w.heap.size w w1 := below_then (Nat.le_refl _) (by (repeat' (first | (with_reducible exact Below.refl _ _) | (with_reducible assumption) | (with_reducible refine Below.alloc ?_ ?_ _) | (with_reducible refine Below.drew ?_) | (with_reducible refine below_drewN ?_ _) | (with_reducible refine Below.setCell ?_ ?_ _) | (with_reducible refine below_then ?_ ?_ (by with_reducible assumption)) | (with_reducible exact Nat.le_refl _) | go_size | (simp only [*]; done)))) hb1
      rw [HV.out]
      rcases V with _ | _
      · go_wp2_with fail
        go_ret
        exact ⟨ret_bool (items_bad HN.out hlt Hx.out HV.out).symm, hB⟩
      · go_wp2_with fail
        go_roundg (n - (j + 1))
        case measure => have := HK.out; omega
        case rel => exact ⟨j + 1, by omega, rfl, by go_num, all_more HN.out hlt Hx.out hall.out HV.out, hB⟩
    · obtain ⟨m, rfl⟩ : ∃ m, n = m + 1 := ⟨n - 1, by omega⟩
      obtain ⟨b, off, rfl, hb, hc⟩ := hr0.out (by omega)
      have c0 : wr.cell? ⟨b, off + m * 6, none⟩ = _ := (hbel.cell (p := ⟨b, off + m * 6, none⟩) hb).trans (hc m 0 (by omega) (by omega))
      have c1 : wr.cell? ⟨b, off + m * 6 + 1, none⟩ = _ := (hbel.cell (p := ⟨b, off + m * 6 + 1, none⟩) hb).trans (hc m 1 (by omega) (by omega))
      have c2 : wr.cell? ⟨b, off + m * 6 + 2, none⟩ = _ := (hbel.cell (p := ⟨b, off + m * 6 + 2, none⟩) hb).trans (hc m 2 (by omega) (by omega))
      have c3 : wr.cell? ⟨b, off + m * 6 + 3, none⟩ = _ := (hbel.cell (p := ⟨b, off + m * 6 + 3, none⟩) hb).trans (hc m 3 (by omega) (by omega))
      have c4 : wr.cell? ⟨b, off + m * 6 + 4, none⟩ = _ := (hbel.cell (p := ⟨b, off + m * 6 + 4, none⟩) hb).trans (hc m 4 (by omega) (by omega))
      have c5 : wr.cell? ⟨b, off + m * 6 + 5, none⟩ = _ := (hbel.cell (p := ⟨b, off + m * 6 + 5, none⟩) hb).trans (hc m 5 (by omega) (by omega))
      obtain ⟨x, hx⟩ : ∃ x, xs.getD m default = x := ⟨_, rfl⟩
      simp only [itc, hx] at c0 c1 c2 c3 c4 c5
      obtain ⟨xk, xw, xst, xsh, xp, xf⟩ := x
      simp only [itv] at c0 c1 c2 c3 c4 c5
      have E : itemsOk xs = forced ⟨xk, xw, xst, xsh, xp, xf⟩ := items_end HN.out (by omega) hall.out HL.out hx
      have HE := Lib.hid E
      clear E hx hc
      go_wp2_with fail
      ((with_reducible refine (isForced_i _ _ _ _ _ _ _).mono ?_); rintro e w1 ⟨rfl, hb1⟩)
      rw [← HE.out]
      go_wp2_with fail
      go_ret
      exact ⟨rfl, below_then (Nat.le_refl _) hbel hb1⟩
end Go.Proofs.Ytkmipgekmbngcaa
/- The generator of tolerances returns some number. Conditions: the reader has yielded fewer than 2^47 numbers. -/
namespace Go.Proofs.Ytkmipgekmbngcaa
open Go.RowKit

theorem someTolerance_any (rb p : Nat) (w : World) (h : Rd w rb p) (hp : p ≤ 140737488355328) : Calls Try.prog 37 #[.pointer (some ⟨rb, 0, none⟩)] w (DrawnN w rb p 2 (-1) 10001) := by
  have hlt := h.lt
  go_enter Try.func37, Try.ntmps37
  go_wp2_with fail
  ((with_reducible refine (one_any rb _ w.heap.size 10 10 (fun i => [10000, 10000, 10000, 2000, 200, 50, 0, 10001, -1, 5000].getD i 0) _ (h.alloc _) (by omega) (by omega) (by omega) (by omega) (lit_cells [10000, 10000, 10000, 2000, 200, 50, 0, 10001, -1, 5000] (Blk.new _ _ _) rfl)).mono ?_); rintro e w4 ⟨x, hx, rfl, hr4, ho4⟩)
  obtain ⟨b0, b1⟩ := lit_bound [10000, 10000, 10000, 2000, 200, 50, 0, 10001, -1, 5000] (-1) 10001 (by decide) (by decide) hx
  go_wp2_with fail
  go_ret
  exact ⟨x, _, rfl, b0, b1, by omega, hr4, only_trans (only_alloc (only_refl _ _) _) ho4⟩
end Go.Proofs.Ytkmipgekmbngcaa
