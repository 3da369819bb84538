/- Cells of tables: toCell, eqCell, toCellS, eqCellS, szCellS: the copy of a slice of cells is a row of its own that reads as the list; a copy equals its like. Conditions: the slice reads as the list; at most 2^20 cells where a row is made. -/
import Derived.Test.YtbkhimdebpllcaaTabPlain
import Derived.Test.YtbkhimdebpllcaaOwnP
import Derived.Deep.RegionHeld3
namespace Go.Proofs.Ytbkhimdebpllcaa
open Go.RowKit

/-- The cells of a list of lines. -/
def clc (xs : List Cl) (i j : Nat) : Value := match j with
  | 0 => .int .i64 (xs.getD i default).s
  | _ => .int .i64 (xs.getD i default).w

theorem toCell_any (a b : Int) (w : World) :
    Calls Try.prog 52 #[.agg #[.int .i64 a, .int .i64 b]] w fun e w' => e = .returned (.agg #[.int .i64 a, .int .i64 b]) ∧ Below w.heap.size w w' := by
  go_enter Try.func52, Try.ntmps52
  go_wp2
  go_returns
  exact ⟨rfl, by (repeat' (first | (with_reducible exact Below.refl _ _) | (with_reducible assumption) | (with_reducible refine Below.alloc ?_ ?_ _) | (with_reducible refine Below.drew ?_) | (with_reducible refine below_drewN ?_ _) | (with_reducible refine Below.setCell ?_ ?_ _) | (with_reducible refine below_then ?_ ?_ (by with_reducible assumption)) | (with_reducible exact Nat.le_refl _) | go_size | (simp only [*]; done)))⟩
theorem eqCell_same (a b : Int) (w : World) :
    Calls Try.prog 53 #[.agg #[.int .i64 a, .int .i64 b], .agg #[.int .i64 a, .int .i64 b]] w fun e w' => e = .returned (.bool true) ∧ Below w.heap.size w w' := by
  go_enter Try.func53, Try.ntmps53
  go_wp2
  go_returns
  exact ⟨rfl, by (repeat' (first | (with_reducible exact Below.refl _ _) | (with_reducible assumption) | (with_reducible refine Below.alloc ?_ ?_ _) | (with_reducible refine Below.drew ?_) | (with_reducible refine below_drewN ?_ _) | (with_reducible refine Below.setCell ?_ ?_ _) | (with_reducible refine below_then ?_ ?_ (by with_reducible assumption)) | (with_reducible exact Nat.le_refl _) | go_size | (simp only [*]; done)))⟩

theorem cell_info : (Try.prog.info? 46).map (fun i => (i.zero, i.size, i.bytes)) = some (some (.agg #[.int .i64 0, .int .i64 0]), 2, 16) := by kernel_rfl

theorem cl_step {xs : List Cl} {n j : Nat} {x : Cl} {z : Value} (hx : xs.getD j default = x) : ∀ i q, i < n → q < 2 →
    (if i = j ∧ q = 1 then .int .i64 x.w else if i = j ∧ q = 0 then .int .i64 x.s else if i < j then clc xs i q else z) = if i < j + 1 then clc xs i q else z := by
  intro i q _ hq
  by_cases e : i = j
  · subst e
    match q, hq with
    | 0, _ => simp [clc, ← hx]
    | 1, _ => simp [clc, ← hx]
  · have e2 : (i < j + 1) = (i < j) := by simp; omega
    simp [e, e2]

theorem szCellS_any (A : Option Addr) (n cap : Nat) (m : Int) (w : World) (hn : n ≤ maxLen) (h0 : 0 ≤ m) (hm : m ≤ 1048576) :
    Calls Try.prog 38 #[.slice A n cap, .int .i64 m] w fun e w' => e = .returned (.int .i64 (if m < n then -1 else m - n)) ∧ w = w' := by
  unfold maxLen at hn
  by_cases h : m < n
  · rw [if_pos h]
    go_enter Try.func38, Try.ntmps38
    go_wp2
    go_ret
    exact ⟨rfl, rfl⟩
  · rw [if_neg h]
    go_enter Try.func38, Try.ntmps38
    go_wp2
    go_ret
    exact ⟨rfl, rfl⟩

theorem szCellS_ok (A : Option Addr) (n cap : Nat) (w : World) (hn : n ≤ 1048576) :
    Calls Try.prog 38 #[.slice A n cap, .int .i64 1048576] w fun e w' => e = .returned (.int .i64 (1048576 - n)) ∧ w = w' :=
  (szCellS_any A n cap 1048576 w (by unfold maxLen; omega) (by omega) (by omega)).mono fun e w' ⟨h1, h2⟩ => ⟨by rw [h1, if_neg (by omega)], h2⟩
theorem szCellS_big (A : Option Addr) (n cap : Nat) (w : World) (hn : n ≤ maxLen) (hb : 1048576 < n) :
    Calls Try.prog 38 #[.slice A n cap, .int .i64 1048576] w fun e w' => e = .returned (.int .i64 (-1)) ∧ w = w' :=
  (szCellS_any A n cap 1048576 w hn (by omega) (by omega)).mono fun e w' ⟨h1, h2⟩ => ⟨by rw [h1, if_pos (by omega)], h2⟩

theorem eqCellS_same (A A' : Option Addr) (n cap cap' : Nat) (xs : List Cl) (w : World) (hm : n ≤ maxLen) (hr : Row w w.heap.size 2 A n (clc xs)) (hr' : Row w w.heap.size 2 A' n (clc xs)) :
    Calls Try.prog 41 #[.slice A n cap, .slice A' n cap'] w fun e w' => e = .returned (.bool true) ∧ Below w.heap.size w w' := by
  unfold maxLen at hm
  go_enter Try.func41, Try.ntmps41
  go_wp2_with fail
  go_loopg [5] n (fun k i wr => ∃ j : Nat, j ≤ n ∧ k = n - j ∧ i = .int .i64 j ∧ Below w.heap.size w wr)
  case atStart => exact ⟨0, Nat.zero_le _, rfl, rfl, Below.refl _ _⟩
  case round =>
    obtain ⟨j, hj, hk, rfl, hbel⟩ := hrel
    have HK := Lib.hid hk; clear hk
    have hsz := hbel.size
    by_cases hlt : j < n
    · obtain ⟨b', off', rfl, hb', hc'⟩ := hr' (by omega)
      have d0 : wr.cell? ⟨b', off' + j * 2, none⟩ = _ := (hbel.cell (p := ⟨b', off' + j * 2, none⟩) hb').trans (hc' j 0 hlt (by omega))
      have d1 : wr.cell? ⟨b', off' + j * 2 + 1, none⟩ = _ := (hbel.cell (p := ⟨b', off' + j * 2 + 1, none⟩) hb').trans (hc' j 1 hlt (by omega))
      obtain ⟨b, off, rfl, hb, hc⟩ := hr (by omega)
      have c0 : wr.cell? ⟨b, off + j * 2, none⟩ = _ := (hbel.cell (p := ⟨b, off + j * 2, none⟩) hb).trans (hc j 0 hlt (by omega))
      have c1 : wr.cell? ⟨b, off + j * 2 + 1, none⟩ = _ := (hbel.cell (p := ⟨b, off + j * 2 + 1, none⟩) hb).trans (hc j 1 hlt (by omega))
      obtain ⟨x, hx⟩ : ∃ x, xs.getD j default = x := ⟨_, rfl⟩
      simp only [clc, hx] at c0 c1 d0 d1
      clear hc hc' hx
      have hlt' : (j : Int) < (n : Int) := by omega
      have hbw : b < wr.heap.size := by omega
      have hbw' : b' < wr.heap.size := by omega
      go_wp2_with fail
      go_region_held3 (fun w' => w'.cell? ⟨b, off + j * 2, none⟩ = some (.int .i64 x.s) ∧ w'.cell? ⟨b, off + j * 2 + 1, none⟩ = some (.int .i64 x.w) ∧ w'.cell? ⟨b', off' + j * 2, none⟩ = some (.int .i64 x.s) ∧ w'.cell? ⟨b', off' + j * 2 + 1, none⟩ = some (.int .i64 x.w) ∧ Below w.heap.size w w')
        (first | exact ⟨c0, c1, d0, d1, hbel⟩ | exact ⟨c0, c1, d0, d1, hbel.drew⟩ | exact ⟨e0, e1, e3, e4, below_then (Nat.le_refl _) hbel.drew hb1⟩)
        (first | (go_at_call 53; refine (eqCell_same _ _ _).mono ?_; rintro e w' ⟨rfl, hb1⟩; have e0 := (hb1.cell (p := ⟨b, off + j * 2, none⟩) hbw).trans c0; have e1 := (hb1.cell (p := ⟨b, off + j * 2 + 1, none⟩) hbw).trans c1; have e3 := (hb1.cell (p := ⟨b', off' + j * 2, none⟩) hbw').trans d0; have e4 := (hb1.cell (p := ⟨b', off' + j * 2 + 1, none⟩) hbw').trans d1))
      go_wp2_with fail
      go_roundg (n - (j + 1))
      case measure => have := HK.out; omega
      case rel => exact ⟨j + 1, by omega, rfl, by go_num, by (repeat' (first | (with_reducible exact Below.refl _ _) | (with_reducible assumption) | (with_reducible refine Below.alloc ?_ ?_ _) | (with_reducible refine Below.drew ?_) | (with_reducible refine below_drewN ?_ _) | (with_reducible refine Below.setCell ?_ ?_ _) | (with_reducible refine below_then ?_ ?_ (by with_reducible assumption)) | (with_reducible exact Nat.le_refl _) | go_size | (simp only [*]; done)))⟩
    · go_wp2_with fail
      go_ret
      exact ⟨rfl, hbel⟩

theorem toCellS_any (A : Option Addr) (n cap : Nat) (xs : List Cl) (w : World) (hn : xs.length = n) (hm : n ≤ 1048576) (hr : Row w w.heap.size 2 A n (clc xs)) :
    Calls Try.prog 40 #[.slice A n cap] w fun e w' => e = .returned (.slice (some ⟨w.heap.size, 0, none⟩) n n) ∧ OwnP w' w.heap.size 46 2 (some ⟨w.heap.size, 0, none⟩) n n (clc xs) ∧ Below w.heap.size w w' := by
  obtain ⟨i0, hi, hz0, hz1, hz2⟩ := info_parts cell_info
  have hmk := make_n (P := Try.prog) 43 46 i0 _ Try.underlying43 hi hz0 n (by rw [hz2]; omega) (by omega)
  rw [hz1] at hmk
  have HN := Lib.hid hn; clear hn
  go_enter Try.func40, Try.ntmps40
  go_wp2_with fail
  go_loopg [4] n (fun k i wr => ∃ j : Nat, j ≤ n ∧ k = n - j ∧ i = .int .i64 j ∧ Hid (OwnP wr w.heap.size 46 2 (some ⟨w.heap.size, 0, none⟩) n n (fun i q => if i < j then clc xs i q else .int .i64 0)) ∧ Below w.heap.size w wr)
  case atStart => exact ⟨0, Nat.zero_le _, rfl, rfl, (OwnP.made w _ #[.int .i64 0, .int .i64 0] n (by simp) (by unfold maxLen; omega)).congr (fun i q _ hq => by (have hq' : q < 2 := hq); simp; match q, hq' with | 0, _ => rfl | 1, _ => rfl), by (repeat' (first | (with_reducible exact Below.refl _ _) | (with_reducible assumption) | (with_reducible refine Below.alloc ?_ ?_ _) | (with_reducible refine Below.drew ?_) | (with_reducible refine below_drewN ?_ _) | (with_reducible refine Below.setCell ?_ ?_ _) | (with_reducible refine below_then ?_ ?_ (by with_reducible assumption)) | (with_reducible exact Nat.le_refl _) | go_size | (simp only [*]; done)))⟩
  case round =>
    obtain ⟨j, hj, hk, rfl, hown, hbel⟩ := hrel
    have HK := Lib.hid hk; clear hk
    have hsz := hbel.size
    have olt := hown.out.lt
    by_cases hlt : j < n
    · obtain ⟨b, off, rfl, hb, hc⟩ := hr (by omega)
      have c0 : wr.cell? ⟨b, off + j * 2, none⟩ = _ := (hbel.cell (p := ⟨b, off + j * 2, none⟩) hb).trans (hc j 0 hlt (by omega))
      have c1 : wr.cell? ⟨b, off + j * 2 + 1, none⟩ = _ := (hbel.cell (p := ⟨b, off + j * 2 + 1, none⟩) hb).trans (hc j 1 hlt (by omega))
      obtain ⟨x, hx⟩ : ∃ x, xs.getD j default = x := ⟨_, rfl⟩
      simp only [clc, hx] at c0 c1
      have Hx := Lib.hid hx; clear hx hc
      have o0 : wr.cell? ⟨w.heap.size, j * 2, none⟩ = _ := hown.out.cell (q := 0) hlt (by omega)
      have o1 := hown.out.cell (q := 1) hlt (by omega)
      have of0 := hown.out.frozen (j * 2)
      have of1 := hown.out.frozen (j * 2 + 1)
      simp only [Nat.lt_irrefl, if_false] at o0 o1
      go_wp2_with fail
      ((with_reducible refine (toCell_any _ _ _).mono ?_); rintro e w1 ⟨rfl, hb1⟩)
      have hz1 := hb1.size
      have p0 := (hb1.cell (p := ⟨w.heap.size, j * 2, none⟩) olt).trans o0
      have p1 := (hb1.cell (p := ⟨w.heap.size, j * 2 + 1, none⟩) olt).trans o1
      have q0 := (hb1.frozen (p := ⟨w.heap.size, j * 2, none⟩) olt).trans of0
      have q1 := (hb1.frozen (p := ⟨w.heap.size, j * 2 + 1, none⟩) olt).trans of1
      go_wp2_with fail
      go_roundg (n - (j + 1))
      case measure => have := HK.out; omega
      case rel => exact ⟨j + 1, by omega, rfl, by go_num, (((hown.out.then_ hb1).set0 hlt (by omega) _).set_ (q := 1) hlt (by omega) _).congr (cl_step Hx.out), by (repeat' (first | (with_reducible exact Below.refl _ _) | (with_reducible assumption) | (with_reducible refine Below.alloc ?_ ?_ _) | (with_reducible refine Below.drew ?_) | (with_reducible refine below_drewN ?_ _) | (with_reducible refine Below.setCell ?_ ?_ _) | (with_reducible refine below_then ?_ ?_ (by with_reducible assumption)) | (with_reducible exact Nat.le_refl _) | go_size | (simp only [*]; done)))⟩
    · go_wp2_with fail
      go_ret
      refine ⟨rfl, hown.out.congr fun i q hi _ => if_pos (by omega), by (repeat' (first | (with_reducible exact Below.refl _ _) | (with_reducible assumption) | (with_reducible refine Below.alloc ?_ ?_ _) | (with_reducible refine Below.drew ?_) | (with_reducible refine below_drewN ?_ _) | (with_reducible refine Below.setCell ?_ ?_ _) | (with_reducible refine below_then ?_ ?_ (by with_reducible assumption)) | (with_reducible exact Nat.le_refl _) | go_size | (simp only [*]; done)))⟩
end Go.Proofs.Ytbkhimdebpllcaa
