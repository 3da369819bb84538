/- Widths of columns, StretchColumns, of the program and of the reference, return what the plain functions say. Conditions: the slice reads as the list. -/
import Derived.Test.YtbkhimdebpllcaaInts
import Derived.Test.YtbkhimdebpllcaaLists
namespace Go.Proofs.Ytbkhimdebpllcaa
open Go.RowKit

def colOk (a : Int) : Bool := inR a 0 10000
def colsOk (l : List Int) : Bool := l.all colOk && inR l.length 1 8
theorem cols_bad {xs : List Int} {n j : Nat} {x : Int} (hn : xs.length = n) (hj : j < n) (hx : xs.getD j default = x) (hv : colOk x = false) : colsOk xs = false := by
  simp [colsOk, all_bad hn hj hx hv]
theorem cols_end {xs : List Int} {n j : Nat} (hn : xs.length = n) (hj : n ≤ j) (h : (xs.take j).all colOk = true) : colsOk xs = inR n 1 8 := by
  rw [colsOk, all_end hn hj h, hn]; rfl
theorem cols_len {l : List Int} (h : colsOk l = true) : 1 ≤ l.length ∧ l.length ≤ 8 := by
  simp only [colsOk, Bool.and_eq_true, inR_iff] at h
  omega
theorem cols_at {l : List Int} {n k : Nat} {x : Int} (h : colsOk l = true) (hn : l.length = n) (hk : k < n) (hx : l.getD k default = x) : 0 ≤ x ∧ x ≤ 10000 := by
  simp only [colsOk, Bool.and_eq_true] at h
  exact inR_iff.1 (show inR x 0 10000 = true from all_at (p := colOk) h.1 hn hk hx)
theorem cols_sum {l : List Int} {n k : Nat} (h : colsOk l = true) (hn : l.length = n) (hk : k ≤ n) {s : Int} (hs : (l.take k).sum = s) : 0 ≤ s ∧ s ≤ 10000 * (k : Int) := by
  simp only [colsOk, Bool.and_eq_true] at h
  have := sum_bound (l := l.take k) (a := 0) (b := 10000) fun x hx => inR_iff.1 (show inR x 0 10000 = true from List.all_eq_true.1 h.1 x (List.mem_of_mem_take hx))
  rw [List.length_take, Nat.min_eq_left (by omega), hs] at this
  omega
theorem cols_le {l : List Int} {n k : Nat} (h : colsOk l = true) (_hn : l.length = n) (_hk : k ≤ n) : (l.take k).sum ≤ l.sum := by
  have e : (l.take k).sum + (l.drop k).sum = l.sum := by rw [← List.sum_append, List.take_append_drop]
  simp only [colsOk, Bool.and_eq_true] at h
  have := sum_bound (l := l.drop k) (a := 0) (b := 10000) fun x hx => inR_iff.1 (show inR x 0 10000 = true from List.all_eq_true.1 h.1 x (List.mem_of_mem_drop hx))
  omega

theorem validWidths_i (A : Option Addr) (n cap : Nat) (xs : List Int) (w : World) (hn : xs.length = n) (hm : n ≤ maxLen) (hr : Row w w.heap.size 1 A n (inc xs)) :
    Calls Try.prog 35 #[.slice A n cap] w fun e w' => e = .returned (.bool (colsOk xs)) ∧ Below w.heap.size w w' := by
  unfold maxLen at hm
  have HN := Lib.hid hn; clear hn
  go_enter Try.func35, Try.ntmps35
  go_wp2_with fail
  go_loopg [7] n (fun k i wr => ∃ j : Nat, j ≤ n ∧ k = n - j ∧ i = .int .i64 j ∧ Hid ((xs.take j).all colOk = true) ∧ Below w.heap.size w wr)
  case atStart => exact ⟨0, Nat.zero_le _, rfl, rfl, by simp [Hid], Below.refl _ _⟩
  case round =>
    obtain ⟨j, hj, hk, rfl, hall, hbel⟩ := hrel
    have HK := Lib.hid hk; clear hk
    have hsz := hbel.size
    by_cases hlt : j < n
    · obtain ⟨b, off, rfl, hb, hc⟩ := hr.at1 (by omega)
      have c0 : wr.cell? ⟨b, off + j, none⟩ = _ := (hbel.cell (p := ⟨b, off + j, none⟩) hb).trans (hc j hlt)
      obtain ⟨x, hx⟩ : ∃ x, xs.getD j default = x := ⟨_, rfl⟩
      simp only [inc, hx] at c0
      have Hx := Lib.hid hx; clear hx hc
      rcases hv : colOk x with _ | _
      all_goals
        have HV := Lib.hid hv; clear hv
        go_wp2_with fail
        ((with_reducible refine (within_any _ _ _ _).mono ?_); rintro e w' ⟨rfl, rfl⟩)
        first | rw [show inR x 0 10000 = false from HV.out] | rw [show inR x 0 10000 = true from HV.out]
        go_wp2_with fail
      · go_ret
        exact ⟨ret_bool (cols_bad HN.out hlt Hx.out HV.out).symm, by (repeat' (first | (with_reducible exact Below.refl _ _) | (with_reducible assumption) | (with_reducible refine Below.alloc ?_ ?_ _) | (with_reducible refine Below.drew ?_) | (with_reducible refine below_drewN ?_ _) | (with_reducible refine Below.setCell ?_ ?_ _) | (with_reducible refine below_then ?_ ?_ (by with_reducible assumption)) | (with_reducible exact Nat.le_refl _) | go_size | (simp only [*]; done)))⟩
      · go_roundg (n - (j + 1))
        case measure => have := HK.out; omega
        case rel => exact ⟨j + 1, by omega, rfl, by go_num, all_more HN.out hlt Hx.out hall.out HV.out, by (repeat' (first | (with_reducible exact Below.refl _ _) | (with_reducible assumption) | (with_reducible refine Below.alloc ?_ ?_ _) | (with_reducible refine Below.drew ?_) | (with_reducible refine below_drewN ?_ _) | (with_reducible refine Below.setCell ?_ ?_ _) | (with_reducible refine below_then ?_ ?_ (by with_reducible assumption)) | (with_reducible exact Nat.le_refl _) | go_size | (simp only [*]; done)))⟩
    · go_wp2_with fail
      ((with_reducible refine (within_any _ _ _ _).mono ?_); rintro e w' ⟨rfl, rfl⟩)
      go_wp2_with fail
      go_ret
      exact ⟨ret_bool (cols_end HN.out (by omega) hall.out).symm, hbel⟩

theorem validWidths_s (A : Option Addr) (n cap : Nat) (xs : List Int) (w : World) (hn : xs.length = n) (hm : n ≤ maxLen) (hr : Row w w.heap.size 1 A n (inc xs)) :
    Calls Try.prog 33 #[.slice A n cap] w fun e w' => e = .returned (.bool (colsOk xs)) ∧ Below w.heap.size w w' := by
  unfold maxLen at hm
  have HN := Lib.hid hn; clear hn
  go_enter Try.func33, Try.ntmps33
  go_wp2_with fail
  go_loopg [3] n (fun k i wr => ∃ j : Nat, j ≤ n ∧ k = n - j ∧ i = .int .i64 j ∧ Hid ((xs.take j).all colOk = true) ∧ Below w.heap.size w wr)
  case atStart => exact ⟨0, Nat.zero_le _, rfl, rfl, by simp [Hid], Below.refl _ _⟩
  case round =>
    obtain ⟨j, hj, hk, rfl, hall, hbel⟩ := hrel
    have HK := Lib.hid hk; clear hk
    have hsz := hbel.size
    by_cases hlt : j < n
    · obtain ⟨b, off, rfl, hb, hc⟩ := hr.at1 (by omega)
      have c0 : wr.cell? ⟨b, off + j, none⟩ = _ := (hbel.cell (p := ⟨b, off + j, none⟩) hb).trans (hc j hlt)
      obtain ⟨x, hx⟩ : ∃ x, xs.getD j default = x := ⟨_, rfl⟩
      simp only [inc, hx] at c0
      have Hx := Lib.hid hx; clear hx hc
      rcases hv : colOk x with _ | _
      all_goals
        have HV := Lib.hid hv; clear hv
        go_wp2_with fail
        ((with_reducible refine (inRange_any _ _ _ _).mono ?_); rintro e w' ⟨rfl, rfl⟩)
        first | rw [show inR x 0 10000 = false from HV.out] | rw [show inR x 0 10000 = true from HV.out]
        go_wp2_with fail
      · go_ret
        exact ⟨ret_bool (cols_bad HN.out hlt Hx.out HV.out).symm, by (repeat' (first | (with_reducible exact Below.refl _ _) | (with_reducible assumption) | (with_reducible refine Below.alloc ?_ ?_ _) | (with_reducible refine Below.drew ?_) | (with_reducible refine below_drewN ?_ _) | (with_reducible refine Below.setCell ?_ ?_ _) | (with_reducible refine below_then ?_ ?_ (by with_reducible assumption)) | (with_reducible exact Nat.le_refl _) | go_size | (simp only [*]; done)))⟩
      · go_roundg (n - (j + 1))
        case measure => have := HK.out; omega
        case rel => exact ⟨j + 1, by omega, rfl, by go_num, all_more HN.out hlt Hx.out hall.out HV.out, by (repeat' (first | (with_reducible exact Below.refl _ _) | (with_reducible assumption) | (with_reducible refine Below.alloc ?_ ?_ _) | (with_reducible refine Below.drew ?_) | (with_reducible refine below_drewN ?_ _) | (with_reducible refine Below.setCell ?_ ?_ _) | (with_reducible refine below_then ?_ ?_ (by with_reducible assumption)) | (with_reducible exact Nat.le_refl _) | go_size | (simp only [*]; done)))⟩
    · go_wp2_with fail
      ((with_reducible refine (inRange_any _ _ _ _).mono ?_); rintro e w' ⟨rfl, rfl⟩)
      go_wp2_with fail
      go_ret
      exact ⟨ret_bool (cols_end HN.out (by omega) hall.out).symm, hbel⟩

theorem sumOf_i (A : Option Addr) (n cap : Nat) (xs : List Int) (w : World) (hok : colsOk xs = true) (hn : xs.length = n) (hr : Row w w.heap.size 1 A n (inc xs)) :
    Calls Try.prog 37 #[.slice A n cap] w fun e w' => e = .returned (.int .i64 xs.sum) ∧ Below w.heap.size w w' := by
  have hl := cols_len hok
  rw [hn] at hl
  have HOK := Lib.hid hok
  have HN := Lib.hid hn; clear hn hok
  go_enter Try.func37, Try.ntmps37
  go_wp2_with fail
  go_loopg [3, 8] n (fun k t i wr => ∃ (j : Nat) (s : Int), j ≤ n ∧ k = n - j ∧ i = .int .i64 j ∧ t = .int .i64 s ∧ Hid ((xs.take j).sum = s) ∧ Below w.heap.size w wr)
  case atStart => exact ⟨0, 0, Nat.zero_le _, rfl, rfl, rfl, rfl, Below.refl _ _⟩
  case round =>
    obtain ⟨j, s, hj, hk, rfl, rfl, hs, hbel⟩ := hrel
    have HK := Lib.hid hk; clear hk
    have hsz := hbel.size
    obtain ⟨s0, s1⟩ := cols_sum HOK.out HN.out hj hs.out
    by_cases hlt : j < n
    · obtain ⟨b, off, rfl, hb, hc⟩ := hr.at1 (by omega)
      have c0 : wr.cell? ⟨b, off + j, none⟩ = _ := (hbel.cell (p := ⟨b, off + j, none⟩) hb).trans (hc j hlt)
      obtain ⟨x, hx⟩ : ∃ x, xs.getD j default = x := ⟨_, rfl⟩
      simp only [inc, hx] at c0
      have Hx := Lib.hid hx; clear hx hc
      obtain ⟨x0, x1⟩ := cols_at HOK.out HN.out hlt Hx.out
      go_wp2_with fail
      go_roundg (n - (j + 1))
      case measure => have := HK.out; omega
      case rel => exact ⟨j + 1, s + x, by omega, rfl, by go_num, rfl, (by show _ = _; rw [tk_snoc' HN.out hlt Hx.out, sum_snoc, hs.out]), by (repeat' (first | (with_reducible exact Below.refl _ _) | (with_reducible assumption) | (with_reducible refine Below.alloc ?_ ?_ _) | (with_reducible refine Below.drew ?_) | (with_reducible refine below_drewN ?_ _) | (with_reducible refine Below.setCell ?_ ?_ _) | (with_reducible refine below_then ?_ ?_ (by with_reducible assumption)) | (with_reducible exact Nat.le_refl _) | go_size | (simp only [*]; done)))⟩
    · have e : xs.sum = s := by have := hs.out; rwa [List.take_of_length_le (by rw [HN.out]; omega)] at this
      have E := Lib.hid e; clear e
      go_wp2_with fail
      go_ret
      exact ⟨ret_int E.out.symm, hbel⟩

/-- The border behind k columns. -/
def bord (xs : List Int) (t : Int) (k : Nat) : Int := if 0 < xs.sum then t * (xs.take k).sum / xs.sum else t * (k : Int) / (xs.length : Int)
def strOk (xs : List Int) (t : Int) : Bool := colsOk xs && inR t xs.sum 10000
def strL (xs : List Int) (t : Int) : List Int := (List.range xs.length).map fun k => bord xs t (k + 1) - bord xs t k
def strV (xs : List Int) (t : Int) : List Int := if strOk xs t then strL xs t else []
theorem bord_zero (xs : List Int) (t : Int) : bord xs t 0 = 0 := by simp [bord]
theorem strL_len (xs : List Int) (t : Int) : (strL xs t).length = xs.length := by simp [strL]
theorem strL_at {xs : List Int} {t : Int} {n k : Nat} (hn : xs.length = n) (hk : k < n) : (strL xs t).getD k default = bord xs t (k + 1) - bord xs t k := by
  rw [List.getD_eq_getElem?_getD, strL, List.getElem?_map, List.getElem?_range (by omega)]; rfl
theorem str_no {xs : List Int} {t : Int} (h : strOk xs t = false) : strV xs t = [] := by simp [strV, h]
theorem str_yes {xs : List Int} {t : Int} (h : strOk xs t = true) : strV xs t = strL xs t := by simp [strV, h]
theorem bord_bound {xs : List Int} {t : Int} {n k : Nat} (h : colsOk xs = true) (hn : xs.length = n) (hk : k ≤ n) (t0 : 0 ≤ t) (t1 : t ≤ 10000) : 0 ≤ bord xs t k ∧ bord xs t k ≤ 1000000000 := by
  have hl := cols_len h
  rw [hn] at hl
  unfold bord
  split
  · rename_i hs
    obtain ⟨a0, a1⟩ := cols_sum h hn hk rfl
    have p0 : 0 ≤ t * (xs.take k).sum := Int.mul_nonneg t0 a0
    have p1 : t * (xs.take k).sum ≤ 10000 * 80000 := Int.mul_le_mul t1 (by omega) a0 (by omega)
    exact ⟨Int.ediv_nonneg p0 (by omega), Int.le_trans (Int.ediv_le_self _ p0) (by omega)⟩
  · have p0 : 0 ≤ t * (k : Int) := Int.mul_nonneg t0 (by omega)
    have p1 : t * (k : Int) ≤ 10000 * 8 := Int.mul_le_mul t1 (by omega) (by omega) (by omega)
    exact ⟨Int.ediv_nonneg p0 (by omega), Int.le_trans (Int.ediv_le_self _ p0) (by omega)⟩

/-- What a call leaves that returns numbers of its own. -/
def IntsOut (w : World) (xs : List Int) (e : Ending) (w' : World) : Prop :=
  ∃ (A : Option Addr) (c : Nat), e = .returned (.slice A xs.length c) ∧ OwnI w' w.heap.size A xs.length c xs ∧ Below w.heap.size w w'
theorem ownI_none (w : World) (base : Nat) : OwnI w base none 0 0 [] := ⟨rfl, .inl ⟨rfl, rfl⟩⟩
theorem grown_set {w0 w : World} {g : Nat} (h : w0.grownBy w (some g)) (o : Nat) (u : Value) : w0.grownBy (w.setCell ⟨g, o, none⟩ u) (some g) :=
  ⟨h.os, h.tape, h.output, by simpa [World.setCell] using h.size, fun k hk hne => (Below.heap_setCell w ⟨g, o, none⟩ u k (fun e => hne (by rw [e]))).trans (h.block k hk hne)⟩
theorem default_int : (default : Int) = 0 := rfl

set_option maxHeartbeats 2000000 in
theorem stretch_i (A : Option Addr) (n cap : Nat) (t : Int) (xs : List Int) (w : World) (hn : xs.length = n) (hm : n ≤ maxLen) (hr : Row w w.heap.size 1 A n (inc xs)) :
    Calls Try.prog 14 #[.slice A n cap, .int .i64 t] w (IntsOut w (strV xs t)) := by
  rcases hok : colsOk xs with _ | _
  · rw [str_no (show strOk xs t = false by rw [strOk, hok]; rfl)]
    go_enter Try.func14, Try.ntmps14
    go_wp2_with fail
    ((with_reducible refine (validWidths_i _ _ _ xs _ hn hm ?_).mono ?_); (exact hr); rintro e w1 ⟨rfl, hb⟩)
    rw [hok]
    go_wp2
    go_ret
    exact ⟨none, 0, rfl, ownI_none _ _, hb⟩
  have hl := cols_len hok
  rw [hn] at hl
  have hsb := cols_sum hok hn (Nat.le_refl n) rfl
  rw [List.take_of_length_le (by omega)] at hsb
  obtain ⟨S, hS⟩ : ∃ S, xs.sum = S := ⟨_, rfl⟩
  rw [hS] at hsb
  obtain ⟨S0, S1⟩ := hsb
  have HOK := Lib.hid hok
  have HS := Lib.hid hS
  have HN := Lib.hid hn
  rcases hv : inR t S 10000 with _ | _
  · rw [str_no (show strOk xs t = false by rw [strOk, hok, hS, hv]; rfl)]
    clear hok hS hn
    go_enter Try.func14, Try.ntmps14
    go_wp2_with fail
    ((with_reducible refine (validWidths_i _ _ _ xs _ HN.out hm ?_).mono ?_); (exact hr); rintro e w1 ⟨rfl, hb⟩)
    rw [HOK.out]
    go_wp2_with fail
    ((with_reducible refine (sumOf_i _ _ _ xs _ HOK.out HN.out ?_).mono ?_); (exact hr.then_ hb); rintro e w2 ⟨rfl, hb2⟩)
    rw [HS.out]
    go_wp2_with fail
    ((with_reducible refine (within_any _ _ _ _).mono ?_); rintro e w' ⟨rfl, rfl⟩)
    rw [hv]
    go_wp2
    go_ret
    exact ⟨none, 0, rfl, ownI_none _ _, by (repeat' (first | (with_reducible exact Below.refl _ _) | (with_reducible assumption) | (with_reducible refine Below.alloc ?_ ?_ _) | (with_reducible refine Below.drew ?_) | (with_reducible refine below_drewN ?_ _) | (with_reducible refine Below.setCell ?_ ?_ _) | (with_reducible refine below_then ?_ ?_ (by with_reducible assumption)) | (with_reducible exact Nat.le_refl _) | go_size | (simp only [*]; done)))⟩
  obtain ⟨t0, t1⟩ := inR_iff.1 hv
  rw [str_yes (show strOk xs t = true by rw [strOk, hok, hS, hv]; rfl)]
  have HV := Lib.hid hv
  obtain ⟨i0, hi, hz0, hz1, hz2⟩ := info_parts int_info
  have hmk := make_n (P := Try.prog) 22 3 i0 _ Try.underlying22 hi hz0 n (by rw [hz2]; omega) (by omega)
  rw [hz1] at hmk
  obtain ⟨ys, hys⟩ : ∃ ys, strL xs t = ys := ⟨_, rfl⟩
  rw [hys]
  have HYS := Lib.hid hys
  have hyl : ys.length = n := by rw [← hys, strL_len, hn]
  have HYL := Lib.hid hyl
  clear hok hS hn hv hys hyl
  go_enter Try.func14, Try.ntmps14
  go_wp2_with fail
  ((with_reducible refine (validWidths_i _ _ _ xs _ HN.out hm ?_).mono ?_); (exact hr); rintro e w1 ⟨rfl, hb1⟩)
  rw [HOK.out]
  have hr1 := hr.then_ hb1
  go_wp2_with fail
  ((with_reducible refine (sumOf_i _ _ _ xs _ HOK.out HN.out ?_).mono ?_); (exact hr1); rintro e w2 ⟨rfl, hb2⟩)
  rw [HS.out]
  have hr2 := hr1.then_ hb2
  have hB2 := below_then (Nat.le_refl _) hb1 hb2
  go_wp2_with fail
  ((with_reducible refine (within_any _ _ _ _).mono ?_); rintro e w' ⟨rfl, rfl⟩)
  rw [HV.out]
  go_wp2_with fail
  ((with_reducible refine (sumOf_i _ _ _ xs _ HOK.out HN.out ?_).mono ?_); (exact hr2.alloc' _); rintro e w3 ⟨rfl, hb3⟩)
  rw [HS.out]
  have hr3 := Lib.hid ((hr2.alloc' (.cells (madeCells #[(.int .i64 0 : Value)] n) 3)).then_ hb3)
  have HAP : Hid (∀ b off, A = some ⟨b, off, none⟩ → some b ≠ some w2.heap.size) := by
    intro b off e e2
    injection e2 with e2
    subst e2
    obtain ⟨b', off', e3, hb', _⟩ := hr2 (by omega)
    rw [e] at e3
    injection e3 with e3
    injection e3 with e3 _
    omega
  have hz3 := hb3.size
  simp only [World.size_alloc] at hz3
  have hz2' := hB2.size
  have hB3 := below_then (Nat.le_refl _) (hB2.alloc hB2.size _) hb3
  have hmade := made_own w2 (.int .i64 0) n (by unfold maxLen; omega) 3 rfl
  have hOwn : Hid (OwnI w3 w2.heap.size (some ⟨w2.heap.size, 0, none⟩) n n (fillI ys 0 n)) := by
    rw [fillI_zero]
    have h2 : OwnI (w2.alloc (.cells (madeCells #[(.int .i64 0 : Value)] n) 3)) w2.heap.size (some ⟨w2.heap.size, 0, none⟩) n n (List.replicate n 0) := by simpa [OwnI, inl, Value.cells] using hmade
    exact OwnI.then_ h2 hb3
  clear hmade hr hr1 hr2
  go_wp2_with fail
  go_loopg [7, 8, 29] n (fun k l d i wr => ∃ (j : Nat) (s b : Int), j ≤ n ∧ k = n - j ∧ i = .int .i64 j ∧ l = .int .i64 s ∧ d = .int .i64 b ∧ Hid ((xs.take j).sum = s) ∧ Hid (bord xs t j = b) ∧ Hid (OwnI wr w2.heap.size (some ⟨w2.heap.size, 0, none⟩) n n (fillI ys j n)) ∧ w3.grownBy wr (some w2.heap.size))
  case atStart => exact ⟨0, 0, 0, Nat.zero_le _, rfl, rfl, rfl, rfl, rfl, bord_zero _ _, hOwn.out, rfl, rfl, rfl, Nat.le_refl _, fun _ _ _ => rfl⟩
  case round =>
    obtain ⟨j, s, b, hj, hk, rfl, rfl, rfl, hs, hb, hown, hbel⟩ := hrel
    have HK := Lib.hid hk; clear hk
    have hsz := hbel.size
    obtain ⟨s0, s1⟩ := cols_sum HOK.out HN.out hj hs.out
    by_cases hlt : j < n
    · obtain ⟨x, hx⟩ : ∃ x, xs.getD j default = x := ⟨_, rfl⟩
      obtain ⟨x0, x1⟩ := cols_at HOK.out HN.out hlt hx
      obtain ⟨bA, off, rfl, hbb, hc⟩ := hr3.out.at1 (by omega)
      have c0 : wr.cell? ⟨bA, off + j, none⟩ = w3.cell? ⟨bA, off + j, none⟩ := World.cell?_of_block (hbel.block bA hbb (HAP.out bA off rfl))
      rw [hc j hlt] at c0
      simp only [inc, hx] at c0
      have Hx := Lib.hid hx
      obtain ⟨b0, b1⟩ := bord_bound HOK.out HN.out hj (by omega) t1 (k := j)
      rw [hb.out] at b0 b1
      have hs' : (xs.take (j + 1)).sum = s + x := by rw [tk_snoc' HN.out hlt Hx.out, sum_snoc, hs.out]
      have HS' := Lib.hid hs'
      have e0 : 0 ≤ t := by omega
      have m1 : 0 ≤ t * ((j : Int) + 1) := Int.mul_nonneg e0 (by omega)
      have m2 : t * ((j : Int) + 1) ≤ 10000 * 8 := Int.mul_le_mul t1 (by omega) (by omega) (by omega)
      have m3 : IntKind.i64.wrap (t * ((j : Int) + 1)) = t * ((j : Int) + 1) := IntWalk.i64_in _ (by omega)
      have m4 : 0 ≤ t * ((j : Int) + 1) / (n : Int) := Int.ediv_nonneg m1 (by omega)
      have m5 : t * ((j : Int) + 1) / (n : Int) ≤ 80000 := Int.le_trans (Int.ediv_le_self _ m1) (by omega)
      have n1 : 0 ≤ t * (s + x) := Int.mul_nonneg e0 (by omega)
      have n2 : t * (s + x) ≤ 10000 * 90000 := Int.mul_le_mul t1 (by omega) (by omega) (by omega)
      have n3 : IntKind.i64.wrap (t * (s + x)) = t * (s + x) := IntWalk.i64_in _ (by omega)
      have n4 : 0 ≤ t * (s + x) / S := Int.ediv_nonneg n1 (by omega)
      have n5 : t * (s + x) / S ≤ 900000000 := Int.le_trans (Int.ediv_le_self _ n1) (by omega)
      have hat := strL_at (t := t) HN.out hlt
      rw [HYS.out, hb.out] at hat
      have o0 := hown.out.cellI hlt
      have of0 := hown.out.frozenAt j
      have hjl : (j : Int) < (n : Int) := by omega
      by_cases hSp : 0 < S
      · have hbn : bord xs t (j + 1) = t * (s + x) / S := by rw [bord, HS.out, if_pos hSp, HS'.out]
        rw [hbn] at hat
        have HAT := Lib.hid hat
        have HBN := Lib.hid hbn
        clear hx hc hs' hat hbn
        go_wp2_with fail
        go_roundg (n - (j + 1))
        case measure => have := HK.out; omega
        case rel => exact ⟨j + 1, s + x, t * (s + x) / S, by omega, rfl, by go_num, rfl, rfl, HS'.out, HBN.out, (hown.out.stored _).eq (fillI_set HYL.out hlt HAT.out), grown_set hbel _ _⟩
      · have hbn : bord xs t (j + 1) = t * ((j : Int) + 1) / (n : Int) := by rw [bord, HS.out, if_neg hSp, HN.out]; rfl
        rw [hbn] at hat
        have HAT := Lib.hid hat
        have HBN := Lib.hid hbn
        clear hx hc hs' hat hbn
        go_wp2_with fail
        go_roundg (n - (j + 1))
        case measure => have := HK.out; omega
        case rel => exact ⟨j + 1, s + x, t * ((j : Int) + 1) / (n : Int), by omega, rfl, by go_num, rfl, rfl, HS'.out, HBN.out, (hown.out.stored _).eq (fillI_set HYL.out hlt HAT.out), grown_set hbel _ _⟩
    · have ej : j = n := by omega
      subst ej
      go_wp2_with fail
      go_ret
      refine ⟨some ⟨w2.heap.size, 0, none⟩, j, ?_, ?_, ?_⟩
      · rw [HYL.out]; rfl
      · rw [HYL.out]
        exact OwnI.mono (hown.out.eq (fillI_full ys j HYL.out)) hz2'
      · exact hB3.grown hbel hB3.size (fun k hk => by injection hk with hk; omega)

set_option maxHeartbeats 4000000 in
theorem stretch_s (A : Option Addr) (n cap : Nat) (t : Int) (xs : List Int) (w : World) (hn : xs.length = n) (hm : n ≤ maxLen) (hr : Row w w.heap.size 1 A n (inc xs)) :
    Calls Try.prog 12 #[.slice A n cap, .int .i64 t] w (IntsOut w (strV xs t)) := by
  have hE := Lib.hid (Blk.new w 3 #[])
  have hb0 : Below w.heap.size w (w.alloc (.cells #[] 3)) := (Below.refl _ _).alloc (Nat.le_refl _) _
  rcases hok : colsOk xs with _ | _
  · rw [str_no (show strOk xs t = false by rw [strOk, hok]; rfl)]
    go_enter Try.func12, Try.ntmps12
    go_wp2_with fail
    ((with_reducible refine (validWidths_s _ _ _ xs _ hn hm ?_).mono ?_); (exact hr.alloc' _); rintro e w1 ⟨rfl, hb⟩)
    rw [hok]
    go_wp2
    go_ret
    exact ⟨none, 0, rfl, ownI_none _ _, below_then (Nat.le_refl _) hb0 hb⟩
  have hl := cols_len hok
  rw [hn] at hl
  have hsb := cols_sum hok hn (Nat.le_refl n) rfl
  rw [List.take_of_length_le (by omega)] at hsb
  obtain ⟨S, hS⟩ : ∃ S, xs.sum = S := ⟨_, rfl⟩
  rw [hS] at hsb
  obtain ⟨S0, S1⟩ := hsb
  have HOK := Lib.hid hok
  have HS := Lib.hid hS
  have HN := Lib.hid hn
  rcases hw : inR t 0 10000 with _ | _
  · rw [str_no (show strOk xs t = false by rw [strOk, hok, hS, show inR t S 10000 = false from inR_no.2 (by have := inR_no.1 hw; omega)]; rfl)]
    clear hok hS hn
    go_enter Try.func12, Try.ntmps12
    go_wp2_with fail
    ((with_reducible refine (validWidths_s _ _ _ xs _ HN.out hm ?_).mono ?_); (exact hr.alloc' _); rintro e w1 ⟨rfl, hb⟩)
    rw [HOK.out]
    go_wp2_with fail
    ((with_reducible refine (inRange_any _ _ _ _).mono ?_); rintro e w' ⟨rfl, rfl⟩)
    rw [hw]
    go_wp2
    go_ret
    exact ⟨none, 0, rfl, ownI_none _ _, below_then (Nat.le_refl _) hb0 hb⟩
  obtain ⟨t0, t1⟩ := inR_iff.1 hw
  have HW := Lib.hid hw
  have hno : t < S → strV xs t = [] := fun h => str_no (by rw [strOk, hok, hS, show inR t S 10000 = false from inR_no.2 (by omega)]; rfl)
  have hyes : ¬ t < S → strV xs t = strL xs t := fun h => str_yes (by rw [strOk, hok, hS, show inR t S 10000 = true from inR_mk (by omega) t1]; rfl)
  have HNO := Lib.hid hno
  have HYES := Lib.hid hyes
  have hfin : ∀ e w', IntsOut w (strV xs t) e w' → IntsOut w (strV xs t) e w' := fun _ _ h => h
  clear hfin
  obtain ⟨i0, hi, hz0, hz1, hz2⟩ := info_parts int_info
  clear hok hS hn hw hno hyes
  obtain ⟨rs, hrs⟩ : ∃ rs, strV xs t = rs := ⟨_, rfl⟩
  rw [hrs]
  have HRS := Lib.hid hrs
  clear hrs
  go_enter Try.func12, Try.ntmps12
  go_wp2_with fail
  ((with_reducible refine (validWidths_s _ _ _ xs _ HN.out hm ?_).mono ?_); (exact hr.alloc' _); rintro e w1 ⟨rfl, hb1⟩)
  rw [HOK.out]
  have hr1 := Lib.hid ((hr.alloc' _).then_ hb1)
  have hE1 := Lib.hid (hE.out.then_ hb1)
  have hB1 := below_then (Nat.le_refl _) hb0 hb1
  have hz1' := hB1.size
  have hr0 := Lib.hid hr
  clear hr
  go_wp2_with fail
  ((with_reducible refine (inRange_any _ _ _ _).mono ?_); rintro e w' ⟨rfl, rfl⟩)
  rw [HW.out]
  go_wp2_with fail
  go_loopg [6, 7] n (fun k l i wr => ∃ (j : Nat) (s : Int), j ≤ n ∧ k = n - j ∧ i = .int .i64 j ∧ l = .int .i64 s ∧ Hid ((xs.take j).sum = s) ∧ Below w1.heap.size w1 wr)
  case atStart => exact ⟨0, 0, Nat.zero_le _, rfl, rfl, rfl, rfl, Below.refl _ _⟩
  case round =>
    obtain ⟨j, s, hj, hk, rfl, rfl, hs, hbel⟩ := hrel
    have HK := Lib.hid hk; clear hk
    have hsz := hbel.size
    obtain ⟨s0, s1⟩ := cols_sum HOK.out HN.out hj hs.out
    by_cases hlt : j < n
    · obtain ⟨b, off, rfl, hb, hc⟩ := hr1.out.at1 (by omega)
      have c0 : wr.cell? ⟨b, off + j, none⟩ = _ := (hbel.cell (p := ⟨b, off + j, none⟩) hb).trans (hc j hlt)
      obtain ⟨x, hx⟩ : ∃ x, xs.getD j default = x := ⟨_, rfl⟩
      simp only [inc, hx] at c0
      have Hx := Lib.hid hx; clear hx hc
      obtain ⟨x0, x1⟩ := cols_at HOK.out HN.out hlt Hx.out
      go_wp2_with fail
      go_roundg (n - (j + 1))
      case measure => have := HK.out; omega
      case rel => exact ⟨j + 1, s + x, by omega, rfl, by go_num, rfl, (by show _ = _; rw [tk_snoc' HN.out hlt Hx.out, sum_snoc, hs.out]), by (repeat' (first | (with_reducible exact Below.refl _ _) | (with_reducible assumption) | (with_reducible refine Below.alloc ?_ ?_ _) | (with_reducible refine Below.drew ?_) | (with_reducible refine below_drewN ?_ _) | (with_reducible refine Below.setCell ?_ ?_ _) | (with_reducible refine below_then ?_ ?_ (by with_reducible assumption)) | (with_reducible exact Nat.le_refl _) | go_size | (simp only [*]; done)))⟩
    · have es : s = S := by
        have := hs.out
        rw [List.take_of_length_le (by rw [HN.out]; omega)] at this
        rw [← this, HS.out]
      have hr2 := Lib.hid (hr1.out.then_ hbel)
      have hE2 := Lib.hid (hE1.out.then_ hbel)
      have hB2 := below_then (Nat.le_refl _) hB1 hbel
      have hz2' := hB2.size
      obtain ⟨wo, hwo⟩ : ∃ wo : World, wo = wr := ⟨_, rfl⟩
      subst hwo
      subst es
      by_cases htS : t < s
      · have e := HRS.out.symm.trans (HNO.out (by omega))
        have E := Lib.hid e; clear e
        go_wp2_with fail
        go_ret
        exact ⟨none, 0, by rw [E.out]; rfl, by rw [E.out]; exact ownI_none _ _, hB2⟩
      · have e := HRS.out.symm.trans (HYES.out (by omega))
        have E := Lib.hid e
        have hrl : rs.length = n := by rw [e, strL_len, HN.out]
        have HRL := Lib.hid hrl
        clear e hrl
        go_wp2_with fail
        go_loopg [5, 8, 9, 10] n (fun k o d l i wr => ∃ (j g c : Nat) (u b : Int), j ≤ n ∧ k = n - j ∧ i = .int .i64 j ∧ l = .int .i64 u ∧ d = .int .i64 b ∧ o = .slice (some ⟨g, 0, none⟩) j c ∧ Hid ((xs.take j).sum = u) ∧ Hid (bord xs t j = b) ∧ Hid (OwnI wr w.heap.size (some ⟨g, 0, none⟩) j c (rs.take j)) ∧ Below w.heap.size w wr)
        case atStart => exact ⟨0, w.heap.size, 0, 0, 0, Nat.zero_le _, rfl, rfl, rfl, rfl, rfl, rfl, bord_zero _ _, owns_nil _ _ _ _ _ _ _ hE2.out (Nat.le_refl _) (by unfold maxLen; omega) rfl, hB2⟩
        case round =>
          obtain ⟨j2, g, c, u, b, hj2, hk2, rfl, rfl, rfl, rfl, hu, hb, hown, hbel2⟩ := hrel
          have HK2 := Lib.hid hk2; clear hk2
          have hsz2 := hbel2.size
          obtain ⟨u0, u1⟩ := cols_sum HOK.out HN.out hj2 hu.out
          by_cases hlt2 : j2 < n
          · obtain ⟨bA, off, rfl, hbA, hcA⟩ := hr0.out.at1 (by omega)
            have c0 : wr.cell? ⟨bA, off + j2, none⟩ = _ := (hbel2.cell (p := ⟨bA, off + j2, none⟩) hbA).trans (hcA j2 hlt2)
            obtain ⟨x, hx⟩ : ∃ x, xs.getD j2 default = x := ⟨_, rfl⟩
            simp only [inc, hx] at c0
            have Hx := Lib.hid hx
            clear hx hcA
            obtain ⟨x0, x1⟩ := cols_at HOK.out HN.out hlt2 Hx.out
            obtain ⟨b0, b1⟩ := bord_bound HOK.out HN.out hj2 (by omega) t1 (k := j2)
            rw [hb.out] at b0 b1
            have hs' : (xs.take (j2 + 1)).sum = u + x := by rw [tk_snoc' HN.out hlt2 Hx.out, sum_snoc, hu.out]
            have HS' := Lib.hid hs'
            have e0 : 0 ≤ t := by omega
            have m1 : 0 ≤ t * ((j2 : Int) + 1) := Int.mul_nonneg e0 (by omega)
            have m2 : t * ((j2 : Int) + 1) ≤ 10000 * 8 := Int.mul_le_mul t1 (by omega) (by omega) (by omega)
            have m3 : IntKind.i64.wrap (t * ((j2 : Int) + 1)) = t * ((j2 : Int) + 1) := IntWalk.i64_in _ (by omega)
            have m4 : 0 ≤ t * ((j2 : Int) + 1) / (n : Int) := Int.ediv_nonneg m1 (by omega)
            have m5 : t * ((j2 : Int) + 1) / (n : Int) ≤ 80000 := Int.le_trans (Int.ediv_le_self _ m1) (by omega)
            have n1 : 0 ≤ t * (u + x) := Int.mul_nonneg e0 (by omega)
            have n2 : t * (u + x) ≤ 10000 * 90000 := Int.mul_le_mul t1 (by omega) (by omega) (by omega)
            have n3 : IntKind.i64.wrap (t * (u + x)) = t * (u + x) := IntWalk.i64_in _ (by omega)
            have n4 : 0 ≤ t * (u + x) / s := Int.ediv_nonneg n1 (by omega)
            have n5 : t * (u + x) / s ≤ 900000000 := Int.le_trans (Int.ediv_le_self _ n1) (by omega)
            have hat := strL_at (t := t) HN.out hlt2
            rw [← E.out, hb.out] at hat
            have hjl : (j2 : Int) < (n : Int) := by omega
            by_cases hSp : 0 < s
            · have hbn : bord xs t (j2 + 1) = t * (u + x) / s := by rw [bord, HS.out, if_pos hSp, HS'.out]
              rw [hbn] at hat
              have HAT := Lib.hid hat
              have HBN := Lib.hid hbn
              clear hs' hat hbn
              have hnx : rs.take (j2 + 1) = rs.take j2 ++ [t * (u + x) / s - b] := tk_snoc' HRL.out hlt2 HAT.out
              have HNX := Lib.hid hnx
              clear hnx
              have HO := Lib.hid (hown.out.alloc (.cells #[.int .i64 (t * (u + x) / s - b)] 3))
              have HB := Lib.hid (Blk.new wr 3 #[.int .i64 (t * (u + x) / s - b)])
              have hB3a := hbel2.alloc hsz2 (.cells #[.int .i64 (t * (u + x) / s - b)] 3)
              have hbase := hB3a.size
              go_wp2_with (at_builtin; (refine wpList_append_one _ rfl _ _ 22 rfl w.heap.size 3 i0 _ 1 8 Try.underlying22 hi hz0 hz1 hz2 rfl (by omega) (some ⟨g, 0, none⟩) j2 c (inl (rs.take j2)) rfl HO.out wr.heap.size (inl [t * (u + x) / s - b]) rfl rfl HB.out (inl_one _) (by omega) (by omega) hbase ?_); intro g4 c4 w4 hown4 hgr4; (have HO4 := Lib.hid hown4); (have hB4 := hB3a.grown hgr4 hB3a.size (fun j hj => (HO.out.lt j hj).1)); clear hown4 hgr4)
              go_roundg (n - (j2 + 1))
              case measure => have := HK2.out; omega
              case rel => exact ⟨j2 + 1, g4, c4, u + x, t * (u + x) / s, by omega, rfl, by go_num, rfl, rfl, rfl, HS'.out, HBN.out, (by show World.ownsRow _ _ _ _ _ _ _; rw [HNX.out, inl_snoc]; exact HO4.out), hB4⟩
            · have hbn : bord xs t (j2 + 1) = t * ((j2 : Int) + 1) / (n : Int) := by rw [bord, HS.out, if_neg hSp, HN.out]; rfl
              rw [hbn] at hat
              have HAT := Lib.hid hat
              have HBN := Lib.hid hbn
              clear hs' hat hbn
              have hnx : rs.take (j2 + 1) = rs.take j2 ++ [t * ((j2 : Int) + 1) / (n : Int) - b] := tk_snoc' HRL.out hlt2 HAT.out
              have HNX := Lib.hid hnx
              clear hnx
              have HO := Lib.hid (hown.out.alloc (.cells #[.int .i64 (t * ((j2 : Int) + 1) / (n : Int) - b)] 3))
              have HB := Lib.hid (Blk.new wr 3 #[.int .i64 (t * ((j2 : Int) + 1) / (n : Int) - b)])
              have hB3a := hbel2.alloc hsz2 (.cells #[.int .i64 (t * ((j2 : Int) + 1) / (n : Int) - b)] 3)
              have hbase := hB3a.size
              go_wp2_with (at_builtin; (refine wpList_append_one _ rfl _ _ 22 rfl w.heap.size 3 i0 _ 1 8 Try.underlying22 hi hz0 hz1 hz2 rfl (by omega) (some ⟨g, 0, none⟩) j2 c (inl (rs.take j2)) rfl HO.out wr.heap.size (inl [t * ((j2 : Int) + 1) / (n : Int) - b]) rfl rfl HB.out (inl_one _) (by omega) (by omega) hbase ?_); intro g4 c4 w4 hown4 hgr4; (have HO4 := Lib.hid hown4); (have hB4 := hB3a.grown hgr4 hB3a.size (fun j hj => (HO.out.lt j hj).1)); clear hown4 hgr4)
              go_roundg (n - (j2 + 1))
              case measure => have := HK2.out; omega
              case rel => exact ⟨j2 + 1, g4, c4, u + x, t * ((j2 : Int) + 1) / (n : Int), by omega, rfl, by go_num, rfl, rfl, rfl, HS'.out, HBN.out, (by show World.ownsRow _ _ _ _ _ _ _; rw [HNX.out, inl_snoc]; exact HO4.out), hB4⟩
          · have ej : j2 = n := by omega
            subst ej
            have e2 : rs.take j2 = rs := List.take_of_length_le (by rw [HRL.out]; omega)
            have hf := hown.out.eq e2
            have HF := Lib.hid hf
            clear hf e2
            go_wp2_with fail
            go_ret
            exact ⟨some ⟨g, 0, none⟩, c, by rw [HRL.out]; rfl, by rw [HRL.out]; exact HF.out, hbel2⟩
end Go.Proofs.Ytbkhimdebpllcaa
