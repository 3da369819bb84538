/- Sizes of paragraphs and CountWidows, of the program and of the reference, return what the plain functions say. Conditions: the slices read as lists. -/
import Derived.Test.YtlgbeoghjjjlmaaInts
import Derived.Test.YtlgbeoghjjjlmaaPagePlain
namespace Go.Proofs.Ytlgbeoghjjjlmaa
open Go.RowKit

def sizeOk (x : Int) : Bool := decide (1 ≤ x)
def sizesOk (l : List Int) : Bool := l.all sizeOk && decide (l.sum ≤ 40) && decide (0 < l.length)
theorem sum_pos {l : List Int} (h : l.all sizeOk = true) : (l.length : Int) ≤ l.sum := by
  induction l with
  | nil => simp
  | cons x r ih =>
    simp only [List.all_cons, Bool.and_eq_true] at h
    have := ih h.2
    have h1 : 1 ≤ x := by simpa [sizeOk] using h.1
    simp only [List.sum_cons, List.length_cons, Int.natCast_add, Int.natCast_one]
    omega
theorem sum_take_le {l : List Int} (h : l.all sizeOk = true) (k : Nat) : (l.take k).sum ≤ l.sum := by
  have e : (l.take k).sum + (l.drop k).sum = l.sum := by rw [← List.sum_append, List.take_append_drop]
  have h2 : (l.drop k).all sizeOk = true := List.all_eq_true.2 fun x hx => List.all_eq_true.1 h x (List.mem_of_mem_drop hx)
  have := sum_pos h2
  omega
theorem sizes_bad1 {xs : List Int} {n j : Nat} {x : Int} (hn : xs.length = n) (hj : j < n) (hx : xs.getD j default = x) (hv : x < 1) : sizesOk xs = false := by
  have : xs.all sizeOk = false := all_bad hn hj hx (by simp [sizeOk]; omega)
  simp [sizesOk, this]
theorem sizes_bad2 {xs : List Int} {n j : Nat} {x s : Int} (hn : xs.length = n) (hj : j < n) (hx : xs.getD j default = x) (hs : (xs.take j).sum = s) (hv : 40 < s + x) : sizesOk xs = false := by
  rcases ha : xs.all sizeOk with _ | _
  · simp [sizesOk, ha]
  · have h1 := sum_take_le ha (j + 1)
    rw [tk_snoc' hn hj hx, sum_snoc, hs] at h1
    have : decide (xs.sum ≤ 40) = false := by simp; omega
    simp [sizesOk, this]
theorem sizes_end {xs : List Int} {n j : Nat} {s : Int} (hn : xs.length = n) (hj : n ≤ j) (h : (xs.take j).all sizeOk = true) (hs : (xs.take j).sum = s) (hb : s ≤ 40) : sizesOk xs = decide (0 < n) ∧ sizesOk xs = decide (0 < s) := by
  rw [List.take_of_length_le (by omega)] at h hs
  have h1 := sum_pos h
  have h2 : decide (xs.sum ≤ 40) = true := by simp; omega
  have e : sizesOk xs = decide (0 < n) := by rw [sizesOk, h, h2, hn]; rfl
  refine ⟨e, e.trans (decide_eq_decide.2 ?_)⟩
  rw [hn, hs] at h1
  constructor
  · intro h; omega
  · intro h
    rcases Nat.eq_zero_or_pos n with h0 | h0
    · have : xs = [] := List.eq_nil_of_length_eq_zero (by omega)
      subst this
      simp at hs
      omega
    · exact h0
theorem sizes_ok {xs : List Int} (h : sizesOk xs = true) : xs.all sizeOk = true ∧ xs.sum ≤ 40 ∧ 0 < xs.length ∧ xs.length ≤ 40 := by
  simp only [sizesOk, Bool.and_eq_true, decide_eq_true_eq] at h
  have := sum_pos h.1.1
  exact ⟨h.1.1, h.1.2, h.2, by omega⟩

theorem validSizes_i (A : Option Addr) (n cap : Nat) (xs : List Int) (w : World) (hn : xs.length = n) (hm : n ≤ maxLen) (hr : Row w w.heap.size 1 A n (inc xs)) :
    Calls Try.prog 50 #[.slice A n cap] w fun e w' => e = .returned (.bool (sizesOk xs)) ∧ Below w.heap.size w w' := by
  unfold maxLen at hm
  have HN := Lib.hid hn; clear hn
  go_enter Try.func50, Try.ntmps50
  go_wp2_with fail
  go_loopg [3, 8] n (fun k t i wr => ∃ (j : Nat) (s : Int), j ≤ n ∧ k = n - j ∧ i = .int .i64 j ∧ t = .int .i64 s ∧ 0 ≤ s ∧ s ≤ 40 ∧ Hid ((xs.take j).all sizeOk = true) ∧ Hid ((xs.take j).sum = s) ∧ Below w.heap.size w wr)
  case atStart => exact ⟨0, 0, Nat.zero_le _, rfl, rfl, rfl, by omega, by omega, by simp [Hid], rfl, Below.refl _ _⟩
  case round =>
    obtain ⟨j, s, hj, hk, rfl, rfl, hs0, hs1, hall, hsum, hbel⟩ := hrel
    have HK := Lib.hid hk; clear hk
    have hsz := hbel.size
    by_cases hlt : j < n
    · obtain ⟨b, off, rfl, hb, hc⟩ := hr.at1 (by omega)
      have c0 : wr.cell? ⟨b, off + j, none⟩ = _ := (hbel.cell (p := ⟨b, off + j, none⟩) hb).trans (hc j hlt)
      obtain ⟨x, hx⟩ : ∃ x, xs.getD j default = x := ⟨_, rfl⟩
      simp only [inc, hx] at c0
      have Hx := Lib.hid hx; clear hx hc
      rcases hv : inR x 1 (40 - s) with _ | _
      · have hv' := inR_no.1 hv
        have HV := Lib.hid hv; clear hv
        go_wp2_with fail
        ((with_reducible refine (within_any _ _ _ _).mono ?_); rintro e w' ⟨rfl, rfl⟩)
        rw [HV.out]
        go_wp2_with fail
        go_ret
        refine ⟨ret_bool ?_, by (repeat' (first | (with_reducible exact Below.refl _ _) | (with_reducible assumption) | (with_reducible refine Below.alloc ?_ ?_ _) | (with_reducible refine Below.drew ?_) | (with_reducible refine below_drewN ?_ _) | (with_reducible refine Below.setCell ?_ ?_ _) | (with_reducible refine below_then ?_ ?_ (by with_reducible assumption)) | (with_reducible exact Nat.le_refl _) | go_size | (simp only [*]; done)))⟩
        rcases hv' with h | h
        · exact (sizes_bad1 HN.out hlt Hx.out h).symm
        · exact (sizes_bad2 HN.out hlt Hx.out hsum.out (by omega)).symm
      · obtain ⟨h1, h2⟩ := inR_iff.1 hv
        have HV := Lib.hid hv; clear hv
        go_wp2_with fail
        ((with_reducible refine (within_any _ _ _ _).mono ?_); rintro e w' ⟨rfl, rfl⟩)
        rw [HV.out]
        go_wp2_with fail
        go_roundg (n - (j + 1))
        case measure => have := HK.out; omega
        case rel => exact ⟨j + 1, s + x, by omega, rfl, by go_num, rfl, by omega, by omega, all_more HN.out hlt Hx.out hall.out (by simp [sizeOk, h1]), by show _ = _; rw [tk_snoc' HN.out hlt Hx.out, sum_snoc, hsum.out], by (repeat' (first | (with_reducible exact Below.refl _ _) | (with_reducible assumption) | (with_reducible refine Below.alloc ?_ ?_ _) | (with_reducible refine Below.drew ?_) | (with_reducible refine below_drewN ?_ _) | (with_reducible refine Below.setCell ?_ ?_ _) | (with_reducible refine below_then ?_ ?_ (by with_reducible assumption)) | (with_reducible exact Nat.le_refl _) | go_size | (simp only [*]; done)))⟩
    · have he := (sizes_end HN.out (show n ≤ j by omega) hall.out hsum.out hs1).1
      have HE := Lib.hid he
      clear he
      by_cases h0 : 0 < n
      · go_wp2_with fail
        go_ret
        exact ⟨ret_bool (HE.out.trans (decide_eq_true (by omega))).symm, hbel⟩
      · go_wp2_with fail
        go_ret
        exact ⟨ret_bool (HE.out.trans (decide_eq_false (by omega))).symm, hbel⟩

theorem validParts_s (A : Option Addr) (n cap : Nat) (xs : List Int) (w : World) (hn : xs.length = n) (hm : n ≤ maxLen) (hr : Row w w.heap.size 1 A n (inc xs)) :
    Calls Try.prog 48 #[.slice A n cap] w fun e w' => e = .returned (.bool (sizesOk xs)) ∧ Below w.heap.size w w' := by
  unfold maxLen at hm
  have HN := Lib.hid hn; clear hn
  go_enter Try.func48, Try.ntmps48
  go_wp2_with fail
  go_loopg [3, 4] n (fun k t i wr => ∃ (j : Nat) (s : Int), j ≤ n ∧ k = n - j ∧ i = .int .i64 j ∧ t = .int .i64 s ∧ 0 ≤ s ∧ s ≤ 40 ∧ Hid ((xs.take j).all sizeOk = true) ∧ Hid ((xs.take j).sum = s) ∧ Below w.heap.size w wr)
  case atStart => exact ⟨0, 0, Nat.zero_le _, rfl, rfl, rfl, by omega, by omega, by simp [Hid], rfl, Below.refl _ _⟩
  case round =>
    obtain ⟨j, s, hj, hk, rfl, rfl, hs0, hs1, hall, hsum, hbel⟩ := hrel
    have HK := Lib.hid hk; clear hk
    have hsz := hbel.size
    by_cases hlt : j < n
    · obtain ⟨b, off, rfl, hb, hc⟩ := hr.at1 (by omega)
      have c0 : wr.cell? ⟨b, off + j, none⟩ = _ := (hbel.cell (p := ⟨b, off + j, none⟩) hb).trans (hc j hlt)
      obtain ⟨x, hx⟩ : ∃ x, xs.getD j default = x := ⟨_, rfl⟩
      simp only [inc, hx] at c0
      have Hx := Lib.hid hx; clear hx hc
      rcases hv : inR x 1 40 with _ | _
      · have hv' := inR_no.1 hv
        have HV := Lib.hid hv; clear hv
        go_wp2_with fail
        ((with_reducible refine (inRange_any _ _ _ _).mono ?_); rintro e w' ⟨rfl, rfl⟩)
        rw [HV.out]
        go_wp2_with fail
        go_ret
        refine ⟨ret_bool ?_, by (repeat' (first | (with_reducible exact Below.refl _ _) | (with_reducible assumption) | (with_reducible refine Below.alloc ?_ ?_ _) | (with_reducible refine Below.drew ?_) | (with_reducible refine below_drewN ?_ _) | (with_reducible refine Below.setCell ?_ ?_ _) | (with_reducible refine below_then ?_ ?_ (by with_reducible assumption)) | (with_reducible exact Nat.le_refl _) | go_size | (simp only [*]; done)))⟩
        rcases hv' with h | h
        · exact (sizes_bad1 HN.out hlt Hx.out h).symm
        · exact (sizes_bad2 HN.out hlt Hx.out hsum.out (by omega)).symm
      · obtain ⟨h1, h2⟩ := inR_iff.1 hv
        have HV := Lib.hid hv; clear hv
        by_cases h3 : 40 < s + x
        · go_wp2_with fail
          ((with_reducible refine (inRange_any _ _ _ _).mono ?_); rintro e w' ⟨rfl, rfl⟩)
          rw [HV.out]
          go_wp2_with fail
          go_ret
          exact ⟨ret_bool (sizes_bad2 HN.out hlt Hx.out hsum.out h3).symm, by (repeat' (first | (with_reducible exact Below.refl _ _) | (with_reducible assumption) | (with_reducible refine Below.alloc ?_ ?_ _) | (with_reducible refine Below.drew ?_) | (with_reducible refine below_drewN ?_ _) | (with_reducible refine Below.setCell ?_ ?_ _) | (with_reducible refine below_then ?_ ?_ (by with_reducible assumption)) | (with_reducible exact Nat.le_refl _) | go_size | (simp only [*]; done)))⟩
        · go_wp2_with fail
          ((with_reducible refine (inRange_any _ _ _ _).mono ?_); rintro e w' ⟨rfl, rfl⟩)
          rw [HV.out]
          go_wp2_with fail
          go_roundg (n - (j + 1))
          case measure => have := HK.out; omega
          case rel => exact ⟨j + 1, s + x, by omega, rfl, by go_num, rfl, by omega, by omega, all_more HN.out hlt Hx.out hall.out (by simp [sizeOk, h1]), by show _ = _; rw [tk_snoc' HN.out hlt Hx.out, sum_snoc, hsum.out], by (repeat' (first | (with_reducible exact Below.refl _ _) | (with_reducible assumption) | (with_reducible refine Below.alloc ?_ ?_ _) | (with_reducible refine Below.drew ?_) | (with_reducible refine below_drewN ?_ _) | (with_reducible refine Below.setCell ?_ ?_ _) | (with_reducible refine below_then ?_ ?_ (by with_reducible assumption)) | (with_reducible exact Nat.le_refl _) | go_size | (simp only [*]; done)))⟩
    · have he := (sizes_end HN.out (show n ≤ j by omega) hall.out hsum.out hs1).2
      have HE := Lib.hid he
      clear he
      by_cases h0 : 0 < s
      · go_wp2_with fail
        go_ret
        exact ⟨ret_bool (HE.out.trans (decide_eq_true (by omega))).symm, hbel⟩
      · go_wp2_with fail
        go_ret
        exact ⟨ret_bool (HE.out.trans (decide_eq_false (by omega))).symm, hbel⟩

theorem endsAt_s (A : Option Addr) (n cap : Nat) (m : Int) (xs : List Int) (w : World) (hn : xs.length = n) (hm : n ≤ maxLen) (hr : Row w w.heap.size 1 A n (inc xs)) :
    Calls Try.prog 49 #[.slice A n cap, .int .i64 m] w fun e w' => e = .returned (.bool (has xs m)) ∧ Below w.heap.size w w' := by
  unfold maxLen at hm
  have HN := Lib.hid hn; clear hn
  go_enter Try.func49, Try.ntmps49
  go_wp2_with fail
  go_loopg [5] n (fun k i wr => ∃ j : Nat, j ≤ n ∧ k = n - j ∧ i = .int .i64 j ∧ Hid ((xs.take j).any (fun y => y == m) = false) ∧ Below w.heap.size w wr)
  case atStart => exact ⟨0, Nat.zero_le _, rfl, rfl, by simp [Hid], Below.refl _ _⟩
  case round =>
    obtain ⟨j, hj, hk, rfl, hall, hbel⟩ := hrel
    have HK := Lib.hid hk; clear hk
    have hsz := hbel.size
    by_cases hlt : j < n
    · obtain ⟨b, off, rfl, hb, hc⟩ := hr.at1 (by omega)
      have c0 : wr.cell? ⟨b, off + j, none⟩ = _ := (hbel.cell (p := ⟨b, off + j, none⟩) hb).trans (hc j hlt)
      obtain ⟨x, hx⟩ : ∃ x, xs.getD j default = x := ⟨_, rfl⟩
      simp only [inc, hx] at c0
      have Hx := Lib.hid hx; clear hx hc
      by_cases hv : x = m
      · subst hv
        go_wp2_with fail
        go_ret
        exact ⟨ret_bool (has_iff.2 (mem_of_getD HN.out hlt Hx.out)).symm, by (repeat' (first | (with_reducible exact Below.refl _ _) | (with_reducible assumption) | (with_reducible refine Below.alloc ?_ ?_ _) | (with_reducible refine Below.drew ?_) | (with_reducible refine below_drewN ?_ _) | (with_reducible refine Below.setCell ?_ ?_ _) | (with_reducible refine below_then ?_ ?_ (by with_reducible assumption)) | (with_reducible exact Nat.le_refl _) | go_size | (simp only [*]; done)))⟩
      · have hb : (x == m) = false := by simp [hv]
        have HV := Lib.hid hb
        clear hv
        go_wp2_with fail
        go_roundg (n - (j + 1))
        case measure => have := HK.out; omega
        case rel => exact ⟨j + 1, by omega, rfl, by go_num, by show _ = false; rw [tk_snoc' HN.out hlt Hx.out, List.any_append, hall.out]; simpa using HV.out, by (repeat' (first | (with_reducible exact Below.refl _ _) | (with_reducible assumption) | (with_reducible refine Below.alloc ?_ ?_ _) | (with_reducible refine Below.drew ?_) | (with_reducible refine below_drewN ?_ _) | (with_reducible refine Below.setCell ?_ ?_ _) | (with_reducible refine below_then ?_ ?_ (by with_reducible assumption)) | (with_reducible exact Nat.le_refl _) | go_size | (simp only [*]; done)))⟩
    · go_wp2_with fail
      go_ret
      exact ⟨ret_bool (by rw [has, ← hall.out, List.take_of_length_le (by rw [HN.out]; omega)]), hbel⟩

/-- slices.Index. -/
def eqP (m : Int) (e : Int) : Bool := m == e
theorem index_any (A : Option Addr) (n cap : Nat) (m : Int) (xs : List Int) (w : World) (hn : xs.length = n) (hm : n ≤ maxLen) (hr : Row w w.heap.size 1 A n (inc xs)) :
    Calls Try.prog 64 #[.slice A n cap, .int .i64 m] w fun e w' => e = .returned (.int .i64 (fidx (eqP m) xs)) ∧ Below w.heap.size w w' := by
  unfold maxLen at hm
  have HN := Lib.hid hn; clear hn
  go_enter Try.func64, Try.ntmps64
  go_wp2_with fail
  go_loopg [5, 8] n (fun k _ i wr => ∃ j : Nat, j ≤ n ∧ k = n - j ∧ i = .int .i64 j ∧ Hid (∀ i, i < j → eqP m (xs.getD i default) = false) ∧ Below w.heap.size w wr)
  case atStart => exact ⟨0, Nat.zero_le _, rfl, rfl, (fun i hi => absurd hi (Nat.not_lt_zero _)), Below.refl _ _⟩
  case round =>
    obtain ⟨j, hj, hk, rfl, hall, hbel⟩ := hrel
    have HK := Lib.hid hk; clear hk
    have hsz := hbel.size
    by_cases hlt : j < n
    · obtain ⟨b, off, rfl, hb, hc⟩ := hr.at1 (by omega)
      have c0 : wr.cell? ⟨b, off + j, none⟩ = _ := (hbel.cell (p := ⟨b, off + j, none⟩) hb).trans (hc j hlt)
      obtain ⟨x, hx⟩ : ∃ x, xs.getD j default = x := ⟨_, rfl⟩
      simp only [inc, hx] at c0
      have Hx := Lib.hid hx; clear hx hc
      by_cases hv : m = x
      · subst hv
        go_wp2_with fail
        go_ret
        exact ⟨ret_int (fidx_hit HN.out hlt Hx.out hall.out (by simp [eqP])).symm, by (repeat' (first | (with_reducible exact Below.refl _ _) | (with_reducible assumption) | (with_reducible refine Below.alloc ?_ ?_ _) | (with_reducible refine Below.drew ?_) | (with_reducible refine below_drewN ?_ _) | (with_reducible refine Below.setCell ?_ ?_ _) | (with_reducible refine below_then ?_ ?_ (by with_reducible assumption)) | (with_reducible exact Nat.le_refl _) | go_size | (simp only [*]; done)))⟩
      · have hb : (m == x) = false := by simp [hv]
        clear hv
        go_wp2_with fail
        go_roundg (n - (j + 1))
        case measure => have := HK.out; omega
        case rel => exact ⟨j + 1, by omega, rfl, by go_num, (by intro i hi; by_cases e : i = j; · { subst e; rw [Hx.out]; exact hb }; · { exact hall.out i (by omega) }), by (repeat' (first | (with_reducible exact Below.refl _ _) | (with_reducible assumption) | (with_reducible refine Below.alloc ?_ ?_ _) | (with_reducible refine Below.drew ?_) | (with_reducible refine below_drewN ?_ _) | (with_reducible refine Below.setCell ?_ ?_ _) | (with_reducible refine below_then ?_ ?_ (by with_reducible assumption)) | (with_reducible exact Nat.le_refl _) | go_size | (simp only [*]; done)))⟩
    · go_wp2_with fail
      go_ret
      exact ⟨ret_int (fidx_miss HN.out (fun i hi => hall.out i (by omega))).symm, hbel⟩
theorem fidx_has (xs : List Int) (m : Int) : has xs m = decide (0 ≤ fidx (eqP m) xs) := by
  rcases fidx_spec (eqP m) xs xs.length (Nat.le_refl _) with ⟨e, ha⟩ | ⟨q, e, hq, hp, _⟩
  · rw [List.take_length] at e
    rw [e]
    show has xs m = false
    rw [has, List.any_eq_false]
    intro x hx
    obtain ⟨i, hi, rfl⟩ := List.getElem_of_mem hx
    have := ha i hi
    rw [List.getD_eq_getElem?_getD, List.getElem?_eq_getElem hi] at this
    simp [eqP] at this ⊢
    exact fun h => this h.symm
  · rw [List.take_length] at e
    rw [e]
    rw [decide_eq_true (by omega)]
    have : m = xs.getD q default := by simpa [eqP] using hp
    rw [this]
    exact has_iff.2 (mem_of_getD rfl hq rfl)
theorem contains_any (A : Option Addr) (n cap : Nat) (m : Int) (xs : List Int) (w : World) (hn : xs.length = n) (hm : n ≤ maxLen) (hr : Row w w.heap.size 1 A n (inc xs)) :
    Calls Try.prog 51 #[.slice A n cap, .int .i64 m] w fun e w' => e = .returned (.bool (has xs m)) ∧ Below w.heap.size w w' := by
  rw [fidx_has]
  go_enter Try.func51, Try.ntmps51
  go_wp2_with fail
  ((with_reducible refine (index_any _ _ _ _ xs _ hn hm hr).mono ?_); rintro e w1 ⟨rfl, hb⟩)
  go_wp2
  all_goals (go_ret; exact ⟨ret_bool (by simp_all), hb⟩)
end Go.Proofs.Ytlgbeoghjjjlmaa
