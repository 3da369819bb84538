/- Lists of boxes: validity, the row and the stack, of the program and of the reference: they return what the plain functions say. Conditions: the slice reads as the list. -/
import Derived.Test.YtdbjjfjagalhbaaBoxWalk2
import Derived.Deep.RegionHeld3
namespace Go.Proofs.Ytdbjjfjagalhbaa
open Go.RowKit

/-- The cells of a list of boxes. -/
def bxc (xs : List Bx) (i j : Nat) : Value := match j with
  | 0 => .int .i64 (xs.getD i default).w
  | 1 => .int .i64 (xs.getD i default).h
  | _ => .int .i64 (xs.getD i default).d

theorem all_snoc {xs : List Bx} {n j : Nat} {x : Bx} (hn : xs.length = n) (hj : j < n) (hx : xs.getD j default = x) (h : (xs.take j).all Bx.ok = true) (hv : vBox x.w x.h x.d = true) : (xs.take (j + 1)).all Bx.ok = true := by
  rw [take_succ_snoc xs j (by omega), List.all_append, h, hx]
  simpa [Bx.ok] using hv
theorem boxesOk_bad {xs : List Bx} {n j : Nat} {x : Bx} (hn : xs.length = n) (hj : j < n) (hx : xs.getD j default = x) (hv : vBox x.w x.h x.d = false) : boxesOk xs = false := by
  have hm : x ∈ xs := by
    rw [← hx, List.getD_eq_getElem?_getD, List.getElem?_eq_getElem (by omega)]
    exact List.getElem_mem _
  have : xs.all Bx.ok = false := by
    rw [List.all_eq_false]
    exact ⟨x, hm, by simp [Bx.ok, hv]⟩
  simp [boxesOk, this]
theorem boxesOk_end {xs : List Bx} {n j : Nat} (hn : xs.length = n) (hj : n ≤ j) (h : (xs.take j).all Bx.ok = true) : boxesOk xs = decide ((n : Int) ≤ 20) := by
  rw [List.take_of_length_le (by omega)] at h
  rw [boxesOk, h, Bool.true_and, hn]
  exact decide_eq_decide.2 (by omega)
theorem validBoxes_i (A : Option Addr) (n cap : Nat) (xs : List Bx) (w : World) (hn : xs.length = n) (hm : n ≤ maxLen) (hr : Row w w.heap.size 3 A n (bxc xs)) :
    Calls Try.prog 45 #[.slice A n cap] w fun e w' => e = .returned (.bool (boxesOk xs)) ∧ Below w.heap.size w w' := by
  unfold maxLen at hm
  have HN := Lib.hid hn; clear hn
  go_enter Try.func45, Try.ntmps45
  go_wp2_with fail
  go_loopg [7] n (fun k i wr => ∃ j : Nat, j ≤ n ∧ k = n - j ∧ i = .int .i64 j ∧ Hid ((xs.take j).all Bx.ok = true) ∧ Below w.heap.size w wr)
  case atStart => exact ⟨0, Nat.zero_le _, rfl, rfl, by simp [Hid], Below.refl _ _⟩
  case round =>
    obtain ⟨j, hj, hk, rfl, hall, hbel⟩ := hrel
    have HK := Lib.hid hk; clear hk
    have hsz := hbel.size
    by_cases hlt : j < n
    · obtain ⟨b, off, rfl, hb, hc⟩ := hr (by omega)
      have c0 : wr.cell? ⟨b, off + j * 3, none⟩ = _ := (hbel.cell (p := ⟨b, off + j * 3, none⟩) hb).trans (hc j 0 hlt (by omega))
      have c1 : wr.cell? ⟨b, off + j * 3 + 1, none⟩ = _ := (hbel.cell (p := ⟨b, off + j * 3 + 1, none⟩) hb).trans (hc j 1 hlt (by omega))
      have c2 : wr.cell? ⟨b, off + j * 3 + 2, none⟩ = _ := (hbel.cell (p := ⟨b, off + j * 3 + 2, none⟩) hb).trans (hc j 2 hlt (by omega))
      obtain ⟨x, hx⟩ : ∃ x, xs.getD j default = x := ⟨_, rfl⟩
      simp only [bxc, hx] at c0 c1 c2
      have Hx := Lib.hid hx; clear hx hc
      rcases hv : vBox x.w x.h x.d with _ | _
      · go_wp2_with (go_at_call 17; refine (validBox_i _ _ _ _).mono ?_; rintro e w1 ⟨rfl, hb1⟩)
        go_ret
        exact ⟨ret_bool (boxesOk_bad HN.out hlt Hx.out hv).symm, by (repeat' (first | (with_reducible exact Below.refl _ _) | (with_reducible assumption) | (with_reducible refine Below.alloc ?_ ?_ _) | (with_reducible refine Below.drew ?_) | (with_reducible refine below_drewN ?_ _) | (with_reducible refine Below.setCell ?_ ?_ _) | (with_reducible refine below_then ?_ ?_ (by with_reducible assumption)) | (with_reducible exact Nat.le_refl _) | go_size | (simp only [*]; done)))⟩
      · go_wp2_with (go_at_call 17; refine (validBox_i _ _ _ _).mono ?_; rintro e w1 ⟨rfl, hb1⟩)
        go_roundg (n - (j + 1))
        case measure => have := HK.out; omega
        case rel => exact ⟨j + 1, by omega, rfl, by go_num, all_snoc HN.out hlt Hx.out hall.out hv, by (repeat' (first | (with_reducible exact Below.refl _ _) | (with_reducible assumption) | (with_reducible refine Below.alloc ?_ ?_ _) | (with_reducible refine Below.drew ?_) | (with_reducible refine below_drewN ?_ _) | (with_reducible refine Below.setCell ?_ ?_ _) | (with_reducible refine below_then ?_ ?_ (by with_reducible assumption)) | (with_reducible exact Nat.le_refl _) | go_size | (simp only [*]; done)))⟩
    · go_wp2_with fail
      go_ret
      exact ⟨ret_bool (boxesOk_end HN.out (by omega) hall.out).symm, hbel⟩
theorem validBoxes_s (A : Option Addr) (n cap : Nat) (xs : List Bx) (w : World) (hn : xs.length = n) (hm : n ≤ maxLen) (hr : Row w w.heap.size 3 A n (bxc xs)) :
    Calls Try.prog 43 #[.slice A n cap] w fun e w' => e = .returned (.bool (boxesOk xs)) ∧ Below w.heap.size w w' := by
  unfold maxLen at hm
  have HN := Lib.hid hn; clear hn
  go_enter Try.func43, Try.ntmps43
  go_wp2_with fail
  go_loopg [3] n (fun k i wr => ∃ j : Nat, j ≤ n ∧ k = n - j ∧ i = .int .i64 j ∧ Hid ((xs.take j).all Bx.ok = true) ∧ Below w.heap.size w wr)
  case atStart => exact ⟨0, Nat.zero_le _, rfl, rfl, by simp [Hid], Below.refl _ _⟩
  case round =>
    obtain ⟨j, hj, hk, rfl, hall, hbel⟩ := hrel
    have HK := Lib.hid hk; clear hk
    have hsz := hbel.size
    by_cases hlt : j < n
    · obtain ⟨b, off, rfl, hb, hc⟩ := hr (by omega)
      have c0 : wr.cell? ⟨b, off + j * 3, none⟩ = _ := (hbel.cell (p := ⟨b, off + j * 3, none⟩) hb).trans (hc j 0 hlt (by omega))
      have c1 : wr.cell? ⟨b, off + j * 3 + 1, none⟩ = _ := (hbel.cell (p := ⟨b, off + j * 3 + 1, none⟩) hb).trans (hc j 1 hlt (by omega))
      have c2 : wr.cell? ⟨b, off + j * 3 + 2, none⟩ = _ := (hbel.cell (p := ⟨b, off + j * 3 + 2, none⟩) hb).trans (hc j 2 hlt (by omega))
      obtain ⟨x, hx⟩ : ∃ x, xs.getD j default = x := ⟨_, rfl⟩
      simp only [bxc, hx] at c0 c1 c2
      have Hx := Lib.hid hx; clear hx hc
      rcases hv : vBox x.w x.h x.d with _ | _
      · go_wp2_with (go_at_call 34; refine (validBox_s _ _ _ _).mono ?_; rintro e w1 ⟨rfl, hb1⟩)
        go_ret
        exact ⟨ret_bool (boxesOk_bad HN.out hlt Hx.out hv).symm, by (repeat' (first | (with_reducible exact Below.refl _ _) | (with_reducible assumption) | (with_reducible refine Below.alloc ?_ ?_ _) | (with_reducible refine Below.drew ?_) | (with_reducible refine below_drewN ?_ _) | (with_reducible refine Below.setCell ?_ ?_ _) | (with_reducible refine below_then ?_ ?_ (by with_reducible assumption)) | (with_reducible exact Nat.le_refl _) | go_size | (simp only [*]; done)))⟩
      · go_wp2_with (go_at_call 34; refine (validBox_s _ _ _ _).mono ?_; rintro e w1 ⟨rfl, hb1⟩)
        go_roundg (n - (j + 1))
        case measure => have := HK.out; omega
        case rel => exact ⟨j + 1, by omega, rfl, by go_num, all_snoc HN.out hlt Hx.out hall.out hv, by (repeat' (first | (with_reducible exact Below.refl _ _) | (with_reducible assumption) | (with_reducible refine Below.alloc ?_ ?_ _) | (with_reducible refine Below.drew ?_) | (with_reducible refine below_drewN ?_ _) | (with_reducible refine Below.setCell ?_ ?_ _) | (with_reducible refine below_then ?_ ?_ (by with_reducible assumption)) | (with_reducible exact Nat.le_refl _) | go_size | (simp only [*]; done)))⟩
    · go_wp2_with fail
      go_ret
      exact ⟨ret_bool (boxesOk_end HN.out (by omega) hall.out).symm, hbel⟩

theorem row_i (A : Option Addr) (n cap : Nat) (xs : List Bx) (w : World) (hn : xs.length = n) (hm : n ≤ maxLen) (hr : Row w w.heap.size 3 A n (bxc xs)) (hv : boxesOk xs = true) :
    Calls Try.prog 46 #[.slice A n cap] w fun e w' => e = .returned (.agg #[.int .i64 ((rowF xs)).w, .int .i64 ((rowF xs)).h, .int .i64 ((rowF xs)).d]) ∧ Below w.heap.size w w' := by
  unfold maxLen at hm
  have HN := Lib.hid hn; clear hn
  have HV := Lib.hid hv; clear hv
  go_enter Try.func46, Try.ntmps46
  go_wp2_with fail
  go_loopg [8] n (fun k i wr => ∃ (j : Nat) (a : Bx), j ≤ n ∧ k = n - j ∧ i = .int .i64 j ∧ Hid (rowF (xs.take j) = a) ∧ Hid (Blk wr w.heap.size 25 #[.int .i64 0, .int .i64 0, .int .i64 0]) ∧ Hid (Blk wr (w.heap.size + 1) 25 #[.int .i64 a.w, .int .i64 a.h, .int .i64 a.d]) ∧ Below w.heap.size w wr)
  case atStart => exact ⟨0, ⟨0, 0, 0⟩, Nat.zero_le _, rfl, rfl, rfl, (Blk.new _ _ _).alloc _, Blk.new_at _ _ _ _ (by simp), by (repeat' (first | (with_reducible exact Below.refl _ _) | (with_reducible assumption) | (with_reducible refine Below.alloc ?_ ?_ _) | (with_reducible refine Below.drew ?_) | (with_reducible refine below_drewN ?_ _) | (with_reducible refine Below.setCell ?_ ?_ _) | (with_reducible refine below_then ?_ ?_ (by with_reducible assumption)) | (with_reducible exact Nat.le_refl _) | go_size | (simp only [*]; done)))⟩
  case round =>
    obtain ⟨j, a, hj, hk, rfl, ha, hb0, hb1, hbel⟩ := hrel
    have HK := Lib.hid hk; clear hk
    have hsz := hbel.size
    obtain ⟨⟨g1, g2⟩, ⟨g3, g4⟩, g5, g6⟩ := rowF_bound HV.out j (by rw [HN.out]; exact hj) ha.out
    have hn20 : n ≤ 20 := by have := (boxesOk_iff.1 HV.out).2; rw [HN.out] at this; exact this
    have rlt := hb0.out.lt
    have rc0 := hb0.out.cell 0; have rf0 := hb0.out.frozen 0
    have rc1 := hb0.out.cell 1; have rf1 := hb0.out.frozen 1
    have rc2 := hb0.out.cell 2; have rf2 := hb0.out.frozen 2
    simp only [List.getElem?_toArray, List.getElem?_cons_zero, List.getElem?_cons_succ] at rc0 rc1 rc2
    have olt := hb1.out.lt
    have oc0 := hb1.out.cell 0; have of0 := hb1.out.frozen 0
    have oc1 := hb1.out.cell 1; have of1 := hb1.out.frozen 1
    have oc2 := hb1.out.cell 2; have of2 := hb1.out.frozen 2
    simp only [List.getElem?_toArray, List.getElem?_cons_zero, List.getElem?_cons_succ] at oc0 oc1 oc2
    by_cases hlt : j < n
    · obtain ⟨b, off, rfl, hb, hc⟩ := hr (by omega)
      have c0 : wr.cell? ⟨b, off + j * 3, none⟩ = _ := (hbel.cell (p := ⟨b, off + j * 3, none⟩) hb).trans (hc j 0 hlt (by omega))
      have c1 : wr.cell? ⟨b, off + j * 3 + 1, none⟩ = _ := (hbel.cell (p := ⟨b, off + j * 3 + 1, none⟩) hb).trans (hc j 1 hlt (by omega))
      have c2 : wr.cell? ⟨b, off + j * 3 + 2, none⟩ = _ := (hbel.cell (p := ⟨b, off + j * 3 + 2, none⟩) hb).trans (hc j 2 hlt (by omega))
      obtain ⟨x, hx⟩ : ∃ x, xs.getD j default = x := ⟨_, rfl⟩
      simp only [bxc, hx] at c0 c1 c2
      have Hx := Lib.hid hx; clear hx hc
      obtain ⟨⟨g7, g8⟩, ⟨g9, g10⟩, g11, g12⟩ := boxesOk_at HV.out (k := j) (by rw [HN.out]; exact hlt) Hx.out
      go_wp2_with fail
      all_goals
        go_roundg (n - (j + 1))
        case measure => have := HK.out; omega
        case rel =>
          refine ⟨j + 1, rowStep a x, by omega, rfl, by go_num, (rowF_snoc xs j (by rw [HN.out]; exact hlt)).trans (by rw [ha.out, Hx.out]), ?_, ?_, by (repeat' (first | (with_reducible exact Below.refl _ _) | (with_reducible assumption) | (with_reducible refine Below.alloc ?_ ?_ _) | (with_reducible refine Below.drew ?_) | (with_reducible refine below_drewN ?_ _) | (with_reducible refine Below.setCell ?_ ?_ _) | (with_reducible refine below_then ?_ ?_ (by with_reducible assumption)) | (with_reducible exact Nat.le_refl _) | go_size | (simp only [*]; done)))⟩
          · ((show Blk _ _ _ _); repeat' (first | (with_reducible exact hb0.out) | (with_reducible refine Blk.alloc ?_ _) | (with_reducible refine Blk.drew ?_) | (with_reducible refine Blk.drewN ?_ _) | (with_reducible refine Blk.far ?_ ?_ _) | (with_reducible refine Blk.then_ ?_ (by with_reducible assumption)) | (simp; done) | (simp; omega) | omega))
          · ((show Blk _ _ _ _); apply Blk.eq; (case h => (repeat' (first | (with_reducible exact hb1.out) | (with_reducible apply Blk.alloc) | (with_reducible apply Blk.drew) | (with_reducible apply Blk.drewN) | (with_reducible apply Blk.set_) | (with_reducible apply Blk.far) | (with_reducible apply Blk.then_; rotate_left; with_reducible assumption) | (simp; done) | (simp; omega) | omega))); (case e => (first | (simp [rowStep]; done) | (simp [rowStep]; omega))))
    · go_wp2_with fail
      (first | go_returns | (refine bodyPost_ret (by simp [results, Try.results46, go_sem, *]; try rfl) rfl ?_))
      have ej : j = n := by omega
      subst ej
      have e : rowF xs = a := by rw [← ha.out, List.take_of_length_le (by rw [HN.out]; omega)]
      rw [e]
      exact ⟨rfl, by (repeat' (first | (with_reducible exact Below.refl _ _) | (with_reducible assumption) | (with_reducible refine Below.alloc ?_ ?_ _) | (with_reducible refine Below.drew ?_) | (with_reducible refine below_drewN ?_ _) | (with_reducible refine Below.setCell ?_ ?_ _) | (with_reducible refine below_then ?_ ?_ (by with_reducible assumption)) | (with_reducible exact Nat.le_refl _) | go_size | (simp only [*]; done)))⟩

theorem row_s (A : Option Addr) (n cap : Nat) (xs : List Bx) (w : World) (hn : xs.length = n) (hm : n ≤ maxLen) (hr : Row w w.heap.size 3 A n (bxc xs)) (hv : boxesOk xs = true) :
    Calls Try.prog 44 #[.slice A n cap] w fun e w' => e = .returned (.agg #[.int .i64 ((rowF xs)).w, .int .i64 ((rowF xs)).h, .int .i64 ((rowF xs)).d]) ∧ Below w.heap.size w w' := by
  unfold maxLen at hm
  have HN := Lib.hid hn; clear hn
  have HV := Lib.hid hv; clear hv
  go_enter Try.func44, Try.ntmps44
  go_wp2_with fail
  go_loopg [4] n (fun k i wr => ∃ (j : Nat) (a : Bx), j ≤ n ∧ k = n - j ∧ i = .int .i64 j ∧ Hid (rowF (xs.take j) = a) ∧ Hid (Blk wr w.heap.size 25 #[.int .i64 0, .int .i64 0, .int .i64 0]) ∧ Hid (Blk wr (w.heap.size + 1) 25 #[.int .i64 a.w, .int .i64 a.h, .int .i64 a.d]) ∧ Below w.heap.size w wr)
  case atStart => exact ⟨0, ⟨0, 0, 0⟩, Nat.zero_le _, rfl, rfl, rfl, (Blk.new _ _ _).alloc _, Blk.new_at _ _ _ _ (by simp), by (repeat' (first | (with_reducible exact Below.refl _ _) | (with_reducible assumption) | (with_reducible refine Below.alloc ?_ ?_ _) | (with_reducible refine Below.drew ?_) | (with_reducible refine below_drewN ?_ _) | (with_reducible refine Below.setCell ?_ ?_ _) | (with_reducible refine below_then ?_ ?_ (by with_reducible assumption)) | (with_reducible exact Nat.le_refl _) | go_size | (simp only [*]; done)))⟩
  case round =>
    obtain ⟨j, a, hj, hk, rfl, ha, hb0, hb1, hbel⟩ := hrel
    have HK := Lib.hid hk; clear hk
    have hsz := hbel.size
    obtain ⟨⟨g1, g2⟩, ⟨g3, g4⟩, g5, g6⟩ := rowF_bound HV.out j (by rw [HN.out]; exact hj) ha.out
    have hn20 : n ≤ 20 := by have := (boxesOk_iff.1 HV.out).2; rw [HN.out] at this; exact this
    have rlt := hb0.out.lt
    have rc0 := hb0.out.cell 0; have rf0 := hb0.out.frozen 0
    have rc1 := hb0.out.cell 1; have rf1 := hb0.out.frozen 1
    have rc2 := hb0.out.cell 2; have rf2 := hb0.out.frozen 2
    simp only [List.getElem?_toArray, List.getElem?_cons_zero, List.getElem?_cons_succ] at rc0 rc1 rc2
    have olt := hb1.out.lt
    have oc0 := hb1.out.cell 0; have of0 := hb1.out.frozen 0
    have oc1 := hb1.out.cell 1; have of1 := hb1.out.frozen 1
    have oc2 := hb1.out.cell 2; have of2 := hb1.out.frozen 2
    simp only [List.getElem?_toArray, List.getElem?_cons_zero, List.getElem?_cons_succ] at oc0 oc1 oc2
    by_cases hlt : j < n
    · obtain ⟨b, off, rfl, hb, hc⟩ := hr (by omega)
      have c0 : wr.cell? ⟨b, off + j * 3, none⟩ = _ := (hbel.cell (p := ⟨b, off + j * 3, none⟩) hb).trans (hc j 0 hlt (by omega))
      have c1 : wr.cell? ⟨b, off + j * 3 + 1, none⟩ = _ := (hbel.cell (p := ⟨b, off + j * 3 + 1, none⟩) hb).trans (hc j 1 hlt (by omega))
      have c2 : wr.cell? ⟨b, off + j * 3 + 2, none⟩ = _ := (hbel.cell (p := ⟨b, off + j * 3 + 2, none⟩) hb).trans (hc j 2 hlt (by omega))
      obtain ⟨x, hx⟩ : ∃ x, xs.getD j default = x := ⟨_, rfl⟩
      simp only [bxc, hx] at c0 c1 c2
      have Hx := Lib.hid hx; clear hx hc
      obtain ⟨⟨g7, g8⟩, ⟨g9, g10⟩, g11, g12⟩ := boxesOk_at HV.out (k := j) (by rw [HN.out]; exact hlt) Hx.out
      go_wp2_with fail
      go_region
      all_goals go_wp2_with fail
      all_goals go_region
      all_goals go_wp2_with fail
      all_goals go_region
      all_goals go_wp2_with fail
      all_goals
        go_roundg (n - (j + 1))
        case measure => have := HK.out; omega
        case rel =>
          refine ⟨j + 1, rowStep a x, by omega, rfl, by go_num, (rowF_snoc xs j (by rw [HN.out]; exact hlt)).trans (by rw [ha.out, Hx.out]), ?_, ?_, by (repeat' (first | (with_reducible exact Below.refl _ _) | (with_reducible assumption) | (with_reducible refine Below.alloc ?_ ?_ _) | (with_reducible refine Below.drew ?_) | (with_reducible refine below_drewN ?_ _) | (with_reducible refine Below.setCell ?_ ?_ _) | (with_reducible refine below_then ?_ ?_ (by with_reducible assumption)) | (with_reducible exact Nat.le_refl _) | go_size | (simp only [*]; done)))⟩
          · ((show Blk _ _ _ _); repeat' (first | (with_reducible exact hb0.out) | (with_reducible refine Blk.alloc ?_ _) | (with_reducible refine Blk.drew ?_) | (with_reducible refine Blk.drewN ?_ _) | (with_reducible refine Blk.far ?_ ?_ _) | (with_reducible refine Blk.then_ ?_ (by with_reducible assumption)) | (simp; done) | (simp; omega) | omega))
          · ((show Blk _ _ _ _); apply Blk.eq; (case h => (repeat' (first | (with_reducible exact hb1.out) | (with_reducible apply Blk.alloc) | (with_reducible apply Blk.drew) | (with_reducible apply Blk.drewN) | (with_reducible apply Blk.set_) | (with_reducible apply Blk.far) | (with_reducible apply Blk.then_; rotate_left; with_reducible assumption) | (simp; done) | (simp; omega) | omega))); (case e => (first | (simp [rowStep]; done) | (simp [rowStep]; omega))))
    · go_wp2_with fail
      (first | go_returns | (refine bodyPost_ret (by simp [results, Try.results44, go_sem, *]; try rfl) rfl ?_))
      have ej : j = n := by omega
      subst ej
      have e : rowF xs = a := by rw [← ha.out, List.take_of_length_le (by rw [HN.out]; omega)]
      rw [e]
      exact ⟨rfl, by (repeat' (first | (with_reducible exact Below.refl _ _) | (with_reducible assumption) | (with_reducible refine Below.alloc ?_ ?_ _) | (with_reducible refine Below.drew ?_) | (with_reducible refine below_drewN ?_ _) | (with_reducible refine Below.setCell ?_ ?_ _) | (with_reducible refine below_then ?_ ?_ (by with_reducible assumption)) | (with_reducible exact Nat.le_refl _) | go_size | (simp only [*]; done)))⟩

theorem rowBox_i (A : Option Addr) (n cap : Nat) (xs : List Bx) (w : World) (hn : xs.length = n) (hm : n ≤ maxLen) (hr : Row w w.heap.size 3 A n (bxc xs)) :
    Calls Try.prog 28 #[.slice A n cap] w fun e w' => e = .returned (.tuple #[.agg #[.int .i64 ((rowB xs).1).w, .int .i64 ((rowB xs).1).h, .int .i64 ((rowB xs).1).d], .bool (rowB xs).2]) ∧ Below w.heap.size w w' := by
  rcases hv : boxesOk xs with _ | _
  · have hx : rowB xs = (⟨0, 0, 0⟩, false) := by simp only [rowB, hv]; rfl
    rw [hx]; clear hx
    have HN := Lib.hid hn; clear hn
    go_enter Try.func28, Try.ntmps28
    go_wp2_with (go_at_call 45; refine (validBoxes_i _ _ _ xs _ HN.out hm (hr.alloc' _)).mono ?_; rintro e w1 ⟨rfl, hb⟩; (have hz := hb.size; (try simp at hz); obtain ⟨hc, hf⟩ := bcell hb; (try have hzw0 : w.heap.size < w1.heap.size := by omega); (try have hzw1 : w.heap.size + 1 < w1.heap.size := by omega); (try have hzw2 : w.heap.size + 2 < w1.heap.size := by omega); (try have hzw3 : w.heap.size + 3 < w1.heap.size := by omega)))
    (first | go_returns | (refine bodyPost_ret (by simp [results, Try.results28, go_sem, *]; try rfl) rfl ?_))
    exact ⟨rfl, by (repeat' (first | (with_reducible exact Below.refl _ _) | (with_reducible assumption) | (with_reducible refine Below.alloc ?_ ?_ _) | (with_reducible refine Below.drew ?_) | (with_reducible refine below_drewN ?_ _) | (with_reducible refine Below.setCell ?_ ?_ _) | (with_reducible refine below_then ?_ ?_ (by with_reducible assumption)) | (with_reducible exact Nat.le_refl _) | go_size | (simp only [*]; done)))⟩
  · have hx : rowB xs = chk (rowF xs) := by simp only [rowB, hv]; rfl
    rw [hx]; clear hx
    have HV := Lib.hid hv
    have HN := Lib.hid hn; clear hn
    go_enter Try.func28, Try.ntmps28
    go_wp2_with fail
    ((with_reducible refine (validBoxes_i _ _ _ xs _ HN.out hm ?_).mono ?_); (exact hr.alloc' _); rintro e w1 ⟨rfl, hb⟩)
    (have hz := hb.size; (try simp at hz); obtain ⟨hc, hf⟩ := bcell hb; (try have hzw0 : w.heap.size < w1.heap.size := by omega); (try have hzw1 : w.heap.size + 1 < w1.heap.size := by omega); (try have hzw2 : w.heap.size + 2 < w1.heap.size := by omega); (try have hzw3 : w.heap.size + 3 < w1.heap.size := by omega))
    have hr1 := Lib.hid ((hr.alloc' _).then_ hb)
    clear hr
    rw [HV.out]
    go_wp2_with fail
    ((with_reducible refine (row_i _ _ _ xs _ HN.out hm ?_ HV.out).mono ?_); (exact hr1.out); rintro e w2 ⟨rfl, hb2⟩)
    have hz_w_0_w2 : w.heap.size < w2.heap.size := by have := hb2.size; omega
    obtain ⟨hc2, hf2⟩ := bcell hb2
    go_wp2_with fail
    ((with_reducible refine (checked_i _ _ _ _).mono ?_); rintro e w3 ⟨rfl, hb3⟩)
    have hz_w_0_w3 : w.heap.size < w3.heap.size := by have := hb3.size; omega
    obtain ⟨hc3, hf3⟩ := bcell hb3
    go_wp2
    (first | go_returns | (refine bodyPost_ret (by simp [results, Try.results28, go_sem, *]; try rfl) rfl ?_))
    exact ⟨rfl, by (repeat' (first | (with_reducible exact Below.refl _ _) | (with_reducible assumption) | (with_reducible refine Below.alloc ?_ ?_ _) | (with_reducible refine Below.drew ?_) | (with_reducible refine below_drewN ?_ _) | (with_reducible refine Below.setCell ?_ ?_ _) | (with_reducible refine below_then ?_ ?_ (by with_reducible assumption)) | (with_reducible exact Nat.le_refl _) | go_size | (simp only [*]; done)))⟩

theorem rowBox_s (A : Option Addr) (n cap : Nat) (xs : List Bx) (w : World) (hn : xs.length = n) (hm : n ≤ maxLen) (hr : Row w w.heap.size 3 A n (bxc xs)) :
    Calls Try.prog 26 #[.slice A n cap] w fun e w' => e = .returned (.tuple #[.agg #[.int .i64 ((rowB xs).1).w, .int .i64 ((rowB xs).1).h, .int .i64 ((rowB xs).1).d], .bool (rowB xs).2]) ∧ Below w.heap.size w w' := by
  rcases hv : boxesOk xs with _ | _
  · have hx : rowB xs = (⟨0, 0, 0⟩, false) := by simp only [rowB, hv]; rfl
    rw [hx]; clear hx
    have HN := Lib.hid hn; clear hn
    go_enter Try.func26, Try.ntmps26
    go_wp2_with (go_at_call 43; refine (validBoxes_s _ _ _ xs _ HN.out hm (hr.alloc' _)).mono ?_; rintro e w1 ⟨rfl, hb⟩; (have hz := hb.size; (try simp at hz); obtain ⟨hc, hf⟩ := bcell hb; (try have hzw0 : w.heap.size < w1.heap.size := by omega); (try have hzw1 : w.heap.size + 1 < w1.heap.size := by omega); (try have hzw2 : w.heap.size + 2 < w1.heap.size := by omega); (try have hzw3 : w.heap.size + 3 < w1.heap.size := by omega)))
    (first | go_returns | (refine bodyPost_ret (by simp [results, Try.results26, go_sem, *]; try rfl) rfl ?_))
    exact ⟨rfl, by (repeat' (first | (with_reducible exact Below.refl _ _) | (with_reducible assumption) | (with_reducible refine Below.alloc ?_ ?_ _) | (with_reducible refine Below.drew ?_) | (with_reducible refine below_drewN ?_ _) | (with_reducible refine Below.setCell ?_ ?_ _) | (with_reducible refine below_then ?_ ?_ (by with_reducible assumption)) | (with_reducible exact Nat.le_refl _) | go_size | (simp only [*]; done)))⟩
  · have hx : rowB xs = chk (rowF xs) := by simp only [rowB, hv]; rfl
    rw [hx]; clear hx
    have HV := Lib.hid hv
    have HN := Lib.hid hn; clear hn
    go_enter Try.func26, Try.ntmps26
    go_wp2_with fail
    ((with_reducible refine (validBoxes_s _ _ _ xs _ HN.out hm ?_).mono ?_); (exact hr.alloc' _); rintro e w1 ⟨rfl, hb⟩)
    (have hz := hb.size; (try simp at hz); obtain ⟨hc, hf⟩ := bcell hb; (try have hzw0 : w.heap.size < w1.heap.size := by omega); (try have hzw1 : w.heap.size + 1 < w1.heap.size := by omega); (try have hzw2 : w.heap.size + 2 < w1.heap.size := by omega); (try have hzw3 : w.heap.size + 3 < w1.heap.size := by omega))
    have hr1 := Lib.hid ((hr.alloc' _).then_ hb)
    clear hr
    rw [HV.out]
    go_wp2_with fail
    ((with_reducible refine (row_s _ _ _ xs _ HN.out hm ?_ HV.out).mono ?_); (exact hr1.out); rintro e w2 ⟨rfl, hb2⟩)
    have hz_w_0_w2 : w.heap.size < w2.heap.size := by have := hb2.size; omega
    obtain ⟨hc2, hf2⟩ := bcell hb2
    go_wp2_with fail
    ((with_reducible refine (checked_s _ _ _ _).mono ?_); rintro e w3 ⟨rfl, hb3⟩)
    have hz_w_0_w3 : w.heap.size < w3.heap.size := by have := hb3.size; omega
    obtain ⟨hc3, hf3⟩ := bcell hb3
    go_wp2
    (first | go_returns | (refine bodyPost_ret (by simp [results, Try.results26, go_sem, *]; try rfl) rfl ?_))
    exact ⟨rfl, by (repeat' (first | (with_reducible exact Below.refl _ _) | (with_reducible assumption) | (with_reducible refine Below.alloc ?_ ?_ _) | (with_reducible refine Below.drew ?_) | (with_reducible refine below_drewN ?_ _) | (with_reducible refine Below.setCell ?_ ?_ _) | (with_reducible refine below_then ?_ ?_ (by with_reducible assumption)) | (with_reducible exact Nat.le_refl _) | go_size | (simp only [*]; done)))⟩
end Go.Proofs.Ytdbjjfjagalhbaa
