/- PageOf, of the program and of the reference, returns what the plain function says. Conditions: the slice reads as the list. -/
import Derived.Test.YtlgbeoghjjjlmaaInts
import Derived.Test.YtlgbeoghjjjlmaaPagePlain
import Derived.Shelf.Abstract
import Derived.Deep.QuietTactic
import Derived.BigQuiet
namespace Go.Proofs.Ytlgbeoghjjjlmaa
open Go.RowKit

theorem indexFunc_any (g B : Nat) (p : Int → Bool) (A : Option Addr) (n cap : Nat) (xs : List Int) (w : World) (eg : ∀ args w, (callFunc g args).run Try.prog w = .ok (.enter g args) w)
    (hcall : ∀ (x : Int) (W : World), Below w.heap.size w W → Calls Try.prog g #[.int .i64 x, .pointer (some ⟨B, 0, none⟩)] W fun e W' => e = .returned (.bool (p x)) ∧ Below W.heap.size W W')
    (hn : xs.length = n) (hm : n ≤ maxLen) (hr : Row w w.heap.size 1 A n (inc xs)) :
    Calls Try.prog 43 #[.slice A n cap, .func (.func g) #[] #[.pointer (some ⟨B, 0, none⟩)]] w fun e w' => e = .returned (.int .i64 (fidx p xs)) ∧ Below w.heap.size w w' := by
  unfold maxLen at hm
  have HN := Lib.hid hn; clear hn
  go_enter Try.func43, Try.ntmps43
  go_wp2_with fail
  go_loopg [5, 8] n (fun k _ i wr => ∃ j : Nat, j ≤ n ∧ k = n - j ∧ i = .int .i64 j ∧ Hid (∀ i, i < j → p (xs.getD i default) = false) ∧ Below w.heap.size w wr)
  case atStart => exact ⟨0, Nat.zero_le _, rfl, rfl, (fun i hi => absurd hi (Nat.not_lt_zero _)), Below.refl _ _⟩
  case round =>
    obtain ⟨j, hj, hk, rfl, hall, hbel⟩ := hrel
    have HK := Lib.hid hk; clear hk
    have hsz := hbel.size
    by_cases hlt : j < n
    · obtain ⟨b, off, rfl, hb, hc⟩ := hr.at1 (by omega)
      have c0 : wr.cell? ⟨b, off + j, none⟩ = _ := (hbel.cell (p := ⟨b, off + j, none⟩) hb).trans (hc j hlt)
      obtain ⟨x, hx⟩ : ∃ x, xs.getD j default = x := ⟨_, rfl⟩
      simp only [inc, hx] at c0
      have Hx := Lib.hid hx; clear hx hc
      have hcx := hcall x
      rcases hv : p x with _ | _
      · rw [hv] at hcx
        have HV := Lib.hid hv; clear hv
        go_wp2_with (go_at_fn g; refine (hcx _ (by first | exact hbel | exact hbel.drew)).mono ?_; rintro e w1 ⟨rfl, hb1⟩)
        go_roundg (n - (j + 1))
        case measure => have := HK.out; omega
        case rel => exact ⟨j + 1, by omega, rfl, by go_num, (by intro i hi; by_cases e : i = j; · { subst e; rw [Hx.out]; exact HV.out }; · { exact hall.out i (by omega) }), by (repeat' (first | (with_reducible exact Below.refl _ _) | (with_reducible assumption) | (with_reducible refine Below.alloc ?_ ?_ _) | (with_reducible refine Below.drew ?_) | (with_reducible refine below_drewN ?_ _) | (with_reducible refine Below.setCell ?_ ?_ _) | (with_reducible refine below_then ?_ ?_ (by with_reducible assumption)) | (with_reducible exact Nat.le_refl _) | go_size | (simp only [*]; done)))⟩
      · rw [hv] at hcx
        have HV := Lib.hid hv; clear hv
        go_wp2_with (go_at_fn g; refine (hcx _ (by first | exact hbel | exact hbel.drew)).mono ?_; rintro e w1 ⟨rfl, hb1⟩)
        go_ret
        exact ⟨ret_int (fidx_hit HN.out hlt Hx.out hall.out HV.out).symm, by (repeat' (first | (with_reducible exact Below.refl _ _) | (with_reducible assumption) | (with_reducible refine Below.alloc ?_ ?_ _) | (with_reducible refine Below.drew ?_) | (with_reducible refine below_drewN ?_ _) | (with_reducible refine Below.setCell ?_ ?_ _) | (with_reducible refine below_then ?_ ?_ (by with_reducible assumption)) | (with_reducible exact Nat.le_refl _) | go_size | (simp only [*]; done)))⟩
    · go_wp2_with fail
      go_ret
      exact ⟨ret_int (fidx_miss HN.out (fun i hi => hall.out i (by omega))).symm, hbel⟩

theorem pageOf1_any (x line : Int) (B : Nat) (w : World) (hc : w.cell? ⟨B, 0, none⟩ = some (.int .i64 line)) :
    Calls Try.prog 44 #[.int .i64 x, .pointer (some ⟨B, 0, none⟩)] w fun e w' => e = .returned (.bool (gtP line x)) ∧ Below w.heap.size w w' := by
  by_cases h : line < x
  · rw [show gtP line x = true by simp [gtP, h]]
    go_enter Try.func44, Try.ntmps44
    go_wp2
    go_ret
    exact ⟨rfl, by (repeat' (first | (with_reducible exact Below.refl _ _) | (with_reducible assumption) | (with_reducible refine Below.alloc ?_ ?_ _) | (with_reducible refine Below.drew ?_) | (with_reducible refine below_drewN ?_ _) | (with_reducible refine Below.setCell ?_ ?_ _) | (with_reducible refine below_then ?_ ?_ (by with_reducible assumption)) | (with_reducible exact Nat.le_refl _) | go_size | (simp only [*]; done)))⟩
  · rw [show gtP line x = false by simp [gtP, h]]
    go_enter Try.func44, Try.ntmps44
    go_wp2
    go_ret
    exact ⟨rfl, by (repeat' (first | (with_reducible exact Below.refl _ _) | (with_reducible assumption) | (with_reducible refine Below.alloc ?_ ?_ _) | (with_reducible refine Below.drew ?_) | (with_reducible refine below_drewN ?_ _) | (with_reducible refine Below.setCell ?_ ?_ _) | (with_reducible refine below_then ?_ ?_ (by with_reducible assumption)) | (with_reducible exact Nat.le_refl _) | go_size | (simp only [*]; done)))⟩

theorem pageOf_i (A : Option Addr) (n cap : Nat) (line : Int) (xs : List Int) (w : World) (hn : xs.length = n) (hm : n ≤ maxLen) (hr : Row w w.heap.size 1 A n (inc xs)) (hxb : ∀ x ∈ xs, -9223372036854775808 ≤ x ∧ x ≤ 9223372036854775807) :
    Calls Try.prog 15 #[.slice A n cap, .int .i64 line] w fun e w' => e = .returned (.int .i64 (pageOf xs line)) ∧ Below w.heap.size w w' := by
  have hm' := hm
  unfold maxLen at hm'
  have eg : ∀ args w, (callFunc 44 args).run Try.prog w = .ok (.enter 44 args) w := enters_of Try.func44 (by kernel_rfl) rfl
  have HN := Lib.hid hn; clear hn
  have HXB := Lib.hid hxb; clear hxb
  go_enter Try.func15, Try.ntmps15
  go_wp2_with fail
  go_loopg [5, 10] n (fun k s i wr => ∃ (j : Nat) (l : Int), j ≤ n ∧ k = n - j ∧ i = .int .i64 j ∧ s = .int .i64 l ∧ Hid (ascF (xs.take j) = some l) ∧ Hid (Blk wr w.heap.size 3 #[.int .i64 line]) ∧ Below w.heap.size w wr)
  case atStart => exact ⟨0, 0, Nat.zero_le _, rfl, rfl, rfl, ascF_zero xs, Blk.new _ _ _, by (repeat' (first | (with_reducible exact Below.refl _ _) | (with_reducible assumption) | (with_reducible refine Below.alloc ?_ ?_ _) | (with_reducible refine Below.drew ?_) | (with_reducible refine below_drewN ?_ _) | (with_reducible refine Below.setCell ?_ ?_ _) | (with_reducible refine below_then ?_ ?_ (by with_reducible assumption)) | (with_reducible exact Nat.le_refl _) | go_size | (simp only [*]; done)))⟩
  case round =>
    obtain ⟨j, l, hj, hk, rfl, rfl, hasc, hblk, hbel⟩ := hrel
    have HK := Lib.hid hk; clear hk
    have hsz := hbel.size
    have hbl := hblk.out.lt
    by_cases hlt : j < n
    · obtain ⟨b, off, rfl, hb, hc⟩ := hr.at1 (by omega)
      have c0 : wr.cell? ⟨b, off + j, none⟩ = _ := (hbel.cell (p := ⟨b, off + j, none⟩) hb).trans (hc j hlt)
      obtain ⟨x, hx⟩ : ∃ x, xs.getD j default = x := ⟨_, rfl⟩
      simp only [inc, hx] at c0
      have Hx := Lib.hid hx; clear hx hc
      by_cases hv : x ≤ l
      · go_wp2_with fail
        go_ret
        exact ⟨ret_int (pageOf_bad (ascF_bad HN.out hlt Hx.out hasc.out hv)).symm, by (repeat' (first | (with_reducible exact Below.refl _ _) | (with_reducible assumption) | (with_reducible refine Below.alloc ?_ ?_ _) | (with_reducible refine Below.drew ?_) | (with_reducible refine below_drewN ?_ _) | (with_reducible refine Below.setCell ?_ ?_ _) | (with_reducible refine below_then ?_ ?_ (by with_reducible assumption)) | (with_reducible exact Nat.le_refl _) | go_size | (simp only [*]; done)))⟩
      · go_wp2_with fail
        go_roundg (n - (j + 1))
        case measure => have := HK.out; omega
        case rel =>
          refine ⟨j + 1, x, by omega, rfl, by go_num, rfl, ?_, ?_, by (repeat' (first | (with_reducible exact Below.refl _ _) | (with_reducible assumption) | (with_reducible refine Below.alloc ?_ ?_ _) | (with_reducible refine Below.drew ?_) | (with_reducible refine below_drewN ?_ _) | (with_reducible refine Below.setCell ?_ ?_ _) | (with_reducible refine below_then ?_ ?_ (by with_reducible assumption)) | (with_reducible exact Nat.le_refl _) | go_size | (simp only [*]; done)))⟩
          · show _ = _
            rw [ascF_next HN.out hlt Hx.out hasc.out, if_neg (by omega)]
          · ((show Blk _ _ _ _); repeat' (first | (with_reducible exact hblk.out) | (with_reducible refine Blk.alloc ?_ _) | (with_reducible refine Blk.drew ?_) | (with_reducible refine Blk.drewN ?_ _) | (with_reducible refine Blk.far ?_ ?_ _) | (with_reducible refine Blk.then_ ?_ (by with_reducible assumption)) | (simp; done) | (simp; omega) | omega))
    · have ej : j = n := by omega
      subst ej
      have ha : ascF xs = some l := by have := hasc.out; rwa [List.take_of_length_le (by rw [HN.out]; omega)] at this
      have hl0 : 0 ≤ l := by
        have := hasc.out
        exact (ascF_spec j (by rw [HN.out]; omega) l this).1
      have hl1 : l ≤ 9223372036854775807 := by
        rcases ascF_last HN.out (Nat.le_refl _) hasc.out with ⟨_, h⟩ | ⟨h, h'⟩
        · omega
        · rw [h']; exact (HXB.out _ (mem_of_getD HN.out (show j - 1 < j by omega) rfl)).2
      have HA := Lib.hid ha; clear ha
      have k0 := hblk.out.cell 0
      simp only [List.getElem?_toArray, List.getElem?_cons_zero] at k0
      rcases hv : inR line 0 (l - 1) with _ | _
      · have hv' := inR_no.1 hv
        have HV := Lib.hid hv; clear hv
        go_wp2_with fail
        ((with_reducible refine (within_any _ _ _ _).mono ?_); rintro e w' ⟨rfl, rfl⟩)
        rw [HV.out]
        go_wp2_with fail
        go_ret
        refine ⟨ret_int ?_, by (repeat' (first | (with_reducible exact Below.refl _ _) | (with_reducible assumption) | (with_reducible refine Below.alloc ?_ ?_ _) | (with_reducible refine Below.drew ?_) | (with_reducible refine below_drewN ?_ _) | (with_reducible refine Below.setCell ?_ ?_ _) | (with_reducible refine below_then ?_ ?_ (by with_reducible assumption)) | (with_reducible exact Nat.le_refl _) | go_size | (simp only [*]; done)))⟩
        rcases hv' with h | h
        · exact (pageOf_neg h).symm
        · exact (pageOf_far HA.out (by omega)).symm
      · obtain ⟨h0, h1⟩ := inR_iff.1 hv
        have HV := Lib.hid hv; clear hv
        go_wp2_with fail
        ((with_reducible refine (within_any _ _ _ _).mono ?_); rintro e w' ⟨rfl, rfl⟩)
        rw [HV.out]
        go_wp2_with fail
        ((with_reducible refine (indexFunc_any _ w.heap.size (gtP line) _ _ _ xs _ eg ?_ HN.out hm ?_).mono ?_); (intro x W hW; exact pageOf1_any x line _ W (by first | exact (hW.cell (p := ⟨w.heap.size, 0, none⟩) hbl).trans k0 | exact (hW.cell (p := ⟨w.heap.size, 0, none⟩) (by simpa using hbl)).trans k0)); (exact (hr.below hbel).more hsz); rintro e w2 ⟨rfl, hb2⟩)
        go_wp2
        go_ret
        exact ⟨ret_int (pageOf_in HA.out h0).symm, by (repeat' (first | (with_reducible exact Below.refl _ _) | (with_reducible assumption) | (with_reducible refine Below.alloc ?_ ?_ _) | (with_reducible refine Below.drew ?_) | (with_reducible refine below_drewN ?_ _) | (with_reducible refine Below.setCell ?_ ?_ _) | (with_reducible refine below_then ?_ ?_ (by with_reducible assumption)) | (with_reducible exact Nat.le_refl _) | go_size | (simp only [*]; done)))⟩

set_option maxHeartbeats 2000000 in
theorem pageOf_s (A : Option Addr) (n cap : Nat) (line : Int) (xs : List Int) (w : World) (hn : xs.length = n) (hm : n ≤ maxLen) (hr : Row w w.heap.size 1 A n (inc xs)) :
    Calls Try.prog 13 #[.slice A n cap, .int .i64 line] w fun e w' => e = .returned (.int .i64 (pageOf xs line)) ∧ Below w.heap.size w w' := by
  unfold maxLen at hm
  have HN := Lib.hid hn; clear hn
  go_enter Try.func13, Try.ntmps13
  go_wp2_with fail
  go_loopg [5, 6] n (fun k s i wr => ∃ (j : Nat) (l q : Int), j ≤ n ∧ k = n - j ∧ i = .int .i64 j ∧ s = .int .i64 q ∧ Hid (ascF (xs.take j) = some l) ∧ Hid (q = if line < 0 then -1 else fidx (gtP line) (xs.take j)) ∧ Below w.heap.size w wr)
  case atStart => exact ⟨0, 0, -1, Nat.zero_le _, rfl, rfl, rfl, ascF_zero xs, (by show _ = _; split <;> rfl), by (repeat' (first | (with_reducible exact Below.refl _ _) | (with_reducible assumption) | (with_reducible refine Below.alloc ?_ ?_ _) | (with_reducible refine Below.drew ?_) | (with_reducible refine below_drewN ?_ _) | (with_reducible refine Below.setCell ?_ ?_ _) | (with_reducible refine below_then ?_ ?_ (by with_reducible assumption)) | (with_reducible exact Nat.le_refl _) | go_size | (simp only [*]; done)))⟩
  case round =>
    obtain ⟨j, l, q, hj, hk, rfl, rfl, hasc, hq, hbel⟩ := hrel
    have HK := Lib.hid hk; clear hk
    have hsz := hbel.size
    by_cases hlt : j < n
    · obtain ⟨b, off, rfl, hb, hc⟩ := hr.at1 (by omega)
      have c0 : wr.cell? ⟨b, off + j, none⟩ = _ := (hbel.cell (p := ⟨b, off + j, none⟩) hb).trans (hc j hlt)
      obtain ⟨x, hx⟩ : ∃ x, xs.getD j default = x := ⟨_, rfl⟩
      simp only [inc, hx] at c0
      have Hx := Lib.hid hx; clear hx
      have hgo : ¬ x ≤ l → ∀ y, y = (if q < 0 ∧ 0 ≤ line ∧ line < x then (j : Int) else q) → (ascF (xs.take (j + 1)) = some x ∧ y = if line < 0 then -1 else fidx (gtP line) (xs.take (j + 1))) := by
        intro hv y hy
        refine ⟨by rw [ascF_next HN.out hlt Hx.out hasc.out, if_neg hv], ?_⟩
        rw [fidx_snoc HN.out hlt Hx.out, hy, hq.out]
        by_cases hl : line < 0
        · simp [hl]; intro h1; omega
        · have e : gtP line x = true ↔ line < x := decide_eq_true_iff
          simp only [if_neg hl, e]
          by_cases h2 : fidx (gtP line) (xs.take j) < 0 ∧ line < x
          · rw [if_pos ⟨h2.1, by omega, h2.2⟩, if_pos h2]
          · rw [if_neg (fun h => h2 ⟨h.1, h.2.2⟩), if_neg h2]
      have hbad : x ≤ l → pageOf xs line = -1 := fun hv => pageOf_bad (ascF_bad HN.out hlt Hx.out hasc.out hv)
      have hl0 : 0 ≤ l := (ascF_spec j (by rw [HN.out]; omega) l hasc.out).1
      have hlast := ascF_last HN.out hj hasc.out
      have HG := Lib.hid hgo; have HB := Lib.hid hbad; clear hgo hbad
      have hlt' : (j : Int) < (n : Int) := by omega
      have hnn : (0 : Int) ≤ (j : Int) := by omega
      by_cases hx1 : x < 1
      · have d1 : decide (x < 1) = true := decide_eq_true hx1
        have HB2 := Lib.hid (HB.out (by omega))
        clear hc hlast
        go_wp2_with fail
        go_quiet (fail)
        go_wp2_with fail
        go_ret
        exact ⟨ret_int HB2.out.symm, by (repeat' (first | (with_reducible exact Below.refl _ _) | (with_reducible assumption) | (with_reducible refine Below.alloc ?_ ?_ _) | (with_reducible refine Below.drew ?_) | (with_reducible refine below_drewN ?_ _) | (with_reducible refine Below.setCell ?_ ?_ _) | (with_reducible refine below_then ?_ ?_ (by with_reducible assumption)) | (with_reducible exact Nat.le_refl _) | go_size | (simp only [*]; done)))⟩
      have d1 : decide (x < 1) = false := decide_eq_false hx1
      have hcont : ∀ (hv : ¬ x ≤ l) (u : Prop), u → u := fun _ _ h => h
      clear hcont
      by_cases h0 : 0 < j
      · have d2 : decide ((0 : Int) < (j : Int)) = true := decide_eq_true (by omega)
        have hl : l = xs.getD (j - 1) default := by
          rcases hlast with ⟨h, _⟩ | ⟨_, h⟩
          · omega
          · exact h
        have c1 : wr.cell? ⟨b, off + (j - 1), none⟩ = _ := (hbel.cell (p := ⟨b, off + (j - 1), none⟩) hb).trans (hc (j - 1) (by omega))
        simp only [inc, ← hl] at c1
        have j1 : IntKind.i64.wrap ((j : Int) - 1) = (j : Int) - 1 := IntWalk.i64_in _ (by omega)
        have j2 : (0 : Int) ≤ (j : Int) - 1 := by omega
        have j3 : (j : Int) - 1 < (n : Int) := by omega
        have j4 : ((j : Int) - 1).toNat = j - 1 := by omega
        have HL := Lib.hid hl
        have HJ1 := Lib.hid j1
        clear hc hlast hl
        by_cases hv : x ≤ l
        · have d3 : decide (x ≤ l) = true := decide_eq_true hv
          have HB2 := Lib.hid (HB.out hv)
          go_wp2_with fail
          go_quiet (fail)
          go_wp2_with fail
          go_ret
          exact ⟨ret_int HB2.out.symm, by (repeat' (first | (with_reducible exact Below.refl _ _) | (with_reducible assumption) | (with_reducible refine Below.alloc ?_ ?_ _) | (with_reducible refine Below.drew ?_) | (with_reducible refine below_drewN ?_ _) | (with_reducible refine Below.setCell ?_ ?_ _) | (with_reducible refine below_then ?_ ?_ (by with_reducible assumption)) | (with_reducible exact Nat.le_refl _) | go_size | (simp only [*]; done)))⟩
        have d3 : decide (x ≤ l) = false := decide_eq_false hv
        have HG2 := Lib.hid (HG.out hv)
        go_wp2_with fail
        go_quiet (fail)
        clear d1 d2 d3 j1 j2 j3 j4
        by_cases h1 : q < 0 ∧ 0 ≤ line ∧ line < x
        · obtain ⟨h2, h3, h4⟩ := h1
          have e2 : decide (q < 0) = true := decide_eq_true h2
          have e3 : decide (0 ≤ line) = true := decide_eq_true h3
          have e4 : decide (line < x) = true := decide_eq_true h4
          have HG3 := Lib.hid (HG2.out j (by rw [if_pos ⟨h2, h3, h4⟩]))
          go_wp2_with fail
          (try go_quiet (fail))
          go_wp2_with fail
          go_roundg (n - (j + 1))
          case measure => have := HK.out; omega
          case rel => exact ⟨j + 1, x, _, by omega, rfl, by go_num, rfl, HG3.out.1, HG3.out.2, by (repeat' (first | (with_reducible exact Below.refl _ _) | (with_reducible assumption) | (with_reducible refine Below.alloc ?_ ?_ _) | (with_reducible refine Below.drew ?_) | (with_reducible refine below_drewN ?_ _) | (with_reducible refine Below.setCell ?_ ?_ _) | (with_reducible refine below_then ?_ ?_ (by with_reducible assumption)) | (with_reducible exact Nat.le_refl _) | go_size | (simp only [*]; done)))⟩
        · have HG3 := Lib.hid (HG2.out q (by rw [if_neg h1]))
          by_cases h2 : q < 0
          · have e2 : decide (q < 0) = true := decide_eq_true h2
            by_cases h3 : 0 ≤ line
            · have e3 : decide (0 ≤ line) = true := decide_eq_true h3
              have h4 : ¬ line < x := fun h => h1 ⟨h2, h3, h⟩
              have e4 : decide (line < x) = false := decide_eq_false h4
              clear h1
              go_wp2_with fail
              (try go_quiet (fail))
              go_wp2_with fail
              go_roundg (n - (j + 1))
              case measure => have := HK.out; omega
              case rel => exact ⟨j + 1, x, _, by omega, rfl, by go_num, rfl, HG3.out.1, HG3.out.2, by (repeat' (first | (with_reducible exact Below.refl _ _) | (with_reducible assumption) | (with_reducible refine Below.alloc ?_ ?_ _) | (with_reducible refine Below.drew ?_) | (with_reducible refine below_drewN ?_ _) | (with_reducible refine Below.setCell ?_ ?_ _) | (with_reducible refine below_then ?_ ?_ (by with_reducible assumption)) | (with_reducible exact Nat.le_refl _) | go_size | (simp only [*]; done)))⟩
            · have e3 : decide (0 ≤ line) = false := decide_eq_false h3
              clear h1
              go_wp2_with fail
              (try go_quiet (fail))
              go_wp2_with fail
              go_roundg (n - (j + 1))
              case measure => have := HK.out; omega
              case rel => exact ⟨j + 1, x, _, by omega, rfl, by go_num, rfl, HG3.out.1, HG3.out.2, by (repeat' (first | (with_reducible exact Below.refl _ _) | (with_reducible assumption) | (with_reducible refine Below.alloc ?_ ?_ _) | (with_reducible refine Below.drew ?_) | (with_reducible refine below_drewN ?_ _) | (with_reducible refine Below.setCell ?_ ?_ _) | (with_reducible refine below_then ?_ ?_ (by with_reducible assumption)) | (with_reducible exact Nat.le_refl _) | go_size | (simp only [*]; done)))⟩
          · have e2 : decide (q < 0) = false := decide_eq_false h2
            clear h1
            go_wp2_with fail
            (try go_quiet (fail))
            go_wp2_with fail
            go_roundg (n - (j + 1))
            case measure => have := HK.out; omega
            case rel => exact ⟨j + 1, x, _, by omega, rfl, by go_num, rfl, HG3.out.1, HG3.out.2, by (repeat' (first | (with_reducible exact Below.refl _ _) | (with_reducible assumption) | (with_reducible refine Below.alloc ?_ ?_ _) | (with_reducible refine Below.drew ?_) | (with_reducible refine below_drewN ?_ _) | (with_reducible refine Below.setCell ?_ ?_ _) | (with_reducible refine below_then ?_ ?_ (by with_reducible assumption)) | (with_reducible exact Nat.le_refl _) | go_size | (simp only [*]; done)))⟩
      · have d2 : decide ((0 : Int) < (j : Int)) = false := decide_eq_false (by omega)
        have hl : l = 0 := by
          rcases hlast with ⟨_, h⟩ | ⟨h, _⟩
          · exact h
          · omega
        have HG2 := Lib.hid (HG.out (by omega))
        clear hc hlast hl
        go_wp2_with fail
        go_quiet (fail)
        clear d1 d2
        by_cases h1 : q < 0 ∧ 0 ≤ line ∧ line < x
        · obtain ⟨h2, h3, h4⟩ := h1
          have e2 : decide (q < 0) = true := decide_eq_true h2
          have e3 : decide (0 ≤ line) = true := decide_eq_true h3
          have e4 : decide (line < x) = true := decide_eq_true h4
          have HG3 := Lib.hid (HG2.out j (by rw [if_pos ⟨h2, h3, h4⟩]))
          go_wp2_with fail
          (try go_quiet (fail))
          go_wp2_with fail
          go_roundg (n - (j + 1))
          case measure => have := HK.out; omega
          case rel => exact ⟨j + 1, x, _, by omega, rfl, by go_num, rfl, HG3.out.1, HG3.out.2, by (repeat' (first | (with_reducible exact Below.refl _ _) | (with_reducible assumption) | (with_reducible refine Below.alloc ?_ ?_ _) | (with_reducible refine Below.drew ?_) | (with_reducible refine below_drewN ?_ _) | (with_reducible refine Below.setCell ?_ ?_ _) | (with_reducible refine below_then ?_ ?_ (by with_reducible assumption)) | (with_reducible exact Nat.le_refl _) | go_size | (simp only [*]; done)))⟩
        · have HG3 := Lib.hid (HG2.out q (by rw [if_neg h1]))
          by_cases h2 : q < 0
          · have e2 : decide (q < 0) = true := decide_eq_true h2
            by_cases h3 : 0 ≤ line
            · have e3 : decide (0 ≤ line) = true := decide_eq_true h3
              have h4 : ¬ line < x := fun h => h1 ⟨h2, h3, h⟩
              have e4 : decide (line < x) = false := decide_eq_false h4
              clear h1
              go_wp2_with fail
              (try go_quiet (fail))
              go_wp2_with fail
              go_roundg (n - (j + 1))
              case measure => have := HK.out; omega
              case rel => exact ⟨j + 1, x, _, by omega, rfl, by go_num, rfl, HG3.out.1, HG3.out.2, by (repeat' (first | (with_reducible exact Below.refl _ _) | (with_reducible assumption) | (with_reducible refine Below.alloc ?_ ?_ _) | (with_reducible refine Below.drew ?_) | (with_reducible refine below_drewN ?_ _) | (with_reducible refine Below.setCell ?_ ?_ _) | (with_reducible refine below_then ?_ ?_ (by with_reducible assumption)) | (with_reducible exact Nat.le_refl _) | go_size | (simp only [*]; done)))⟩
            · have e3 : decide (0 ≤ line) = false := decide_eq_false h3
              clear h1
              go_wp2_with fail
              (try go_quiet (fail))
              go_wp2_with fail
              go_roundg (n - (j + 1))
              case measure => have := HK.out; omega
              case rel => exact ⟨j + 1, x, _, by omega, rfl, by go_num, rfl, HG3.out.1, HG3.out.2, by (repeat' (first | (with_reducible exact Below.refl _ _) | (with_reducible assumption) | (with_reducible refine Below.alloc ?_ ?_ _) | (with_reducible refine Below.drew ?_) | (with_reducible refine below_drewN ?_ _) | (with_reducible refine Below.setCell ?_ ?_ _) | (with_reducible refine below_then ?_ ?_ (by with_reducible assumption)) | (with_reducible exact Nat.le_refl _) | go_size | (simp only [*]; done)))⟩
          · have e2 : decide (q < 0) = false := decide_eq_false h2
            clear h1
            go_wp2_with fail
            (try go_quiet (fail))
            go_wp2_with fail
            go_roundg (n - (j + 1))
            case measure => have := HK.out; omega
            case rel => exact ⟨j + 1, x, _, by omega, rfl, by go_num, rfl, HG3.out.1, HG3.out.2, by (repeat' (first | (with_reducible exact Below.refl _ _) | (with_reducible assumption) | (with_reducible refine Below.alloc ?_ ?_ _) | (with_reducible refine Below.drew ?_) | (with_reducible refine below_drewN ?_ _) | (with_reducible refine Below.setCell ?_ ?_ _) | (with_reducible refine below_then ?_ ?_ (by with_reducible assumption)) | (with_reducible exact Nat.le_refl _) | go_size | (simp only [*]; done)))⟩
    · go_wp2_with fail
      go_ret
      refine ⟨ret_int ?_, hbel⟩
      have e : xs.take j = xs := List.take_of_length_le (by rw [HN.out]; omega)
      have ha := hasc.out
      have hqq := hq.out
      rw [e] at ha hqq
      rw [pageOf, ha, hqq]
end Go.Proofs.Ytlgbeoghjjjlmaa
