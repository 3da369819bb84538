/- Lines of a paragraph, of the program: lines and their glue are what the plain functions say. Conditions: the slice reads as the list; at most 60 items. -/
import Derived.Test.YtkmipgekmbngcaaMSb4
namespace Go.Proofs.Ytkmipgekmbngcaa
open Go.RowKit

theorem Row.sgI {w : World} {B b off n : Nat} {xs : List It} (hn : xs.length = n) (h : Row w B 6 (some ⟨b, off, none⟩) n (itc xs)) (f t : Nat) (ht : t ≤ n) : Row w B 6 (some ⟨b, off + f * 6, none⟩) (t - f) (itc (sg xs f t)) := fun h0 => by
  obtain ⟨b', off', e, hb, hc⟩ := h (by omega)
  injection e with e
  injection e with e1 e2
  subst e1 e2
  refine ⟨b, off + f * 6, rfl, hb, fun i j hi hj => ?_⟩
  have := hc (f + i) j (by omega) hj
  rw [show off + f * 6 + i * 6 + j = off + (f + i) * 6 + j by omega, this]
  simp only [itc, sg_at hn ht hi]

set_option maxHeartbeats 1000000 in
theorem indexF_i (A : Option Addr) (n cap : Nat) (xs : List It) (w : World) (hn : xs.length = n) (hm : n ≤ 60) (hr : Row w w.heap.size 6 A n (itc xs)) :
    Calls Try.prog 89 #[.slice A n cap, .func (.func 72) #[] #[]] w fun e w' => (∃ i : Int, e = .returned (.int .i64 i) ∧ (0 ≤ i ↔ ¬ xs.all (fun x => !forced x) = true)) ∧ Below w.heap.size w w' := by
  have HN := Lib.hid hn; clear hn
  go_enter Try.func89, Try.ntmps89
  go_wp2_with fail
  go_loopg [8] n (fun k i wr => ∃ j : Nat, j ≤ n ∧ k = n - j ∧ i = .int .i64 j ∧ Hid ((xs.take j).all (fun x => !forced x) = true) ∧ Below w.heap.size w wr)
  case atStart => exact ⟨0, Nat.zero_le _, rfl, rfl, by simp [Hid], Below.refl _ _⟩
  case round =>
    obtain ⟨j, hj, hk, rfl, hall, hbel⟩ := hrel
    have HK := Lib.hid hk; clear hk
    have hsz := hbel.size
    by_cases hlt : j < n
    · obtain ⟨b, off, rfl, hb, hc⟩ := hr (by omega)
      have c0 : wr.cell? ⟨b, off + j * 6, none⟩ = _ := (hbel.cell (p := ⟨b, off + j * 6, none⟩) hb).trans (hc j 0 hlt (by omega))
      have c1 : wr.cell? ⟨b, off + j * 6 + 1, none⟩ = _ := (hbel.cell (p := ⟨b, off + j * 6 + 1, none⟩) hb).trans (hc j 1 hlt (by omega))
      have c2 : wr.cell? ⟨b, off + j * 6 + 2, none⟩ = _ := (hbel.cell (p := ⟨b, off + j * 6 + 2, none⟩) hb).trans (hc j 2 hlt (by omega))
      have c3 : wr.cell? ⟨b, off + j * 6 + 3, none⟩ = _ := (hbel.cell (p := ⟨b, off + j * 6 + 3, none⟩) hb).trans (hc j 3 hlt (by omega))
      have c4 : wr.cell? ⟨b, off + j * 6 + 4, none⟩ = _ := (hbel.cell (p := ⟨b, off + j * 6 + 4, none⟩) hb).trans (hc j 4 hlt (by omega))
      have c5 : wr.cell? ⟨b, off + j * 6 + 5, none⟩ = _ := (hbel.cell (p := ⟨b, off + j * 6 + 5, none⟩) hb).trans (hc j 5 hlt (by omega))
      obtain ⟨x, hx⟩ : ∃ x, xs.getD j default = x := ⟨_, rfl⟩
      simp only [itc, hx] at c0 c1 c2 c3 c4 c5
      have Hx := Lib.hid hx; clear hx hc
      obtain ⟨xk, xw, xst, xsh, xp, xf⟩ := x
      simp only [itv] at c0 c1 c2 c3 c4 c5
      obtain ⟨V, hV⟩ : ∃ V, forced ⟨xk, xw, xst, xsh, xp, xf⟩ = V := ⟨_, rfl⟩
      have HV := Lib.hid hV; clear hV
      go_wp2_with fail
      ((with_reducible refine (isForced_i _ _ _ _ _ _ _).mono ?_); rintro e w1 ⟨rfl, hb1⟩)
      have hB : Below w.heap.size w w1 := below_then (Nat.le_refl _) (by (repeat' (first | (with_reducible exact Below.refl _ _) | (with_reducible assumption) | (with_reducible refine Below.alloc ?_ ?_ _) | (with_reducible refine Below.drew ?_) | (with_reducible refine below_drewN ?_ _) | (with_reducible refine Below.setCell ?_ ?_ _) | (with_reducible refine below_then ?_ ?_ (by with_reducible assumption)) | (with_reducible exact Nat.le_refl _) | go_size | (simp only [*]; done)))) hb1
      rw [HV.out]
      rcases V with _ | _
      · go_wp2_with fail
        go_roundg (n - (j + 1))
        case measure => have := HK.out; omega
        case rel => exact ⟨j + 1, by omega, rfl, by go_num, all_more HN.out hlt Hx.out hall.out (by simp [HV.out]), hB⟩
      · go_wp2_with fail
        go_ret
        refine ⟨⟨_, rfl, ?_⟩, hB⟩
        have h := all_bad (p := fun x => !forced x) HN.out hlt Hx.out (by simp [HV.out])
        rw [h]
        simp
    · go_wp2_with fail
      go_ret
      refine ⟨⟨_, rfl, ?_⟩, hbel⟩
      rw [all_end HN.out (by omega) hall.out]
      simp
theorem contains_i (A : Option Addr) (n cap : Nat) (xs : List It) (w : World) (hn : xs.length = n) (hm : n ≤ 60) (hr : Row w w.heap.size 6 A n (itc xs)) :
    Calls Try.prog 76 #[.slice A n cap, .func (.func 72) #[] #[]] w fun e w' => e = .returned (.bool (!xs.all (fun x => !forced x))) ∧ Below w.heap.size w w' := by
  go_enter Try.func76, Try.ntmps76
  go_wp2_with fail
  ((with_reducible refine (indexF_i _ _ _ xs _ hn hm ?_).mono ?_); (exact hr); rintro e w1 ⟨⟨i, rfl, hi⟩, hb⟩)
  obtain ⟨V, hV⟩ : ∃ V, xs.all (fun x => !forced x) = V := ⟨_, rfl⟩
  rw [hV] at hi
  have HV := Lib.hid hV; clear hV
  cases V with
  | true =>
    have hi' : i < 0 := by simp at hi; omega
    clear hi
    go_wp2
    go_ret
    exact ⟨ret_bool (by simp [HV.out, hi']), hb⟩
  | false =>
    have hi' : 0 ≤ i := by simp at hi; omega
    clear hi
    go_wp2
    go_ret
    exact ⟨ret_bool (by simp [HV.out]), hb⟩
theorem ln_le {l : List It} {f t : Int} (h : t ≤ f) : lnOk l f t = false := by
  have : decide (f < t) = false := by first | (simp; done) | (simp; omega)
  simp [lnOk, this]
theorem ln_low {l : List It} {f t : Int} (h : f < -1) : lnOk l f t = false := by
  have : decide (-1 ≤ f) = false := by first | (simp; done) | (simp; omega)
  simp [lnOk, this]
theorem ln_high {l : List It} {n : Nat} {f t : Int} (hn : l.length = n) (h : (n : Int) ≤ t) : lnOk l f t = false := by
  have : decide (t < (l.length : Int)) = false := by rw [hn]; first | (simp; done) | (simp; omega)
  simp [lnOk, this]
theorem ln_t {l : List It} {f : Int} {t : Nat} (h : brk l t = false) : lnOk l f t = false := by
  simp [lnOk, h]
theorem ln_f {l : List It} {f : Nat} {t : Int} (h : brk l f = false) : lnOk l f t = false := by
  have : decide ((f : Int) < 0) = false := by first | (simp; done) | (simp; omega)
  simp [lnOk, h, this]
theorem ln_first {l : List It} {n t : Nat} (hn : l.length = n) (ht : t < n) (h : brk l t = true) : lnOk l (-1) t = noF l 0 t := by
  have h1 : decide ((t : Int) < (l.length : Int)) = true := by rw [hn]; first | (simp; done) | (simp; omega)
  have h2 : decide ((-1 : Int) < (t : Int)) = true := by first | (simp; done) | (simp; omega)
  simp [lnOk, h, h2]
  intros; omega
theorem ln_mid {l : List It} {n f t : Nat} (hn : l.length = n) (ht : t < n) (hft : f < t) (h : brk l t = true) (hf : brk l f = true) : lnOk l f t = noF l (f + 1) t := by
  have h1 : decide ((t : Int) < (l.length : Int)) = true := by rw [hn]; first | (simp; done) | (simp; omega)
  have h2 : decide ((f : Int) < (t : Int)) = true := by first | (simp; done) | (simp; omega)
  have h3 : decide ((-1 : Int) ≤ (f : Int)) = true := by first | (simp; done) | (simp; omega)
  have h4 : ((f : Int) + 1).toNat = f + 1 := by omega
  simp [lnOk, h, hf, h4]
  intros; omega
/-- What a line is. -/
theorem ln_iff {l : List It} {n : Nat} {f t : Int} (hn : l.length = n) (h : lnOk l f t = true) : ∃ a u : Nat, f = (a : Int) - 1 ∧ t = (u : Int) ∧ a ≤ u ∧ u < n ∧ brk l u = true ∧ noF l a u = true ∧ (0 < a → brk l (a - 1) = true) := by
  simp only [lnOk, Bool.and_eq_true, decide_eq_true_eq, Bool.or_eq_true, hn] at h
  obtain ⟨⟨⟨⟨⟨h1, h2⟩, h3⟩, h4⟩, h5⟩, h6⟩ := h
  refine ⟨(f + 1).toNat, t.toNat, by omega, by omega, by omega, by omega, h4, h6, fun h0 => ?_⟩
  rcases h5 with h5 | h5
  · omega
  · rwa [show (f + 1).toNat - 1 = f.toNat by omega]

set_option maxHeartbeats 1000000 in
theorem isLine_i (A : Option Addr) (n cap : Nat) (f t : Int) (xs : List It) (w : World) (hn : xs.length = n) (hm : n ≤ 60) (hc : n ≤ cap ∧ cap ≤ maxLen) (hr : Row w w.heap.size 6 A n (itc xs)) :
    Calls Try.prog 49 #[.slice A n cap, .int .i64 f, .int .i64 t] w fun e w' => e = .returned (.bool (lnOk xs f t)) ∧ Below w.heap.size w w' := by
  obtain ⟨hc1, hc2⟩ := hc
  unfold maxLen at hc2
  by_cases h1 : t ≤ f
  · rw [ln_le h1]
    go_enter Try.func49, Try.ntmps49
    go_wp2_with fail
    go_ret
    exact ⟨rfl, Below.refl _ _⟩
  by_cases h2 : f < -1
  · rw [ln_low h2]
    have hf1 : (f == -1) = false := by first | (simp; done) | (simp; omega)
    go_enter Try.func49, Try.ntmps49
    go_wp2_with fail
    ((with_reducible refine (isBreak_out _ _ _ _ _ (by omega) hm).mono ?_); rintro e w1 ⟨rfl, hb1⟩)
    go_wp2_with fail
    go_ret
    exact ⟨rfl, hb1⟩
  by_cases h3 : f = -1
  · subst h3
    by_cases h4 : (n : Int) ≤ t
    · rw [ln_high hn h4]
      go_enter Try.func49, Try.ntmps49
      go_wp2_with fail
      ((with_reducible refine (isBreak_out _ _ _ _ _ (by omega) hm).mono ?_); rintro e w1 ⟨rfl, hb1⟩)
      go_wp2_with fail
      go_ret
      exact ⟨rfl, hb1⟩
    obtain ⟨u, rfl⟩ := Int.eq_ofNat_of_zero_le (show 0 ≤ t by omega)
    have hu : u < n := by omega
    have h1' : (-1 : Int) < (u : Int) := by omega
    rcases hB : brk xs u with _ | _
    · rw [ln_t hB]
      have HB := Lib.hid hB
      clear hB h1 h2 h4
      go_enter Try.func49, Try.ntmps49
      go_wp2_with fail
      ((with_reducible refine (isBreak_i _ _ _ _ xs _ hn hu hm ?_).mono ?_); (exact hr); rintro e w1 ⟨rfl, hb1⟩)
      rw [HB.out]
      go_wp2_with fail
      go_ret
      exact ⟨rfl, hb1⟩
    rw [ln_first hn hu hB]
    have HB := Lib.hid hB
    have HR := Lib.hid hr
    have hsl : Hid ((sg xs 0 u).length = u - 0) := sg_len hn (by omega)
    obtain ⟨b, off, rfl, _, _⟩ := hr (by omega)
    have h5 : (u : Int) ≤ (cap : Int) := by omega
    clear hB h1 h2 h4
    go_enter Try.func49, Try.ntmps49
    go_wp2_with fail
    ((with_reducible refine (isBreak_i _ _ _ _ xs _ hn hu hm ?_).mono ?_); (exact HR.out); rintro e w1 ⟨rfl, hb1⟩)
    rw [HB.out]
    go_wp2_with fail
    ((with_reducible refine (contains_i _ _ _ (sg xs 0 u) _ (by simpa using hsl.out) (by omega) ?_).mono ?_); (exact (by simpa using (HR.out.then_ hb1).sgI hn 0 u (by omega))); rintro e w2 ⟨rfl, hb2⟩)
    go_wp2_with fail
    go_ret
    exact ⟨ret_bool (by simp [noF]), below_then (Nat.le_refl _) hb1 hb2⟩
  · obtain ⟨v, rfl⟩ := Int.eq_ofNat_of_zero_le (show 0 ≤ f by omega)
    by_cases h4 : (n : Int) ≤ (v : Int)
    · rw [ln_high hn (by omega)]
      have hf1 : ((v : Int) == -1) = false := by first | (simp; done) | (simp; omega)
      go_enter Try.func49, Try.ntmps49
      go_wp2_with fail
      ((with_reducible refine (isBreak_out _ _ _ _ _ (by omega) hm).mono ?_); rintro e w1 ⟨rfl, hb1⟩)
      go_wp2_with fail
      go_ret
      exact ⟨rfl, hb1⟩
    have hv : v < n := by omega
    have hf1 : ((v : Int) == -1) = false := by first | (simp; done) | (simp; omega)
    rcases hV : brk xs v with _ | _
    · rw [ln_f hV]
      have HV := Lib.hid hV
      clear hV h2 h3 h4
      go_enter Try.func49, Try.ntmps49
      go_wp2_with fail
      ((with_reducible refine (isBreak_i _ _ _ _ xs _ hn hv hm ?_).mono ?_); (exact hr); rintro e w1 ⟨rfl, hb1⟩)
      rw [HV.out]
      go_wp2_with fail
      go_ret
      exact ⟨rfl, hb1⟩
    by_cases h5 : (n : Int) ≤ t
    · rw [ln_high hn h5]
      have HV := Lib.hid hV
      clear hV h2 h3 h4
      go_enter Try.func49, Try.ntmps49
      go_wp2_with fail
      ((with_reducible refine (isBreak_i _ _ _ _ xs _ hn hv hm ?_).mono ?_); (exact hr); rintro e w1 ⟨rfl, hb1⟩)
      rw [HV.out]
      go_wp2_with fail
      ((with_reducible refine (isBreak_out _ _ _ _ _ (by omega) hm).mono ?_); rintro e w2 ⟨rfl, hb2⟩)
      go_wp2_with fail
      go_ret
      exact ⟨rfl, below_then (Nat.le_refl _) hb1 hb2⟩
    obtain ⟨u, rfl⟩ := Int.eq_ofNat_of_zero_le (show 0 ≤ t by omega)
    have hu : u < n := by omega
    have hvu : v < u := by omega
    rcases hB : brk xs u with _ | _
    · rw [ln_t hB]
      have HB := Lib.hid hB
      have HV := Lib.hid hV
      clear hB hV h2 h3 h4 h5
      go_enter Try.func49, Try.ntmps49
      go_wp2_with fail
      ((with_reducible refine (isBreak_i _ _ _ _ xs _ hn hv hm ?_).mono ?_); (exact hr); rintro e w1 ⟨rfl, hb1⟩)
      rw [HV.out]
      go_wp2_with fail
      ((with_reducible refine (isBreak_i _ _ _ _ xs _ hn hu hm ?_).mono ?_); (exact hr.then_ hb1); rintro e w2 ⟨rfl, hb2⟩)
      rw [HB.out]
      go_wp2_with fail
      go_ret
      exact ⟨rfl, below_then (Nat.le_refl _) hb1 hb2⟩
    rw [ln_mid hn hu hvu hB hV]
    have HB := Lib.hid hB
    have HV := Lib.hid hV
    have HR := Lib.hid hr
    have hsl : Hid ((sg xs (v + 1) u).length = u - (v + 1)) := sg_len hn (by omega)
    obtain ⟨b, off, rfl, _, _⟩ := hr (by omega)
    have h6 : (u : Int) ≤ (cap : Int) := by omega
    have h7 : (v : Int) + 1 ≤ (u : Int) := by omega
    clear hB hV h2 h3 h4 h5
    go_enter Try.func49, Try.ntmps49
    go_wp2_with fail
    ((with_reducible refine (isBreak_i _ _ _ _ xs _ hn hv hm ?_).mono ?_); (exact HR.out); rintro e w1 ⟨rfl, hb1⟩)
    rw [HV.out]
    go_wp2_with fail
    ((with_reducible refine (isBreak_i _ _ _ _ xs _ hn hu hm ?_).mono ?_); (exact HR.out.then_ hb1); rintro e w2 ⟨rfl, hb2⟩)
    rw [HB.out]
    go_wp2_with fail
    ((with_reducible refine (contains_i _ _ _ (sg xs (v + 1) u) _ hsl.out (by omega) ?_).mono ?_); (exact ((HR.out.then_ hb1).then_ hb2).sgI hn (v + 1) u (by omega)); rintro e w3 ⟨rfl, hb3⟩)
    go_wp2_with fail
    go_ret
    exact ⟨ret_bool (by simp [noF]), below_then (Nat.le_refl _) (below_then (Nat.le_refl _) hb1 hb2) hb3⟩
end Go.Proofs.Ytkmipgekmbngcaa
