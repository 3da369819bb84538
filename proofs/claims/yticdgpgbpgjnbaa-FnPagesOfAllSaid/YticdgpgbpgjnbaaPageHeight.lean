/- PageHeight, of the program and of the reference, returns what the plain function says. Conditions: the slice reads as the list. -/
import Derived.Test.YticdgpgbpgjnbaaPagesPlain
namespace Go.Proofs.Yticdgpgbpgjnbaa
open Go.RowKit

theorem Row.seg {w : World} {B b off n : Nat} {xs : List Ln} (hn : xs.length = n) (h : Row w B 3 (some ⟨b, off, none⟩) n (lnc xs)) (f t : Nat) (ht : t ≤ n) : Row w B 3 (some ⟨b, off + f * 3, none⟩) (t - f) (lnc (seg xs f t)) := fun h0 => by
  obtain ⟨b', off', e, hb, hc⟩ := h (by omega)
  injection e with e
  injection e with e1 e2
  subst e1 e2
  refine ⟨b, off + f * 3, rfl, hb, fun i j hi hj => ?_⟩
  have := hc (f + i) j (by omega) hj
  rw [show off + f * 3 + i * 3 + j = off + (f + i) * 3 + j by omega, this]
  simp only [lnc, seg_at hn ht hi]
theorem sums_take {l : List Ln} {n j : Nat} {s u : Int} (h : ∀ x ∈ l, lineOk x = true) (hn : l.length = n) (hj : j ≤ n) (hs : aSum (l.take j) = s) (hu : bSum (l.take j) = u) : 0 ≤ s ∧ s ≤ 1000 * (j : Int) ∧ 0 ≤ u ∧ u ≤ 1000 * (j : Int) := by
  have h1 := sums_bound (l := l.take j) fun x hx => h x (List.mem_of_mem_take hx)
  rw [List.length_take, Nat.min_eq_left (by omega), hs, hu] at h1
  omega

set_option maxHeartbeats 1000000 in
theorem pageHeight_i (A : Option Addr) (n cap : Nat) (l : List Ln) (w : World) (hok : ∀ x ∈ l, lineOk x = true) (hn : l.length = n) (hm : n ≤ 40) (hr : Row w w.heap.size 3 A n (lnc l)) :
    Calls Try.prog 44 #[.slice A n cap] w fun e w' => e = .returned (.int .i64 (pageH l)) ∧ Below w.heap.size w w' := by
  have HN := Lib.hid hn; clear hn
  have HOK := Lib.hid hok; clear hok
  go_enter Try.func44, Try.ntmps44
  go_wp2_with fail
  go_loopg [3, 4, 9] n (fun k a b i wr => ∃ (j : Nat) (s u : Int), j ≤ n ∧ k = n - j ∧ i = .int .i64 j ∧ a = .int .i64 s ∧ b = .int .i64 u ∧ Hid (aSum (l.take j) = s) ∧ Hid (bSum (l.take j) = u) ∧ Below w.heap.size w wr)
  case atStart => exact ⟨0, 0, 0, Nat.zero_le _, rfl, rfl, rfl, rfl, rfl, rfl, Below.refl _ _⟩
  case round =>
    obtain ⟨j, s, u, hj, hk, rfl, rfl, rfl, hs, hu, hbel⟩ := hrel
    have HK := Lib.hid hk; clear hk
    have hsz := hbel.size
    obtain ⟨s0, s1, u0, u1⟩ := sums_take HOK.out HN.out hj hs.out hu.out
    by_cases hlt : j < n
    · obtain ⟨b, off, rfl, hb, hc⟩ := hr (by omega)
      have c0 : wr.cell? ⟨b, off + j * 3, none⟩ = _ := (hbel.cell (p := ⟨b, off + j * 3, none⟩) hb).trans (hc j 0 hlt (by omega))
      have c1 : wr.cell? ⟨b, off + j * 3 + 1, none⟩ = _ := (hbel.cell (p := ⟨b, off + j * 3 + 1, none⟩) hb).trans (hc j 1 hlt (by omega))
      have c2 : wr.cell? ⟨b, off + j * 3 + 2, none⟩ = _ := (hbel.cell (p := ⟨b, off + j * 3 + 2, none⟩) hb).trans (hc j 2 hlt (by omega))
      obtain ⟨x, hx⟩ : ∃ x, l.getD j default = x := ⟨_, rfl⟩
      simp only [lnc, hx] at c0 c1 c2
      have Hx := Lib.hid hx; clear hx hc
      obtain ⟨⟨g1, g2⟩, ⟨g3, g4⟩, _⟩ := lineOk_iff.1 (HOK.out x (mem_of_getD HN.out hlt Hx.out))
      go_wp2_with fail
      go_roundg (n - (j + 1))
      case measure => have := HK.out; omega
      case rel =>
        refine ⟨j + 1, s + x.a, u + x.b, by omega, rfl, by go_num, rfl, rfl, ?_, ?_, by (repeat' (first | (with_reducible exact Below.refl _ _) | (with_reducible assumption) | (with_reducible refine Below.alloc ?_ ?_ _) | (with_reducible refine Below.drew ?_) | (with_reducible refine below_drewN ?_ _) | (with_reducible refine Below.setCell ?_ ?_ _) | (with_reducible refine below_then ?_ ?_ (by with_reducible assumption)) | (with_reducible exact Nat.le_refl _) | go_size | (simp only [*]; done)))⟩
        · show _ = _
          rw [tk_snoc' HN.out hlt Hx.out, aSum_snoc, hs.out]
        · show _ = _
          rw [tk_snoc' HN.out hlt Hx.out, bSum_snoc, hu.out]
    · have e1 : pageH l = rule s u := by
        have h1 := hs.out
        have h2 := hu.out
        rw [List.take_of_length_le (by rw [HN.out]; omega)] at h1 h2
        rw [pageH, h1, h2]
      have E1 := Lib.hid e1; clear e1
      by_cases h0 : 0 < u
      · go_wp2_with fail
        go_ret
        exact ⟨ret_int (by rw [E1.out, rule, if_pos (by omega)]), hbel⟩
      · go_wp2_with fail
        go_ret
        exact ⟨ret_int (by rw [E1.out, rule, if_neg (by omega)]), hbel⟩

set_option maxHeartbeats 1000000 in
theorem pageHeight_s (A : Option Addr) (n cap f t : Nat) (xs : List Ln) (w : World) (hok : linesOk xs = true) (hn : xs.length = n) (hf : f ≤ t) (ht : t ≤ n) (hr : Row w w.heap.size 3 A n (lnc xs)) :
    Calls Try.prog 43 #[.slice A n cap, .int .i64 (f : Int), .int .i64 (t : Int)] w fun e w' => e = .returned (.int .i64 (pageH (seg xs f t))) ∧ Below w.heap.size w w' := by
  have hm := (linesOk_len hok).2
  rw [hn] at hm
  have HN := Lib.hid hn; clear hn
  have HOK := Lib.hid hok; clear hok
  go_enter Try.func43, Try.ntmps43
  go_wp2_with fail
  go_loopg [7, 8, 9] (t - f) (fun k a b i wr => ∃ (j : Nat) (s u : Int), f ≤ j ∧ j ≤ t ∧ k = t - j ∧ i = .int .i64 j ∧ a = .int .i64 s ∧ b = .int .i64 u ∧ Hid (aSum (seg xs f j) = s) ∧ Hid (bSum (seg xs f j) = u) ∧ Below w.heap.size w wr)
  case atStart => exact ⟨f, 0, 0, Nat.le_refl _, hf, rfl, rfl, rfl, rfl, by rw [seg_nil]; rfl, by rw [seg_nil]; rfl, Below.refl _ _⟩
  case round =>
    obtain ⟨j, s, u, hj0, hj, hk, rfl, rfl, rfl, hs, hu, hbel⟩ := hrel
    have HK := Lib.hid hk; clear hk
    have hsz := hbel.size
    obtain ⟨s0, s1, u0, u1, _⟩ := seg_bound HOK.out HN.out hj0 (show j ≤ n by omega) hs.out hu.out
    by_cases hlt : j < t
    · have hltn : j < n := by omega
      obtain ⟨b, off, rfl, hb, hc⟩ := hr (by omega)
      have c0 : wr.cell? ⟨b, off + j * 3, none⟩ = _ := (hbel.cell (p := ⟨b, off + j * 3, none⟩) hb).trans (hc j 0 hltn (by omega))
      have c1 : wr.cell? ⟨b, off + j * 3 + 1, none⟩ = _ := (hbel.cell (p := ⟨b, off + j * 3 + 1, none⟩) hb).trans (hc j 1 hltn (by omega))
      obtain ⟨x, hx⟩ : ∃ x, xs.getD j default = x := ⟨_, rfl⟩
      simp only [lnc, hx] at c0 c1
      have Hx := Lib.hid hx; clear hx hc
      obtain ⟨⟨g1, g2⟩, ⟨g3, g4⟩, _⟩ := linesOk_at HOK.out HN.out hltn Hx.out
      have hlt' : (j : Int) < (t : Int) := by omega
      have hltn' : (j : Int) < (n : Int) := by omega
      go_wp2_with fail
      go_roundg (t - (j + 1))
      case measure => have := HK.out; omega
      case rel =>
        refine ⟨j + 1, s + x.a, u + x.b, by omega, by omega, rfl, by go_num, rfl, rfl, ?_, ?_, by (repeat' (first | (with_reducible exact Below.refl _ _) | (with_reducible assumption) | (with_reducible refine Below.alloc ?_ ?_ _) | (with_reducible refine Below.drew ?_) | (with_reducible refine below_drewN ?_ _) | (with_reducible refine Below.setCell ?_ ?_ _) | (with_reducible refine below_then ?_ ?_ (by with_reducible assumption)) | (with_reducible exact Nat.le_refl _) | go_size | (simp only [*]; done)))⟩
        · show _ = _
          rw [seg_snoc HN.out hltn hj0 Hx.out, aSum_snoc, hs.out]
        · show _ = _
          rw [seg_snoc HN.out hltn hj0 Hx.out, bSum_snoc, hu.out]
    · have ej : j = t := by omega
      subst ej
      have e1 : pageH (seg xs f j) = rule s u := by rw [pageH, hs.out, hu.out]
      have E1 := Lib.hid e1; clear e1
      by_cases h0 : 0 < u
      · go_wp2_with fail
        go_ret
        exact ⟨ret_int (by rw [E1.out, rule, if_pos (by omega)]; omega), hbel⟩
      · go_wp2_with fail
        go_ret
        exact ⟨ret_int (by rw [E1.out, rule, if_neg (by omega)]), hbel⟩

theorem height_bad {xs : List Ln} {f t : Int} (h : linesOk xs = false) : heightV xs f t = -1 := by simp [heightV, h]
theorem height_no {xs : List Ln} {n : Nat} {f t : Int} (hn : xs.length = n) (h : ¬ (0 ≤ f ∧ f ≤ t ∧ t ≤ n)) : heightV xs f t = -1 := by
  unfold heightV
  rw [if_neg]
  simp only [Bool.and_eq_true, decide_eq_true_eq, hn]
  intro hh
  exact h ⟨hh.1.1.2, hh.1.2, hh.2⟩
theorem height_yes {xs : List Ln} {n f t : Nat} (h : linesOk xs = true) (hn : xs.length = n) (hf : f ≤ t) (ht : t ≤ n) : heightV xs f t = pageH (seg xs f t) := by
  unfold heightV
  rw [if_pos]
  · simp
  · simp only [Bool.and_eq_true, decide_eq_true_eq, hn]
    exact ⟨⟨⟨h, by omega⟩, by omega⟩, by omega⟩

set_option maxHeartbeats 1000000 in
theorem heightV_i (A : Option Addr) (n cap : Nat) (f t : Int) (xs : List Ln) (w : World) (hn : xs.length = n) (hm : n ≤ maxLen) (hcap : n ≤ cap ∧ cap ≤ maxLen) (hr : Row w w.heap.size 3 A n (lnc xs)) :
    Calls Try.prog 21 #[.slice A n cap, .int .i64 f, .int .i64 t] w fun e w' => e = .returned (.int .i64 (heightV xs f t)) ∧ Below w.heap.size w w' := by
  rcases hv : linesOk xs with _ | _
  · have e := height_bad (f := f) (t := t) hv
    have E := Lib.hid e; clear e
    go_enter Try.func21, Try.ntmps21
    go_wp2_with fail
    ((with_reducible refine (validLines_i _ _ _ xs _ hn hm ?_).mono ?_); (exact hr); rintro e w1 ⟨rfl, hb⟩)
    rw [hv]
    go_wp2
    go_ret
    exact ⟨ret_int E.out.symm, hb⟩
  have hl := linesOk_len hv
  rw [hn] at hl
  obtain ⟨hc1, hc2⟩ := hcap
  unfold maxLen at hc2
  have HN := Lib.hid hn; clear hn
  have HV := Lib.hid hv; clear hv
  by_cases hbad : 0 ≤ f ∧ f ≤ t ∧ t ≤ n
  · obtain ⟨h1, h2, h3⟩ := hbad
    obtain ⟨fk, rfl⟩ := Int.eq_ofNat_of_zero_le h1
    obtain ⟨tk, rfl⟩ := Int.eq_ofNat_of_zero_le (show 0 ≤ t by omega)
    have e := height_yes (f := fk) (t := tk) HV.out HN.out (by omega) (by omega)
    have E := Lib.hid e; clear e
    have hsl : Hid ((seg xs fk tk).length = tk - fk) := seg_len HN.out (by omega)
    have HLO := Lib.hid (lineOk_seg HV.out fk tk)
    have h4 : (tk : Int) ≤ (cap : Int) := by omega
    by_cases hcf : cap = fk
    · go_enter Try.func21, Try.ntmps21
      go_wp2_with fail
      ((with_reducible refine (validLines_i _ _ _ xs _ HN.out hm ?_).mono ?_); (exact hr); rintro e w1 ⟨rfl, hb⟩)
      rw [HV.out]
      go_wp2_with fail
      ((with_reducible refine (pageHeight_i _ _ _ (seg xs fk tk) _ HLO.out hsl.out (by omega) ?_).mono ?_); (exact fun h => absurd h (by omega)); rintro e w2 ⟨rfl, hb2⟩)
      go_wp2
      go_ret
      exact ⟨ret_int E.out.symm, by (repeat' (first | (with_reducible exact Below.refl _ _) | (with_reducible assumption) | (with_reducible refine Below.alloc ?_ ?_ _) | (with_reducible refine Below.drew ?_) | (with_reducible refine below_drewN ?_ _) | (with_reducible refine Below.setCell ?_ ?_ _) | (with_reducible refine below_then ?_ ?_ (by with_reducible assumption)) | (with_reducible exact Nat.le_refl _) | go_size | (simp only [*]; done)))⟩
    · obtain ⟨b, off, rfl, _, _⟩ := hr (by omega)
      have HR := Lib.hid hr
      go_enter Try.func21, Try.ntmps21
      go_wp2_with fail
      ((with_reducible refine (validLines_i _ _ _ xs _ HN.out hm ?_).mono ?_); (exact HR.out); rintro e w1 ⟨rfl, hb⟩)
      rw [HV.out]
      go_wp2_with fail
      ((with_reducible refine (pageHeight_i _ _ _ (seg xs fk tk) _ HLO.out hsl.out (by omega) ?_).mono ?_); (exact (HR.out.then_ hb).seg HN.out fk tk (by omega)); rintro e w2 ⟨rfl, hb2⟩)
      go_wp2
      go_ret
      exact ⟨ret_int E.out.symm, by (repeat' (first | (with_reducible exact Below.refl _ _) | (with_reducible assumption) | (with_reducible refine Below.alloc ?_ ?_ _) | (with_reducible refine Below.drew ?_) | (with_reducible refine below_drewN ?_ _) | (with_reducible refine Below.setCell ?_ ?_ _) | (with_reducible refine below_then ?_ ?_ (by with_reducible assumption)) | (with_reducible exact Nat.le_refl _) | go_size | (simp only [*]; done)))⟩
  · have e := height_no HN.out hbad
    have E := Lib.hid e; clear e
    by_cases h1 : f < 0
    · go_enter Try.func21, Try.ntmps21
      go_wp2_with fail
      ((with_reducible refine (validLines_i _ _ _ xs _ HN.out hm ?_).mono ?_); (exact hr); rintro e w1 ⟨rfl, hb⟩)
      rw [HV.out]
      clear hbad
      go_wp2
      go_ret
      exact ⟨ret_int E.out.symm, hb⟩
    by_cases h2 : t < f
    · go_enter Try.func21, Try.ntmps21
      go_wp2_with fail
      ((with_reducible refine (validLines_i _ _ _ xs _ HN.out hm ?_).mono ?_); (exact hr); rintro e w1 ⟨rfl, hb⟩)
      rw [HV.out]
      clear hbad
      go_wp2
      go_ret
      exact ⟨ret_int E.out.symm, hb⟩
    · have h3 : (n : Int) < t := by omega
      go_enter Try.func21, Try.ntmps21
      go_wp2_with fail
      ((with_reducible refine (validLines_i _ _ _ xs _ HN.out hm ?_).mono ?_); (exact hr); rintro e w1 ⟨rfl, hb⟩)
      rw [HV.out]
      clear hbad
      go_wp2
      go_ret
      exact ⟨ret_int E.out.symm, hb⟩

set_option maxHeartbeats 1000000 in
theorem heightV_s (A : Option Addr) (n cap : Nat) (f t : Int) (xs : List Ln) (w : World) (hn : xs.length = n) (hm : n ≤ maxLen) (hr : Row w w.heap.size 3 A n (lnc xs)) :
    Calls Try.prog 20 #[.slice A n cap, .int .i64 f, .int .i64 t] w fun e w' => e = .returned (.int .i64 (heightV xs f t)) ∧ Below w.heap.size w w' := by
  rcases hv : linesOk xs with _ | _
  · have e := height_bad (f := f) (t := t) hv
    have E := Lib.hid e; clear e
    go_enter Try.func20, Try.ntmps20
    go_wp2_with fail
    ((with_reducible refine (validLines_s _ _ _ xs _ hn hm ?_).mono ?_); (exact hr); rintro e w1 ⟨rfl, hb⟩)
    rw [hv]
    go_wp2
    go_ret
    exact ⟨ret_int E.out.symm, hb⟩
  have hl := linesOk_len hv
  rw [hn] at hl
  have HN := Lib.hid hn; clear hn
  have HV := Lib.hid hv; clear hv
  by_cases hbad : 0 ≤ f ∧ f ≤ t ∧ t ≤ n
  · obtain ⟨h1, h2, h3⟩ := hbad
    obtain ⟨fk, rfl⟩ := Int.eq_ofNat_of_zero_le h1
    obtain ⟨tk, rfl⟩ := Int.eq_ofNat_of_zero_le (show 0 ≤ t by omega)
    have e := height_yes (f := fk) (t := tk) HV.out HN.out (by omega) (by omega)
    have E := Lib.hid e; clear e
    go_enter Try.func20, Try.ntmps20
    go_wp2_with fail
    ((with_reducible refine (validLines_s _ _ _ xs _ HN.out hm ?_).mono ?_); (exact hr); rintro e w1 ⟨rfl, hb⟩)
    rw [HV.out]
    go_wp2_with fail
    ((with_reducible refine (pageHeight_s _ _ _ fk tk xs _ HV.out HN.out (by omega) (by omega) ?_).mono ?_); (exact hr.then_ hb); rintro e w2 ⟨rfl, hb2⟩)
    go_wp2
    go_ret
    exact ⟨ret_int E.out.symm, by (repeat' (first | (with_reducible exact Below.refl _ _) | (with_reducible assumption) | (with_reducible refine Below.alloc ?_ ?_ _) | (with_reducible refine Below.drew ?_) | (with_reducible refine below_drewN ?_ _) | (with_reducible refine Below.setCell ?_ ?_ _) | (with_reducible refine below_then ?_ ?_ (by with_reducible assumption)) | (with_reducible exact Nat.le_refl _) | go_size | (simp only [*]; done)))⟩
  · have e := height_no HN.out hbad
    have E := Lib.hid e; clear e
    by_cases h1 : f < 0
    · go_enter Try.func20, Try.ntmps20
      go_wp2_with fail
      ((with_reducible refine (validLines_s _ _ _ xs _ HN.out hm ?_).mono ?_); (exact hr); rintro e w1 ⟨rfl, hb⟩)
      rw [HV.out]
      clear hbad
      go_wp2
      go_ret
      exact ⟨ret_int E.out.symm, hb⟩
    by_cases h2 : t < f
    · go_enter Try.func20, Try.ntmps20
      go_wp2_with fail
      ((with_reducible refine (validLines_s _ _ _ xs _ HN.out hm ?_).mono ?_); (exact hr); rintro e w1 ⟨rfl, hb⟩)
      rw [HV.out]
      clear hbad
      go_wp2
      go_ret
      exact ⟨ret_int E.out.symm, hb⟩
    · have h3 : (n : Int) < t := by omega
      go_enter Try.func20, Try.ntmps20
      go_wp2_with fail
      ((with_reducible refine (validLines_s _ _ _ xs _ HN.out hm ?_).mono ?_); (exact hr); rintro e w1 ⟨rfl, hb⟩)
      rw [HV.out]
      clear hbad
      go_wp2
      go_ret
      exact ⟨ret_int E.out.symm, hb⟩
end Go.Proofs.Yticdgpgbpgjnbaa
