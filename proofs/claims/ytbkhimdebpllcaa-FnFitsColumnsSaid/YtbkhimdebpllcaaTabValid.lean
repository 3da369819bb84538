/- ValidTable, of the program and of the reference, is what the plain function says. Conditions: the slices read as a table. -/
import Derived.Test.YtbkhimdebpllcaaTab
namespace Go.Proofs.Ytbkhimdebpllcaa
open Go.RowKit

theorem tab_no1 {rs : List (List Cl)} {m : Int} (h : inR m 1 8 = false) : tabOk rs m = false := by simp [tabOk, h]
theorem tab_no2 {rs : List (List Cl)} {n : Nat} {m : Int} (hn : rs.length = n) (h : 10 < n) : tabOk rs m = false := by
  have : decide (rs.length ≤ 10) = false := by rw [hn]; simp; omega
  simp [tabOk, this]

set_option maxHeartbeats 2000000 in
theorem validTable_i (A : Option Addr) (n cap : Nat) (m : Int) (rs : List (List Cl)) (w : World) (hm : n ≤ maxLen) (hr : Tab w w.heap.size A n rs) :
    Calls Try.prog 21 #[.slice A n cap, .int .i64 m] w fun e w' => e = .returned (.bool (tabOk rs m)) ∧ Below w.heap.size w w' := by
  unfold maxLen at hm
  rcases hc : inR m 1 8 with _ | _
  · rw [tab_no1 hc]
    have HC := Lib.hid hc
    clear hr hc
    go_enter Try.func21, Try.ntmps21
    go_wp2_with fail
    ((with_reducible refine (within_any _ _ _ _).mono ?_); rintro e w' ⟨rfl, rfl⟩)
    rw [HC.out]
    go_wp2_with fail
    go_ret
    exact ⟨rfl, Below.refl _ _⟩
  by_cases hbig : 10 < n
  · rw [tab_no2 hr.len hbig]
    have HC := Lib.hid hc
    clear hr hc
    go_enter Try.func21, Try.ntmps21
    go_wp2_with fail
    ((with_reducible refine (within_any _ _ _ _).mono ?_); rintro e w' ⟨rfl, rfl⟩)
    rw [HC.out]
    go_wp2_with fail
    go_ret
    exact ⟨rfl, Below.refl _ _⟩
  obtain ⟨m0, m1⟩ := inR_iff.1 hc
  have HC := Lib.hid hc
  obtain ⟨hn, As, cs, h2, h3⟩ := hr
  have HN := Lib.hid hn
  have H3 := Lib.hid h3
  clear hn h3 hc
  go_enter Try.func21, Try.ntmps21
  go_wp2_with fail
  ((with_reducible refine (within_any _ _ _ _).mono ?_); rintro e w' ⟨rfl, rfl⟩)
  rw [HC.out]
  go_wp2_with fail
  go_loopg [20] n (fun k i wr => ∃ j : Nat, j ≤ n ∧ k = n - j ∧ i = .int .i64 (j : Int) ∧ Hid ((rs.take j).all (rowOk m) = true) ∧ Below w.heap.size w wr)
  case atStart => exact ⟨0, Nat.zero_le _, rfl, rfl, by simp [Hid], Below.refl _ _⟩
  case round =>
    obtain ⟨j, hj, hk, rfl, hall, hbel⟩ := hrel
    have HK := Lib.hid hk; clear hk
    have hsz := hbel.size
    obtain ⟨wo, hwo⟩ : ∃ wo : World, wo = wr := ⟨_, rfl⟩
    subst hwo
    by_cases hlt : j < n
    · obtain ⟨b, off, rfl, hb, hc⟩ := h2.at1 (by omega)
      have c0 : wo.cell? ⟨b, off + j, none⟩ = _ := (hbel.cell (p := ⟨b, off + j, none⟩) hb).trans (hc j hlt)
      obtain ⟨hlm, hi3⟩ := H3.out j hlt
      obtain ⟨x, hx⟩ : ∃ x, rl rs j = x := ⟨_, rfl⟩
      rw [hx] at c0 hlm hi3
      obtain ⟨q, hq⟩ : ∃ q, x.length = q := ⟨_, rfl⟩
      rw [hq] at c0 hlm hi3
      obtain ⟨C, hC⟩ : ∃ C, cs j = C := ⟨_, rfl⟩
      obtain ⟨D, hD⟩ : ∃ D, As j = D := ⟨_, rfl⟩
      rw [hC, hD] at c0
      rw [hD] at hi3
      unfold maxLen at hlm
      have HX : Hid (rs.getD j default = x) := hx
      have HQ := Lib.hid hq
      have HI := Lib.hid (hi3.below hbel)
      have hjn : (j : Int) < (n : Int) := by omega
      clear hc hx hq hC hD hi3
      go_wp2_with fail
      go_loopg [7, 27] q (fun kk l i wi => ∃ (p : Nat) (v : Int), p ≤ q ∧ kk = q - p ∧ i = .int .i64 (p : Int) ∧ l = .int .i64 v ∧ (0 ≤ v ∧ v ≤ 8) ∧ Hid (rowR m (x.take p) = some v) ∧ Below w.heap.size w wi)
      case atStart => exact ⟨0, m, Nat.zero_le _, rfl, rfl, rfl, ⟨by omega, by omega⟩, rfl, hbel⟩
      case round =>
        obtain ⟨p, v, hp, hk2, rfl, rfl, ⟨v0, v1⟩, hrow, hbi⟩ := hrel
        have HK2 := Lib.hid hk2; clear hk2
        have hszi := hbi.size
        by_cases hpl : p < q
        · obtain ⟨b', off', rfl, hb', hc'⟩ := HI.out (by omega)
          have e0 : wo.cell? ⟨b', off' + p * 2, none⟩ = _ := hc' p 0 hpl (by omega)
          have d0 : w.cell? ⟨b', off' + p * 2, none⟩ = _ := (hbel.cell (p := ⟨b', off' + p * 2, none⟩) hb').symm.trans (hc' p 0 hpl (by omega))
          have d1 : w.cell? ⟨b', off' + p * 2 + 1, none⟩ = _ := (hbel.cell (p := ⟨b', off' + p * 2 + 1, none⟩) hb').symm.trans (hc' p 1 hpl (by omega))
          have c0' : wr.cell? ⟨b', off' + p * 2, none⟩ = _ := (hbi.cell (p := ⟨b', off' + p * 2, none⟩) hb').trans d0
          have c1' : wr.cell? ⟨b', off' + p * 2 + 1, none⟩ = _ := (hbi.cell (p := ⟨b', off' + p * 2 + 1, none⟩) hb').trans d1
          obtain ⟨y, hy⟩ : ∃ y, x.getD p default = y := ⟨_, rfl⟩
          simp only [clc, hy] at c0' c1'
          have HY := Lib.hid hy
          have hpq : (p : Int) < (q : Int) := by omega
          clear e0 d0 d1 hy hc'
          rcases h1 : inR y.w 0 1000 with _ | _
          · have e := tab_bad HN.out hlt HX.out (rowR_stop HQ.out hpl HY.out hrow.out (by rw [h1]; rfl))
            have HE := Lib.hid e
            have H1 := Lib.hid h1
            clear e h1
            go_wp2_with fail
            ((with_reducible refine (within_any _ _ _ _).mono ?_); rintro e w' ⟨rfl, rfl⟩)
            rw [H1.out]
            go_wp2_with fail
            go_ret
            exact ⟨ret_bool HE.out.symm, by (repeat' (first | (with_reducible exact Below.refl _ _) | (with_reducible assumption) | (with_reducible refine Below.alloc ?_ ?_ _) | (with_reducible refine Below.drew ?_) | (with_reducible refine below_drewN ?_ _) | (with_reducible refine Below.setCell ?_ ?_ _) | (with_reducible refine below_then ?_ ?_ (by with_reducible assumption)) | (with_reducible exact Nat.le_refl _) | go_size | (simp only [*]; done)))⟩
          rcases h4 : inR y.s 1 v with _ | _
          · have e := tab_bad HN.out hlt HX.out (rowR_stop HQ.out hpl HY.out hrow.out (by rw [h1, h4]; rfl))
            have HE := Lib.hid e
            have H1 := Lib.hid h1
            have H4 := Lib.hid h4
            clear e h1 h4
            go_wp2_with fail
            ((with_reducible refine (within_any _ _ _ _).mono ?_); rintro e w' ⟨rfl, rfl⟩)
            rw [H1.out]
            go_wp2_with fail
            ((with_reducible refine (within_any _ _ _ _).mono ?_); rintro e w' ⟨rfl, rfl⟩)
            rw [H4.out]
            go_wp2_with fail
            go_ret
            exact ⟨ret_bool HE.out.symm, by (repeat' (first | (with_reducible exact Below.refl _ _) | (with_reducible assumption) | (with_reducible refine Below.alloc ?_ ?_ _) | (with_reducible refine Below.drew ?_) | (with_reducible refine below_drewN ?_ _) | (with_reducible refine Below.setCell ?_ ?_ _) | (with_reducible refine below_then ?_ ?_ (by with_reducible assumption)) | (with_reducible exact Nat.le_refl _) | go_size | (simp only [*]; done)))⟩
          · have hn2 := rowR_step HQ.out hpl HY.out hrow.out h1 h4
            obtain ⟨y0, y1⟩ := inR_iff.1 h4
            have HN2 := Lib.hid hn2
            have H1 := Lib.hid h1
            have H4 := Lib.hid h4
            clear hn2 h1 h4
            go_wp2_with fail
            ((with_reducible refine (within_any _ _ _ _).mono ?_); rintro e w' ⟨rfl, rfl⟩)
            rw [H1.out]
            go_wp2_with fail
            ((with_reducible refine (within_any _ _ _ _).mono ?_); rintro e w' ⟨rfl, rfl⟩)
            rw [H4.out]
            go_wp2_with fail
            go_roundg (q - (p + 1))
            case measure => have := HK2.out; omega
            case rel => exact ⟨p + 1, v - y.s, by omega, rfl, by go_num, rfl, ⟨by omega, by omega⟩, HN2.out, by (repeat' (first | (with_reducible exact Below.refl _ _) | (with_reducible assumption) | (with_reducible refine Below.alloc ?_ ?_ _) | (with_reducible refine Below.drew ?_) | (with_reducible refine below_drewN ?_ _) | (with_reducible refine Below.setCell ?_ ?_ _) | (with_reducible refine below_then ?_ ?_ (by with_reducible assumption)) | (with_reducible exact Nat.le_refl _) | go_size | (simp only [*]; done)))⟩
        · have he := rowR_end HQ.out (show q ≤ p by omega) hrow.out
          by_cases hv : v = 0
          · have hv' : (v == 0) = true := by simp [hv]
            rw [hv'] at he
            have HE := Lib.hid (all_more HN.out hlt HX.out hall.out he)
            clear he hv
            go_wp2_with fail
            go_roundg (n - (j + 1))
            case measure => have := HK.out; omega
            case rel => exact ⟨j + 1, by omega, rfl, by go_num, HE.out, hbi⟩
          · have hv' : (v == 0) = false := by simp [hv]
            rw [hv'] at he
            have HE := Lib.hid (tab_bad HN.out hlt HX.out he)
            clear he hv
            go_wp2_with fail
            go_ret
            exact ⟨ret_bool HE.out.symm, hbi⟩
    · have e := tab_end HN.out (show n ≤ j by omega) hall.out
      have HE := Lib.hid e
      clear e
      go_wp2_with fail
      go_ret
      exact ⟨ret_bool (by rw [HE.out, HC.out]; simp; omega), hbel⟩

set_option maxHeartbeats 2000000 in
theorem validRow_s (D : Option Addr) (q C : Nat) (m : Int) (x : List Cl) (w : World) (hq : x.length = q) (hm : q ≤ maxLen) (m0 : 1 ≤ m) (m1 : m ≤ 8) (hr : Row w w.heap.size 2 D q (clc x)) :
    Calls Try.prog 51 #[.slice D q C, .int .i64 m] w fun e w' => e = .returned (.bool (rowOk m x)) ∧ Below w.heap.size w w' := by
  unfold maxLen at hm
  have HQ := Lib.hid hq
  clear hq
  go_enter Try.func51, Try.ntmps51
  go_wp2_with fail
  go_loopg [5, 6] q (fun kk l i wi => ∃ (p : Nat) (v : Int), p ≤ q ∧ kk = q - p ∧ i = .int .i64 (p : Int) ∧ l = .int .i64 (m - v) ∧ (0 ≤ v ∧ v ≤ m) ∧ Hid (rowR m (x.take p) = some v) ∧ Below w.heap.size w wi)
  case atStart => exact ⟨0, m, Nat.zero_le _, rfl, rfl, by go_num, ⟨by omega, by omega⟩, rfl, Below.refl _ _⟩
  case round =>
    obtain ⟨p, v, hp, hk2, rfl, rfl, ⟨v0, v1⟩, hrow, hbi⟩ := hrel
    have HK2 := Lib.hid hk2; clear hk2
    have hszi := hbi.size
    by_cases hpl : p < q
    · obtain ⟨b', off', rfl, hb', hc'⟩ := hr (by omega)
      have c0' : wr.cell? ⟨b', off' + p * 2, none⟩ = _ := (hbi.cell (p := ⟨b', off' + p * 2, none⟩) hb').trans (hc' p 0 hpl (by omega))
      have c1' : wr.cell? ⟨b', off' + p * 2 + 1, none⟩ = _ := (hbi.cell (p := ⟨b', off' + p * 2 + 1, none⟩) hb').trans (hc' p 1 hpl (by omega))
      obtain ⟨y, hy⟩ : ∃ y, x.getD p default = y := ⟨_, rfl⟩
      simp only [clc, hy] at c0' c1'
      have HY := Lib.hid hy
      have hpq : (p : Int) < (q : Int) := by omega
      clear hy hc'
      have hstop : (inR y.w 0 1000 && inR y.s 1 v) = false → rowOk m x = false := fun h => rowR_stop HQ.out hpl HY.out hrow.out h
      have HST := Lib.hid hstop
      clear hstop
      rcases h4 : inR y.s 1 m with _ | _
      · have e : rowOk m x = false := HST.out (by
          rcases h1 : inR y.s 1 v with _ | _
          · simp
          · have h5 := inR_no.1 h4
            have h6 := inR_iff.1 h1
            omega)
        have HE := Lib.hid e
        have H4 := Lib.hid h4
        clear e h4
        go_wp2_with fail
        ((with_reducible refine (inRange_any _ _ _ _).mono ?_); rintro e w' ⟨rfl, rfl⟩)
        rw [H4.out]
        go_wp2_with fail
        go_ret
        exact ⟨ret_bool HE.out.symm, hbi⟩
      obtain ⟨y0, y1⟩ := inR_iff.1 h4
      rcases h1 : inR y.w 0 1000 with _ | _
      · have e : rowOk m x = false := HST.out (by rw [h1]; rfl)
        have HE := Lib.hid e
        have H1 := Lib.hid h1
        have H4 := Lib.hid h4
        clear e h1 h4
        go_wp2_with fail
        ((with_reducible refine (inRange_any _ _ _ _).mono ?_); rintro e w' ⟨rfl, rfl⟩)
        rw [H4.out]
        go_wp2_with fail
        ((with_reducible refine (inRange_any _ _ _ _).mono ?_); rintro e w' ⟨rfl, rfl⟩)
        rw [H1.out]
        go_wp2_with fail
        go_ret
        exact ⟨ret_bool HE.out.symm, hbi⟩
      have H1 := Lib.hid h1
      have H4 := Lib.hid h4
      clear h1 h4
      by_cases h5 : v < y.s
      · have e : rowOk m x = false := HST.out (by rw [inR_no.2 (show y.s < 1 ∨ v < y.s by omega), Bool.and_false])
        have HE := Lib.hid e
        have h6 : m < m - v + y.s := by omega
        clear e
        go_wp2_with fail
        ((with_reducible refine (inRange_any _ _ _ _).mono ?_); rintro e w' ⟨rfl, rfl⟩)
        rw [H4.out]
        go_wp2_with fail
        ((with_reducible refine (inRange_any _ _ _ _).mono ?_); rintro e w' ⟨rfl, rfl⟩)
        rw [H1.out]
        go_wp2_with fail
        go_ret
        exact ⟨ret_bool HE.out.symm, hbi⟩
      · have hn2 := rowR_step HQ.out hpl HY.out hrow.out H1.out (inR_iff.2 ⟨y0, by omega⟩)
        have HN2 := Lib.hid hn2
        have h6 : m - v + y.s ≤ m := by omega
        clear hn2
        go_wp2_with fail
        ((with_reducible refine (inRange_any _ _ _ _).mono ?_); rintro e w' ⟨rfl, rfl⟩)
        rw [H4.out]
        go_wp2_with fail
        ((with_reducible refine (inRange_any _ _ _ _).mono ?_); rintro e w' ⟨rfl, rfl⟩)
        rw [H1.out]
        go_wp2_with fail
        go_roundg (q - (p + 1))
        case measure => have := HK2.out; omega
        case rel => exact ⟨p + 1, v - y.s, by omega, rfl, by go_num, by go_num, ⟨by omega, by omega⟩, HN2.out, by (repeat' (first | (with_reducible exact Below.refl _ _) | (with_reducible assumption) | (with_reducible refine Below.alloc ?_ ?_ _) | (with_reducible refine Below.drew ?_) | (with_reducible refine below_drewN ?_ _) | (with_reducible refine Below.setCell ?_ ?_ _) | (with_reducible refine below_then ?_ ?_ (by with_reducible assumption)) | (with_reducible exact Nat.le_refl _) | go_size | (simp only [*]; done)))⟩
    · have he := rowR_end HQ.out (show q ≤ p by omega) hrow.out
      have HE := Lib.hid he
      clear he
      by_cases hv : v = 0
      · subst hv
        have hv' : ((m - 0 : Int) == m) = true := by simp
        go_wp2_with fail
        go_ret
        exact ⟨ret_bool (by rw [HE.out]; simp), hbi⟩
      · have hv' : ((m - v : Int) == m) = false := by simp; omega
        go_wp2_with fail
        go_ret
        exact ⟨ret_bool (by rw [HE.out]; simp; omega), hbi⟩
set_option maxHeartbeats 2000000 in
theorem validRow_b (D : Option Addr) (q C : Nat) (m : Int) (x : List Cl) (w : World) (_hq : x.length = q) (hm : q ≤ maxLen) (hr : Row w w.heap.size 2 D q (clc x)) :
    Calls Try.prog 51 #[.slice D q C, .int .i64 m] w fun e w' => (∃ b, e = .returned (.bool b)) ∧ Below w.heap.size w w' := by
  unfold maxLen at hm
  clear _hq
  go_enter Try.func51, Try.ntmps51
  go_wp2_with fail
  go_loopg [5, 6] q (fun kk l i wi => ∃ (p : Nat) (v : Int), p ≤ q ∧ kk = q - p ∧ i = .int .i64 (p : Int) ∧ l = .int .i64 v ∧ Below w.heap.size w wi)
  case atStart => exact ⟨0, 0, Nat.zero_le _, rfl, rfl, rfl, Below.refl _ _⟩
  case round =>
    obtain ⟨p, v, hp, hk2, rfl, rfl, hbi⟩ := hrel
    have HK2 := Lib.hid hk2; clear hk2
    have hszi := hbi.size
    by_cases hpl : p < q
    · obtain ⟨b', off', rfl, hb', hc'⟩ := hr (by omega)
      have c0' : wr.cell? ⟨b', off' + p * 2, none⟩ = _ := (hbi.cell (p := ⟨b', off' + p * 2, none⟩) hb').trans (hc' p 0 hpl (by omega))
      have c1' : wr.cell? ⟨b', off' + p * 2 + 1, none⟩ = _ := (hbi.cell (p := ⟨b', off' + p * 2 + 1, none⟩) hb').trans (hc' p 1 hpl (by omega))
      obtain ⟨y, hy⟩ : ∃ y, x.getD p default = y := ⟨_, rfl⟩
      simp only [clc, hy] at c0' c1'
      have hpq : (p : Int) < (q : Int) := by omega
      clear hy hc'
      rcases h4 : inR y.s 1 m with _ | _
      · have H4 := Lib.hid h4
        clear h4
        go_wp2_with fail
        ((with_reducible refine (inRange_any _ _ _ _).mono ?_); rintro e w' ⟨rfl, rfl⟩)
        rw [H4.out]
        go_wp2_with fail
        go_ret
        exact ⟨⟨_, rfl⟩, hbi⟩
      rcases h1 : inR y.w 0 1000 with _ | _
      · have H1 := Lib.hid h1
        have H4 := Lib.hid h4
        clear h1 h4
        go_wp2_with fail
        ((with_reducible refine (inRange_any _ _ _ _).mono ?_); rintro e w' ⟨rfl, rfl⟩)
        rw [H4.out]
        go_wp2_with fail
        ((with_reducible refine (inRange_any _ _ _ _).mono ?_); rintro e w' ⟨rfl, rfl⟩)
        rw [H1.out]
        go_wp2_with fail
        go_ret
        exact ⟨⟨_, rfl⟩, hbi⟩
      have H1 := Lib.hid h1
      have H4 := Lib.hid h4
      clear h1 h4
      obtain ⟨V, hV⟩ : ∃ V, IntKind.i64.wrap (v + y.s) = V := ⟨_, rfl⟩
      by_cases h5 : m < V
      · go_wp2_with fail
        ((with_reducible refine (inRange_any _ _ _ _).mono ?_); rintro e w' ⟨rfl, rfl⟩)
        rw [H4.out]
        go_wp2_with fail
        ((with_reducible refine (inRange_any _ _ _ _).mono ?_); rintro e w' ⟨rfl, rfl⟩)
        rw [H1.out]
        go_wp2_with fail
        go_ret
        exact ⟨⟨_, rfl⟩, hbi⟩
      · go_wp2_with fail
        ((with_reducible refine (inRange_any _ _ _ _).mono ?_); rintro e w' ⟨rfl, rfl⟩)
        rw [H4.out]
        go_wp2_with fail
        ((with_reducible refine (inRange_any _ _ _ _).mono ?_); rintro e w' ⟨rfl, rfl⟩)
        rw [H1.out]
        go_wp2_with fail
        go_roundg (q - (p + 1))
        case measure => have := HK2.out; omega
        case rel => exact ⟨p + 1, V, by omega, rfl, by go_num, rfl, by (repeat' (first | (with_reducible exact Below.refl _ _) | (with_reducible assumption) | (with_reducible refine Below.alloc ?_ ?_ _) | (with_reducible refine Below.drew ?_) | (with_reducible refine below_drewN ?_ _) | (with_reducible refine Below.setCell ?_ ?_ _) | (with_reducible refine below_then ?_ ?_ (by with_reducible assumption)) | (with_reducible exact Nat.le_refl _) | go_size | (simp only [*]; done)))⟩
    · go_wp2_with fail
      go_ret
      exact ⟨⟨_, rfl⟩, hbi⟩

set_option maxHeartbeats 2000000 in
theorem validTable_s (A : Option Addr) (n cap : Nat) (m : Int) (rs : List (List Cl)) (w : World) (hm : n ≤ maxLen) (hr : Tab w w.heap.size A n rs) :
    Calls Try.prog 39 #[.slice A n cap, .int .i64 m] w fun e w' => e = .returned (.bool (tabOk rs m)) ∧ Below w.heap.size w w' := by
  unfold maxLen at hm
  obtain ⟨hn, As, cs, h2, h3⟩ := hr
  have HN := Lib.hid hn
  have H3 := Lib.hid h3
  clear hn h3
  rcases hc : inR m 1 8 with _ | _
  · rw [tab_no1 hc]
    have HC := Lib.hid hc
    clear hc
    go_enter Try.func39, Try.ntmps39
    go_wp2_with fail
    go_loopg [5] n (fun k i wr => ∃ j : Nat, j ≤ n ∧ k = n - j ∧ i = .int .i64 (j : Int) ∧ Below w.heap.size w wr)
    case atStart => exact ⟨0, Nat.zero_le _, rfl, rfl, Below.refl _ _⟩
    case round =>
      obtain ⟨j, hj, hk, rfl, hbel⟩ := hrel
      have HK := Lib.hid hk; clear hk
      have hsz := hbel.size
      by_cases hlt : j < n
      · obtain ⟨b, off, rfl, hb, hc⟩ := h2.at1 (by omega)
        have c0 : wr.cell? ⟨b, off + j, none⟩ = _ := (hbel.cell (p := ⟨b, off + j, none⟩) hb).trans (hc j hlt)
        obtain ⟨hlm, hi3⟩ := H3.out j hlt
        have HI := Lib.hid ((hi3.below hbel).more hsz)
        have hjn : (j : Int) < (n : Int) := by omega
        clear hc hi3
        go_wp2_with fail
        ((with_reducible refine (validRow_b _ _ _ m (rl rs j) _ rfl hlm ?_).mono ?_); (exact HI.out); rintro e w2 ⟨⟨bb, rfl⟩, hb2⟩)
        have hB2 := below_then (Nat.le_refl _) hbel hb2
        rcases bb with _ | _
        · go_wp2_with fail
          go_ret
          exact ⟨rfl, hB2⟩
        · go_wp2_with fail
          go_roundg (n - (j + 1))
          case measure => have := HK.out; omega
          case rel => exact ⟨j + 1, by omega, rfl, by go_num, hB2⟩
      · go_wp2_with fail
        ((with_reducible refine (inRange_any _ _ _ _).mono ?_); rintro e w' ⟨rfl, rfl⟩)
        rw [HC.out]
        go_wp2_with fail
        go_ret
        exact ⟨rfl, hbel⟩
  obtain ⟨m0, m1⟩ := inR_iff.1 hc
  have HC := Lib.hid hc
  clear hc
  go_enter Try.func39, Try.ntmps39
  go_wp2_with fail
  go_loopg [5] n (fun k i wr => ∃ j : Nat, j ≤ n ∧ k = n - j ∧ i = .int .i64 (j : Int) ∧ Hid ((rs.take j).all (rowOk m) = true) ∧ Below w.heap.size w wr)
  case atStart => exact ⟨0, Nat.zero_le _, rfl, rfl, by simp [Hid], Below.refl _ _⟩
  case round =>
    obtain ⟨j, hj, hk, rfl, hall, hbel⟩ := hrel
    have HK := Lib.hid hk; clear hk
    have hsz := hbel.size
    by_cases hlt : j < n
    · obtain ⟨b, off, rfl, hb, hc⟩ := h2.at1 (by omega)
      have c0 : wr.cell? ⟨b, off + j, none⟩ = _ := (hbel.cell (p := ⟨b, off + j, none⟩) hb).trans (hc j hlt)
      obtain ⟨hlm, hi3⟩ := H3.out j hlt
      have HI := Lib.hid ((hi3.below hbel).more hsz)
      have hjn : (j : Int) < (n : Int) := by omega
      clear hc hi3
      go_wp2_with fail
      ((with_reducible refine (validRow_s _ _ _ m (rl rs j) _ rfl hlm m0 m1 ?_).mono ?_); (exact HI.out); rintro e w2 ⟨rfl, hb2⟩)
      have hB2 := below_then (Nat.le_refl _) hbel hb2
      rcases hv : rowOk m (rl rs j) with _ | _
      · have HE := Lib.hid (tab_bad HN.out hlt rfl hv)
        clear hv
        go_wp2_with fail
        go_ret
        exact ⟨ret_bool HE.out.symm, hB2⟩
      · have HE := Lib.hid (all_more HN.out hlt rfl hall.out hv)
        clear hv
        go_wp2_with fail
        go_roundg (n - (j + 1))
        case measure => have := HK.out; omega
        case rel => exact ⟨j + 1, by omega, rfl, by go_num, HE.out, hB2⟩
    · have e := tab_end HN.out (show n ≤ j by omega) hall.out
      have HE := Lib.hid e
      clear e
      by_cases h10 : n ≤ 10
      · go_wp2_with fail
        ((with_reducible refine (inRange_any _ _ _ _).mono ?_); rintro e w' ⟨rfl, rfl⟩)
        rw [HC.out]
        go_wp2_with fail
        go_ret
        exact ⟨ret_bool (by rw [HE.out, HC.out]; simp; omega), hbel⟩
      · go_wp2_with fail
        ((with_reducible refine (inRange_any _ _ _ _).mono ?_); rintro e w' ⟨rfl, rfl⟩)
        rw [HC.out]
        go_wp2_with fail
        go_ret
        exact ⟨ret_bool (by rw [HE.out, HC.out]; simp; omega), hbel⟩
theorem validTable_S (A : Option Addr) (n cap : Nat) (m : Int) (rs : List (List Cl)) (w : World) (hm : n ≤ maxLen) (hr : Tab w w.heap.size A n rs) :
    Calls Try.prog 19 #[.slice A n cap, .int .i64 m] w fun e w' => e = .returned (.bool (tabOk rs m)) ∧ Below w.heap.size w w' := by
  go_enter Try.func19, Try.ntmps19
  go_wp2_with fail
  ((with_reducible refine (validTable_s _ _ _ m rs _ hm ?_).mono ?_); (exact hr); rintro e w1 ⟨rfl, hb⟩)
  go_wp2
  go_ret
  exact ⟨rfl, hb⟩
end Go.Proofs.Ytbkhimdebpllcaa
