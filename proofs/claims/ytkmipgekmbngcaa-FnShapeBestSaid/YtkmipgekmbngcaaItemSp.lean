/- Items of a paragraph, of the reference: breaks and valid items are what the plain functions say. Conditions: the slice reads as the list. -/
import Derived.Test.YtkmipgekmbngcaaMSb4
namespace Go.Proofs.Ytkmipgekmbngcaa
open Go.RowKit

set_option maxHeartbeats 1000000 in
theorem isBreak_s (A : Option Addr) (n cap k : Nat) (xs : List It) (w : World) (hn : xs.length = n) (hk : k < n) (hm : n ≤ maxLen) (hr : Row w w.heap.size 6 A n (itc xs)) :
    Calls Try.prog 61 #[.slice A n cap, .int .i64 (k : Int)] w fun e w' => e = .returned (.bool (brk xs k)) ∧ Below w.heap.size w w' := by
  unfold maxLen at hm
  obtain ⟨b, off, rfl, hb, hc⟩ := hr (by omega)
  have c0 := hc k 0 hk (by omega)
  have c4 := hc k 4 hk (by omega)
  obtain ⟨x, hx⟩ : ∃ x, xs.getD k default = x := ⟨_, rfl⟩
  simp only [itc, itv, hx, Nat.add_zero] at c0 c4
  have Hx := Lib.hid hx
  have hlt : (k : Int) < (n : Int) := by omega
  clear hx hn
  cases k with
  | zero =>
    have E := brk_zero Hx.out
    simp only [Nat.zero_mul, Nat.add_zero] at c0 c4
    show Calls _ _ #[.slice (some ⟨b, off, none⟩) n cap, .int .i64 0] w _
    have HE := Lib.hid E
    clear E hc
    rcases h2 : (x.k == 2) with _ | _
    · rcases h3 : (x.k == 3) with _ | _
      · go_enter Try.func61, Try.ntmps61
        go_wp2_with fail
        go_ret
        exact ⟨ret_bool (by simp [HE.out, h3]), Below.refl _ _⟩
      · by_cases h4 : x.pen < 1000
        · go_enter Try.func61, Try.ntmps61
          go_wp2_with fail
          go_ret
          exact ⟨ret_bool (by simp [HE.out, h3, h4]), Below.refl _ _⟩
        · go_enter Try.func61, Try.ntmps61
          go_wp2_with fail
          go_ret
          exact ⟨ret_bool (by simp [HE.out, h3, h4]), Below.refl _ _⟩
    · have h3 : (x.k == 3) = false := by have : x.k = 2 := by simpa using h2
                                         simp [this]
      go_enter Try.func61, Try.ntmps61
      go_wp2_with fail
      go_ret
      exact ⟨ret_bool (by simp [HE.out, h3]), Below.refl _ _⟩
  | succ j =>
    have d0 := hc j 0 (by omega) (by omega)
    obtain ⟨y, hy⟩ : ∃ y, xs.getD j default = y := ⟨_, rfl⟩
    simp only [itc, itv, hy, Nat.add_zero] at d0
    have E := brk_succ Hx.out hy
    rw [show ((j + 1 : Nat) : Int) = (j : Int) + 1 by omega] at hlt ⊢
    have HE := Lib.hid E
    clear E hy hc
    rcases h2 : (x.k == 2) with _ | _
    · rcases h3 : (x.k == 3) with _ | _
      · have h3' : ¬ x.k = 3 := by simpa using h3
        have H3 := Lib.hid h3'
        clear h3'
        go_enter Try.func61, Try.ntmps61
        go_wp2_with fail
        go_ret
        exact ⟨ret_bool (by simp [HE.out, H3.out, h2]), Below.refl _ _⟩
      · have h3' : x.k = 3 := by simpa using h3
        have H3 := Lib.hid h3'
        clear h3'
        by_cases h4 : x.pen < 1000
        · go_enter Try.func61, Try.ntmps61
          go_wp2_with fail
          go_ret
          exact ⟨ret_bool (by simp [HE.out, H3.out, h4]), Below.refl _ _⟩
        · go_enter Try.func61, Try.ntmps61
          go_wp2_with fail
          go_ret
          exact ⟨ret_bool (by simp [HE.out, H3.out, h4]), Below.refl _ _⟩
    · have h3' : ¬ x.k = 3 := by have : x.k = 2 := by simpa using h2
                                 omega
      have H3 := Lib.hid h3'
      clear h3'
      go_enter Try.func61, Try.ntmps61
      go_wp2_with fail
      go_ret
      exact ⟨ret_bool (by simp [HE.out, H3.out, h2]), Below.refl _ _⟩

set_option maxHeartbeats 1000000 in
theorem validItems_s (A : Option Addr) (n cap : Nat) (xs : List It) (w : World) (hn : xs.length = n) (hm : n ≤ maxLen) (hr : Row w w.heap.size 6 A n (itc xs)) :
    Calls Try.prog 42 #[.slice A n cap] w fun e w' => e = .returned (.bool (itemsOk xs)) ∧ Below w.heap.size w w' := by
  unfold maxLen at hm
  have HN := Lib.hid hn; clear hn
  have hr0 := Lib.hid hr
  go_enter Try.func42, Try.ntmps42
  go_wp2_with fail
  go_loopg [3] n (fun k i wr => ∃ j : Nat, j ≤ n ∧ k = n - j ∧ i = .int .i64 j ∧ Hid ((xs.take j).all itemOk = true) ∧ Below w.heap.size w wr)
  case atStart => exact ⟨0, Nat.zero_le _, rfl, rfl, by simp [Hid], Below.refl _ _⟩
  case round =>
    obtain ⟨j, hj, hk, rfl, hall, hbel⟩ := hrel
    have HK := Lib.hid hk; clear hk
    have hsz := hbel.size
    by_cases hlt : j < n
    · obtain ⟨b, off, rfl, hb, hc⟩ := hr (by omega)
      have c0 : wr.cell? ⟨b, off + j * 6, none⟩ = _ := (hbel.cell (p := ⟨b, off + j * 6, none⟩) hb).trans (hc j 0 hlt (by omega))
      have c1 : wr.cell? ⟨b, off + j * 6 + 1, none⟩ = _ := (hbel.cell (p := ⟨b, off + j * 6 + 1, none⟩) hb).trans (hc j 1 hlt (by omega))
      have c2 : wr.cell? ⟨b, off + j * 6 + 2, none⟩ = _ := (hbel.cell (p := ⟨b, off + j * 6 + 2, none⟩) hb).trans (hc j 2 hlt (by omega))
      have c3 : wr.cell? ⟨b, off + j * 6 + 3, none⟩ = _ := (hbel.cell (p := ⟨b, off + j * 6 + 3, none⟩) hb).trans (hc j 3 hlt (by omega))
      have c4 : wr.cell? ⟨b, off + j * 6 + 4, none⟩ = _ := (hbel.cell (p := ⟨b, off + j * 6 + 4, none⟩) hb).trans (hc j 4 hlt (by omega))
      have c5 : wr.cell? ⟨b, off + j * 6 + 5, none⟩ = _ := (hbel.cell (p := ⟨b, off + j * 6 + 5, none⟩) hb).trans (hc j 5 hlt (by omega))
      obtain ⟨x, hx⟩ : ∃ x, xs.getD j default = x := ⟨_, rfl⟩
      simp only [itc, hx] at c0 c1 c2 c3 c4 c5
      have Hx := Lib.hid hx; clear hx hc
      obtain ⟨xk, xw, xst, xsh, xp, xf⟩ := x
      simp only [itv] at c0 c1 c2 c3 c4 c5
      obtain ⟨V, hV⟩ : ∃ V, itemOk ⟨xk, xw, xst, xsh, xp, xf⟩ = V := ⟨_, rfl⟩
      have HV := Lib.hid hV; clear hV
      have hlt' : (j : Int) < (n : Int) := by omega
      go_wp2_with fail
      ((with_reducible refine (validItem_s _ _ _ _ _ _ _).mono ?_); rintro e w1 ⟨rfl, hb1⟩)
      have hB : Below w.heap.size w w1 := below_then (Nat.le_refl _) (by (repeat' (first | (with_reducible exact Below.refl _ _) | (with_reducible assumption) | (with_reducible refine Below.alloc ?_ ?_ _) | (with_reducible refine Below.drew ?_) | (with_reducible refine below_drewN ?_ _) | (with_reducible refine Below.setCell ?_ ?_ _) | (with_reducible refine below_then ?_ ?_ (by with_reducible assumption)) | (with_reducible exact Nat.le_refl _) | go_size | (simp only [*]; done)))) hb1
      rw [HV.out]
      rcases V with _ | _
      · go_wp2_with fail
        go_ret
        exact ⟨ret_bool (items_bad HN.out hlt Hx.out HV.out).symm, hB⟩
      · go_wp2_with fail
        go_roundg (n - (j + 1))
        case measure => have := HK.out; omega
        case rel => exact ⟨j + 1, by omega, rfl, by go_num, all_more HN.out hlt Hx.out hall.out HV.out, hB⟩
    · rcases hl : inR n 1 60 with _ | _
      · have E := items_len HN.out hl
        have HE := Lib.hid E
        have HL := Lib.hid hl
        clear E hl
        go_wp2_with fail
        ((with_reducible refine (inRange_any _ _ _ _).mono ?_); rintro e w' ⟨rfl, rfl⟩)
        rw [HL.out]
        go_wp2_with fail
        go_ret
        exact ⟨ret_bool HE.out.symm, hbel⟩
      have h60 := inR_iff.1 hl
      have HL := Lib.hid hl; clear hl
      obtain ⟨m, rfl⟩ : ∃ m, n = m + 1 := ⟨n - 1, by omega⟩
      have hl1 : inR ((m : Int) + 1) 1 60 = true := inR_iff.2 ⟨by omega, by omega⟩
      have HL1 := Lib.hid hl1
      clear hl1
      obtain ⟨b, off, rfl, hb, hc⟩ := hr0.out (by omega)
      have c0 : wr.cell? ⟨b, off + m * 6, none⟩ = _ := (hbel.cell (p := ⟨b, off + m * 6, none⟩) hb).trans (hc m 0 (by omega) (by omega))
      have c4 : wr.cell? ⟨b, off + m * 6 + 4, none⟩ = _ := (hbel.cell (p := ⟨b, off + m * 6 + 4, none⟩) hb).trans (hc m 4 (by omega) (by omega))
      obtain ⟨x, hx⟩ : ∃ x, xs.getD m default = x := ⟨_, rfl⟩
      simp only [itc, itv, hx] at c0 c4
      have E : itemsOk xs = ((x.k == 3) && (x.pen == -1000)) := items_end HN.out (by omega) hall.out HL.out hx
      have HE := Lib.hid E
      clear E hx hc
      rcases h3 : (x.k == 3) with _ | _
      · go_wp2_with fail
        ((with_reducible refine (inRange_any _ _ _ _).mono ?_); rintro e w' ⟨rfl, rfl⟩)
        rw [HL1.out]
        go_wp2_with fail
        go_ret
        exact ⟨ret_bool (by simp [HE.out, h3]), hbel⟩
      · go_wp2_with fail
        ((with_reducible refine (inRange_any _ _ _ _).mono ?_); rintro e w' ⟨rfl, rfl⟩)
        rw [HL1.out]
        go_wp2_with fail
        go_ret
        exact ⟨ret_bool (by simp [HE.out, h3]), hbel⟩
end Go.Proofs.Ytkmipgekmbngcaa
