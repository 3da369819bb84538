/- ValidBreaks, of the program and of the reference, is what the plain function says. Conditions: the slices read as lists. -/
import Derived.Test.YtpcjoehdbohaoaaBrkPlain
import Derived.Test.YtpcjoehdbohaoaaItemG
import Derived.Test.YtpcjoehdbohaoaaInts
namespace Go.Proofs.Ytpcjoehdbohaoaa
open Go.RowKit

set_option maxRecDepth 100000 in
set_option maxHeartbeats 4000000 in
theorem validBreaks_i (A B : Option Addr) (n cap nb capb : Nat) (xs : List It) (bs : List Int) (w : World) (hn : xs.length = n) (hm : n ≤ maxLen) (hcap : n ≤ cap ∧ cap ≤ maxLen) (hr : Row w w.heap.size 6 A n (itc xs)) (hbn : bs.length = nb) (hbm : nb ≤ maxLen) (hbr : Row w w.heap.size 1 B nb (inc bs)) :
    Calls Try.prog 55 #[.slice A n cap, .slice B nb capb] w fun e w' => e = .returned (.bool (vbV xs bs)) ∧ Below w.heap.size w w' := by
  unfold maxLen at hbm
  have HN := Lib.hid hn
  have HR := Lib.hid hr
  have HBN := Lib.hid hbn
  have HBR := Lib.hid hbr
  clear hn hr
  rcases hv : itemsOk xs with _ | _
  · have HE := Lib.hid (vb_no1 (bs := bs) hv)
    have HV := Lib.hid hv
    clear hv hbn hbr
    go_enter Try.func55, Try.ntmps55
    go_wp2_with fail
    ((with_reducible refine (validItems_i _ _ _ xs _ HN.out hm ?_).mono ?_); (exact HR.out); rintro e w1 ⟨rfl, hb1⟩)
    rw [HV.out]
    go_wp2_with fail
    go_ret
    exact ⟨ret_bool HE.out.symm, hb1⟩
  have hm60 := (itemsOk_len hv HN.out).2
  have hm1 := (itemsOk_len hv HN.out).1
  by_cases hz : nb = 0
  · subst hz
    have HE := Lib.hid (vb_zero (xs := xs) hbn)
    have HV := Lib.hid hv
    clear hv hbn hbr
    go_enter Try.func55, Try.ntmps55
    go_wp2_with fail
    ((with_reducible refine (validItems_i _ _ _ xs _ HN.out hm ?_).mono ?_); (exact HR.out); rintro e w1 ⟨rfl, hb1⟩)
    rw [HV.out]
    go_wp2_with fail
    go_ret
    exact ⟨ret_bool HE.out.symm, hb1⟩
  have hpos : 0 < nb := by omega
  have hzf : ((nb : Int) == 0) = false := by simpa using hz
  obtain ⟨b, off, rfl, hb, hc⟩ := id hbr hpos
  obtain ⟨L, hL⟩ : ∃ L, bs.getD (nb - 1) default = L := ⟨_, rfl⟩
  have k0 : w.cell? ⟨b, off + (nb - 1), none⟩ = some (.int .i64 L) := by
    have := hc (nb - 1) 0 (by omega) (by omega)
    simpa only [inc, hL, Nat.mul_one, Nat.add_zero] using this
  have hfl : frm bs nb = L := by rw [frm_last hpos, hL]
  have HFL := Lib.hid hfl
  have K0 := Lib.hid k0
  by_cases hl : L = (n : Int) - 1
  case neg =>
    have HE := Lib.hid (vb_last hbn HN.out hfl hl)
    have hlf : (L == (n : Int) - 1) = false := by simpa using hl
    have HV := Lib.hid hv
    clear hv hbn hbr hc hL hl hfl k0
    go_enter Try.func55, Try.ntmps55
    go_wp2_with fail
    ((with_reducible refine (validItems_i _ _ _ xs _ HN.out hm ?_).mono ?_); (exact HR.out); rintro e w1 ⟨rfl, hb1⟩)
    rw [HV.out]
    have c0 := (hb1.cell (p := ⟨b, off + (nb - 1), none⟩) hb).trans K0.out
    go_wp2_with fail
    go_ret
    exact ⟨ret_bool HE.out.symm, hb1⟩
  have HV := Lib.hid hv
  have HC := Lib.hid hc
  clear hv hbn hbr hc hL hfl k0
  subst hl
  go_enter Try.func55, Try.ntmps55
  go_wp2_with fail
  ((with_reducible refine (validItems_i _ _ _ xs _ HN.out hm ?_).mono ?_); (exact HR.out); rintro e w1 ⟨rfl, hb1⟩)
  rw [HV.out]
  have c0 := (hb1.cell (p := ⟨b, off + (nb - 1), none⟩) hb).trans K0.out
  go_wp2_with fail
  clear c0 hz hzf
  go_loopg [5, 30] nb (fun k fv i wr => ∃ (j : Nat) (f : Int), j ≤ nb ∧ k = nb - j ∧ i = .int .i64 (j : Int) ∧ fv = .int .i64 f ∧ Hid (lns xs bs j = true) ∧ Hid (frm bs j = f) ∧ Below w.heap.size w wr)
  case atStart => exact ⟨0, -1, Nat.zero_le _, rfl, rfl, rfl, rfl, rfl, hb1⟩
  case round =>
    obtain ⟨j, f, hj, hk, rfl, rfl, hs, hf, hbel⟩ := hrel
    have HK := Lib.hid hk; clear hk
    have hsz := hbel.size
    by_cases hlt : j < nb
    · obtain ⟨t, ht⟩ : ∃ t, bs.getD j default = t := ⟨_, rfl⟩
      have c0 : wr.cell? ⟨b, off + j, none⟩ = some (.int .i64 t) := by
        have := (hbel.cell (p := ⟨b, off + j, none⟩) hb).trans (by have := HC.out j 0 hlt (by omega); simpa only [inc, ht, Nat.mul_one, Nat.add_zero] using this)
        exact this
      have hjn : (j : Int) < (nb : Int) := by omega
      have HT := Lib.hid ht
      clear ht
      go_wp2_with fail
      ((with_reducible refine (isLine_i _ _ _ _ _ xs _ HN.out hm60 hcap ?_).mono ?_); (exact (HR.out.below hbel).more hbel.size); rintro e w1 ⟨rfl, hb1⟩)
      have hB1 := below_then (Nat.le_refl _) hbel hb1
      rcases hl : lnOk xs f t with _ | _
      · have HE := Lib.hid (vb_bad (xs := xs) (j := j) HBN.out (by rw [hf.out, HT.out]; exact hl) hlt)
        clear hl
        go_wp2_with fail
        go_ret
        exact ⟨ret_bool HE.out.symm, hB1⟩
      · have HS := Lib.hid (lns_yes hs.out (by rw [hf.out, HT.out]; exact hl))
        clear hl
        go_wp2_with fail
        go_roundg (nb - (j + 1))
        case measure => have := HK.out; omega
        case rel => exact ⟨j + 1, t, by omega, rfl, by go_num, rfl, HS.out, by show _ = _; rw [frm_succ, HT.out], hB1⟩
    · have ej : j = nb := by omega
      subst ej
      have HE := Lib.hid (vb_yes HV.out HBN.out hpos HN.out HFL.out rfl hs.out)
      go_wp2_with fail
      go_ret
      exact ⟨ret_bool HE.out.symm, hbel⟩

set_option maxRecDepth 100000 in
set_option maxHeartbeats 4000000 in
theorem validBreaks_s (A B : Option Addr) (n cap nb capb : Nat) (xs : List It) (bs : List Int) (w : World) (hn : xs.length = n) (hm : n ≤ maxLen) (hr : Row w w.heap.size 6 A n (itc xs)) (hbn : bs.length = nb) (hbm : nb ≤ maxLen) (hbr : Row w w.heap.size 1 B nb (inc bs)) :
    Calls Try.prog 54 #[.slice A n cap, .slice B nb capb] w fun e w' => e = .returned (.bool (vbV xs bs)) ∧ Below w.heap.size w w' := by
  have hm' := hm
  unfold maxLen at hbm hm'
  have HN := Lib.hid hn
  have HR := Lib.hid hr
  have HBN := Lib.hid hbn
  have HBR := Lib.hid hbr
  clear hn hr hbn hbr
  go_enter Try.func54, Try.ntmps54
  go_wp2_with fail
  go_loopg [5, 6] nb (fun k fv i wr => ∃ (j : Nat) (f : Int), j ≤ nb ∧ k = nb - j ∧ i = .int .i64 (j : Int) ∧ fv = .int .i64 f ∧ Hid (lns xs bs j = true) ∧ Hid (frm bs j = f) ∧ Hid (j = 0 → f = -1) ∧ Below w.heap.size w wr)
  case atStart => exact ⟨0, -1, Nat.zero_le _, rfl, rfl, rfl, rfl, rfl, fun _ => rfl, Below.refl _ _⟩
  case round =>
    obtain ⟨j, f, hj, hk, rfl, rfl, hs, hf, hz0, hbel⟩ := hrel
    have HK := Lib.hid hk; clear hk
    have hsz := hbel.size
    by_cases hlt : j < nb
    · obtain ⟨b, off, rfl, hb, hc⟩ := HBR.out (by omega)
      obtain ⟨t, ht⟩ : ∃ t, bs.getD j default = t := ⟨_, rfl⟩
      have c0 : wr.cell? ⟨b, off + j, none⟩ = some (.int .i64 t) := by
        have := (hbel.cell (p := ⟨b, off + j, none⟩) hb).trans (by have := hc j 0 hlt (by omega); simpa only [inc, ht, Nat.mul_one, Nat.add_zero] using this)
        exact this
      have hjn : (j : Int) < (nb : Int) := by omega
      have HT := Lib.hid ht
      have C0 := Lib.hid c0
      clear ht hc
      go_wp2_with fail
      ((with_reducible refine (validLine_s _ _ _ _ _ xs _ HN.out hm ?_).mono ?_); (exact (HR.out.below hbel).more hbel.size); rintro e w1 ⟨rfl, hb1⟩)
      have hB1 := below_then (Nat.le_refl _) hbel hb1
      rcases hl : lineV xs f t with _ | _
      · have e : vbV xs bs = false := by
          rw [lineV] at hl
          rcases hq : itemsOk xs with _ | _
          · exact vb_no1 hq
          · rw [hq, Bool.true_and] at hl
            exact vb_bad HBN.out (by rw [hf.out, HT.out]; exact hl) hlt
        have HE := Lib.hid e
        clear hl e
        go_wp2_with fail
        go_ret
        exact ⟨ret_bool HE.out.symm, hB1⟩
      · have hl2 : lnOk xs f t = true := by rw [lineV, Bool.and_eq_true] at hl; exact hl.2
        have HS := Lib.hid (lns_yes hs.out (by rw [hf.out, HT.out]; exact hl2))
        have c1 := (hb1.cell (p := ⟨b, off + j, none⟩) (Nat.lt_of_lt_of_le hb hsz)).trans C0.out
        clear hl hl2
        go_wp2_with fail
        go_roundg (nb - (j + 1))
        case measure => have := HK.out; omega
        case rel => exact ⟨j + 1, t, by omega, rfl, by go_num, rfl, HS.out, by show _ = _; rw [frm_succ, HT.out], fun h => absurd h (by omega), hB1⟩
    · have ej : j = nb := by omega
      subst ej
      go_wp2_with fail
      ((with_reducible refine (validItems_s _ _ _ xs _ HN.out hm ?_).mono ?_); (exact (HR.out.below hbel).more hbel.size); rintro e w1 ⟨rfl, hb1⟩)
      have hB1 := below_then (Nat.le_refl _) hbel hb1
      rcases hv : itemsOk xs with _ | _
      · have HE := Lib.hid (vb_no1 (bs := bs) hv)
        clear hv
        go_wp2_with fail
        go_ret
        exact ⟨ret_bool HE.out.symm, hB1⟩
      by_cases hq : f = (n : Int) - 1
      · have hp : 0 < j := by
          rcases Nat.eq_zero_or_pos j with h | h
          · have h1 := hz0.out h
            have h2 := (itemsOk_len hv HN.out).1
            omega
          · exact h
        have HE := Lib.hid (vb_yes hv HBN.out hp HN.out hf.out hq hs.out)
        have hqf : (f == (n : Int) - 1) = true := by simpa using hq
        clear hv
        go_wp2_with fail
        go_ret
        exact ⟨ret_bool HE.out.symm, hB1⟩
      · have HE := Lib.hid (vb_last HBN.out HN.out hf.out hq)
        have hqf : (f == (n : Int) - 1) = false := by simpa using hq
        clear hv
        go_wp2_with fail
        go_ret
        exact ⟨ret_bool HE.out.symm, hB1⟩
end Go.Proofs.Ytpcjoehdbohaoaa
