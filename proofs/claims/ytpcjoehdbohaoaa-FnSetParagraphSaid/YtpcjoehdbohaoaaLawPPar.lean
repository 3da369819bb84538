/- The law on drawn paragraphs answers true: FnSetParagraph. Conditions: the code is a slice of bytes. -/
import Derived.Test.YtpcjoehdbohaoaaParDraw
import Derived.Test.YtpcjoehdbohaoaaBoxCount
import Derived.Test.YtpcjoehdbohaoaaLawPar
import Derived.Test.YtpcjoehdbohaoaaEq
import Derived.Deep.RegionHeld3
namespace Go.Proofs.Ytpcjoehdbohaoaa
open Go.RowKit

theorem rr_par {xs : List It} {bs : List Int} {wd : Int} {j k : Nat} (h : j < k) : rr (parP xs bs wd k) j = setV xs (frm bs j) (bs.getD j default) wd := by
  rw [rr, parP, List.getD_eq_getElem?_getD, List.getElem?_map, List.getElem?_range h]
  rfl
/-- What one row of a paragraph holds. -/
theorem par_row {xs : List It} {bs : List Int} {wd : Int} {n q j : Nat} (hn : xs.length = n) (hq : bs.length = q) (hv : (vbV xs bs && inR wd 1 10000) = true) (hj : j < q) :
    ∃ a u : Nat, frm bs j = (a : Int) - 1 ∧ bs.getD j default = (u : Int) ∧ a ≤ u ∧ u < n ∧ (rr (parV xs bs wd) j).length + nbx xs a = nbx xs (u + 1) + 1 ∧ rr (parV xs bs wd) j = setV xs (frm bs j) (bs.getD j default) wd := by
  rw [Bool.and_eq_true] at hv
  obtain ⟨hok, _, _, hln⟩ := vb_iff hq hn hv.1
  have hl := lns_of hln j hj
  obtain ⟨a, u, h1, h2, h3, h4, h5, _⟩ := ln_iff hn hl
  have hr : rr (parV xs bs wd) j = setV xs (frm bs j) (bs.getD j default) wd := by rw [par_yes hq hv.1 hv.2, rr_par hj]
  refine ⟨a, u, h1, h2, h3, h4, ?_, hr⟩
  rw [hr, h2, sv_yes (a := a) (by rw [lineV, hok]; rw [h2] at hl; rw [hl]; rfl) hv.2 h1]
  exact setP_cnt wd hn h3 h4 h5

set_option maxRecDepth 100000 in
set_option maxHeartbeats 8000000 in
theorem law_SetParagraph (A : Option Addr) (n cap : Nat) (cs : List Int) (w : World) (hc : Code w A n cap cs) :
    Calls Try.prog 10 #[.slice A n cap] w fun e w' => e = .returned (.bool true) ∧ Below w.heap.size w w' := by
  have hn := hc.1
  unfold maxLen at hn
  by_cases hbig : 1048576 < n
  · go_enter Try.func10, Try.ntmps10
    go_wp2
    go_returns
    exact ⟨rfl, Below.refl _ _⟩
  go_enter Try.func10, Try.ntmps10
  go_wp2_with fail
  ((with_reducible refine (DrawSetParagraph_any _ _ _ cs _ hc).mono ?_); rintro e w1 ⟨g, m, c, xs, d, B, q, cb, bs, rfl, hx, hm, hcp, hr1, hq, hqm, ho1, hb1⟩)
  have HX := Lib.hid hx; clear hx
  have HQ := Lib.hid hq; clear hq
  have HCP := Lib.hid hcp; clear hcp
  have hmx : m ≤ maxLen := by unfold maxLen; omega
  have hqx : q ≤ maxLen := by unfold maxLen; omega
  obtain ⟨ys, hy⟩ : ∃ r, parV xs bs d = r := ⟨_, rfl⟩
  obtain ⟨r, hr⟩ : ∃ r, ys.length = r := ⟨_, rfl⟩
  have hr60 : r ≤ 60 := by have := parV_len xs bs d; rw [hy] at this; omega
  have hml : ∀ i, (rr ys i).length ≤ 61 := fun i => by have := parV_row xs bs d i; rw [hy] at this; exact this
  have HV : Hid (0 < r → (vbV xs bs && inR d 1 10000) = true ∧ r = q) := fun h => by
    rcases hv : (vbV xs bs && inR d 1 10000) with _ | _
    · rw [par_no hv] at hy; subst hy; simp at hr; omega
    · have hv' := hv
      rw [Bool.and_eq_true] at hv'
      rw [par_yes HQ.out hv'.1 hv'.2] at hy
      rw [← hy, parP_len] at hr
      exact ⟨rfl, hr.symm⟩
  have HY := Lib.hid hy
  have HR := Lib.hid hr
  have HML := Lib.hid hml
  clear hy hr hml
  go_wp2_with fail
  ((with_reducible refine ((setPar_i _ _ _ _ _ _ d xs bs _ HX.out hmx HCP.out ?_ HQ.out hqx ?_).mono fun _ _ h => par_form HY.out HR.out h).mono ?_); (exact hr1); (exact ho1); rintro e w2 ⟨Ag, dg, Gg, Pg, rfl, g0, hb2⟩)
  have hr2 := hr1.then_ hb2
  have ho2 := ho1.then_ hb2
  have hB2 := below_then (Nat.le_refl _) hb1 hb2
  go_wp2_with fail
  ((with_reducible refine ((setPar_s _ _ _ _ _ _ d xs bs _ HX.out hmx ?_ HQ.out hqx ?_).mono fun _ _ h => par_form HY.out HR.out h).mono ?_); (exact hr2); (exact ho2); rintro e w3 ⟨Aw, dw, Gw, Pw, rfl, g1, hb3⟩)
  have hr3 := Lib.hid (hr2.then_ hb3)
  have ho3 := Lib.hid (ho2.then_ hb3)
  have hB3 := below_then (Nat.le_refl _) hB2 hb3
  obtain ⟨hg1, AG, CG, hrowG, hinG⟩ := (g0.then_ hb3).at_
  obtain ⟨hw1, AW, CW, hrowW, hinW⟩ := g1.at_
  have RG := Lib.hid hrowG
  have IG := Lib.hid hinG
  have RW := Lib.hid hrowW
  have IW := Lib.hid hinW
  have hrr : ((r : Int) != (r : Int)) = false := by simp
  clear hr1 hr2 ho1 ho2 g0 g1 hg1 hw1 hrowG hrowW hinG hinW
  go_wp2_with fail
  go_loopg [8, 9, 10] r (fun k fv bv i wr => ∃ (j : Nat) (f b : Int), j ≤ r ∧ k = r - j ∧ i = .int .i64 (j : Int) ∧ fv = .int .i64 f ∧ bv = .int .i64 b ∧ Hid (frm bs j = f) ∧ Hid ((nbx xs (f + 1).toNat : Int) = b) ∧ Below w3.heap.size w3 wr)
  case atStart => exact ⟨0, -1, 0, Nat.zero_le _, rfl, rfl, rfl, rfl, rfl, rfl, Below.refl _ _⟩
  case round =>
    obtain ⟨j, f, b, hj, hk, rfl, rfl, rfl, hf, hbx, hbel⟩ := hrel
    have HK := Lib.hid hk; clear hk
    have hsz := hbel.size
    by_cases hlt : j < r
    · obtain ⟨hv, rfl⟩ := HV.out (by omega)
      obtain ⟨a, u, e1, e2, hau, hum, hcnt, hrow⟩ := par_row HX.out HQ.out hv hlt
      rw [hf.out] at e1
      have hb1 : b = (nbx xs a : Int) := by have := hbx.out; rw [e1, show ((a : Int) - 1 + 1).toNat = a by omega] at this; exact this.symm
      rw [HY.out] at hcnt hrow
      rw [hf.out, e2] at hrow
      have hba := nbx_le xs a
      have hbu := nbx_le xs (u + 1)
      obtain ⟨ln, hln⟩ : ∃ ln, (rr ys j).length = ln := ⟨_, rfl⟩
      have hl61 : ln ≤ 61 := by have := HML.out j; omega
      rw [hln] at hcnt
      obtain ⟨bG, oG, rfl, hbG, hcG⟩ := RG.out.at1 (by omega)
      obtain ⟨bW, oW, rfl, hbW, hcW⟩ := RW.out.at1 (by omega)
      obtain ⟨bB, oB, rfl, hbB, hcB⟩ := ho3.out.at1 (by omega)
      have c0 : wr.cell? ⟨bG, oG + j, none⟩ = _ := (hbel.cell (p := ⟨bG, oG + j, none⟩) hbG).trans (hcG j hlt)
      have c1 : wr.cell? ⟨bW, oW + j, none⟩ = _ := (hbel.cell (p := ⟨bW, oW + j, none⟩) hbW).trans (hcW j hlt)
      have c2 : wr.cell? ⟨bB, oB + j, none⟩ = _ := (hbel.cell (p := ⟨bB, oB + j, none⟩) hbB).trans (hcB j hlt)
      simp only [inc, e2] at c2
      have iG := IG.out j hlt
      have iW := IW.out j hlt
      rw [hln] at c0 c1 iG iW
      have RGj := Lib.hid (iG.then_ hbel)
      have RWj := Lib.hid (iW.then_ hbel)
      have hRX := Lib.hid (hr3.out.then_ hbel)
      have HROW := Lib.hid hrow
      have HLN := Lib.hid hln
      have hlx : ln ≤ maxLen := by unfold maxLen; omega
      have bG' : bG < wr.heap.size := by omega
      have bW' : bW < wr.heap.size := by omega
      have bB' : bB < wr.heap.size := by omega
      have hjr : (j : Int) < (r : Int) := by omega
      have s1 : IntKind.i64.wrap (b + (ln : Int)) = b + (ln : Int) := IntWalk.i64_in _ (by omega)
      have s2 : IntKind.i64.wrap (b + (ln : Int) - 1) = (nbx xs (u + 1) : Int) := by rw [show b + (ln : Int) - 1 = (nbx xs (u + 1) : Int) by omega]; exact IntWalk.i64_in _ (by omega)
      have HE2 := Lib.hid e2
      clear hcG hcW hcB hv e1 e2 hcnt hrow hln iG iW hb1 hba hbu hbx hf
      go_wp2_with fail
      go_region_held3 (fun w' => (w'.cell? ⟨bG, oG + j, none⟩ = some (.slice (AG j) ln (CG j)) ∧ w'.cell? ⟨bW, oW + j, none⟩ = some (.slice (AW j) ln (CW j)) ∧ w'.cell? ⟨bB, oB + j, none⟩ = some (.int .i64 (u : Int))) ∧ Below wr.heap.size wr w')
        ((refine (fun hB : Below wr.heap.size wr _ => ⟨⟨(hB.cell (p := ⟨bG, oG + j, none⟩) bG').trans c0, (hB.cell (p := ⟨bW, oW + j, none⟩) bW').trans c1, (hB.cell (p := ⟨bB, oB + j, none⟩) bB').trans c2⟩, hB⟩) ?_; first | exact Below.refl _ _ | exact (Below.refl _ _).drew | exact And.right (by assumption) | exact below_then (Nat.le_refl _) (And.right (by assumption)) (by assumption) | exact below_then (Nat.le_refl _) (Below.refl _ _) (by assumption) | exact below_then (Nat.le_refl _) (Below.refl _ _).drew (by assumption)))
        (first
          | (go_at_call 24; refine (equalInts_same _ _ _ _ _ (rr ys j) _ hlx ?_ ?_).mono ?_; (exact RGj.out.then_ (by first | exact And.right (by assumption) | exact (Below.refl _ _).drew | exact Below.refl _ _)); (exact RWj.out.then_ (by first | exact And.right (by assumption) | exact (Below.refl _ _).drew | exact Below.refl _ _)); rintro e w' ⟨rfl, hb⟩)
          | (go_at_call 27; refine (setLine_i _ _ _ f (u : Int) d xs _ HX.out hmx HCP.out ?_).mono ?_; (exact hRX.out.then_ (by first | exact And.right (by assumption) | exact (Below.refl _ _).drew | exact Below.refl _ _)); rintro e w' ⟨BL, dL, rfl, hobL, hb⟩; rw [← HROW.out, HLN.out] at hobL; rw [← HROW.out, HLN.out]; have hobL' := hobL)
          | (go_at_call 24; refine (equalInts_same _ _ _ _ _ (rr ys j) _ hlx ?_ ?_).mono ?_; (exact RGj.out.then_ (by first | exact And.right (by assumption) | exact (Below.refl _ _).drew | exact Below.refl _ _)); (first | exact hobL'.row | exact hobL'.drew.row | exact (hobL'.drewN _).row); rintro e w' ⟨rfl, hb⟩))
      all_goals
        rename ((_ ∧ _ ∧ _) ∧ Below wr.heap.size wr _) => hcl
        obtain ⟨⟨d0, d1, d2⟩, hB8⟩ := hcl
        go_wp2_with fail
        go_roundg (r - (j + 1))
        case measure => have := HK.out; omega
        case rel => exact ⟨j + 1, (u : Int), (nbx xs (u + 1) : Int), by omega, rfl, by go_num, rfl, rfl, (by show _ = _; rw [frm_succ]; exact HE2.out), (by show _ = _; rw [show ((u : Int) + 1).toNat = u + 1 by omega]), by (repeat' (first | (with_reducible exact Below.refl _ _) | (with_reducible assumption) | (with_reducible refine Below.alloc ?_ ?_ _) | (with_reducible refine Below.drew ?_) | (with_reducible refine below_drewN ?_ _) | (with_reducible refine Below.setCell ?_ ?_ _) | (with_reducible refine below_then ?_ ?_ (by with_reducible assumption)) | (with_reducible exact Nat.le_refl _) | go_size | (simp only [*]; done)))⟩
    · obtain rfl : j = r := by omega
      have hend : Hid (j = 0 ∨ ((j == 0) = false ∧ b = (nbx xs m : Int))) := by
        rcases Nat.eq_zero_or_pos j with h | h
        · exact .inl h
        · right
          obtain ⟨hv, rfl⟩ := HV.out h
          rw [Bool.and_eq_true] at hv
          obtain ⟨_, _, hl, _⟩ := vb_iff HQ.out HX.out hv.1
          rw [hf.out] at hl
          have := hbx.out
          rw [hl, show ((m : Int) - 1 + 1).toNat = m by omega] at this
          exact ⟨by simp; omega, this.symm⟩
      have hRX := Lib.hid (hr3.out.then_ hbel)
      have hB4 := below_then (Nat.le_refl _) hB3 hbel
      obtain ⟨w4, hw4⟩ : ∃ w4, w4 = wr := ⟨_, rfl⟩
      subst hw4
      clear hf hbx hbel
      go_wp2_with fail
      go_loopg [11, 12] m (fun k nv i wr => ∃ (t : Nat), t ≤ m ∧ k = m - t ∧ i = .int .i64 (t : Int) ∧ nv = .int .i64 (nbx xs t : Int) ∧ Below w4.heap.size w4 wr)
      case atStart => exact ⟨0, Nat.zero_le _, rfl, rfl, rfl, Below.refl _ _⟩
      case round =>
        obtain ⟨t, ht, hk, rfl, rfl, hbel⟩ := hrel
        have HK := Lib.hid hk; clear hk
        have hsz := hbel.size
        by_cases hltm : t < m
        · obtain ⟨b2, off, hbo, hb2, hc'⟩ := hRX.out (by omega)
          have c0 : wr.cell? ⟨b2, off + t * 6, none⟩ = _ := (hbel.cell (p := ⟨b2, off + t * 6, none⟩) hb2).trans (hc' t 0 (by omega) (by omega))
          injection hbo with hbo
          injection hbo with q1 q2
          subst q1 q2
          obtain ⟨x, hx⟩ : ∃ x, xs.getD t default = x := ⟨_, rfl⟩
          simp only [itc, itv, hx, Nat.zero_add] at c0
          have hbt := nbx_le xs t
          have htm : (t : Int) < (m : Int) := by omega
          by_cases hk1 : x.k = 1
          · have hnb : nbx xs (t + 1) = nbx xs t + 1 := nbx_yes (by rw [kd, hx]; exact hk1)
            have HNB := Lib.hid hnb
            have hk1' : (x.k == 1) = true := by simp [hk1]
            have s1 : IntKind.i64.wrap ((nbx xs t : Int) + 1) = (nbx xs t : Int) + 1 := IntWalk.i64_in _ (by omega)
            clear hx hc' hk1 hnb
            go_wp2_with fail
            go_roundg (m - (t + 1))
            case measure => have := HK.out; omega
            case rel => exact ⟨t + 1, by omega, rfl, by go_num, by rw [HNB.out]; go_num, hbel⟩
          · have hnb : nbx xs (t + 1) = nbx xs t := nbx_no (by rw [kd, hx]; exact hk1)
            have HNB := Lib.hid hnb
            have hk1' : (x.k == 1) = false := by simp [hk1]
            clear hx hc' hk1 hnb
            go_wp2_with fail
            go_roundg (m - (t + 1))
            case measure => have := HK.out; omega
            case rel => exact ⟨t + 1, by omega, rfl, by go_num, by rw [HNB.out], hbel⟩
        · obtain rfl : t = m := by omega
          rcases hend.out with rfl | ⟨h1, rfl⟩
          · go_wp2_with fail
            go_returns
            exact ⟨by simp, by (repeat' (first | (with_reducible exact Below.refl _ _) | (with_reducible assumption) | (with_reducible refine Below.alloc ?_ ?_ _) | (with_reducible refine Below.drew ?_) | (with_reducible refine below_drewN ?_ _) | (with_reducible refine Below.setCell ?_ ?_ _) | (with_reducible refine below_then ?_ ?_ (by with_reducible assumption)) | (with_reducible exact Nat.le_refl _) | go_size | (simp only [*]; done)))⟩
          · have h1' : ((j : Int) == 0) = false := by simp at h1 ⊢; omega
            have h2' : ((nbx xs t : Int) == (nbx xs t : Int)) = true := by simp
            clear h1
            go_wp2_with fail
            go_returns
            exact ⟨by simp, by (repeat' (first | (with_reducible exact Below.refl _ _) | (with_reducible assumption) | (with_reducible refine Below.alloc ?_ ?_ _) | (with_reducible refine Below.drew ?_) | (with_reducible refine below_drewN ?_ _) | (with_reducible refine Below.setCell ?_ ?_ _) | (with_reducible refine below_then ?_ ?_ (by with_reducible assumption)) | (with_reducible exact Nat.le_refl _) | go_size | (simp only [*]; done)))⟩
end Go.Proofs.Ytpcjoehdbohaoaa
