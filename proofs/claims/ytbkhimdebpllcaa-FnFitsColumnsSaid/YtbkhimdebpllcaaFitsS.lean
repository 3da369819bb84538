/- FitsColumns of the reference is what the plain function says. Conditions: the slices read as a table and as a list. -/
import Derived.Test.YtbkhimdebpllcaaFits
namespace Go.Proofs.Ytbkhimdebpllcaa
open Go.RowKit

theorem drop_take_snoc {l : List Int} {n f c : Nat} {x : Int} (hn : l.length = n) (hf : f ≤ c) (hc : c < n) (hx : l.getD c default = x) : (l.take (c + 1)).drop f = (l.take c).drop f ++ [x] := by
  rw [tk_snoc' hn hc hx, List.drop_append_of_le_length (by rw [List.length_take]; omega)]
theorem sm_snoc {l : List Int} {n f c : Nat} {x : Int} (hn : l.length = n) (hf : f ≤ c) (hc : c < n) (hx : l.getD c default = x) : sm l f (c + 1) = sm l f c + x := by
  rw [sm, drop_take_snoc hn hf hc hx, List.sum_append, sm]
  simp
theorem sm_none (l : List Int) (f : Nat) : sm l f f = 0 := by
  rw [sm, List.drop_eq_nil_of_le (by rw [List.length_take]; omega)]
  rfl
theorem sm_b {l : List Int} {n f c : Nat} {s : Int} (h : colsOk l = true) (hn : l.length = n) (hs : sm l f c = s) : 0 ≤ s ∧ s ≤ 80000 := by
  have hl := cols_len h
  simp only [colsOk, Bool.and_eq_true] at h
  have := sum_bound (l := (l.take c).drop f) (a := 0) (b := 10000) fun x hx => inR_iff.1 (show inR x 0 10000 = true from List.all_eq_true.1 h.1 x (List.mem_of_mem_take (List.mem_of_mem_drop hx)))
  rw [sm] at hs
  rw [hs, List.length_drop, List.length_take] at this
  omega

set_option maxHeartbeats 4000000 in
theorem fitsColumns_s (A B : Option Addr) (nr cap nw capw : Nat) (rs : List (List Cl)) (ws : List Int) (w : World) (hn : ws.length = nw) (hok : colsOk ws = true) (htab : tabOk rs (nw : Int) = true) (hr : Row w w.heap.size 1 B nw (inc ws)) (hT : Tab w w.heap.size A nr rs) :
    Calls Try.prog 47 #[.slice A nr cap, .slice B nw capw] w fun e w' => e = .returned (.bool (fitsP (spans rs) ws)) ∧ Below w.heap.size w w' := by
  have hsp := spans_rng htab
  have hnl := cols_len hok
  rw [hn] at hnl
  obtain ⟨hrn, As, cs, h2, h3⟩ := hT
  have h10 : nr ≤ 10 := by have := (tabOk_iff htab).2.1; omega
  have HSP := Lib.hid hsp
  have HN := Lib.hid hrn
  have HW := Lib.hid hn
  have HOK := Lib.hid hok
  have H3 := Lib.hid h3
  have HR := Lib.hid hr
  clear hsp hrn h3 hr hn hok htab
  go_enter Try.func47, Try.ntmps47
  go_wp2_with fail
  go_loopg [5] nr (fun k i wr => ∃ j : Nat, j ≤ nr ∧ k = nr - j ∧ i = .int .i64 (j : Int) ∧ Hid (fitsP (spans (rs.take j)) ws = true) ∧ Below w.heap.size w wr)
  case atStart => exact ⟨0, Nat.zero_le _, rfl, rfl, rfl, Below.refl _ _⟩
  case round =>
    obtain ⟨j, hj, hk, rfl, hall, hbel⟩ := hrel
    have HK := Lib.hid hk; clear hk
    by_cases hlt : j < nr
    · obtain ⟨b, off, rfl, hb, hc⟩ := h2.at1 (by omega)
      have k0 := hc j hlt
      obtain ⟨hlm, hi3⟩ := H3.out j hlt
      obtain ⟨x, hx⟩ : ∃ x, rl rs j = x := ⟨_, rfl⟩
      rw [hx] at k0 hlm hi3
      obtain ⟨q, hq⟩ : ∃ q, x.length = q := ⟨_, rfl⟩
      rw [hq] at k0 hlm hi3
      obtain ⟨C, hC⟩ : ∃ C, cs j = C := ⟨_, rfl⟩
      obtain ⟨D, hD⟩ : ∃ D, As j = D := ⟨_, rfl⟩
      rw [hC, hD] at k0
      rw [hD] at hi3
      unfold maxLen at hlm
      have HX : Hid (rs.getD j default = x) := hx
      have HQ := Lib.hid hq
      have HI := Lib.hid hi3
      have K0 := Lib.hid k0
      have hjn : (j : Int) < (nr : Int) := by omega
      clear hc hx hq hC hD hi3 k0
      go_wp2_with fail
      go_loopg [6, 7] q (fun kk a i wi => ∃ (p : Nat) (v : Nat), p ≤ q ∧ kk = q - p ∧ i = .int .i64 (p : Int) ∧ a = .int .i64 (v : Int) ∧ v ≤ 8 ∧ Hid (sumS (x.take p) = (v : Int)) ∧ Hid (fitsP (spans (rs.take j) ++ spR 0 (x.take p)) ws = true) ∧ Below w.heap.size w wi)
      case atStart => exact ⟨0, 0, Nat.zero_le _, rfl, rfl, rfl, by omega, rfl, by rw [Hid]; simpa [spR] using hall.out, hbel⟩
      case round =>
        obtain ⟨p, v, hp, hk2, rfl, rfl, v1, hv, hpre, hbi⟩ := hrel
        have HK2 := Lib.hid hk2; clear hk2
        have c0 := (hbi.cell (p := ⟨b, off + j, none⟩) hb).trans K0.out
        by_cases hpl : p < q
        · obtain ⟨b', off', rfl, hb', hc2⟩ := HI.out (by omega)
          have k1 := hc2 p 0 hpl (by omega)
          have k2 := hc2 p 1 hpl (by omega)
          have c1 : wr.cell? ⟨b', off' + p * 2, none⟩ = _ := (hbi.cell (p := ⟨b', off' + p * 2, none⟩) hb').trans k1
          obtain ⟨y, hy⟩ : ∃ y, x.getD p default = y := ⟨_, rfl⟩
          simp only [clc, hy] at c1 k1 k2
          obtain ⟨rest, hsplit⟩ := spans_split HN.out hlt HX.out (by rw [HQ.out]; exact hpl) hy
          rw [hv.out] at hsplit
          have hmem : (⟨v, v + y.s, y.w⟩ : Sp) ∈ spans rs := by rw [hsplit]; simp
          have hval := HSP.out _ hmem
          obtain ⟨z0, z1, z2, z3, z4⟩ := hval
          simp only at z0 z1 z2 z3 z4
          obtain ⟨sk, hsk⟩ : ∃ sk : Nat, y.s = (sk : Int) := Int.eq_ofNat_of_zero_le (by omega)
          have hnv : sumS (x.take (p + 1)) = ((v + sk : Nat) : Int) := by rw [tk_snoc' HQ.out hpl hy, sumS_snoc, hv.out, hsk]; omega
          have hnp : fitsP (spans (rs.take j) ++ spR 0 (x.take (p + 1))) ws = !decide (sm ws v (v + sk) < y.w) := by
            rw [tk_snoc' HQ.out hpl hy, spR_snoc, hv.out, hsk, ← List.append_assoc, show (0 : Int) + (v : Int) = (v : Int) by omega, show (v : Int) + (sk : Int) = ((v + sk : Nat) : Int) by omega, fitsP_snoc, hpre.out]
            rfl
          have hbad : sm ws v (v + sk) < y.w → fitsP (spans rs) ws = false := fun h => by
            refine fitsP_pre ⟨rest, hsplit.symm⟩ ?_
            rw [hsk, show (v : Int) + (sk : Int) = ((v + sk : Nat) : Int) by omega, fitsP_snoc, show decide (((ws.take (v + sk)).drop v).sum < y.w) = true from decide_eq_true h, Bool.not_true, Bool.and_false]
          rw [hsk] at c1 k1 z1 z2
          have HNV := Lib.hid hnv
          have HNP := Lib.hid hnp
          have HBAD := Lib.hid hbad
          have K1 := Lib.hid k1
          have K2 := Lib.hid k2
          have hpq : (p : Int) < (q : Int) := by omega
          clear hsplit hmem hy hc2 hnv hnp hbad hsk k1 k2
          go_wp2_with fail
          go_loopg [8, 9] sk (fun kk s c wc => ∃ (i : Nat) (t : Int), i ≤ sk ∧ kk = sk - i ∧ c = .int .i64 ((v + i : Nat) : Int) ∧ s = .int .i64 t ∧ Hid (sm ws v (v + i) = t) ∧ Below w.heap.size w wc)
          case atStart => exact ⟨0, 0, Nat.zero_le _, rfl, rfl, rfl, sm_none _ _, hbi⟩
          case round =>
            obtain ⟨i, t, hi, hk3, rfl, rfl, ht, hbc⟩ := hrel
            have HK3 := Lib.hid hk3; clear hk3
            have d0 := (hbc.cell (p := ⟨b, off + j, none⟩) hb).trans K0.out
            have d1 : wr.cell? ⟨b', off' + p * 2, none⟩ = _ := (hbc.cell (p := ⟨b', off' + p * 2, none⟩) hb').trans K1.out
            have d2 : wr.cell? ⟨b', off' + p * 2 + 1, none⟩ = _ := (hbc.cell (p := ⟨b', off' + p * 2 + 1, none⟩) hb').trans K2.out
            obtain ⟨t0, t1⟩ := sm_b HOK.out HW.out ht.out
            by_cases hil : i < sk
            · obtain ⟨bw, ow, rfl, hbw, hcw⟩ := HR.out (by omega)
              have d3 : wr.cell? ⟨bw, ow + (v + i), none⟩ = _ := (hbc.cell (p := ⟨bw, ow + (v + i), none⟩) hbw).trans (by have := hcw (v + i) 0 (by omega) (by omega); simpa using this)
              obtain ⟨u, hu⟩ : ∃ u, ws.getD (v + i) default = u := ⟨_, rfl⟩
              simp only [inc, hu] at d3
              obtain ⟨u0, u1⟩ := cols_at HOK.out HW.out (show v + i < nw by omega) hu
              have hns : sm ws v (v + (i + 1)) = t + u := by rw [← Nat.add_assoc, sm_snoc HW.out (by omega) (by omega) hu, ht.out]
              have HNS := Lib.hid hns
              clear hns hu hcw
              go_wp2_with fail
              go_roundg (sk - (i + 1))
              case measure => have := HK3.out; omega
              case rel => exact ⟨i + 1, t + u, by omega, rfl, by go_num, rfl, HNS.out, by (repeat' (first | (with_reducible exact Below.refl _ _) | (with_reducible assumption) | (with_reducible refine Below.alloc ?_ ?_ _) | (with_reducible refine Below.drew ?_) | (with_reducible refine below_drewN ?_ _) | (with_reducible refine Below.setCell ?_ ?_ _) | (with_reducible refine below_then ?_ ?_ (by with_reducible assumption)) | (with_reducible exact Nat.le_refl _) | go_size | (simp only [*]; done)))⟩
            · have ei : i = sk := by omega
              subst ei
              clear hi hil HK3
              by_cases hf : t < y.w
              · have HE := Lib.hid (HBAD.out (by rw [ht.out]; exact hf))
                go_wp2_with fail
                go_ret
                exact ⟨ret_bool HE.out.symm, hbc⟩
              · have hg : fitsP (spans (rs.take j) ++ spR 0 (x.take (p + 1))) ws = true := by rw [HNP.out, ht.out, decide_eq_false hf]; rfl
                have HG := Lib.hid hg
                clear hg
                go_wp2_with fail
                go_roundg (q - (p + 1))
                case measure => have := HK2.out; omega
                case rel => exact ⟨p + 1, v + i, by omega, rfl, by go_num, by go_num, by omega, HNV.out, HG.out, by (repeat' (first | (with_reducible exact Below.refl _ _) | (with_reducible assumption) | (with_reducible refine Below.alloc ?_ ?_ _) | (with_reducible refine Below.drew ?_) | (with_reducible refine below_drewN ?_ _) | (with_reducible refine Below.setCell ?_ ?_ _) | (with_reducible refine below_then ?_ ?_ (by with_reducible assumption)) | (with_reducible exact Nat.le_refl _) | go_size | (simp only [*]; done)))⟩
        · have hnp : fitsP (spans (rs.take (j + 1))) ws = true := by
            rw [tk_snoc' HN.out hlt HX.out, spans_snoc]
            have := hpre.out
            rwa [List.take_of_length_le (l := x) (i := p) (by rw [HQ.out]; omega)] at this
          have HNP := Lib.hid hnp
          clear hnp
          go_wp2_with fail
          go_roundg (nr - (j + 1))
          case measure => have := HK.out; omega
          case rel => exact ⟨j + 1, by omega, rfl, by go_num, HNP.out, hbi⟩
    · have hfin : fitsP (spans rs) ws = true := by
        have := hall.out
        rwa [List.take_of_length_le (by rw [HN.out]; omega)] at this
      have HF := Lib.hid hfin
      clear hfin
      go_wp2_with fail
      go_ret
      exact ⟨ret_bool HF.out.symm, hbel⟩

set_option maxHeartbeats 2000000 in
theorem fitsColumns_S (A B : Option Addr) (nr cap nw capw : Nat) (rs : List (List Cl)) (ws : List Int) (w : World) (hn : ws.length = nw) (hm : nw ≤ maxLen) (hmr : nr ≤ maxLen) (hr : Row w w.heap.size 1 B nw (inc ws)) (hT : Tab w w.heap.size A nr rs) :
    Calls Try.prog 30 #[.slice A nr cap, .slice B nw capw] w fun e w' => e = .returned (.bool (fitsV rs ws)) ∧ Below w.heap.size w w' := by
  have HN := Lib.hid hn
  rcases hok : colsOk ws with _ | _
  · rw [fits_no1 hok]
    have HOK := Lib.hid hok
    clear hok hn
    go_enter Try.func30, Try.ntmps30
    go_wp2_with fail
    ((with_reducible refine (validWidths_s _ _ _ ws _ HN.out hm ?_).mono ?_); (exact hr); rintro e w1 ⟨rfl, hb1⟩)
    rw [HOK.out]
    go_wp2_with fail
    go_ret
    exact ⟨rfl, hb1⟩
  rcases hok2 : tabOk rs (nw : Int) with _ | _
  · rw [fits_no2 hn hok2]
    have HOK := Lib.hid hok
    have HOK2 := Lib.hid hok2
    clear hok hn hok2
    go_enter Try.func30, Try.ntmps30
    go_wp2_with fail
    ((with_reducible refine (validWidths_s _ _ _ ws _ HN.out hm ?_).mono ?_); (exact hr); rintro e w1 ⟨rfl, hb1⟩)
    rw [HOK.out]
    go_wp2_with fail
    ((with_reducible refine (validTable_s _ _ _ _ rs _ hmr ?_).mono ?_); (exact hT.then_ hb1); rintro e w2 ⟨rfl, hb2⟩)
    rw [HOK2.out]
    have hB2 := below_then (Nat.le_refl _) hb1 hb2
    go_wp2_with fail
    go_ret
    exact ⟨rfl, hB2⟩
  rw [fits_yes hn hok hok2]
  have HOK := Lib.hid hok
  have HOK2 := Lib.hid hok2
  clear hok hn hok2
  go_enter Try.func30, Try.ntmps30
  go_wp2_with fail
  ((with_reducible refine (validWidths_s _ _ _ ws _ HN.out hm ?_).mono ?_); (exact hr); rintro e w1 ⟨rfl, hb1⟩)
  rw [HOK.out]
  go_wp2_with fail
  ((with_reducible refine (validTable_s _ _ _ _ rs _ hmr ?_).mono ?_); (exact hT.then_ hb1); rintro e w2 ⟨rfl, hb2⟩)
  rw [HOK2.out]
  have hB2 := below_then (Nat.le_refl _) hb1 hb2
  go_wp2_with fail
  ((with_reducible refine (fitsColumns_s _ _ _ _ _ _ rs ws _ HN.out HOK.out HOK2.out ?_ ?_).mono ?_); (exact (hr.then_ hb1).then_ hb2); (exact (hT.then_ hb1).then_ hb2); rintro e w3 ⟨rfl, hb3⟩)
  have hB3 := below_then (Nat.le_refl _) hB2 hb3
  go_wp2_with fail
  go_ret
  exact ⟨rfl, hB3⟩
end Go.Proofs.Ytbkhimdebpllcaa
