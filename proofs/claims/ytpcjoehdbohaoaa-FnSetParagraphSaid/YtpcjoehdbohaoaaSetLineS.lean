/- SetLine of the reference is what the plain function says. Conditions: the slice reads as the list. -/
import Derived.Test.YtpcjoehdbohaoaaSetLineI
import Derived.Test.YtpcjoehdbohaoaaShapeW
namespace Go.Proofs.Ytpcjoehdbohaoaa
open Go.RowKit

set_option maxRecDepth 100000 in
set_option maxHeartbeats 4000000 in
theorem setL_s (A : Option Addr) (n cap a u : Nat) (f wd : Int) (xs : List It) (w : World) (hok : itemsOk xs = true) (hn : xs.length = n) (hf : f + 1 = (a : Int)) (hau : a ≤ u) (hun : u < n) (hnf : noF xs a u = true) (hwd : inR wd 1 10000 = true) (hr : Row w w.heap.size 6 A n (itc xs)) :
    Calls Try.prog 48 #[.slice A n cap, .int .i64 f, .int .i64 (u : Int), .int .i64 wd] w (IntsOut w (setP xs a u wd)) := by
  have HN := Lib.hid hn
  have h60 := (itemsOk_len hok hn).2
  have HOK := Lib.hid hok
  obtain ⟨tW, htW⟩ : ∃ tW, lgW xs a u = tW := ⟨_, rfl⟩
  obtain ⟨tS, htS⟩ : ∃ tS, lgS xs a u = tS := ⟨_, rfl⟩
  obtain ⟨tH, htH⟩ : ∃ tH, lgH xs a u = tH := ⟨_, rfl⟩
  have hlb := lg_b (a := a) hok hn hun
  obtain ⟨Z, hZ⟩ : ∃ Z, setP xs a u wd = Z := ⟨_, rfl⟩
  rw [hZ]
  have e1 := hZ
  rw [setP, htW, htS, htH] at e1
  rw [htW, htS, htH] at hlb
  obtain ⟨⟨tW0, tW1⟩, ⟨tS0, tS1⟩, tH0, tH1⟩ := hlb
  obtain ⟨wd0, wd1⟩ := inR_iff.1 hwd
  have HE := Lib.hid e1
  have HTW := Lib.hid htW
  have HTS := Lib.hid htS
  have HTH := Lib.hid htH
  have HF := Lib.hid hf
  have HNF := Lib.hid hnf
  obtain ⟨i0, hi, hz0, hz1, hz2⟩ := info_parts int_info
  have HR := Lib.hid (hr.alloc' (.cells #[] 3))
  obtain ⟨b, off, rfl, hbw, hcw⟩ := hr (by omega)
  have HC := Lib.hid hcw
  clear hok e1 hf hwd hnf htW htS htH hcw hr hZ
  go_enter Try.func48, Try.ntmps48
  go_wp2_with fail
  ((with_reducible refine (lineGlue_s _ _ _ a u f xs _ HOK.out HN.out HF.out hau hun HNF.out ?_).mono ?_); (exact HR.out); rintro e w1 ⟨rfl, hb1⟩)
  rw [HTW.out, HTS.out, HTH.out]
  have hB1 : Below w.heap.size w w1 := below_then (Nat.le_refl _) (by (repeat' (first | (with_reducible exact Below.refl _ _) | (with_reducible assumption) | (with_reducible refine Below.alloc ?_ ?_ _) | (with_reducible refine Below.drew ?_) | (with_reducible refine below_drewN ?_ _) | (with_reducible refine Below.setCell ?_ ?_ _) | (with_reducible refine below_then ?_ ?_ (by with_reducible assumption)) | (with_reducible exact Nat.le_refl _) | go_size | (simp only [*]; done)))) hb1
  have hE1 := (Blk.new w 3 #[]).then_ hb1
  have hsz1 := hE1.lt
  have HR1 := Lib.hid ((HR.out.then_ hb1).alloc' (.cells #[.int .i64 tW, .int .i64 tS, .int .i64 tH] 37))
  go_wp2_with fail
  ((with_reducible refine (lineStart_s _ _ _ a u f xs _ HN.out h60 HF.out hau hun HNF.out ?_).mono ?_); (exact HR1.out); rintro e w2 ⟨⟨s, rfl, s0, s1, hs⟩, hb2⟩)
  obtain ⟨l0, l1, _, _⟩ := lst_spec (a := a) (t := u) HN.out (by omega) hau
  have hmin : (s ≤ u ∧ s = lst xs a u) ∨ (u ≤ s ∧ lst xs a u = u) := by
    have h1 := congrArg List.length hs
    rw [sg_len HN.out (by omega), sg_len HN.out (by omega)] at h1
    omega
  have HMIN := Lib.hid hmin
  have HS := Lib.hid hs
  clear hs hmin
  have hz2' := hb2.size
  simp only [World.size_alloc] at hz2'
  have gT := Lib.hid ((Blk.new w1 37 #[.int .i64 tW, .int .i64 tS, .int .i64 tH]).then_ hb2)
  have gE := Lib.hid ((hE1.alloc (.cells #[.int .i64 tW, .int .i64 tS, .int .i64 tH] 37)).then_ hb2)
  have hB2 : Below w.heap.size w w2 := below_then (Nat.le_refl _) (by (repeat' (first | (with_reducible exact Below.refl _ _) | (with_reducible assumption) | (with_reducible refine Below.alloc ?_ ?_ _) | (with_reducible refine Below.drew ?_) | (with_reducible refine below_drewN ?_ _) | (with_reducible refine Below.setCell ?_ ?_ _) | (with_reducible refine below_then ?_ ?_ (by with_reducible assumption)) | (with_reducible exact Nat.le_refl _) | go_size | (simp only [*]; done)))) hb2
  clear HR1 HR hE1
  obtain ⟨d, hd⟩ : ∃ d, wd - tW = d := ⟨_, rfl⟩
  have hd0 : -100000 ≤ d ∧ d ≤ 100000 := by omega
  have HD := Lib.hid hd
  go_wp2_with fail
  go_loopg [9, 12, 13, 14] (u - s) (fun k o x sm i wr => ∃ (j m c : Nat) (B : Option Addr) (out : List Int) (p q r : Int), s ≤ j ∧ (j ≤ u ∨ j = s) ∧ k = u - j ∧ i = .int .i64 (j : Int) ∧ o = .slice B m c ∧ x = .int .i64 p ∧ sm = .int .i64 (if 0 < d then q else r) ∧ m + s ≤ j ∧ Hid (posP xs d tS tH s j = out) ∧ Hid (sW (sg xs s j) = p) ∧ Hid (sS (sg xs s j) = q) ∧ Hid (sH (sg xs s j) = r) ∧
    Hid (OwnI wr w.heap.size B m c out) ∧ Hid (Blk wr w1.heap.size 37 #[.int .i64 tW, .int .i64 tS, .int .i64 tH]) ∧ Below w.heap.size w wr)
  case atStart => exact ⟨s, 0, 0, some ⟨w.heap.size, 0, none⟩, [], 0, 0, 0, Nat.le_refl _, .inr rfl, rfl, rfl, rfl, rfl, (by simp), by omega, by rw [Hid, posP_none _ _ _ _ (Nat.le_refl _)], by rw [Hid, sg_none _ (Nat.le_refl _)]; rfl, by rw [Hid, sg_none _ (Nat.le_refl _)]; rfl, by rw [Hid, sg_none _ (Nat.le_refl _)]; rfl, owns_nil _ _ _ _ _ _ _ gE.out (Nat.le_refl _) (by unfold maxLen; omega) rfl, gT.out, hB2⟩
  case round =>
    obtain ⟨j, m, c, B, out, p, q, r, hsj, hj, hk, rfl, rfl, rfl, rfl, hmj, hpos, hp, hq, hr', hown, bT, hbel⟩ := hrel
    have HK := Lib.hid hk; clear hk
    have hsz := hbel.size
    obtain ⟨⟨p1, p2⟩, ⟨q1, q2⟩, r1, r2⟩ := sg_b HOK.out HN.out (show j ≤ n by omega) hp.out hq.out hr'.out
    obtain ⟨U, hU⟩ : ∃ U, (if 0 < d then q else r) = U := ⟨_, rfl⟩
    have hU0 : 0 ≤ U ∧ U ≤ 100000 := by rw [← hU]; split <;> omega
    rw [hU]
    have HU := Lib.hid hU
    clear hU
    have hdb := mvd_b (d := d) (tS := tS) (tH := tH) (u := U) hd0.1 hd0.2 hU0.1 hU0.2 tS0 tH0
    have bTo := bT.out
    have olt := bTo.lt
    have oc0 := bTo.cell 0; have of0 := bTo.frozen 0
    have oc1 := bTo.cell 1; have of1 := bTo.frozen 1
    have oc2 := bTo.cell 2; have of2 := bTo.frozen 2
    simp only [List.getElem?_toArray, List.getElem?_cons_zero, List.getElem?_cons_succ] at oc0 oc1 oc2
    clear bTo
    by_cases hlt : j < u
    · have c0 : wr.cell? ⟨b, off + j * 6, none⟩ = _ := (hbel.cell (p := ⟨b, off + j * 6, none⟩) hbw).trans (HC.out j 0 (by omega) (by omega))
      have c1 : wr.cell? ⟨b, off + j * 6 + 1, none⟩ = _ := (hbel.cell (p := ⟨b, off + j * 6 + 1, none⟩) hbw).trans (HC.out j 1 (by omega) (by omega))
      have c2 : wr.cell? ⟨b, off + j * 6 + 2, none⟩ = _ := (hbel.cell (p := ⟨b, off + j * 6 + 2, none⟩) hbw).trans (HC.out j 2 (by omega) (by omega))
      have c3 : wr.cell? ⟨b, off + j * 6 + 3, none⟩ = _ := (hbel.cell (p := ⟨b, off + j * 6 + 3, none⟩) hbw).trans (HC.out j 3 (by omega) (by omega))
      have cw1 : w.cell? ⟨b, off + j * 6 + 1, none⟩ = _ := HC.out j 1 (by omega) (by omega)
      obtain ⟨x, hx⟩ : ∃ x, xs.getD j default = x := ⟨_, rfl⟩
      simp only [itc, itv, hx] at c0 c1 c2 c3 cw1
      obtain ⟨⟨x1, x2⟩, ⟨x3, x4⟩, ⟨x5, x6⟩, _, hkk, hk1, _⟩ := itemOk_b (itemsOk_at HOK.out HN.out (show j < n by omega) hx)
      have HK1 := Lib.hid hk1
      have Hx := Lib.hid hx; clear hx hk1
      have hlt' : (j : Int) < (u : Int) := by omega
      have hltn : (j : Int) < (n : Int) := by omega
      have HSN := Lib.hid (sg_snoc (f := s) HN.out (show j < n by omega) hsj Hx.out)
      have HPN := Lib.hid (posP_snoc xs d tS tH hsj)
      by_cases k1 : x.k = 1
      · have k1' : (x.k == 1) = true := by simp [k1]
        have k2' : (x.k == 2) = false := by simp [k1]
        have k3 : ¬ x.k = 3 := by omega
        have K3 := Lib.hid k3
        obtain ⟨V, hV⟩ : ∃ V, mvd d tS tH U = V := ⟨_, rfl⟩
        rw [hV] at hdb
        have hps : posP xs d tS tH s (j + 1) = out ++ [p + V] := by rw [HPN.out, kd, Hx.out, if_pos k1, hpos.out, hp.out, hq.out, hr'.out, mv, HU.out, hV]
        have HPS := Lib.hid hps
        have HV := Lib.hid hV
        obtain ⟨z1, z2, _, _⟩ := HK1.out k1
        have Z1 := Lib.hid z1
        have Z2 := Lib.hid z2
        clear hps k1 k3 hV hkk z1 z2
        go_wp2_with fail
        ((with_reducible refine (moved_s _ _ _ _ _ _ hd0 hU0 (by omega) (by omega)).mono ?_); rintro e w5 ⟨rfl, hb5⟩)
        rw [HV.out]
        have hz5 := hb5.size
        have hB5 : Below w.heap.size w w5 := below_then (Nat.le_refl _) hbel hb5
        have HO := Lib.hid ((hown.out.then_ hb5).alloc (.cells #[.int .i64 (p + V)] 3))
        have HB := Lib.hid (Blk.new w5 3 #[.int .i64 (p + V)])
        have HT5 := Lib.hid ((bT.out.then_ hb5).alloc (.cells #[.int .i64 (p + V)] 3))
        have NT := Lib.hid (own_ne HO.out HT5.out (by decide))
        have hbase : w.heap.size ≤ (w5.alloc (.cells #[.int .i64 (p + V)] 3)).heap.size := by simp; omega
        have hB5a := hB5.alloc hB5.size (.cells #[.int .i64 (p + V)] 3)
        clear olt oc0 oc1 oc2 of0 of1 of2 c0 c1 c2 c3
        go_wp2_with (at_builtin; (refine wpList_append_one _ rfl _ _ 24 rfl w.heap.size 3 i0 _ 1 8 Try.underlying24 hi hz0 hz1 hz2 rfl (by omega) B m c (inl out) rfl HO.out w5.heap.size (inl [p + V]) rfl rfl HB.out (inl_one _) (by omega) (by omega) hbase ?_); intro g6 c6 w6 hown6 hgr6; (have HO6 := Lib.hid hown6); (have hB6 := hB5a.grown hgr6 hB5a.size (fun j hj => (HO.out.lt j hj).1)); (have HT6 := Lib.hid (HT5.out.grown hgr6 NT.out)); (have d1 : w6.cell? ⟨b, off + j * 6 + 1, none⟩ = _ := (hB6.cell (p := ⟨b, off + j * 6 + 1, none⟩) hbw).trans cw1); clear hown6 hgr6)
        go_roundg (u - (j + 1))
        case measure => have := HK.out; omega
        case rel =>
          refine ⟨j + 1, m + 1, c6, some ⟨g6, 0, none⟩, out ++ [p + V], p + x.w, q, r, by omega, by omega, rfl, by go_num, rfl, rfl, (by rw [HU.out]), by omega, HPS.out, ?_, ?_, ?_, ?_, HT6.out, hB6⟩
          · show _ = _
            rw [HSN.out, sW_snoc, hp.out, gw, if_neg K3.out]
          · show _ = _
            rw [HSN.out, sS_snoc, hq.out, gs, if_neg K3.out, Z1.out, Int.add_zero]
          · show _ = _
            rw [HSN.out, sH_snoc, hr'.out, gh, if_neg K3.out, Z2.out, Int.add_zero]
          · show World.ownsRow _ _ _ _ _ _ _
            rw [inl_snoc]
            exact HO6.out
      · have k1' : (x.k == 1) = false := by simp [k1]
        have hps : posP xs d tS tH s (j + 1) = out := by rw [HPN.out, kd, Hx.out, if_neg k1, hpos.out]
        have HPS := Lib.hid hps
        clear hps
        by_cases k3 : x.k = 3
        · have k3' : (x.k == 2) = false := by simp [k3]
          have K3 := Lib.hid k3
          clear k1 k3 hkk
          go_wp2_with fail
          go_roundg (u - (j + 1))
          case measure => have := HK.out; omega
          case rel =>
            refine ⟨j + 1, m, c, B, out, p, q, r, by omega, by omega, rfl, by go_num, rfl, rfl, (by rw [HU.out]), by omega, HPS.out, ?_, ?_, ?_, hown.out, bT.out, by (repeat' (first | (with_reducible exact Below.refl _ _) | (with_reducible assumption) | (with_reducible refine Below.alloc ?_ ?_ _) | (with_reducible refine Below.drew ?_) | (with_reducible refine below_drewN ?_ _) | (with_reducible refine Below.setCell ?_ ?_ _) | (with_reducible refine below_then ?_ ?_ (by with_reducible assumption)) | (with_reducible exact Nat.le_refl _) | go_size | (simp only [*]; done)))⟩
            · show _ = _
              rw [HSN.out, sW_snoc, hp.out, gw, if_pos K3.out, Int.add_zero]
            · show _ = _
              rw [HSN.out, sS_snoc, hq.out, gs, if_pos K3.out, Int.add_zero]
            · show _ = _
              rw [HSN.out, sH_snoc, hr'.out, gh, if_pos K3.out, Int.add_zero]
        · have k3' : (x.k == 2) = true := by have : x.k = 2 := by omega
                                             simp [this]
          have K3 := Lib.hid k3
          clear k1 k3 hkk
          by_cases hdp : 0 < d
          · have hUq : U = q := by rw [← HU.out, if_pos hdp]
            subst hUq
            go_wp2_with fail
            go_roundg (u - (j + 1))
            case measure => have := HK.out; omega
            case rel =>
              refine ⟨j + 1, m, c, B, out, p + x.w, U + x.st, r + x.sh, by omega, by omega, rfl, by go_num, rfl, rfl, (by rw [if_pos hdp]), by omega, HPS.out, ?_, ?_, ?_, hown.out, bT.out, by (repeat' (first | (with_reducible exact Below.refl _ _) | (with_reducible assumption) | (with_reducible refine Below.alloc ?_ ?_ _) | (with_reducible refine Below.drew ?_) | (with_reducible refine below_drewN ?_ _) | (with_reducible refine Below.setCell ?_ ?_ _) | (with_reducible refine below_then ?_ ?_ (by with_reducible assumption)) | (with_reducible exact Nat.le_refl _) | go_size | (simp only [*]; done)))⟩
              · show _ = _
                rw [HSN.out, sW_snoc, hp.out, gw, if_neg K3.out]
              · show _ = _
                rw [HSN.out, sS_snoc, hq.out, gs, if_neg K3.out]
              · show _ = _
                rw [HSN.out, sH_snoc, hr'.out, gh, if_neg K3.out]
          · have hUr : U = r := by rw [← HU.out, if_neg hdp]
            subst hUr
            go_wp2_with fail
            go_roundg (u - (j + 1))
            case measure => have := HK.out; omega
            case rel =>
              refine ⟨j + 1, m, c, B, out, p + x.w, q + x.st, U + x.sh, by omega, by omega, rfl, by go_num, rfl, rfl, (by rw [if_neg (show ¬ 0 < d by omega)]), by omega, HPS.out, ?_, ?_, ?_, hown.out, bT.out, by (repeat' (first | (with_reducible exact Below.refl _ _) | (with_reducible assumption) | (with_reducible refine Below.alloc ?_ ?_ _) | (with_reducible refine Below.drew ?_) | (with_reducible refine below_drewN ?_ _) | (with_reducible refine Below.setCell ?_ ?_ _) | (with_reducible refine below_then ?_ ?_ (by with_reducible assumption)) | (with_reducible exact Nat.le_refl _) | go_size | (simp only [*]; done)))⟩
              · show _ = _
                rw [HSN.out, sW_snoc, hp.out, gw, if_neg K3.out]
              · show _ = _
                rw [HSN.out, sS_snoc, hq.out, gs, if_neg K3.out]
              · show _ = _
                rw [HSN.out, sH_snoc, hr'.out, gh, if_neg K3.out]
    · have hsg : sg xs s j = sg xs (lst xs a u) u := by
        rw [← HS.out]
        rcases Nat.lt_or_ge s u with h | h
        · rw [show j = u by omega]
        · rw [show j = s by omega, sg_none _ (Nat.le_refl _), sg_none _ h]
      have hpe : posP xs d tS tH (lst xs a u) u = out := by
        rw [← hpos.out]
        rcases HMIN.out with ⟨h1, h2⟩ | ⟨h1, h2⟩
        · rw [← h2, show j = u by omega]
        · rw [h2, show j = s by omega, posP_none _ _ _ _ (Nat.le_refl _), posP_none _ _ _ _ (Nat.le_refl _)]
      have eS : q = tS := by rw [← hq.out, hsg, ← HTS.out]; rfl
      have eH : r = tH := by rw [← hr'.out, hsg, ← HTH.out]; rfl
      have eU : (if 0 < d then tS else tH) = U := by rw [← HU.out, eS, eH]
      have hml : m ≤ 60 := by omega
      obtain ⟨x, hx⟩ : ∃ x, xs.getD u default = x := ⟨_, rfl⟩
      have eW : tW = p + (if x.k = 3 then x.w else 0) := by rw [← HTW.out, lgW, ← hsg, hp.out, kd, hx]
      have c0 : wr.cell? ⟨b, off + u * 6, none⟩ = _ := (hbel.cell (p := ⟨b, off + u * 6, none⟩) hbw).trans (HC.out u 0 (by omega) (by omega))
      have c1 : wr.cell? ⟨b, off + u * 6 + 1, none⟩ = _ := (hbel.cell (p := ⟨b, off + u * 6 + 1, none⟩) hbw).trans (HC.out u 1 (by omega) (by omega))
      simp only [itc, itv, hx] at c0 c1
      obtain ⟨⟨x1, x2⟩, _⟩ := itemOk_b (itemsOk_at HOK.out HN.out hun hx)
      have hun' : (u : Int) < (n : Int) := by omega
      obtain ⟨V, hV⟩ : ∃ V, mvd d tS tH U = V := ⟨_, rfl⟩
      rw [hV] at hdb
      have hE2 : Z = out ++ [tW + V] := by rw [← HE.out, HD.out, hpe, mv, eU, hV]
      have HE2 := Lib.hid hE2
      have HV := Lib.hid hV
      have EW := Lib.hid eW
      clear hV hE2 eU eS eH hsg hpe hx eW
      by_cases k3 : x.k = 3
      · have k3' : (x.k == 3) = true := by simp [k3]
        have eW2 : p + x.w = tW := by rw [EW.out, if_pos k3]
        clear k3
        go_wp2_with fail
        ((with_reducible refine (moved_s _ _ _ _ _ _ hd0 hU0 (by omega) (by omega)).mono ?_); rintro e w5 ⟨rfl, hb5⟩)
        rw [HV.out]
        have hz5 := hb5.size
        have hB5 : Below w.heap.size w w5 := below_then (Nat.le_refl _) hbel hb5
        have HO := Lib.hid ((hown.out.then_ hb5).alloc (.cells #[.int .i64 (tW + V)] 3))
        have HB := Lib.hid (Blk.new w5 3 #[.int .i64 (tW + V)])
        have hbase : w.heap.size ≤ (w5.alloc (.cells #[.int .i64 (tW + V)] 3)).heap.size := by simp; omega
        have hB5a := hB5.alloc hB5.size (.cells #[.int .i64 (tW + V)] 3)
        clear olt oc0 oc1 oc2 of0 of1 of2
        go_wp2_with (at_builtin; (refine wpList_append_one _ rfl _ _ 24 rfl w.heap.size 3 i0 _ 1 8 Try.underlying24 hi hz0 hz1 hz2 rfl (by omega) B m c (inl out) rfl HO.out w5.heap.size (inl [tW + V]) rfl rfl HB.out (inl_one _) (by omega) (by omega) hbase ?_); intro g6 c6 w6 hown6 hgr6; (have HO6 := Lib.hid hown6); (have hB6 := hB5a.grown hgr6 hB5a.size (fun j hj => (HO.out.lt j hj).1)); clear hown6 hgr6)
        go_ret
        refine ints_of HE2.out (by simp [hown.out.len]) ?_ hB6
        show World.ownsRow _ _ _ _ _ _ _
        rw [inl_snoc]
        exact HO6.out
      · have k3' : (x.k == 3) = false := by simp [k3]
        have eW2 : p = tW := by rw [EW.out, if_neg k3, Int.add_zero]
        subst eW2
        clear k3
        go_wp2_with fail
        ((with_reducible refine (moved_s _ _ _ _ _ _ hd0 hU0 (by omega) (by omega)).mono ?_); rintro e w5 ⟨rfl, hb5⟩)
        rw [HV.out]
        have hz5 := hb5.size
        have hB5 : Below w.heap.size w w5 := below_then (Nat.le_refl _) hbel hb5
        have HO := Lib.hid ((hown.out.then_ hb5).alloc (.cells #[.int .i64 (p + V)] 3))
        have HB := Lib.hid (Blk.new w5 3 #[.int .i64 (p + V)])
        have hbase : w.heap.size ≤ (w5.alloc (.cells #[.int .i64 (p + V)] 3)).heap.size := by simp; omega
        have hB5a := hB5.alloc hB5.size (.cells #[.int .i64 (p + V)] 3)
        clear olt oc0 oc1 oc2 of0 of1 of2
        go_wp2_with (at_builtin; (refine wpList_append_one _ rfl _ _ 24 rfl w.heap.size 3 i0 _ 1 8 Try.underlying24 hi hz0 hz1 hz2 rfl (by omega) B m c (inl out) rfl HO.out w5.heap.size (inl [p + V]) rfl rfl HB.out (inl_one _) (by omega) (by omega) hbase ?_); intro g6 c6 w6 hown6 hgr6; (have HO6 := Lib.hid hown6); (have hB6 := hB5a.grown hgr6 hB5a.size (fun j hj => (HO.out.lt j hj).1)); clear hown6 hgr6)
        go_ret
        refine ints_of HE2.out (by simp [hown.out.len]) ?_ hB6
        show World.ownsRow _ _ _ _ _ _ _
        rw [inl_snoc]
        exact HO6.out

set_option maxHeartbeats 1000000 in
theorem setLine_s (A : Option Addr) (n cap : Nat) (f t wd : Int) (xs : List It) (w : World) (hn : xs.length = n) (hm : n ≤ maxLen) (hr : Row w w.heap.size 6 A n (itc xs)) :
    Calls Try.prog 26 #[.slice A n cap, .int .i64 f, .int .i64 t, .int .i64 wd] w (IntsOut w (setV xs f t wd)) := by
  have HN := Lib.hid hn
  have HR := Lib.hid hr
  rcases hv : lineV xs f t with _ | _
  · have e1 := sv_no (xs := xs) (f := f) (t := t) (w := wd) (by rw [hv]; rfl)
    have HE := Lib.hid e1
    have HV := Lib.hid hv
    clear hv e1 hr
    go_enter Try.func26, Try.ntmps26
    go_wp2_with fail
    ((with_reducible refine (validLine_s _ _ _ f t xs _ HN.out hm ?_).mono ?_); (exact HR.out); rintro e w1 ⟨rfl, hb1⟩)
    rw [HV.out]
    go_wp2_with fail
    go_ret
    exact ints_of HE.out rfl (ownI_none _ _) hb1
  rcases hwd : inR wd 1 10000 with _ | _
  · have e1 := sv_no (xs := xs) (f := f) (t := t) (w := wd) (by rw [hwd, Bool.and_false])
    have HE := Lib.hid e1
    have HV := Lib.hid hv
    have HWD := Lib.hid hwd
    clear hv e1 hr hwd
    go_enter Try.func26, Try.ntmps26
    go_wp2_with fail
    ((with_reducible refine (validLine_s _ _ _ f t xs _ HN.out hm ?_).mono ?_); (exact HR.out); rintro e w1 ⟨rfl, hb1⟩)
    rw [HV.out]
    go_wp2_with fail
    ((with_reducible refine (validWidth_any _ _).mono ?_); rintro e w' ⟨rfl, rfl⟩)
    rw [show widthOk wd = false from HWD.out]
    go_wp2_with fail
    go_ret
    exact ints_of HE.out rfl (ownI_none _ _) hb1
  · have hv' := hv
    simp only [lineV, Bool.and_eq_true] at hv'
    obtain ⟨hok, hl⟩ := hv'
    obtain ⟨a, u, hf, rfl, hau, hun, _, hnf, _⟩ := ln_iff hn hl
    have e1 := sv_yes hv hwd hf
    have HE := Lib.hid e1
    have HV := Lib.hid hv
    have HWD := Lib.hid hwd
    have HOK := Lib.hid hok
    have HNF := Lib.hid hnf
    have hf1 : f + 1 = (a : Int) := by omega
    have HF := Lib.hid hf1
    clear hok hv hf1 hnf hl e1 hf hwd hr
    go_enter Try.func26, Try.ntmps26
    go_wp2_with fail
    ((with_reducible refine (validLine_s _ _ _ f (u : Int) xs _ HN.out hm ?_).mono ?_); (exact HR.out); rintro e w1 ⟨rfl, hb1⟩)
    rw [HV.out]
    go_wp2_with fail
    ((with_reducible refine (validWidth_any _ _).mono ?_); rintro e w' ⟨rfl, rfl⟩)
    rw [show widthOk wd = true from HWD.out]
    go_wp2_with fail
    ((with_reducible refine (setL_s _ _ _ a u f wd xs _ HOK.out HN.out HF.out hau hun HNF.out HWD.out ?_).mono ?_); (exact HR.out.then_ hb1); rintro e w3 ⟨B, c, rfl, ho, hb3⟩)
    go_wp2_with fail
    go_ret
    refine ints_of HE.out rfl ?_ (below_then (Nat.le_refl _) hb1 hb3)
    exact OwnI.mono ho hb1.size
end Go.Proofs.Ytpcjoehdbohaoaa
