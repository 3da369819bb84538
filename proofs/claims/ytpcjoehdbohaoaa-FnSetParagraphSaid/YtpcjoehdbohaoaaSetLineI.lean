/- SetLine of the program is what the plain function says. Conditions: the slice reads as the list. -/
import Derived.Test.YtpcjoehdbohaoaaSetMove
import Derived.Test.YtpcjoehdbohaoaaBoxesOf
namespace Go.Proofs.Ytpcjoehdbohaoaa
open Go.RowKit

/-- A row of numbers of the call's own lies in another block than a block of another type. -/
theorem own_ne {w : World} {base n c g : Nat} {A : Option Addr} {xs : List Int} {t : TypeId} {cs : Array Value} (h : OwnI w base A n c xs) (hb : Blk w g t cs) (ht : (t == 3) = false) : some g ≠ Value.ownBlock (.slice A n c) := by
  rcases h.2 with ⟨hv, _⟩ | ⟨g', cap, cur, hv, _, hg, _⟩
  · cases hv; simp [Value.ownBlock]
  · cases hv
    intro e
    simp only [Value.ownBlock, Option.some.injEq] at e
    subst e
    unfold Blk at hb
    rw [hb] at hg
    simp only [Option.some.injEq, Obj.cells.injEq] at hg
    obtain ⟨_, h2, _⟩ := hg
    subst h2
    simp at ht
theorem OwnI.oth {w : World} {base n c g : Nat} {A : Option Addr} {xs : List Int} (h : OwnI w base A n c xs) (hne : some g ≠ Value.ownBlock (.slice A n c)) (o : Nat) (u : Value) : OwnI (w.setCell ⟨g, o, none⟩ u) base A n c xs :=
  h.other (fun y hy => by subst hy; intro e; apply hne; simp only [Value.ownBlock]; rw [e]) u
theorem own_nb {w : World} {base n c g : Nat} {A : Option Addr} {xs : List Int} (h : OwnI w base A n c xs) (hg : g < base) : some g ≠ Value.ownBlock (.slice A n c) := by
  intro e
  have := (h.block g e.symm).1
  omega

set_option maxRecDepth 100000 in
set_option maxHeartbeats 4000000 in
theorem setLine_i (A : Option Addr) (n cap : Nat) (f t wd : Int) (xs : List It) (w : World) (hn : xs.length = n) (hm : n ≤ maxLen) (hcap : n ≤ cap ∧ cap ≤ maxLen) (hr : Row w w.heap.size 6 A n (itc xs)) :
    Calls Try.prog 27 #[.slice A n cap, .int .i64 f, .int .i64 t, .int .i64 wd] w (IntsOut w (setV xs f t wd)) := by
  have HN := Lib.hid hn
  have HR := Lib.hid (hr.alloc' (.cells #[.int .i64 wd] 3))
  rcases hok : itemsOk xs with _ | _
  · have e := sv_no (xs := xs) (f := f) (t := t) (w := wd) (by rw [lv_bad hok]; rfl)
    have HE := Lib.hid e
    have HOK := Lib.hid hok
    clear e hok
    go_enter Try.func27, Try.ntmps27
    go_wp2_with fail
    ((with_reducible refine (validItems_i _ _ _ xs _ HN.out hm ?_).mono ?_); (exact HR.out); rintro e w1 ⟨rfl, hb1⟩)
    rw [HOK.out]
    have hB1 : Below w.heap.size w w1 := below_then (Nat.le_refl _) (by (repeat' (first | (with_reducible exact Below.refl _ _) | (with_reducible assumption) | (with_reducible refine Below.alloc ?_ ?_ _) | (with_reducible refine Below.drew ?_) | (with_reducible refine below_drewN ?_ _) | (with_reducible refine Below.setCell ?_ ?_ _) | (with_reducible refine below_then ?_ ?_ (by with_reducible assumption)) | (with_reducible exact Nat.le_refl _) | go_size | (simp only [*]; done)))) hb1
    go_wp2_with fail
    go_ret
    exact ints_of HE.out rfl (ownI_none _ _) hB1
  have h60 := (itemsOk_len hok hn).2
  have e := lv_ok (f := f) (t := t) hok
  have HOK := Lib.hid hok
  rcases hv : lnOk xs f t with _ | _
  · rw [hv] at e
    have e1 := sv_no (xs := xs) (f := f) (t := t) (w := wd) (by rw [e]; rfl)
    have HE := Lib.hid e1
    have HV := Lib.hid hv
    clear e hok hv e1
    go_enter Try.func27, Try.ntmps27
    go_wp2_with fail
    ((with_reducible refine (validItems_i _ _ _ xs _ HN.out hm ?_).mono ?_); (exact HR.out); rintro e w1 ⟨rfl, hb1⟩)
    rw [HOK.out]
    have hB1 : Below w.heap.size w w1 := below_then (Nat.le_refl _) (by (repeat' (first | (with_reducible exact Below.refl _ _) | (with_reducible assumption) | (with_reducible refine Below.alloc ?_ ?_ _) | (with_reducible refine Below.drew ?_) | (with_reducible refine below_drewN ?_ _) | (with_reducible refine Below.setCell ?_ ?_ _) | (with_reducible refine below_then ?_ ?_ (by with_reducible assumption)) | (with_reducible exact Nat.le_refl _) | go_size | (simp only [*]; done)))) hb1
    go_wp2_with fail
    ((with_reducible refine (isLine_i _ _ _ f t xs _ HN.out h60 hcap ?_).mono ?_); (exact HR.out.then_ hb1); rintro e w2 ⟨rfl, hb2⟩)
    rw [HV.out]
    have hB2 : Below w.heap.size w w2 := below_then (Nat.le_refl _) hB1 hb2
    go_wp2_with fail
    go_ret
    exact ints_of HE.out rfl (ownI_none _ _) hB2
  rw [hv] at e
  obtain ⟨a, u, hf, rfl, hau, hun, _, hnf, _⟩ := ln_iff hn hv
  rcases hwd : inR wd 1 10000 with _ | _
  · have e1 := sv_no (xs := xs) (f := f) (t := (u : Int)) (w := wd) (by rw [hwd, Bool.and_false])
    have HE := Lib.hid e1
    have HV := Lib.hid hv
    have HWD := Lib.hid hwd
    have hW0 := Lib.hid (Blk.new w 3 #[.int .i64 wd])
    clear e hok hv e1 hf hwd
    go_enter Try.func27, Try.ntmps27
    go_wp2_with fail
    ((with_reducible refine (validItems_i _ _ _ xs _ HN.out hm ?_).mono ?_); (exact HR.out); rintro e w1 ⟨rfl, hb1⟩)
    rw [HOK.out]
    have hB1 : Below w.heap.size w w1 := below_then (Nat.le_refl _) (by (repeat' (first | (with_reducible exact Below.refl _ _) | (with_reducible assumption) | (with_reducible refine Below.alloc ?_ ?_ _) | (with_reducible refine Below.drew ?_) | (with_reducible refine below_drewN ?_ _) | (with_reducible refine Below.setCell ?_ ?_ _) | (with_reducible refine below_then ?_ ?_ (by with_reducible assumption)) | (with_reducible exact Nat.le_refl _) | go_size | (simp only [*]; done)))) hb1
    go_wp2_with fail
    ((with_reducible refine (isLine_i _ _ _ f (u : Int) xs _ HN.out h60 hcap ?_).mono ?_); (exact HR.out.then_ hb1); rintro e w2 ⟨rfl, hb2⟩)
    rw [HV.out]
    have hB2 : Below w.heap.size w w2 := below_then (Nat.le_refl _) hB1 hb2
    have hW2 := (hW0.out.then_ hb1).then_ hb2
    have qlt := hW2.lt
    have qc0 := hW2.cell 0; have qf0 := hW2.frozen 0
    simp only [List.getElem?_toArray, List.getElem?_cons_zero, List.getElem?_cons_succ] at qc0
    go_wp2_with fail
    ((with_reducible refine (within_any _ _ _ _).mono ?_); rintro e w' ⟨rfl, rfl⟩)
    rw [HWD.out]
    go_wp2_with fail
    go_ret
    exact ints_of HE.out rfl (ownI_none _ _) hB2
  have e1 := sv_yes e hwd hf
  obtain ⟨tW, htW⟩ : ∃ tW, lgW xs a u = tW := ⟨_, rfl⟩
  obtain ⟨tS, htS⟩ : ∃ tS, lgS xs a u = tS := ⟨_, rfl⟩
  obtain ⟨tH, htH⟩ : ∃ tH, lgH xs a u = tH := ⟨_, rfl⟩
  have hlb := lg_b (a := a) hok hn hun
  obtain ⟨s, hs⟩ : ∃ s, lst xs a u = s := ⟨_, rfl⟩
  rw [setP, htW, htS, htH, hs] at e1
  rw [htW, htS, htH] at hlb
  obtain ⟨⟨tW0, tW1⟩, ⟨tS0, tS1⟩, tH0, tH1⟩ := hlb
  obtain ⟨wd0, wd1⟩ := inR_iff.1 hwd
  obtain ⟨s0, s1, _, _⟩ := lst_spec (a := a) (t := u) hn (by omega) hau
  rw [hs] at s0 s1
  have HS := Lib.hid hs
  have HE := Lib.hid e1
  have HV := Lib.hid hv
  have HWD := Lib.hid hwd
  have HTW := Lib.hid htW
  have HTS := Lib.hid htS
  have HTH := Lib.hid htH
  have hf1 : f + 1 = (a : Int) := by omega
  have HF := Lib.hid hf1
  have hst : (s : Int) ≤ (u : Int) := by omega
  have htc : (u : Int) ≤ (cap : Int) := by omega
  have hlen : (u : Int) - (s : Int) = ((u - s : Nat) : Int) := by omega
  have hW0 := Lib.hid (Blk.new w 3 #[.int .i64 wd])
  obtain ⟨i0, hi, hz0, hz1, hz2⟩ := info_parts int_info
  obtain ⟨b, off, rfl, hbw, hcw⟩ := hr (by omega)
  have HC := Lib.hid hcw
  clear e hok hv e1 hf hwd hnf hf1 hs htW htS htH hcw hr
  go_enter Try.func27, Try.ntmps27
  go_wp2_with fail
  ((with_reducible refine (validItems_i _ _ _ xs _ HN.out hm ?_).mono ?_); (exact HR.out); rintro e w1 ⟨rfl, hb1⟩)
  rw [HOK.out]
  have hB1 : Below w.heap.size w w1 := below_then (Nat.le_refl _) (by (repeat' (first | (with_reducible exact Below.refl _ _) | (with_reducible assumption) | (with_reducible refine Below.alloc ?_ ?_ _) | (with_reducible refine Below.drew ?_) | (with_reducible refine below_drewN ?_ _) | (with_reducible refine Below.setCell ?_ ?_ _) | (with_reducible refine below_then ?_ ?_ (by with_reducible assumption)) | (with_reducible exact Nat.le_refl _) | go_size | (simp only [*]; done)))) hb1
  go_wp2_with fail
  ((with_reducible refine (isLine_i _ _ _ f (u : Int) xs _ HN.out h60 hcap ?_).mono ?_); (exact HR.out.then_ hb1); rintro e w2 ⟨rfl, hb2⟩)
  rw [HV.out]
  have hB2 : Below w.heap.size w w2 := below_then (Nat.le_refl _) hB1 hb2
  have hW2 := (hW0.out.then_ hb1).then_ hb2
  have HW2 := Lib.hid hW2
  have HR2 := Lib.hid ((HR.out.then_ hb1).then_ hb2)
  have qlt := hW2.lt
  have qc0 := hW2.cell 0; have qf0 := hW2.frozen 0
  simp only [List.getElem?_toArray, List.getElem?_cons_zero, List.getElem?_cons_succ] at qc0
  go_wp2_with fail
  ((with_reducible refine (within_any _ _ _ _).mono ?_); rintro e w' ⟨rfl, rfl⟩)
  rw [HWD.out]
  clear hW2 qlt qc0 qf0
  go_wp2_with fail
  ((with_reducible refine (lineGlue_i _ _ _ a u f xs _ HOK.out HN.out hcap HF.out hau hun ?_).mono ?_); (exact HR2.out); rintro e w3 ⟨rfl, hb3⟩)
  rw [HTW.out, HTS.out, HTH.out]
  have hB3 : Below w.heap.size w w3 := below_then (Nat.le_refl _) hB2 hb3
  have hsz3 := hB3.size
  have HR3 := Lib.hid (((HR2.out.then_ hb3).alloc' (.cells #[.int .i64 tW, .int .i64 tS, .int .i64 tH] 37)).alloc' (.cells #[.int .i64 0, .int .i64 0, .int .i64 0] 37))
  go_wp2_with fail
  ((with_reducible refine (lineStart_i _ _ _ a u f xs _ HN.out h60 HF.out hau (by omega) ?_).mono ?_); (exact HR3.out); rintro e w4 ⟨rfl, hb4⟩)
  rw [HS.out]
  have hz4 := hb4.size
  simp only [World.size_alloc] at hz4
  have gW := Lib.hid ((((HW2.out.then_ hb3).alloc (.cells #[.int .i64 tW, .int .i64 tS, .int .i64 tH] 37)).alloc (.cells #[.int .i64 0, .int .i64 0, .int .i64 0] 37)).then_ hb4)
  have gT := Lib.hid (((Blk.new w3 37 #[.int .i64 tW, .int .i64 tS, .int .i64 tH]).alloc (.cells #[.int .i64 0, .int .i64 0, .int .i64 0] 37)).then_ hb4)
  have gB := Lib.hid ((Blk.new_at (w3.alloc (.cells #[.int .i64 tW, .int .i64 tS, .int .i64 tH] 37)) 37 #[.int .i64 0, .int .i64 0, .int .i64 0] (w3.heap.size + 1) (by simp)).then_ hb4)
  have hB4 : Below w.heap.size w w4 := below_then (Nat.le_refl _) (by (repeat' (first | (with_reducible exact Below.refl _ _) | (with_reducible assumption) | (with_reducible refine Below.alloc ?_ ?_ _) | (with_reducible refine Below.drew ?_) | (with_reducible refine below_drewN ?_ _) | (with_reducible refine Below.setCell ?_ ?_ _) | (with_reducible refine below_then ?_ ?_ (by with_reducible assumption)) | (with_reducible exact Nat.le_refl _) | go_size | (simp only [*]; done)))) hb4
  have hwlt : w.heap.size < w3.heap.size := by
    have h1 := (HW2.out.then_ hb3).lt
    exact h1
  clear HR3 HR2 HR
  go_wp2_with fail
  go_loopg [11, 43] (u - s) (fun k o i wr => ∃ (j m c : Nat) (B : Option Addr) (out : List Int) (p q r : Int), j ≤ u - s ∧ k = u - s - j ∧ i = .int .i64 (j : Int) ∧ o = .slice B m c ∧ m ≤ j ∧ Hid (posP xs (wd - tW) tS tH s (s + j) = out) ∧ Hid (sW (sg xs s (s + j)) = p) ∧ Hid (sS (sg xs s (s + j)) = q) ∧ Hid (sH (sg xs s (s + j)) = r) ∧
    Hid (OwnI wr (w3.heap.size + 1) B m c out) ∧ Hid (Blk wr w.heap.size 3 #[.int .i64 wd]) ∧ Hid (Blk wr w3.heap.size 37 #[.int .i64 tW, .int .i64 tS, .int .i64 tH]) ∧ Hid (Blk wr (w3.heap.size + 1) 37 #[.int .i64 p, .int .i64 q, .int .i64 r]) ∧ Below w.heap.size w wr)
  case atStart => exact ⟨0, 0, 0, none, [], 0, 0, 0, Nat.zero_le _, rfl, rfl, rfl, Nat.le_refl _, by rw [Hid, Nat.add_zero, posP_none _ _ _ _ (Nat.le_refl _)], by rw [Hid, Nat.add_zero, sg_none _ (Nat.le_refl _)]; rfl, by rw [Hid, Nat.add_zero, sg_none _ (Nat.le_refl _)]; rfl, by rw [Hid, Nat.add_zero, sg_none _ (Nat.le_refl _)]; rfl, ownI_none _ _, gW.out, gT.out, gB.out, hB4⟩
  case round =>
    obtain ⟨j, m, c, B, out, p, q, r, hj, hk, rfl, rfl, hmj, hpos, hp, hq, hr', hown, bW, bT, bB, hbel⟩ := hrel
    have HK := Lib.hid hk; clear hk
    have hsz := hbel.size
    have hbB := bB.out.lt
    obtain ⟨⟨p1, p2⟩, ⟨q1, q2⟩, r1, r2⟩ := sg_b HOK.out HN.out (show s + j ≤ n by omega) hp.out hq.out hr'.out
    by_cases hlt : j < u - s
    · have hcs : ∀ q, q < 6 → w.cell? ⟨b, off + s * 6 + j * 6 + q, none⟩ = some (itc xs (s + j) q) := fun q hq => by
        have h := HC.out (s + j) q (by omega) hq
        rw [show off + s * 6 + j * 6 + q = off + (s + j) * 6 + q by omega]
        exact h
      have c0 : wr.cell? ⟨b, off + s * 6 + j * 6, none⟩ = _ := (hbel.cell (p := ⟨b, off + s * 6 + j * 6, none⟩) hbw).trans (hcs 0 (by omega))
      have c1 : wr.cell? ⟨b, off + s * 6 + j * 6 + 1, none⟩ = _ := (hbel.cell (p := ⟨b, off + s * 6 + j * 6 + 1, none⟩) hbw).trans (hcs 1 (by omega))
      have c2 : wr.cell? ⟨b, off + s * 6 + j * 6 + 2, none⟩ = _ := (hbel.cell (p := ⟨b, off + s * 6 + j * 6 + 2, none⟩) hbw).trans (hcs 2 (by omega))
      have c3 : wr.cell? ⟨b, off + s * 6 + j * 6 + 3, none⟩ = _ := (hbel.cell (p := ⟨b, off + s * 6 + j * 6 + 3, none⟩) hbw).trans (hcs 3 (by omega))
      have c4 : wr.cell? ⟨b, off + s * 6 + j * 6 + 4, none⟩ = _ := (hbel.cell (p := ⟨b, off + s * 6 + j * 6 + 4, none⟩) hbw).trans (hcs 4 (by omega))
      have c5 : wr.cell? ⟨b, off + s * 6 + j * 6 + 5, none⟩ = _ := (hbel.cell (p := ⟨b, off + s * 6 + j * 6 + 5, none⟩) hbw).trans (hcs 5 (by omega))
      obtain ⟨x, hx⟩ : ∃ x, xs.getD (s + j) default = x := ⟨_, rfl⟩
      simp only [itc, itv, hx] at c0 c1 c2 c3 c4 c5
      obtain ⟨⟨x1, x2⟩, ⟨x3, x4⟩, ⟨x5, x6⟩, _, hkk, _⟩ := itemOk_b (itemsOk_at HOK.out HN.out (show s + j < n by omega) hx)
      have HKK := Lib.hid hkk
      have Hx := Lib.hid hx; clear hx hcs hkk
      have hlt' : (j : Int) < (u : Int) - (s : Int) := by omega
      have HSN := Lib.hid (sg_snoc (f := s) HN.out (show s + j < n by omega) (show s ≤ s + j by omega) Hx.out)
      have HPN := Lib.hid (posP_snoc xs (wd - tW) tS tH (show s ≤ s + j by omega))
      have HBX := Lib.hid (Blk.new wr 41 #[.int .i64 x.k, .int .i64 x.w, .int .i64 x.st, .int .i64 x.sh, .int .i64 x.pen, .bool x.fl])
      have HWX := Lib.hid (bW.out.alloc (.cells #[.int .i64 x.k, .int .i64 x.w, .int .i64 x.st, .int .i64 x.sh, .int .i64 x.pen, .bool x.fl] 41))
      have HTX := Lib.hid (bT.out.alloc (.cells #[.int .i64 x.k, .int .i64 x.w, .int .i64 x.st, .int .i64 x.sh, .int .i64 x.pen, .bool x.fl] 41))
      have bBo := bB.out
      have HBB := Lib.hid (bBo.alloc (.cells #[.int .i64 x.k, .int .i64 x.w, .int .i64 x.st, .int .i64 x.sh, .int .i64 x.pen, .bool x.fl] 41))
      have HOX := Lib.hid (hown.out.alloc (.cells #[.int .i64 x.k, .int .i64 x.w, .int .i64 x.st, .int .i64 x.sh, .int .i64 x.pen, .bool x.fl] 41))
      have hBX : Below w.heap.size w (wr.alloc (.cells #[.int .i64 x.k, .int .i64 x.w, .int .i64 x.st, .int .i64 x.sh, .int .i64 x.pen, .bool x.fl] 41)) := hbel.alloc hsz _
      have olt := bBo.lt
      have oc0 := bBo.cell 0; have of0 := bBo.frozen 0
      have oc1 := bBo.cell 1; have of1 := bBo.frozen 1
      have oc2 := bBo.cell 2; have of2 := bBo.frozen 2
      simp only [List.getElem?_toArray, List.getElem?_cons_zero, List.getElem?_cons_succ] at oc0 oc1 oc2
      clear bBo
      have hmvb := mv_b (d := wd - tW) (tS := tS) (tH := tH) (b := p) (s := q) (h := r) (by omega) (by omega) (by omega) (by omega) (by omega) tS0 tH0
      obtain ⟨V, hV⟩ : ∃ V, mv (wd - tW) tS tH p q r = V := ⟨_, rfl⟩
      rw [hV] at hmvb
      have HVV := Lib.hid hV
      clear hV
      by_cases k1 : x.k = 1
      · have k1' : (x.k == 1) = true := by simp [k1]
        have hps : posP xs (wd - tW) tS tH s (s + (j + 1)) = out ++ [V] := by rw [show s + (j + 1) = s + j + 1 by omega, HPN.out, kd, Hx.out, if_pos k1, hpos.out, hp.out, hq.out, hr'.out, HVV.out]
        have HPS := Lib.hid hps
        have k3 : ¬ x.k = 3 := by omega
        have K3 := Lib.hid k3
        have k3' : (x.k == 3) = false := by simp [k3]
        clear hps k1 k3
        go_wp2_with fail
        ((with_reducible refine (move_i p q r wd tW tS tH w.heap.size w3.heap.size 3 _ HWX.out HTX.out ⟨wd0, wd1⟩ (by omega) (by omega) (by omega) (by omega) (by omega) (by omega)).mono ?_); rintro e w5 ⟨rfl, hb5⟩)
        rw [HVV.out]
        have hz5 := hb5.size
        simp only [World.size_alloc] at hz5
        have hB5 : Below w.heap.size w w5 := below_then (Nat.le_refl _) hBX hb5
        have HO := Lib.hid ((HOX.out.then_ hb5).alloc (.cells #[.int .i64 V] 3))
        have HB := Lib.hid (Blk.new w5 3 #[.int .i64 V])
        have HX5 := Lib.hid ((HBX.out.then_ hb5).alloc (.cells #[.int .i64 V] 3))
        have HW5 := Lib.hid ((HWX.out.then_ hb5).alloc (.cells #[.int .i64 V] 3))
        have HT5 := Lib.hid ((HTX.out.then_ hb5).alloc (.cells #[.int .i64 V] 3))
        have HB5 := Lib.hid ((HBB.out.then_ hb5).alloc (.cells #[.int .i64 V] 3))
        have NX := Lib.hid (own_ne HO.out HX5.out (by decide))
        have NT := Lib.hid (own_ne HO.out HT5.out (by decide))
        have NB := Lib.hid (own_ne HO.out HB5.out (by decide))
        have NW := Lib.hid (own_nb (g := w.heap.size) HO.out (by omega))
        have hbase : w3.heap.size + 1 ≤ (w5.alloc (.cells #[.int .i64 V] 3)).heap.size := by simp; omega
        have hB5a := hB5.alloc hB5.size (.cells #[.int .i64 V] 3)
        clear olt oc0 oc1 oc2 of0 of1 of2 c0 c1 c2 c3 c4 c5
        go_wp2_with (at_builtin; (refine wpList_append_one _ rfl _ _ 24 rfl (w3.heap.size + 1) 3 i0 _ 1 8 Try.underlying24 hi hz0 hz1 hz2 rfl (by omega) B m c (inl out) rfl HO.out w5.heap.size (inl [V]) rfl rfl HB.out (inl_one _) (by omega) (by omega) hbase ?_); intro g6 c6 w6 hown6 hgr6; (have HO6 := Lib.hid hown6); (have hB6 := hB5a.grown hgr6 hB5a.size (fun j hj => (by have := (HO.out.lt j hj).1; omega))); (have hX6 := HX5.out.grown hgr6 NX.out); (have HW6 := Lib.hid (HW5.out.grown hgr6 NW.out)); (have HT6 := Lib.hid (HT5.out.grown hgr6 NT.out)); (have hB6' := HB5.out.grown hgr6 NB.out); (have HX6 := Lib.hid hX6); (have HB6 := Lib.hid hB6'); (have hz6 := hgr6.size); clear hown6 hgr6; ((have vlt := hX6.lt; have vc0 := hX6.cell 0; have vf0 := hX6.frozen 0; have vc1 := hX6.cell 1; have vf1 := hX6.frozen 1; have vc2 := hX6.cell 2; have vf2 := hX6.frozen 2; have vc3 := hX6.cell 3; have vf3 := hX6.frozen 3; have vc4 := hX6.cell 4; have vf4 := hX6.frozen 4; have vc5 := hX6.cell 5; have vf5 := hX6.frozen 5; simp only [List.getElem?_toArray, List.getElem?_cons_zero, List.getElem?_cons_succ] at vc0 vc1 vc2 vc3 vc4 vc5)); ((have ylt := hB6'.lt; have yc0 := hB6'.cell 0; have yf0 := hB6'.frozen 0; have yc1 := hB6'.cell 1; have yf1 := hB6'.frozen 1; have yc2 := hB6'.cell 2; have yf2 := hB6'.frozen 2; simp only [List.getElem?_toArray, List.getElem?_cons_zero, List.getElem?_cons_succ] at yc0 yc1 yc2)); clear hX6 hB6')
        ((with_reducible refine (g2_i _ _ _ _ _ _ _ (by omega) (by omega)).mono ?_); rintro e w7 ⟨rfl, hb7⟩)
        have hB7 : Below w.heap.size w w7 := below_then (Nat.le_refl _) hB6 hb7
        have e0 := HB6.out.then_ hb7
        have E0 := Lib.hid e0
        have hz7 := hb7.size
        clear vlt vc0 vc1 vc2 vc3 vc4 vc5 vf0 vf1 vf2 vf3 vf4 vf5 ylt yc0 yc1 yc2 yf0 yf1 yf2
        have olt := e0.lt
        have oc0 := e0.cell 0; have of0 := e0.frozen 0
        have oc1 := e0.cell 1; have of1 := e0.frozen 1
        have oc2 := e0.cell 2; have of2 := e0.frozen 2
        simp only [List.getElem?_toArray, List.getElem?_cons_zero, List.getElem?_cons_succ] at oc0 oc1 oc2
        clear e0
        go_wp2_with fail
        go_roundg (u - s - (j + 1))
        case measure => have := HK.out; omega
        case rel =>
          refine ⟨j + 1, m + 1, c6, some ⟨g6, 0, none⟩, out ++ [V], p + x.w, q + x.st, r + x.sh, by omega, rfl, by go_num, rfl, by omega, HPS.out, ?_, ?_, ?_, ?_, ?_, ?_, ?_, by (repeat' (first | (with_reducible exact Below.refl _ _) | (with_reducible assumption) | (with_reducible refine Below.alloc ?_ ?_ _) | (with_reducible refine Below.drew ?_) | (with_reducible refine below_drewN ?_ _) | (with_reducible refine Below.setCell ?_ ?_ _) | (with_reducible refine below_then ?_ ?_ (by with_reducible assumption)) | (with_reducible exact Nat.le_refl _) | go_size | (simp only [*]; done)))⟩
          · show _ = _
            rw [show s + (j + 1) = s + j + 1 by omega, HSN.out, sW_snoc, hp.out, gw, if_neg K3.out]
          · show _ = _
            rw [show s + (j + 1) = s + j + 1 by omega, HSN.out, sS_snoc, hq.out, gs, if_neg K3.out]
          · show _ = _
            rw [show s + (j + 1) = s + j + 1 by omega, HSN.out, sH_snoc, hr'.out, gh, if_neg K3.out]
          · have h6 : OwnI w6 (w3.heap.size + 1) (some ⟨g6, 0, none⟩) (m + 1) c6 (out ++ [V]) := (by show World.ownsRow _ _ _ _ _ _ _; rw [inl_snoc]; exact HO6.out)
            have h7 := h6.then_ hb7
            have hne := own_ne h7 E0.out (by decide)
            exact ((h7.oth hne _ _).oth hne _ _).oth hne _ _
          · have h7 := HW6.out.then_ hb7
            ((show Blk _ _ _ _); repeat' (first | (with_reducible exact h7) | (with_reducible refine Blk.alloc ?_ _) | (with_reducible refine Blk.drew ?_) | (with_reducible refine Blk.drewN ?_ _) | (with_reducible refine Blk.far ?_ ?_ _) | (with_reducible refine Blk.then_ ?_ (by with_reducible assumption)) | (simp; done) | (simp; omega) | omega))
          · have h7 := HT6.out.then_ hb7
            ((show Blk _ _ _ _); repeat' (first | (with_reducible exact h7) | (with_reducible refine Blk.alloc ?_ _) | (with_reducible refine Blk.drew ?_) | (with_reducible refine Blk.drewN ?_ _) | (with_reducible refine Blk.far ?_ ?_ _) | (with_reducible refine Blk.then_ ?_ (by with_reducible assumption)) | (simp; done) | (simp; omega) | omega))
          · ((show Blk _ _ _ _); apply Blk.eq; (case h => (repeat' (first | (with_reducible exact E0.out) | (with_reducible apply Blk.alloc) | (with_reducible apply Blk.drew) | (with_reducible apply Blk.drewN) | (with_reducible apply Blk.set_) | (with_reducible apply Blk.far) | (with_reducible apply Blk.then_; rotate_left; with_reducible assumption) | (simp; done) | (simp; omega) | omega))); (case e => (first | (simp [Nat.zero_add]; done) | (simp [Nat.zero_add]; omega))))
      · have k1' : (x.k == 1) = false := by simp [k1]
        have hps : posP xs (wd - tW) tS tH s (s + (j + 1)) = out := by rw [show s + (j + 1) = s + j + 1 by omega, HPN.out, kd, Hx.out, if_neg k1, hpos.out]
        have HPS := Lib.hid hps
        clear hps
        by_cases k3 : x.k = 3
        · have k3' : (x.k == 3) = true := by simp [k3]
          have K3 := Lib.hid k3
          clear k1 k3
          go_wp2_with fail
          go_roundg (u - s - (j + 1))
          case measure => have := HK.out; omega
          case rel =>
            refine ⟨j + 1, m, c, B, out, p, q, r, by omega, rfl, by go_num, rfl, by omega, HPS.out, ?_, ?_, ?_, HOX.out, HWX.out, HTX.out, HBB.out, hBX⟩
            · show _ = _
              rw [show s + (j + 1) = s + j + 1 by omega, HSN.out, sW_snoc, hp.out, gw, if_pos K3.out, Int.add_zero]
            · show _ = _
              rw [show s + (j + 1) = s + j + 1 by omega, HSN.out, sS_snoc, hq.out, gs, if_pos K3.out, Int.add_zero]
            · show _ = _
              rw [show s + (j + 1) = s + j + 1 by omega, HSN.out, sH_snoc, hr'.out, gh, if_pos K3.out, Int.add_zero]
        · have k3' : (x.k == 3) = false := by simp [k3]
          have K3 := Lib.hid k3
          clear k1 k3
          go_wp2_with fail
          ((with_reducible refine (g2_i _ _ _ _ _ _ _ (by omega) (by omega)).mono ?_); rintro e w7 ⟨rfl, hb7⟩)
          have hz7 := hb7.size
          simp only [World.size_alloc] at hz7
          have hB7 : Below w.heap.size w w7 := below_then (Nat.le_refl _) hBX hb7
          have e0 := HBB.out.then_ hb7
          have E0 := Lib.hid e0
          clear olt oc0 oc1 oc2 of0 of1 of2 c0 c1 c2 c3 c4 c5
          have olt := e0.lt
          have oc0 := e0.cell 0; have of0 := e0.frozen 0
          have oc1 := e0.cell 1; have of1 := e0.frozen 1
          have oc2 := e0.cell 2; have of2 := e0.frozen 2
          simp only [List.getElem?_toArray, List.getElem?_cons_zero, List.getElem?_cons_succ] at oc0 oc1 oc2
          clear e0
          go_wp2_with fail
          go_roundg (u - s - (j + 1))
          case measure => have := HK.out; omega
          case rel =>
            refine ⟨j + 1, m, c, B, out, p + x.w, q + x.st, r + x.sh, by omega, rfl, by go_num, rfl, by omega, HPS.out, ?_, ?_, ?_, ?_, ?_, ?_, ?_, by (repeat' (first | (with_reducible exact Below.refl _ _) | (with_reducible assumption) | (with_reducible refine Below.alloc ?_ ?_ _) | (with_reducible refine Below.drew ?_) | (with_reducible refine below_drewN ?_ _) | (with_reducible refine Below.setCell ?_ ?_ _) | (with_reducible refine below_then ?_ ?_ (by with_reducible assumption)) | (with_reducible exact Nat.le_refl _) | go_size | (simp only [*]; done)))⟩
            · show _ = _
              rw [show s + (j + 1) = s + j + 1 by omega, HSN.out, sW_snoc, hp.out, gw, if_neg K3.out]
            · show _ = _
              rw [show s + (j + 1) = s + j + 1 by omega, HSN.out, sS_snoc, hq.out, gs, if_neg K3.out]
            · show _ = _
              rw [show s + (j + 1) = s + j + 1 by omega, HSN.out, sH_snoc, hr'.out, gh, if_neg K3.out]
            · have h7 := HOX.out.then_ hb7
              have hne := own_ne h7 E0.out (by decide)
              exact ((h7.oth hne _ _).oth hne _ _).oth hne _ _
            · have h7 := HWX.out.then_ hb7
              ((show Blk _ _ _ _); repeat' (first | (with_reducible exact h7) | (with_reducible refine Blk.alloc ?_ _) | (with_reducible refine Blk.drew ?_) | (with_reducible refine Blk.drewN ?_ _) | (with_reducible refine Blk.far ?_ ?_ _) | (with_reducible refine Blk.then_ ?_ (by with_reducible assumption)) | (simp; done) | (simp; omega) | omega))
            · have h7 := HTX.out.then_ hb7
              ((show Blk _ _ _ _); repeat' (first | (with_reducible exact h7) | (with_reducible refine Blk.alloc ?_ _) | (with_reducible refine Blk.drew ?_) | (with_reducible refine Blk.drewN ?_ _) | (with_reducible refine Blk.far ?_ ?_ _) | (with_reducible refine Blk.then_ ?_ (by with_reducible assumption)) | (simp; done) | (simp; omega) | omega))
            · ((show Blk _ _ _ _); apply Blk.eq; (case h => (repeat' (first | (with_reducible exact E0.out) | (with_reducible apply Blk.alloc) | (with_reducible apply Blk.drew) | (with_reducible apply Blk.drewN) | (with_reducible apply Blk.set_) | (with_reducible apply Blk.far) | (with_reducible apply Blk.then_; rotate_left; with_reducible assumption) | (simp; done) | (simp; omega) | omega))); (case e => (first | (simp [Nat.zero_add]; done) | (simp [Nat.zero_add]; omega))))
    · have ej : s + j = u := by omega
      have bTo := bT.out
      have olt := bTo.lt
      have oc0 := bTo.cell 0; have of0 := bTo.frozen 0
      have oc1 := bTo.cell 1; have of1 := bTo.frozen 1
      have oc2 := bTo.cell 2; have of2 := bTo.frozen 2
      simp only [List.getElem?_toArray, List.getElem?_cons_zero, List.getElem?_cons_succ] at oc0 oc1 oc2
      clear bTo
      have hmvb := mv_b (d := wd - tW) (tS := tS) (tH := tH) (b := tW) (s := tS) (h := tH) (by omega) (by omega) (by omega) (by omega) (by omega) tS0 tH0
      obtain ⟨V, hV⟩ : ∃ V, mv (wd - tW) tS tH tW tS tH = V := ⟨_, rfl⟩
      rw [hV] at hmvb
      have hE2 : setV xs f (u : Int) wd = out ++ [V] := by rw [HE.out, ← hV, ← hpos.out, ej]
      have HE2 := Lib.hid hE2
      have HVV := Lib.hid hV
      clear hV hE2
      go_wp2_with fail
      ((with_reducible refine (move_i tW tS tH wd tW tS tH w.heap.size w3.heap.size 3 _ bW.out bT.out ⟨wd0, wd1⟩ (by omega) (by omega) (by omega) (by omega) (by omega) (by omega)).mono ?_); rintro e w5 ⟨rfl, hb5⟩)
      rw [HVV.out]
      have hz5 := hb5.size
      have hB5 : Below w.heap.size w w5 := below_then (Nat.le_refl _) hbel hb5
      have HO := Lib.hid ((hown.out.then_ hb5).alloc (.cells #[.int .i64 V] 3))
      have HB := Lib.hid (Blk.new w5 3 #[.int .i64 V])
      have hbase : w3.heap.size + 1 ≤ (w5.alloc (.cells #[.int .i64 V] 3)).heap.size := by simp; omega
      have hB5a := hB5.alloc hB5.size (.cells #[.int .i64 V] 3)
      clear olt oc0 oc1 oc2 of0 of1 of2
      go_wp2_with (at_builtin; (refine wpList_append_one _ rfl _ _ 24 rfl (w3.heap.size + 1) 3 i0 _ 1 8 Try.underlying24 hi hz0 hz1 hz2 rfl (by omega) B m c (inl out) rfl HO.out w5.heap.size (inl [V]) rfl rfl HB.out (inl_one _) (by omega) (by omega) hbase ?_); intro g6 c6 w6 hown6 hgr6; (have HO6 := Lib.hid hown6); (have hB6 := hB5a.grown hgr6 hB5a.size (fun j hj => (by have := (HO.out.lt j hj).1; omega))); clear hown6 hgr6)
      go_ret
      refine ints_of HE2.out (by simp [hown.out.len]) ?_ hB6
      refine OwnI.mono ?_ (show w.heap.size ≤ w3.heap.size + 1 by omega)
      show World.ownsRow _ _ _ _ _ _ _
      rw [inl_snoc]
      exact HO6.out
end Go.Proofs.Ytpcjoehdbohaoaa
