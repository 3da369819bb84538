/- SetParagraph, of the program and of the reference, returns rows of its own, as the plain function says. Conditions: the slices read as lists. -/
import Derived.Test.YtpcjoehdbohaoaaValidBreaks
import Derived.Test.YtpcjoehdbohaoaaNest
import Derived.Test.YtpcjoehdbohaoaaSetLineI
import Derived.Test.YtpcjoehdbohaoaaSetLineS
namespace Go.Proofs.Ytpcjoehdbohaoaa
open Go.RowKit

def parP (xs : List It) (bs : List Int) (wd : Int) (j : Nat) : List (List Int) := (List.range j).map fun i => setV xs (frm bs i) (bs.getD i default) wd
def parV (xs : List It) (bs : List Int) (wd : Int) : List (List Int) := if vbV xs bs && inR wd 1 10000 then parP xs bs wd bs.length else []
theorem parP_len (xs : List It) (bs : List Int) (wd : Int) (j : Nat) : (parP xs bs wd j).length = j := by simp [parP]
theorem parP_succ (xs : List It) (bs : List Int) (wd : Int) (j : Nat) : parP xs bs wd (j + 1) = parP xs bs wd j ++ [setV xs (frm bs j) (bs.getD j default) wd] := by simp [parP, List.range_succ]
theorem par_no {xs : List It} {bs : List Int} {wd : Int} (h : (vbV xs bs && inR wd 1 10000) = false) : parV xs bs wd = [] := by rw [parV, h]; rfl
theorem par_yes {xs : List It} {bs : List Int} {wd : Int} {n : Nat} (hn : bs.length = n) (h : vbV xs bs = true) (hw : inR wd 1 10000 = true) : parV xs bs wd = parP xs bs wd n := by rw [parV, h, hw, hn]; rfl
theorem lns_sub {xs : List It} {bs : List Int} {n j : Nat} (h : lns xs bs n = true) (hj : j ≤ n) : lns xs bs j = true := by
  rcases hq : lns xs bs j with _ | _
  · have := lns_stop hq (n - j)
    rw [show j + (n - j) = n by omega, h] at this
    cases this
  · rfl
/-- What a call leaves that returns rows of its own. -/
def ParOut (w : World) (rows : List (List Int)) (e : Ending) (w' : World) : Prop :=
  ∃ (A : Option Addr) (c : Nat) (G : Nat → Option Addr) (cp : Nat → Nat), e = .returned (.slice A rows.length c) ∧ RowsOwn w' w.heap.size A rows.length c rows G cp ∧ Below w.heap.size w w'
theorem par_none {w w' : World} (hb : Below w.heap.size w w') : ParOut w [] (.returned (.slice none 0 0)) w' := ⟨none, 0, _, _, rfl, RowsOwn.nil _ _, hb⟩
theorem par_of {w w' : World} {rows rows' : List (List Int)} {A : Option Addr} {n c : Nat} {G : Nat → Option Addr} {cp : Nat → Nat} (e : rows' = rows) (hn : rows.length = n) (h : RowsOwn w' w.heap.size A n c rows G cp) (hb : Below w.heap.size w w') : ParOut w rows' (.returned (.slice A n c)) w' := by
  subst e hn
  exact ⟨A, c, G, cp, rfl, h, hb⟩
theorem intS_info : (Try.prog.info? 24).map (fun i => (i.zero, i.size, i.bytes)) = some (some (.slice none 0 0), 1, 24) := by kernel_rfl
theorem RowsOwn.empty (w : World) (g base : Nat) (h : Blk w g 24 #[]) (hb : base ≤ g) : RowsOwn w base (some ⟨g, 0, none⟩) 0 0 [] (fun _ => none) (fun _ => 0) :=
  ⟨rfl, ⟨[], owns_nil _ _ _ _ _ _ _ h hb (by unfold maxLen; omega) rfl, fun i q hi => absurd hi (by omega)⟩, fun i hi => absurd hi (by omega), fun i hi => absurd hi (by omega), fun i j _ hj => absurd hj (by omega)⟩

set_option maxRecDepth 100000 in
set_option maxHeartbeats 4000000 in
theorem setPar_i (A B : Option Addr) (n cap nb capb : Nat) (wd : Int) (xs : List It) (bs : List Int) (w : World) (hn : xs.length = n) (hm : n ≤ maxLen) (hcap : n ≤ cap ∧ cap ≤ maxLen) (hr : Row w w.heap.size 6 A n (itc xs)) (hbn : bs.length = nb) (hbm : nb ≤ maxLen) (hbr : Row w w.heap.size 1 B nb (inc bs)) :
    Calls Try.prog 32 #[.slice A n cap, .slice B nb capb, .int .i64 wd] w (ParOut w (parV xs bs wd)) := by
  have HN := Lib.hid hn
  have HR := Lib.hid hr
  have HBN := Lib.hid hbn
  have HBR := Lib.hid hbr
  clear hn hr hbn hbr
  rcases hv : vbV xs bs with _ | _
  · have HE := Lib.hid (par_no (xs := xs) (bs := bs) (wd := wd) (by rw [hv]; rfl))
    have HV := Lib.hid hv
    clear hv
    go_enter Try.func32, Try.ntmps32
    go_wp2_with fail
    ((with_reducible refine (validBreaks_i _ _ _ _ _ _ xs bs _ HN.out hm hcap ?_ HBN.out hbm ?_).mono ?_); (exact HR.out); (exact HBR.out); rintro e w1 ⟨rfl, hb1⟩)
    rw [HV.out]
    go_wp2_with fail
    go_ret
    show ParOut w (parV xs bs wd) _ _
    rw [HE.out]
    exact par_none hb1
  rcases hw : inR wd 1 10000 with _ | _
  · have HE := Lib.hid (par_no (xs := xs) (bs := bs) (wd := wd) (by rw [hv, hw]; rfl))
    have HV := Lib.hid hv
    have HW := Lib.hid hw
    clear hv hw
    go_enter Try.func32, Try.ntmps32
    go_wp2_with fail
    ((with_reducible refine (validBreaks_i _ _ _ _ _ _ xs bs _ HN.out hm hcap ?_ HBN.out hbm ?_).mono ?_); (exact HR.out); (exact HBR.out); rintro e w1 ⟨rfl, hb1⟩)
    rw [HV.out]
    go_wp2_with fail
    ((with_reducible refine (within_any _ _ _ _).mono ?_); rintro e w' ⟨rfl, rfl⟩)
    rw [HW.out]
    go_wp2_with fail
    go_ret
    show ParOut w (parV xs bs wd) _ _
    rw [HE.out]
    exact par_none hb1
  obtain ⟨hok, hpos, _, hln⟩ := vb_iff HBN.out HN.out hv
  have h60 := (itemsOk_len hok HN.out).2
  have hnb60 : nb ≤ 60 := by
    have := lns_b hok HN.out nb hln
    omega
  have HPE := Lib.hid (par_yes HBN.out hv hw)
  have HV := Lib.hid hv
  have HW := Lib.hid hw
  have HOK := Lib.hid hok
  have HLN := Lib.hid hln
  obtain ⟨i0, hi, hz0, hz1, hz2⟩ := info_parts intS_info
  clear hv hw hok hln
  go_enter Try.func32, Try.ntmps32
  go_wp2_with fail
  ((with_reducible refine (validBreaks_i _ _ _ _ _ _ xs bs _ HN.out hm hcap ?_ HBN.out hbm ?_).mono ?_); (exact HR.out); (exact HBR.out); rintro e w1 ⟨rfl, hb1⟩)
  rw [HV.out]
  have hB1 : Below w.heap.size w w1 := hb1
  go_wp2_with fail
  ((with_reducible refine (within_any _ _ _ _).mono ?_); rintro e w' ⟨rfl, rfl⟩)
  rw [HW.out]
  go_wp2_with fail
  go_loopg [7, 8, 22] nb (fun k o fv i wr => ∃ (j : Nat) (f : Int) (B : Option Addr) (c : Nat) (G : Nat → Option Addr) (cp : Nat → Nat), j ≤ nb ∧ k = nb - j ∧ i = .int .i64 (j : Int) ∧ fv = .int .i64 f ∧ o = .slice B j c ∧ Hid (frm bs j = f) ∧ Hid (RowsOwn wr w.heap.size B j c (parP xs bs wd j) G cp) ∧ Below w.heap.size w wr)
  case atStart => exact ⟨0, -1, none, 0, fun _ => none, fun _ => 0, Nat.zero_le _, rfl, rfl, rfl, rfl, rfl, RowsOwn.nil _ _, hB1⟩
  case round =>
    obtain ⟨j, f, B', c, G, cp, hj, hk, rfl, rfl, rfl, hf, hown, hbel⟩ := hrel
    have HK := Lib.hid hk; clear hk
    have hsz := hbel.size
    by_cases hlt : j < nb
    · obtain ⟨b, off, rfl, hb, hc⟩ := HBR.out (by omega)
      obtain ⟨t, ht⟩ : ∃ t, bs.getD j default = t := ⟨_, rfl⟩
      have c0 : wr.cell? ⟨b, off + j, none⟩ = some (.int .i64 t) := by
        have := (hbel.cell (p := ⟨b, off + j, none⟩) hb).trans (by have := hc j 0 hlt (by omega); simpa only [inc, ht, Nat.mul_one, Nat.add_zero] using this)
        exact this
      have hjn : (j : Int) < (nb : Int) := by omega
      have hl := lns_of HLN.out j hlt
      rw [hf.out, ht] at hl
      obtain ⟨a, u, ef, et, hau, hun, _, hF, _⟩ := ln_iff HN.out hl
      have hlv : lineV xs f t = true := by rw [lv_ok HOK.out]; exact hl
      have HT := Lib.hid ht
      have C0 := Lib.hid c0
      have HLV := Lib.hid hlv
      have HF := Lib.hid hF
      have HCR := Lib.hid (parP_succ xs bs wd j)
      have HFA := Lib.hid (show f + 1 = (a : Int) by omega)
      have HEF := Lib.hid ef
      have HPV := Lib.hid (show setV xs f t wd = setV xs (frm bs j) (bs.getD j default) wd by rw [hf.out, ht])
      have KW := Lib.hid ((hbel.cell (p := ⟨b, off + j, none⟩) hb).symm.trans C0.out)
      clear ht hc hl hlv hF ef et
      go_wp2_with fail
      ((with_reducible refine (setLine_i _ _ _ _ _ _ xs _ HN.out hm hcap ?_).mono ?_); (exact (HR.out.below hbel).more hbel.size); rintro e w2 ⟨D, d, rfl, hd2, hb2⟩)
      have hB2 := below_then (Nat.le_refl _) hbel hb2
      obtain ⟨ys, hys⟩ : ∃ ys, setV xs f t wd = ys := ⟨_, rfl⟩
      rw [hys] at hd2 ⊢
      obtain ⟨m, hmm⟩ : ∃ m, ys.length = m := ⟨_, rfl⟩
      have HMM := Lib.hid hmm
      rw [hmm] at hd2 ⊢
      have HYS := Lib.hid (hys.symm.trans HPV.out)
      have hown2 := (hown.out.then_ hb2).then_ ((Below.refl _ _).alloc (Nat.le_refl _) (.cells #[.slice D m d] 24))
      have hD2 := OwnI.alloc hd2 (.cells #[.slice D m d] 24)
      have HB := Lib.hid (Blk.new w2 24 #[.slice D m d])
      have hbase : w.heap.size ≤ (w2.alloc (.cells #[.slice D m d] 24)).heap.size := by have := hB2.size; simp; omega
      have hB2a := hB2.alloc hB2.size (.cells #[.slice D m d] 24)
      have hDlo : ∀ x, D = some x → wr.heap.size ≤ x.block := fun x hx => (hd2.blk x hx).1
      have hAhi := hown.out.blkA
      have hGhi := hown.out.blkG
      obtain ⟨L, hL1, hL2⟩ := hown2.2.1
      have HO := Lib.hid hL1
      have HL2 := Lib.hid hL2
      have HLn := Lib.hid (show L.length = j by have := hL1.1; omega)
      have HOW2 := Lib.hid hown2
      have HD2 := Lib.hid hD2
      have HDLO := Lib.hid hDlo
      have HAHI := Lib.hid hAhi
      have HGHI := Lib.hid hGhi
      clear hys hmm hown2 hD2 hL1 hL2 hd2 hDlo hAhi hGhi
      go_wp2_with (at_builtin; (refine wpList_append_one_at _ rfl _ _ 49 rfl w.heap.size 24 i0 _ 1 24 Try.underlying49 hi hz0 hz1 hz2 rfl (by omega) B' j c L rfl HO.out w2.heap.size [.slice D m d] rfl rfl HB.out (by simp [Value.oneCell']) (by omega) (by omega) hbase ?_); intro g4 c4 w4 hown4 hgr4 hat4; (have HO4 := Lib.hid hown4); (have HG4 := Lib.hid hgr4); (have HA4 := Lib.hid hat4); (have hB4 := hB2a.grown hgr4 hB2a.size (fun j hj => (HO.out.lt j hj).1)); (have q4 := (hB4.cell (p := ⟨b, off + j, none⟩) hb).trans KW.out); clear hown4 hgr4 hat4)
      have hnew : RowsOwn w4 w.heap.size (some ⟨g4, 0, none⟩) (j + 1) c4 (parP xs bs wd (j + 1)) (fun i => if i = j then D else G i) (fun i => if i = j then d else cp i) := by
        rw [HCR.out, ← HYS.out]
        have hm := HMM.out
        subst hm
        refine RowsOwn.snoc HOW2.out HL2.out HLn.out (HD2.out.mono hsz) ?_ ?_ HO4.out HG4.out HA4.out
        · intro x hx y hy e
          have h1 := HDLO.out x hx
          have h2 := HAHI.out y hy
          omega
        · intro i hi x hx y hy e
          have h1 := HDLO.out y hy
          have h2 := HGHI.out i hi x hx
          omega
      have HNEW := Lib.hid hnew
      clear hnew
      go_roundg (nb - (j + 1))
      case measure => have := HK.out; omega
      case rel => exact ⟨j + 1, _, some ⟨g4, 0, none⟩, _, _, _, by omega, rfl, by go_num, rfl, rfl, by show _ = _; rw [frm_succ, HT.out], HNEW.out, hB4⟩
    · have ej : j = nb := by omega
      subst ej
      go_wp2_with fail
      go_ret
      exact par_of HPE.out (parP_len _ _ _ _) hown.out hbel

set_option maxRecDepth 100000 in
set_option maxHeartbeats 4000000 in
theorem setPar_s (A B : Option Addr) (n cap nb capb : Nat) (wd : Int) (xs : List It) (bs : List Int) (w : World) (hn : xs.length = n) (hm : n ≤ maxLen) (hr : Row w w.heap.size 6 A n (itc xs)) (hbn : bs.length = nb) (hbm : nb ≤ maxLen) (hbr : Row w w.heap.size 1 B nb (inc bs)) :
    Calls Try.prog 30 #[.slice A n cap, .slice B nb capb, .int .i64 wd] w (ParOut w (parV xs bs wd)) := by
  have HN := Lib.hid hn
  have HR := Lib.hid hr
  have HBN := Lib.hid hbn
  have HBR := Lib.hid hbr
  have hE := Lib.hid (Blk.new w 24 #[])
  have hB0 : Below w.heap.size w (w.alloc (.cells #[] 24)) := (Below.refl _ _).alloc (Nat.le_refl _) _
  clear hn hr hbn hbr
  rcases hv : vbV xs bs with _ | _
  · have HE := Lib.hid (par_no (xs := xs) (bs := bs) (wd := wd) (by rw [hv]; rfl))
    have HV := Lib.hid hv
    clear hv
    go_enter Try.func30, Try.ntmps30
    go_wp2_with fail
    ((with_reducible refine (validBreaks_s _ _ _ _ _ _ xs bs _ HN.out hm ?_ HBN.out hbm ?_).mono ?_); (exact HR.out.then_ hB0); (exact HBR.out.then_ hB0); rintro e w1 ⟨rfl, hb1⟩)
    rw [HV.out]
    go_wp2_with fail
    go_ret
    show ParOut w (parV xs bs wd) _ _
    rw [HE.out]
    exact par_none (below_then (Nat.le_refl _) hB0 hb1)
  rcases hw : inR wd 1 10000 with _ | _
  · have HE := Lib.hid (par_no (xs := xs) (bs := bs) (wd := wd) (by rw [hv, hw]; rfl))
    have HV := Lib.hid hv
    have HW := Lib.hid hw
    clear hv hw
    go_enter Try.func30, Try.ntmps30
    go_wp2_with fail
    ((with_reducible refine (validBreaks_s _ _ _ _ _ _ xs bs _ HN.out hm ?_ HBN.out hbm ?_).mono ?_); (exact HR.out.then_ hB0); (exact HBR.out.then_ hB0); rintro e w1 ⟨rfl, hb1⟩)
    rw [HV.out]
    go_wp2_with fail
    ((with_reducible refine (validWidth_any _ _).mono ?_); rintro e w' ⟨rfl, rfl⟩)
    rw [show widthOk wd = false from HW.out]
    go_wp2_with fail
    go_ret
    show ParOut w (parV xs bs wd) _ _
    rw [HE.out]
    exact par_none (below_then (Nat.le_refl _) hB0 hb1)
  obtain ⟨hok, hpos, _, hln⟩ := vb_iff HBN.out HN.out hv
  have h60 := (itemsOk_len hok HN.out).2
  have hnb60 : nb ≤ 60 := by
    have := lns_b hok HN.out nb hln
    omega
  have HPE := Lib.hid (par_yes HBN.out hv hw)
  have HV := Lib.hid hv
  have HW := Lib.hid hw
  have HOK := Lib.hid hok
  have HLN := Lib.hid hln
  obtain ⟨i0, hi, hz0, hz1, hz2⟩ := info_parts intS_info
  clear hv hw hok hln
  go_enter Try.func30, Try.ntmps30
  go_wp2_with fail
  ((with_reducible refine (validBreaks_s _ _ _ _ _ _ xs bs _ HN.out hm ?_ HBN.out hbm ?_).mono ?_); (exact HR.out.then_ hB0); (exact HBR.out.then_ hB0); rintro e w1 ⟨rfl, hb1⟩)
  rw [HV.out]
  have hB1 : Below w.heap.size w w1 := (below_then (Nat.le_refl _) hB0 hb1)
  go_wp2_with fail
  ((with_reducible refine (validWidth_any _ _).mono ?_); rintro e w' ⟨rfl, rfl⟩)
  rw [show widthOk wd = true from HW.out]
  go_wp2_with fail
  go_loopg [7, 8, 9] nb (fun k o fv i wr => ∃ (j : Nat) (f : Int) (B : Option Addr) (c : Nat) (G : Nat → Option Addr) (cp : Nat → Nat), j ≤ nb ∧ k = nb - j ∧ i = .int .i64 (j : Int) ∧ fv = .int .i64 f ∧ o = .slice B j c ∧ Hid (frm bs j = f) ∧ Hid (RowsOwn wr w.heap.size B j c (parP xs bs wd j) G cp) ∧ Below w.heap.size w wr)
  case atStart => exact ⟨0, -1, some ⟨w.heap.size, 0, none⟩, 0, fun _ => none, fun _ => 0, Nat.zero_le _, rfl, rfl, rfl, rfl, rfl, (RowsOwn.empty _ _ _ (hE.out.then_ hb1) (Nat.le_refl _)), hB1⟩
  case round =>
    obtain ⟨j, f, B', c, G, cp, hj, hk, rfl, rfl, rfl, hf, hown, hbel⟩ := hrel
    have HK := Lib.hid hk; clear hk
    have hsz := hbel.size
    by_cases hlt : j < nb
    · obtain ⟨b, off, rfl, hb, hc⟩ := HBR.out (by omega)
      obtain ⟨t, ht⟩ : ∃ t, bs.getD j default = t := ⟨_, rfl⟩
      have c0 : wr.cell? ⟨b, off + j, none⟩ = some (.int .i64 t) := by
        have := (hbel.cell (p := ⟨b, off + j, none⟩) hb).trans (by have := hc j 0 hlt (by omega); simpa only [inc, ht, Nat.mul_one, Nat.add_zero] using this)
        exact this
      have hjn : (j : Int) < (nb : Int) := by omega
      have hl := lns_of HLN.out j hlt
      rw [hf.out, ht] at hl
      obtain ⟨a, u, ef, et, hau, hun, _, hF, _⟩ := ln_iff HN.out hl
      have hlv : lineV xs f t = true := by rw [lv_ok HOK.out]; exact hl
      have HT := Lib.hid ht
      have C0 := Lib.hid c0
      have HLV := Lib.hid hlv
      have HF := Lib.hid hF
      have HCR := Lib.hid (parP_succ xs bs wd j)
      have HFA := Lib.hid (show f + 1 = (a : Int) by omega)
      have HEF := Lib.hid ef
      have HPV := Lib.hid (show setP xs a u wd = setV xs (frm bs j) (bs.getD j default) wd by rw [hf.out, ht, et]; exact (sv_yes (by rw [← et]; exact hlv) HW.out ef).symm)
      subst et
      have KW := Lib.hid ((hbel.cell (p := ⟨b, off + j, none⟩) hb).symm.trans C0.out)
      clear ht hc hl hlv hF ef
      go_wp2_with fail
      ((with_reducible refine (setL_s _ _ _ a u _ _ xs _ HOK.out HN.out HFA.out hau hun HF.out HW.out ?_).mono ?_); (exact (HR.out.below hbel).more hbel.size); rintro e w2 ⟨D, d, rfl, hd2, hb2⟩)
      have hB2 := below_then (Nat.le_refl _) hbel hb2
      obtain ⟨ys, hys⟩ : ∃ ys, setP xs a u wd = ys := ⟨_, rfl⟩
      rw [hys] at hd2 ⊢
      obtain ⟨m, hmm⟩ : ∃ m, ys.length = m := ⟨_, rfl⟩
      have HMM := Lib.hid hmm
      rw [hmm] at hd2 ⊢
      have HYS := Lib.hid (hys.symm.trans HPV.out)
      have hown2 := (hown.out.then_ hb2).then_ ((Below.refl _ _).alloc (Nat.le_refl _) (.cells #[.slice D m d] 24))
      have hD2 := OwnI.alloc hd2 (.cells #[.slice D m d] 24)
      have HB := Lib.hid (Blk.new w2 24 #[.slice D m d])
      have hbase : w.heap.size ≤ (w2.alloc (.cells #[.slice D m d] 24)).heap.size := by have := hB2.size; simp; omega
      have hB2a := hB2.alloc hB2.size (.cells #[.slice D m d] 24)
      have hDlo : ∀ x, D = some x → wr.heap.size ≤ x.block := fun x hx => (hd2.blk x hx).1
      have hAhi := hown.out.blkA
      have hGhi := hown.out.blkG
      obtain ⟨L, hL1, hL2⟩ := hown2.2.1
      have HO := Lib.hid hL1
      have HL2 := Lib.hid hL2
      have HLn := Lib.hid (show L.length = j by have := hL1.1; omega)
      have HOW2 := Lib.hid hown2
      have HD2 := Lib.hid hD2
      have HDLO := Lib.hid hDlo
      have HAHI := Lib.hid hAhi
      have HGHI := Lib.hid hGhi
      clear hys hmm hown2 hD2 hL1 hL2 hd2 hDlo hAhi hGhi
      go_wp2_with (at_builtin; (refine wpList_append_one_at _ rfl _ _ 49 rfl w.heap.size 24 i0 _ 1 24 Try.underlying49 hi hz0 hz1 hz2 rfl (by omega) B' j c L rfl HO.out w2.heap.size [.slice D m d] rfl rfl HB.out (by simp [Value.oneCell']) (by omega) (by omega) hbase ?_); intro g4 c4 w4 hown4 hgr4 hat4; (have HO4 := Lib.hid hown4); (have HG4 := Lib.hid hgr4); (have HA4 := Lib.hid hat4); (have hB4 := hB2a.grown hgr4 hB2a.size (fun j hj => (HO.out.lt j hj).1)); (have q4 := (hB4.cell (p := ⟨b, off + j, none⟩) hb).trans KW.out); clear hown4 hgr4 hat4)
      have hnew : RowsOwn w4 w.heap.size (some ⟨g4, 0, none⟩) (j + 1) c4 (parP xs bs wd (j + 1)) (fun i => if i = j then D else G i) (fun i => if i = j then d else cp i) := by
        rw [HCR.out, ← HYS.out]
        have hm := HMM.out
        subst hm
        refine RowsOwn.snoc HOW2.out HL2.out HLn.out (HD2.out.mono hsz) ?_ ?_ HO4.out HG4.out HA4.out
        · intro x hx y hy e
          have h1 := HDLO.out x hx
          have h2 := HAHI.out y hy
          omega
        · intro i hi x hx y hy e
          have h1 := HDLO.out y hy
          have h2 := HGHI.out i hi x hx
          omega
      have HNEW := Lib.hid hnew
      clear hnew
      go_roundg (nb - (j + 1))
      case measure => have := HK.out; omega
      case rel => exact ⟨j + 1, _, some ⟨g4, 0, none⟩, _, _, _, by omega, rfl, by go_num, rfl, rfl, by show _ = _; rw [frm_succ, HT.out], HNEW.out, hB4⟩
    · have ej : j = nb := by omega
      subst ej
      go_wp2_with fail
      go_ret
      exact par_of HPE.out (parP_len _ _ _ _) hown.out hbel
end Go.Proofs.Ytpcjoehdbohaoaa
