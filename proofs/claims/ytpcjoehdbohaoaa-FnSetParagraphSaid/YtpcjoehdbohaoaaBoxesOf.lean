/- LineGlue and BoxesOf, of the program and of the reference, are what the plain functions say. Conditions: the slice reads as the list. -/
import Derived.Test.YtpcjoehdbohaoaaItemG
import Derived.Test.YtpcjoehdbohaoaaItemGs
import Derived.Test.YtpcjoehdbohaoaaIntsOut
namespace Go.Proofs.Ytpcjoehdbohaoaa
open Go.RowKit

/-- LineGlue: three lengths, and whether there is a line. -/
def gv (xs : List It) (f t : Int) (g : List It → Nat → Nat → Int) : Int := if lineV xs f t then g xs (f + 1).toNat t.toNat else 0
theorem gv_no {xs : List It} {f t : Int} (h : lineV xs f t = false) (g : List It → Nat → Nat → Int) : gv xs f t g = 0 := by simp [gv, h]
theorem gv_yes {xs : List It} {f : Int} {a u : Nat} (h : lineV xs f u = true) (hf : f = (a : Int) - 1) (g : List It → Nat → Nat → Int) : gv xs f u g = g xs a u := by
  rw [gv, if_pos h, show (f + 1).toNat = a by omega]
  rfl

set_option maxHeartbeats 1000000 in
theorem glue_i (A : Option Addr) (n cap : Nat) (f t : Int) (xs : List It) (w : World) (hn : xs.length = n) (hm : n ≤ maxLen) (hcap : n ≤ cap ∧ cap ≤ maxLen) (hr : Row w w.heap.size 6 A n (itc xs)) :
    Calls Try.prog 21 #[.slice A n cap, .int .i64 f, .int .i64 t] w fun e w' => e = .returned (.tuple #[.agg #[.int .i64 (gv xs f t lgW), .int .i64 (gv xs f t lgS), .int .i64 (gv xs f t lgH)], .bool (lineV xs f t)]) ∧ Below w.heap.size w w' := by
  have HN := Lib.hid hn
  have HR := Lib.hid (hr.alloc' (.cells #[.int .i64 0, .int .i64 0, .int .i64 0] 37))
  clear hr
  rcases hok : itemsOk xs with _ | _
  · have e := lv_bad (f := f) (t := t) hok
    rw [gv_no e, gv_no e, gv_no e, e]
    have HOK := Lib.hid hok
    clear e hok
    go_enter Try.func21, Try.ntmps21
    go_wp2_with fail
    ((with_reducible refine (validItems_i _ _ _ xs _ HN.out hm ?_).mono ?_); (exact HR.out); rintro e w1 ⟨rfl, hb1⟩)
    rw [HOK.out]
    have g0 := (Blk.new w 37 #[.int .i64 0, .int .i64 0, .int .i64 0]).then_ hb1
    have zlt := g0.lt
    have zc0 := g0.cell 0; have zf0 := g0.frozen 0
    have zc1 := g0.cell 1; have zf1 := g0.frozen 1
    have zc2 := g0.cell 2; have zf2 := g0.frozen 2
    simp only [List.getElem?_toArray, List.getElem?_cons_zero, List.getElem?_cons_succ] at zc0 zc1 zc2
    have hB : Below w.heap.size w w1 := below_then (Nat.le_refl _) (by (repeat' (first | (with_reducible exact Below.refl _ _) | (with_reducible assumption) | (with_reducible refine Below.alloc ?_ ?_ _) | (with_reducible refine Below.drew ?_) | (with_reducible refine below_drewN ?_ _) | (with_reducible refine Below.setCell ?_ ?_ _) | (with_reducible refine below_then ?_ ?_ (by with_reducible assumption)) | (with_reducible exact Nat.le_refl _) | go_size | (simp only [*]; done)))) hb1
    go_wp2_with fail
    (first | go_returns | (refine bodyPost_ret (by simp [results, Try.results21, go_sem, *]; try rfl) rfl ?_))
    exact ⟨rfl, by (repeat' (first | (with_reducible exact Below.refl _ _) | (with_reducible assumption) | (with_reducible refine Below.alloc ?_ ?_ _) | (with_reducible refine Below.drew ?_) | (with_reducible refine below_drewN ?_ _) | (with_reducible refine Below.setCell ?_ ?_ _) | (with_reducible refine below_then ?_ ?_ (by with_reducible assumption)) | (with_reducible exact Nat.le_refl _) | go_size | (simp only [*]; done)))⟩
  have h60 := (itemsOk_len hok hn).2
  have e := lv_ok (f := f) (t := t) hok
  have HOK := Lib.hid hok
  rcases hv : lnOk xs f t with _ | _
  · rw [hv] at e
    rw [gv_no e, gv_no e, gv_no e, e]
    have HV := Lib.hid hv
    clear e hok hv
    go_enter Try.func21, Try.ntmps21
    go_wp2_with fail
    ((with_reducible refine (validItems_i _ _ _ xs _ HN.out hm ?_).mono ?_); (exact HR.out); rintro e w1 ⟨rfl, hb1⟩)
    rw [HOK.out]
    go_wp2_with fail
    ((with_reducible refine (isLine_i _ _ _ f t xs _ HN.out h60 hcap ?_).mono ?_); (exact HR.out.then_ hb1); rintro e w2 ⟨rfl, hb2⟩)
    rw [HV.out]
    have g0 := ((Blk.new w 37 #[.int .i64 0, .int .i64 0, .int .i64 0]).then_ hb1).then_ hb2
    have zlt := g0.lt
    have zc0 := g0.cell 0; have zf0 := g0.frozen 0
    have zc1 := g0.cell 1; have zf1 := g0.frozen 1
    have zc2 := g0.cell 2; have zf2 := g0.frozen 2
    simp only [List.getElem?_toArray, List.getElem?_cons_zero, List.getElem?_cons_succ] at zc0 zc1 zc2
    have hB : Below w.heap.size w w2 := below_then (Nat.le_refl _) (below_then (Nat.le_refl _) (by (repeat' (first | (with_reducible exact Below.refl _ _) | (with_reducible assumption) | (with_reducible refine Below.alloc ?_ ?_ _) | (with_reducible refine Below.drew ?_) | (with_reducible refine below_drewN ?_ _) | (with_reducible refine Below.setCell ?_ ?_ _) | (with_reducible refine below_then ?_ ?_ (by with_reducible assumption)) | (with_reducible exact Nat.le_refl _) | go_size | (simp only [*]; done)))) hb1) hb2
    go_wp2_with fail
    (first | go_returns | (refine bodyPost_ret (by simp [results, Try.results21, go_sem, *]; try rfl) rfl ?_))
    exact ⟨rfl, by (repeat' (first | (with_reducible exact Below.refl _ _) | (with_reducible assumption) | (with_reducible refine Below.alloc ?_ ?_ _) | (with_reducible refine Below.drew ?_) | (with_reducible refine below_drewN ?_ _) | (with_reducible refine Below.setCell ?_ ?_ _) | (with_reducible refine below_then ?_ ?_ (by with_reducible assumption)) | (with_reducible exact Nat.le_refl _) | go_size | (simp only [*]; done)))⟩
  · rw [hv] at e
    obtain ⟨a, u, hf, rfl, hau, hun, _, hnf, _⟩ := ln_iff hn hv
    rw [gv_yes e hf, gv_yes e hf, gv_yes e hf, e]
    have HV := Lib.hid hv
    have hf1 : f + 1 = (a : Int) := by omega
    have HF := Lib.hid hf1
    clear e hok hv hf1 hf
    go_enter Try.func21, Try.ntmps21
    go_wp2_with fail
    ((with_reducible refine (validItems_i _ _ _ xs _ HN.out hm ?_).mono ?_); (exact HR.out); rintro e w1 ⟨rfl, hb1⟩)
    rw [HOK.out]
    go_wp2_with fail
    ((with_reducible refine (isLine_i _ _ _ f (u : Int) xs _ HN.out h60 hcap ?_).mono ?_); (exact HR.out.then_ hb1); rintro e w2 ⟨rfl, hb2⟩)
    rw [HV.out]
    go_wp2_with fail
    ((with_reducible refine (lineGlue_i _ _ _ a u f xs _ HOK.out HN.out hcap HF.out hau hun ?_).mono ?_); (exact (HR.out.then_ hb1).then_ hb2); rintro e w3 ⟨rfl, hb3⟩)
    have g0 := (((Blk.new w 37 #[.int .i64 0, .int .i64 0, .int .i64 0]).then_ hb1).then_ hb2).then_ hb3
    have zlt := g0.lt
    have zc0 := g0.cell 0; have zf0 := g0.frozen 0
    have zc1 := g0.cell 1; have zf1 := g0.frozen 1
    have zc2 := g0.cell 2; have zf2 := g0.frozen 2
    simp only [List.getElem?_toArray, List.getElem?_cons_zero, List.getElem?_cons_succ] at zc0 zc1 zc2
    have hB : Below w.heap.size w w3 := below_then (Nat.le_refl _) (below_then (Nat.le_refl _) (below_then (Nat.le_refl _) (by (repeat' (first | (with_reducible exact Below.refl _ _) | (with_reducible assumption) | (with_reducible refine Below.alloc ?_ ?_ _) | (with_reducible refine Below.drew ?_) | (with_reducible refine below_drewN ?_ _) | (with_reducible refine Below.setCell ?_ ?_ _) | (with_reducible refine below_then ?_ ?_ (by with_reducible assumption)) | (with_reducible exact Nat.le_refl _) | go_size | (simp only [*]; done)))) hb1) hb2) hb3
    go_wp2_with fail
    (first | go_returns | (refine bodyPost_ret (by simp [results, Try.results21, go_sem, *]; try rfl) rfl ?_))
    exact ⟨rfl, by (repeat' (first | (with_reducible exact Below.refl _ _) | (with_reducible assumption) | (with_reducible refine Below.alloc ?_ ?_ _) | (with_reducible refine Below.drew ?_) | (with_reducible refine below_drewN ?_ _) | (with_reducible refine Below.setCell ?_ ?_ _) | (with_reducible refine below_then ?_ ?_ (by with_reducible assumption)) | (with_reducible exact Nat.le_refl _) | go_size | (simp only [*]; done)))⟩

set_option maxHeartbeats 1000000 in
theorem glue_s (A : Option Addr) (n cap : Nat) (f t : Int) (xs : List It) (w : World) (hn : xs.length = n) (hm : n ≤ maxLen) (hr : Row w w.heap.size 6 A n (itc xs)) :
    Calls Try.prog 22 #[.slice A n cap, .int .i64 f, .int .i64 t] w fun e w' => e = .returned (.tuple #[.agg #[.int .i64 (gv xs f t lgW), .int .i64 (gv xs f t lgS), .int .i64 (gv xs f t lgH)], .bool (lineV xs f t)]) ∧ Below w.heap.size w w' := by
  have HN := Lib.hid hn
  have HR := Lib.hid (hr.alloc' (.cells #[.int .i64 0, .int .i64 0, .int .i64 0] 37))
  clear hr
  rcases hv : lineV xs f t with _ | _
  · rw [gv_no hv, gv_no hv, gv_no hv]
    have HV := Lib.hid hv
    clear hv
    go_enter Try.func22, Try.ntmps22
    go_wp2_with fail
    ((with_reducible refine (validLine_s _ _ _ f t xs _ HN.out hm ?_).mono ?_); (exact HR.out); rintro e w1 ⟨rfl, hb1⟩)
    rw [HV.out]
    have g0 := (Blk.new w 37 #[.int .i64 0, .int .i64 0, .int .i64 0]).then_ hb1
    have zlt := g0.lt
    have zc0 := g0.cell 0; have zf0 := g0.frozen 0
    have zc1 := g0.cell 1; have zf1 := g0.frozen 1
    have zc2 := g0.cell 2; have zf2 := g0.frozen 2
    simp only [List.getElem?_toArray, List.getElem?_cons_zero, List.getElem?_cons_succ] at zc0 zc1 zc2
    have hB : Below w.heap.size w w1 := below_then (Nat.le_refl _) (by (repeat' (first | (with_reducible exact Below.refl _ _) | (with_reducible assumption) | (with_reducible refine Below.alloc ?_ ?_ _) | (with_reducible refine Below.drew ?_) | (with_reducible refine below_drewN ?_ _) | (with_reducible refine Below.setCell ?_ ?_ _) | (with_reducible refine below_then ?_ ?_ (by with_reducible assumption)) | (with_reducible exact Nat.le_refl _) | go_size | (simp only [*]; done)))) hb1
    go_wp2_with fail
    (first | go_returns | (refine bodyPost_ret (by simp [results, Try.results22, go_sem, *]; try rfl) rfl ?_))
    exact ⟨rfl, by (repeat' (first | (with_reducible exact Below.refl _ _) | (with_reducible assumption) | (with_reducible refine Below.alloc ?_ ?_ _) | (with_reducible refine Below.drew ?_) | (with_reducible refine below_drewN ?_ _) | (with_reducible refine Below.setCell ?_ ?_ _) | (with_reducible refine below_then ?_ ?_ (by with_reducible assumption)) | (with_reducible exact Nat.le_refl _) | go_size | (simp only [*]; done)))⟩
  · have hv' := hv
    simp only [lineV, Bool.and_eq_true] at hv'
    obtain ⟨hok, hl⟩ := hv'
    obtain ⟨a, u, hf, rfl, hau, hun, _, hnf, _⟩ := ln_iff hn hl
    rw [gv_yes hv hf, gv_yes hv hf, gv_yes hv hf]
    have HOK := Lib.hid hok
    have HNF := Lib.hid hnf
    have HV := Lib.hid hv
    have hf1 : f + 1 = (a : Int) := by omega
    have HF := Lib.hid hf1
    clear hok hv hf1 hnf hl hf
    go_enter Try.func22, Try.ntmps22
    go_wp2_with fail
    ((with_reducible refine (validLine_s _ _ _ f (u : Int) xs _ HN.out hm ?_).mono ?_); (exact HR.out); rintro e w1 ⟨rfl, hb1⟩)
    rw [HV.out]
    go_wp2_with fail
    ((with_reducible refine (lineGlue_s _ _ _ a u f xs _ HOK.out HN.out HF.out hau hun HNF.out ?_).mono ?_); (exact HR.out.then_ hb1); rintro e w3 ⟨rfl, hb3⟩)
    have g0 := ((Blk.new w 37 #[.int .i64 0, .int .i64 0, .int .i64 0]).then_ hb1).then_ hb3
    have zlt := g0.lt
    have zc0 := g0.cell 0; have zf0 := g0.frozen 0
    have zc1 := g0.cell 1; have zf1 := g0.frozen 1
    have zc2 := g0.cell 2; have zf2 := g0.frozen 2
    simp only [List.getElem?_toArray, List.getElem?_cons_zero, List.getElem?_cons_succ] at zc0 zc1 zc2
    have hB : Below w.heap.size w w3 := below_then (Nat.le_refl _) (below_then (Nat.le_refl _) (by (repeat' (first | (with_reducible exact Below.refl _ _) | (with_reducible assumption) | (with_reducible refine Below.alloc ?_ ?_ _) | (with_reducible refine Below.drew ?_) | (with_reducible refine below_drewN ?_ _) | (with_reducible refine Below.setCell ?_ ?_ _) | (with_reducible refine below_then ?_ ?_ (by with_reducible assumption)) | (with_reducible exact Nat.le_refl _) | go_size | (simp only [*]; done)))) hb1) hb3
    go_wp2_with fail
    (first | go_returns | (refine bodyPost_ret (by simp [results, Try.results22, go_sem, *]; try rfl) rfl ?_))
    exact ⟨rfl, by (repeat' (first | (with_reducible exact Below.refl _ _) | (with_reducible assumption) | (with_reducible refine Below.alloc ?_ ?_ _) | (with_reducible refine Below.drew ?_) | (with_reducible refine below_drewN ?_ _) | (with_reducible refine Below.setCell ?_ ?_ _) | (with_reducible refine below_then ?_ ?_ (by with_reducible assumption)) | (with_reducible exact Nat.le_refl _) | go_size | (simp only [*]; done)))⟩

theorem bv_no {xs : List It} {f t : Int} (h : lineV xs f t = false) : boxesV xs f t = [] := by simp [boxesV, h]
theorem bv_yes {xs : List It} {f : Int} {a u : Nat} (h : lineV xs f u = true) (hf : f = (a : Int) - 1) : boxesV xs f u = boxesP xs a u := by
  rw [boxesV, if_pos h, show (f + 1).toNat = a by omega]
  rfl
set_option maxHeartbeats 2000000 in
theorem boxes_i (A : Option Addr) (n cap : Nat) (f t : Int) (xs : List It) (w : World) (hn : xs.length = n) (hm : n ≤ maxLen) (hcap : n ≤ cap ∧ cap ≤ maxLen) (hr : Row w w.heap.size 6 A n (itc xs)) :
    Calls Try.prog 14 #[.slice A n cap, .int .i64 f, .int .i64 t] w (IntsOut w (boxesV xs f t)) := by
  have HN := Lib.hid hn
  have HR := Lib.hid hr
  clear hr
  rcases hok : itemsOk xs with _ | _
  · have e := bv_no (lv_bad (f := f) (t := t) hok)
    have HE := Lib.hid e
    have HOK := Lib.hid hok
    clear e hok
    go_enter Try.func14, Try.ntmps14
    go_wp2_with fail
    ((with_reducible refine (validItems_i _ _ _ xs _ HN.out hm ?_).mono ?_); (exact HR.out); rintro e w1 ⟨rfl, hb1⟩)
    rw [HOK.out]
    go_wp2_with fail
    go_ret
    exact ints_of HE.out rfl (ownI_none _ _) hb1
  have h60 := (itemsOk_len hok hn).2
  have e := lv_ok (f := f) (t := t) hok
  have HOK := Lib.hid hok
  rcases hv : lnOk xs f t with _ | _
  · rw [hv] at e
    have e1 := bv_no e
    have HE := Lib.hid e1
    have HV := Lib.hid hv
    clear e hok hv e1
    go_enter Try.func14, Try.ntmps14
    go_wp2_with fail
    ((with_reducible refine (validItems_i _ _ _ xs _ HN.out hm ?_).mono ?_); (exact HR.out); rintro e w1 ⟨rfl, hb1⟩)
    rw [HOK.out]
    go_wp2_with fail
    ((with_reducible refine (isLine_i _ _ _ f t xs _ HN.out h60 hcap ?_).mono ?_); (exact HR.out.then_ hb1); rintro e w2 ⟨rfl, hb2⟩)
    rw [HV.out]
    go_wp2_with fail
    go_ret
    exact ints_of HE.out rfl (ownI_none _ _) (below_then (Nat.le_refl _) hb1 hb2)
  · rw [hv] at e
    obtain ⟨a, u, hf, rfl, hau, hun, _, hnf, _⟩ := ln_iff hn hv
    have e1 := bv_yes e hf
    have HE := Lib.hid e1
    have HV := Lib.hid hv
    have hf1 : f + 1 = (a : Int) := by omega
    obtain ⟨i0, hi, hz0, hz1, hz2⟩ := info_parts int_info
    clear e hok hv e1 hf hnf
    go_enter Try.func14, Try.ntmps14
    go_wp2_with fail
    ((with_reducible refine (validItems_i _ _ _ xs _ HN.out hm ?_).mono ?_); (exact HR.out); rintro e w1 ⟨rfl, hb1⟩)
    rw [HOK.out]
    go_wp2_with fail
    ((with_reducible refine (isLine_i _ _ _ f (u : Int) xs _ HN.out h60 hcap ?_).mono ?_); (exact HR.out.then_ hb1); rintro e w2 ⟨rfl, hb2⟩)
    rw [HV.out]
    have hB2 : Below w.heap.size w w2 := below_then (Nat.le_refl _) hb1 hb2
    go_wp2_with fail
    go_loopg [7, 8] (u - a) (fun k o i wr => ∃ (j q c : Nat) (B : Option Addr) (out : List Int), a ≤ j ∧ j ≤ u ∧ q ≤ j ∧ k = u - j ∧ i = .int .i64 (j : Int) ∧ o = .slice B q c ∧ Hid (boxesP xs a j = out) ∧ Hid (OwnI wr w.heap.size B q c out) ∧ Below w.heap.size w wr)
    case atStart => exact ⟨a, 0, 0, none, [], Nat.le_refl _, hau, Nat.zero_le _, rfl, rfl, rfl, boxesP_nil _ _, ownI_none _ _, hB2⟩
    case round =>
      obtain ⟨j, q, c, B, out, hj0, hj, hq, hk, rfl, rfl, hbx, hown, hbel⟩ := hrel
      have HK := Lib.hid hk; clear hk
      have hsz := hbel.size
      clear hf1
      by_cases hlt : j < u
      · obtain ⟨b, off, rfl, hb, hc⟩ := HR.out (by omega)
        have c0 : wr.cell? ⟨b, off + j * 6, none⟩ = _ := (hbel.cell (p := ⟨b, off + j * 6, none⟩) hb).trans (hc j 0 (by omega) (by omega))
        obtain ⟨x, hx⟩ : ∃ x, xs.getD j default = x := ⟨_, rfl⟩
        simp only [itc, itv, hx] at c0
        have Hx := Lib.hid hx; clear hx hc
        have hltu : (j : Int) < (u : Int) := by omega
        have hltn : (j : Int) < (n : Int) := by omega
        by_cases h1 : x.k = 1
        · have h1' : (x.k == 1) = true := by simp [h1]
          have hnew : boxesP xs a (j + 1) = out ++ [(j : Int)] := by rw [boxesP_snoc _ hj0, kd, Hx.out, if_pos h1, hbx.out]
          have HNW := Lib.hid hnew
          have HO := Lib.hid (hown.out.alloc (.cells #[.int .i64 (j : Int)] 3))
          have HB := Lib.hid (Blk.new wr 3 #[.int .i64 (j : Int)])
          have hbase : w.heap.size ≤ (wr.alloc (.cells #[.int .i64 (j : Int)] 3)).heap.size := by simp; omega
          have hB3a := hbel.alloc hsz (.cells #[.int .i64 (j : Int)] 3)
          clear hnew h1
          go_wp2_with (at_builtin; (refine wpList_append_one _ rfl _ _ 24 rfl w.heap.size 3 i0 _ 1 8 Try.underlying24 hi hz0 hz1 hz2 rfl (by omega) B q c (inl out) rfl HO.out wr.heap.size (inl [(j : Int)]) rfl rfl HB.out (inl_one _) (by omega) (by omega) hbase ?_); intro g4 c4 w4 hown4 hgr4; (have HO4 := Lib.hid hown4); (have hB4 := hB3a.grown hgr4 hB3a.size (fun j hj => (HO.out.lt j hj).1)); clear hown4 hgr4)
          go_roundg (u - (j + 1))
          case measure => have := HK.out; omega
          case rel => exact ⟨j + 1, q + 1, c4, some ⟨g4, 0, none⟩, out ++ [(j : Int)], by omega, by omega, by omega, rfl, by go_num, rfl, HNW.out, (by show World.ownsRow _ _ _ _ _ _ _; rw [inl_snoc]; exact HO4.out), hB4⟩
        · have h1' : (x.k == 1) = false := by simp [h1]
          have hnew : boxesP xs a (j + 1) = out := by rw [boxesP_snoc _ hj0, kd, Hx.out, if_neg h1, hbx.out]
          have HNW := Lib.hid hnew
          clear hnew h1
          go_wp2_with fail
          go_roundg (u - (j + 1))
          case measure => have := HK.out; omega
          case rel => exact ⟨j + 1, q, c, B, out, by omega, by omega, by omega, rfl, by go_num, rfl, HNW.out, hown.out, by (repeat' (first | (with_reducible exact Below.refl _ _) | (with_reducible assumption) | (with_reducible refine Below.alloc ?_ ?_ _) | (with_reducible refine Below.drew ?_) | (with_reducible refine below_drewN ?_ _) | (with_reducible refine Below.setCell ?_ ?_ _) | (with_reducible refine below_then ?_ ?_ (by with_reducible assumption)) | (with_reducible exact Nat.le_refl _) | go_size | (simp only [*]; done)))⟩
      · have ej : j = u := by omega
        go_wp2_with fail
        go_ret
        exact ints_of (by rw [HE.out, ← ej]; exact hbx.out) hown.out.len hown.out hbel

set_option maxHeartbeats 2000000 in
theorem boxesOf_s (A : Option Addr) (n cap a u : Nat) (f : Int) (xs : List It) (w : World) (hn : xs.length = n) (h60 : n ≤ 60) (hf : f + 1 = (a : Int)) (hau : a ≤ u) (hun : u < n) (hr : Row w w.heap.size 6 A n (itc xs)) :
    Calls Try.prog 38 #[.slice A n cap, .int .i64 f, .int .i64 (u : Int)] w (IntsOut w (boxesP xs a u)) := by
  have HR := Lib.hid hr
  clear hr
  obtain ⟨i0, hi, hz0, hz1, hz2⟩ := info_parts int_info
  have hE := Lib.hid (Blk.new w 3 #[])
  have hB2 : Below w.heap.size w (w.alloc (.cells #[] 3)) := (Below.refl _ _).alloc (Nat.le_refl _) _
  go_enter Try.func38, Try.ntmps38
  go_wp2_with fail
  go_loopg [7, 8] (u - a) (fun k o i wr => ∃ (j q c : Nat) (B : Option Addr) (out : List Int), a ≤ j ∧ j ≤ u ∧ q ≤ j ∧ k = u - j ∧ i = .int .i64 (j : Int) ∧ o = .slice B q c ∧ Hid (boxesP xs a j = out) ∧ Hid (OwnI wr w.heap.size B q c out) ∧ Below w.heap.size w wr)
  case atStart => exact ⟨a, 0, 0, some ⟨w.heap.size, 0, none⟩, [], Nat.le_refl _, hau, Nat.zero_le _, rfl, rfl, rfl, boxesP_nil _ _, owns_nil _ _ _ _ _ _ _ hE.out (Nat.le_refl _) (by unfold maxLen; omega) rfl, hB2⟩
  case round =>
    obtain ⟨j, q, c, B, out, hj0, hj, hq, hk, rfl, rfl, hbx, hown, hbel⟩ := hrel
    have HK := Lib.hid hk; clear hk
    have hsz := hbel.size
    clear hf
    by_cases hlt : j < u
    · obtain ⟨b, off, rfl, hb, hc⟩ := HR.out (by omega)
      have c0 : wr.cell? ⟨b, off + j * 6, none⟩ = _ := (hbel.cell (p := ⟨b, off + j * 6, none⟩) hb).trans (hc j 0 (by omega) (by omega))
      obtain ⟨x, hx⟩ : ∃ x, xs.getD j default = x := ⟨_, rfl⟩
      simp only [itc, itv, hx] at c0
      have Hx := Lib.hid hx; clear hx hc
      have hltu : (j : Int) < (u : Int) := by omega
      have hltn : (j : Int) < (n : Int) := by omega
      by_cases h1 : x.k = 1
      · have h1' : (x.k == 1) = true := by simp [h1]
        have hnew : boxesP xs a (j + 1) = out ++ [(j : Int)] := by rw [boxesP_snoc _ hj0, kd, Hx.out, if_pos h1, hbx.out]
        have HNW := Lib.hid hnew
        have HO := Lib.hid (hown.out.alloc (.cells #[.int .i64 (j : Int)] 3))
        have HB := Lib.hid (Blk.new wr 3 #[.int .i64 (j : Int)])
        have hbase : w.heap.size ≤ (wr.alloc (.cells #[.int .i64 (j : Int)] 3)).heap.size := by simp; omega
        have hB3a := hbel.alloc hsz (.cells #[.int .i64 (j : Int)] 3)
        clear hnew h1
        go_wp2_with (at_builtin; (refine wpList_append_one _ rfl _ _ 24 rfl w.heap.size 3 i0 _ 1 8 Try.underlying24 hi hz0 hz1 hz2 rfl (by omega) B q c (inl out) rfl HO.out wr.heap.size (inl [(j : Int)]) rfl rfl HB.out (inl_one _) (by omega) (by omega) hbase ?_); intro g4 c4 w4 hown4 hgr4; (have HO4 := Lib.hid hown4); (have hB4 := hB3a.grown hgr4 hB3a.size (fun j hj => (HO.out.lt j hj).1)); clear hown4 hgr4)
        go_roundg (u - (j + 1))
        case measure => have := HK.out; omega
        case rel => exact ⟨j + 1, q + 1, c4, some ⟨g4, 0, none⟩, out ++ [(j : Int)], by omega, by omega, by omega, rfl, by go_num, rfl, HNW.out, (by show World.ownsRow _ _ _ _ _ _ _; rw [inl_snoc]; exact HO4.out), hB4⟩
      · have h1' : (x.k == 1) = false := by simp [h1]
        have hnew : boxesP xs a (j + 1) = out := by rw [boxesP_snoc _ hj0, kd, Hx.out, if_neg h1, hbx.out]
        have HNW := Lib.hid hnew
        clear hnew h1
        go_wp2_with fail
        go_roundg (u - (j + 1))
        case measure => have := HK.out; omega
        case rel => exact ⟨j + 1, q, c, B, out, by omega, by omega, by omega, rfl, by go_num, rfl, HNW.out, hown.out, by (repeat' (first | (with_reducible exact Below.refl _ _) | (with_reducible assumption) | (with_reducible refine Below.alloc ?_ ?_ _) | (with_reducible refine Below.drew ?_) | (with_reducible refine below_drewN ?_ _) | (with_reducible refine Below.setCell ?_ ?_ _) | (with_reducible refine below_then ?_ ?_ (by with_reducible assumption)) | (with_reducible exact Nat.le_refl _) | go_size | (simp only [*]; done)))⟩
    · have ej : j = u := by omega
      go_wp2_with fail
      go_ret
      exact ints_of (by rw [← ej]; exact hbx.out) hown.out.len hown.out hbel

set_option maxHeartbeats 2000000 in
theorem boxes_s (A : Option Addr) (n cap : Nat) (f t : Int) (xs : List It) (w : World) (hn : xs.length = n) (hm : n ≤ maxLen) (hr : Row w w.heap.size 6 A n (itc xs)) :
    Calls Try.prog 12 #[.slice A n cap, .int .i64 f, .int .i64 t] w (IntsOut w (boxesV xs f t)) := by
  have HN := Lib.hid hn
  have HR := Lib.hid hr
  clear hr
  rcases hv : lineV xs f t with _ | _
  · have e1 := bv_no hv
    have HE := Lib.hid e1
    have HV := Lib.hid hv
    clear hv e1
    go_enter Try.func12, Try.ntmps12
    go_wp2_with fail
    ((with_reducible refine (validLine_s _ _ _ f t xs _ HN.out hm ?_).mono ?_); (exact HR.out); rintro e w1 ⟨rfl, hb1⟩)
    rw [HV.out]
    go_wp2_with fail
    go_ret
    exact ints_of HE.out rfl (ownI_none _ _) hb1
  · have hv' := hv
    simp only [lineV, Bool.and_eq_true] at hv'
    obtain ⟨hok, hl⟩ := hv'
    have h60 := (itemsOk_len hok hn).2
    obtain ⟨a, u, hf, rfl, hau, hun, _, hnf, _⟩ := ln_iff hn hl
    have e1 := bv_yes hv hf
    have HE := Lib.hid e1
    have HV := Lib.hid hv
    have hf1 : f + 1 = (a : Int) := by omega
    have HF := Lib.hid hf1
    clear hok hv hf1 hnf hl e1 hf
    go_enter Try.func12, Try.ntmps12
    go_wp2_with fail
    ((with_reducible refine (validLine_s _ _ _ f (u : Int) xs _ HN.out hm ?_).mono ?_); (exact HR.out); rintro e w1 ⟨rfl, hb1⟩)
    rw [HV.out]
    go_wp2_with fail
    ((with_reducible refine (boxesOf_s _ _ _ a u f xs _ HN.out h60 HF.out hau hun ?_).mono ?_); (exact HR.out.then_ hb1); rintro e w3 ⟨B, c, rfl, ho, hb3⟩)
    go_wp2_with fail
    go_ret
    refine ints_of HE.out rfl ?_ (below_then (Nat.le_refl _) hb1 hb3)
    exact OwnI.mono ho hb1.size
end Go.Proofs.Ytpcjoehdbohaoaa
