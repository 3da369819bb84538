/- shapeTable of the reference holds the cheapest ways for each number of lines. Conditions: the slices read as lists; valid items and shape. -/
import Derived.Test.YtkmipgekmbngcaaShapeTab
import Derived.Test.YtkmipgekmbngcaaMSb2
import Derived.Test.YtkmipgekmbngcaaCheckShapeS
namespace Go.Proofs.Ytkmipgekmbngcaa
open Go.RowKit

def STOut (w : World) (n : Nat) (C : Nat → Nat → Nat → Option Int) (e : Ending) (w' : World) : Prop :=
  ∃ (a cp : Nat → Nat) (G : Nat → Nat → Nat), e = .returned (.tuple #[.slice (some ⟨a 0, 0, none⟩) n (cp 0), .slice (some ⟨a 1, 0, none⟩) n (cp 1), .slice (some ⟨a 2, 0, none⟩) n (cp 2)]) ∧ ST w' w.heap.size n a cp (fun _ => n) G C ∧ Below w.heap.size w w'
theorem intR_info : (Try.prog.info? 24).map (fun i => (i.zero, i.size, i.bytes)) = some (some (.slice none 0 0), 1, 24) := by kernel_rfl
theorem boolR_info : (Try.prog.info? 64).map (fun i => (i.zero, i.size, i.bytes)) = some (some (.slice none 0 0), 1, 24) := by kernel_rfl
theorem ST.init (w : World) (N : Nat) (G : Nat → Nat → Nat) (C : Nat → Nat → Nat → Option Int) : ST (((w.alloc (.cells #[] 24)).alloc (.cells #[] 24)).alloc (.cells #[] 64)) w.heap.size N (fun q => w.heap.size + q) (fun _ => 0) (fun _ => 0) G C := by
  refine ⟨fun q hq => ?_, fun q x _ hx => absurd hx (Nat.not_lt_zero _), fun q q' _ _ h => ?_, fun q q' x _ _ hx => absurd hx (Nat.not_lt_zero _)⟩
  · match q, hq with
    | 0, _ => exact ⟨[], ((owns_nil _ w.heap.size 24 1 0 _ _ (Blk.new w 24 #[]) (Nat.le_refl _) (by unfold maxLen; omega) rfl).alloc _).alloc _, fun i r hi => absurd hi (Nat.not_lt_zero _)⟩
    | 1, _ => exact ⟨[], (owns_nil _ w.heap.size 24 1 0 _ _ (Blk.new_at (w.alloc (.cells #[] 24)) 24 #[] (w.heap.size + 1) (by simp)) (by show w.heap.size ≤ w.heap.size + 1; omega) (by unfold maxLen; omega) rfl).alloc _, fun i r hi => absurd hi (Nat.not_lt_zero _)⟩
    | 2, _ => exact ⟨[], (owns_nil _ w.heap.size 64 1 0 _ _ (Blk.new_at ((w.alloc (.cells #[] 24)).alloc (.cells #[] 24)) 64 #[] (w.heap.size + 2) (by simp)) (by show w.heap.size ≤ w.heap.size + 2; omega) (by unfold maxLen; omega) rfl), fun i r hi => absurd hi (Nat.not_lt_zero _)⟩
  · show w.heap.size + q ≠ w.heap.size + q'
    omega

set_option maxRecDepth 100000 in
set_option maxHeartbeats 16000000 in
theorem shapeTable_s (A S : Option Addr) (n cap ns capn : Nat) (tol : Int) (xs : List It) (sh : List Int) (w : World) (hok : itemsOk xs = true) (hsh : shapeOk sh = true) (hn : xs.length = n) (hr : Row w w.heap.size 6 A n (itc xs)) (hns : sh.length = ns) (hrs : Row w w.heap.size 1 S ns (inc sh)) :
    Calls Try.prog 45 #[.slice A n cap, .slice S ns capn, .int .i64 tol] w (STOut w n (shC xs sh tol)) := by
  obtain ⟨C, hC⟩ : ∃ C, shC xs sh tol = C := ⟨_, rfl⟩
  have h60 := (itemsOk_len hok hn).2
  have hm : n ≤ maxLen := by unfold maxLen; omega
  obtain ⟨l1, l2⟩ := shapeOk_len hsh
  rw [hns] at l1 l2
  obtain ⟨i0, ii, iz0, iz1, iz2⟩ := info_parts intR_info
  obtain ⟨b0, bi, bz0, bz1, bz2⟩ := info_parts boolR_info
  obtain ⟨j0, ji, jz0, jz1, jz2⟩ := info_parts int_info
  obtain ⟨k0, ki, kz0, kz1, kz2⟩ := info_parts bool_info
  have hmk := make_n (P := Try.prog) 24 3 j0 _ Try.underlying24 ji jz0 n (by rw [jz2]; omega) (by omega)
  rw [jz1] at hmk
  have hmb := make_n (P := Try.prog) 64 4 k0 _ Try.underlying64 ki kz0 n (by rw [kz2]; omega) (by omega)
  rw [kz1] at hmb
  have HOK := Lib.hid hok
  have HN := Lib.hid hn
  have HNS := Lib.hid hns
  have HWB : Hid (∀ m, 1 ≤ wof sh m ∧ wof sh m ≤ 10000) := wof_bound hsh
  have HC : Hid (∀ l, C l = ndC xs (wof sh l) tol) := fun l => by rw [← hC]; rfl
  have HTR : Hid (∀ l i v k, l ≤ 60 → Dp.T2 C l i = some (v, k) → -12000000000 ≤ v ∧ v ≤ 12000000000) := fun l i v k hl h => by
    have h1 := Dp.T2_bound (C := C) (M := 200000000) (by omega) (fun l k i s hs => by
      rw [← hC] at hs
      have hw := wof_bound hsh l
      exact ndC_rng hok hn hw.1 hw.2 hs) l i v k h
    have h2 : (l : Int) * 200000000 ≤ 60 * 200000000 := Int.mul_le_mul_of_nonneg_right (by omega) (by omega)
    omega
  rw [hC]
  have HST0 := Lib.hid (ST.init w n (fun _ _ => 0) C)
  have hbW : Below w.heap.size w (((w.alloc (.cells #[] 24)).alloc (.cells #[] 24)).alloc (.cells #[] 64)) := (((Below.refl _ _).alloc (Nat.le_refl _) _).alloc (by simp) _).alloc (by simp; omega) _
  have HR := Lib.hid hr
  have HRS := Lib.hid hrs
  clear hok hn hr hsh hns hrs hC
  go_enter Try.func45, Try.ntmps45
  go_wp2_with fail
  go_loopg [9, 10, 11, 12] n (fun k cv bv kv lv wr => ∃ (l : Nat) (a cp : Nat → Nat) (G : Nat → Nat → Nat), l ≤ n ∧ k = n - l ∧ lv = .int .i64 (l : Int) ∧ cv = .slice (some ⟨a 0, 0, none⟩) l (cp 0) ∧ bv = .slice (some ⟨a 1, 0, none⟩) l (cp 1) ∧ kv = .slice (some ⟨a 2, 0, none⟩) l (cp 2) ∧ Hid (ST wr w.heap.size n a cp (fun _ => l) G C) ∧ Below w.heap.size w wr)
  case atStart => exact ⟨0, fun q => w.heap.size + q, fun _ => 0, fun _ _ => 0, Nat.zero_le _, rfl, rfl, rfl, rfl, rfl, HST0.out, hbW⟩
  case round =>
    obtain ⟨l, a, cp, G, hl, hk, rfl, rfl, rfl, rfl, hst, hbel⟩ := hrel
    have HKL := Lib.hid hk; clear hk
    obtain ⟨wo, hwo⟩ : ∃ wo : World, wo = wr := ⟨_, rfl⟩
    subst hwo
    have hszo := hbel.size
    by_cases hll : l < n
    · have hlI : (l : Int) < (n : Int) := by omega
      obtain ⟨t, ht⟩ : ∃ t, Dp.T2 C l = t := ⟨_, rfl⟩
      obtain ⟨c, hc⟩ : ∃ c, C l = c := ⟨_, rfl⟩
      obtain ⟨d, hd⟩ : ∃ d, wof sh l = d := ⟨_, rfl⟩
      have HT2 := Lib.hid ht
      have HCC := Lib.hid hc
      have HCN : Hid (ndC xs d tol = c) := by show _ = _; rw [← hd, ← hc, HC.out l]
      have HD : Hid (1 ≤ d ∧ d ≤ 10000) := by show _ ∧ _; rw [← hd]; exact HWB.out l
      have HDW := Lib.hid hd
      have a0 : OwnP (((wo.alloc (.cells (madeCells #[.int .i64 0] n) 3)).alloc (.cells (madeCells #[.int .i64 0] n) 3)).alloc (.cells (madeCells #[.bool false] n) 4)) wo.heap.size 3 1 (some ⟨wo.heap.size, 0, none⟩) n n (cR t c 1 0 0) :=
        (((made1 wo 3 (.int .i64 0) n hm).alloc _).alloc _).congr fun k q _ _ => (cR_first t c 0 k q).symm
      have a1 : OwnP (((wo.alloc (.cells (madeCells #[.int .i64 0] n) 3)).alloc (.cells (madeCells #[.int .i64 0] n) 3)).alloc (.cells (madeCells #[.bool false] n) 4)) (wo.alloc (.cells (madeCells #[.int .i64 0] n) 3)).heap.size 3 1 (some ⟨(wo.alloc (.cells (madeCells #[.int .i64 0] n) 3)).heap.size, 0, none⟩) n n (cR t c 1 0 1) :=
        ((made1 _ 3 (.int .i64 0) n hm).alloc _).congr fun k q _ _ => (cR_first t c 1 k q).symm
      have a2 : OwnP (((wo.alloc (.cells (madeCells #[.int .i64 0] n) 3)).alloc (.cells (madeCells #[.int .i64 0] n) 3)).alloc (.cells (madeCells #[.bool false] n) 4)) ((wo.alloc (.cells (madeCells #[.int .i64 0] n) 3)).alloc (.cells (madeCells #[.int .i64 0] n) 3)).heap.size 4 1 (some ⟨((wo.alloc (.cells (madeCells #[.int .i64 0] n) 3)).alloc (.cells (madeCells #[.int .i64 0] n) 3)).heap.size, 0, none⟩) n n (cR t c 1 0 2) :=
        (made1 _ 4 (.bool false) n hm).congr fun k q _ _ => (cR_first t c 2 k q).symm
      simp only [World.size_alloc] at a1 a2
      have HA0 := Lib.hid (a0.mono (base' := w.heap.size) (by omega))
      have HA1 := Lib.hid (a1.mono (base' := w.heap.size) (by omega))
      have HA2 := Lib.hid (a2.mono (base' := w.heap.size) (by omega))
      have HST1 := Lib.hid (((hst.out.alloc (.cells (madeCells #[.int .i64 0] n) 3)).alloc (.cells (madeCells #[.int .i64 0] n) 3)).alloc (.cells (madeCells #[.bool false] n) 4))
      have HAL : Hid (∀ q, q < 3 → a q < wo.heap.size) := fun q hq => hst.out.ltA hq
      have HGL : Hid (∀ q x, q < 3 → x < l → G q x < wo.heap.size) := fun q x hq hx => hst.out.ltG (q := q) (x := x) hq hx
      have hbW1 : Below w.heap.size w (((wo.alloc (.cells (madeCells #[.int .i64 0] n) 3)).alloc (.cells (madeCells #[.int .i64 0] n) 3)).alloc (.cells (madeCells #[.bool false] n) 4)) := ((hbel.alloc hszo _).alloc (by simp; omega) _).alloc (by simp; omega) _
      clear a0 a1 a2 ht hc hd hst
      go_wp2_with fail
      go_loopg [16] n (fun k jv wi => ∃ j : Nat, j ≤ n ∧ k = n - j ∧ jv = .int .i64 (j : Int) ∧ Hid (OwnP wi w.heap.size 3 1 (some ⟨wo.heap.size, 0, none⟩) n n (cR t c (j + 1) 0 0)) ∧ Hid (OwnP wi w.heap.size 3 1 (some ⟨wo.heap.size + 1, 0, none⟩) n n (cR t c (j + 1) 0 1)) ∧ Hid (OwnP wi w.heap.size 4 1 (some ⟨wo.heap.size + 1 + 1, 0, none⟩) n n (cR t c (j + 1) 0 2)) ∧ Hid (ST wi w.heap.size n a cp (fun _ => l) G C) ∧ Below w.heap.size w wi)
      case atStart => exact ⟨0, Nat.zero_le _, rfl, rfl, HA0.out, HA1.out, HA2.out, HST1.out, hbW1⟩
      case round =>
        obtain ⟨j, hjn, hk, rfl, oa, ob, oc, ost, hbj⟩ := hrel
        have HK := Lib.hid hk; clear hk
        obtain ⟨wj, hwj⟩ : ∃ wj : World, wj = wr := ⟨_, rfl⟩
        subst hwj
        have hszj := hbj.size
        by_cases hlt : j < n
        · have hltN : (j : Int) < (n : Int) := by omega
          go_wp2_with fail
          go_loopg [17] (j + 1) (fun kk fv wi => ∃ (m : Nat) (F : Int), m ≤ j + 1 ∧ kk = j + 1 - m ∧ fv = .int .i64 F ∧ Hid (F = (m : Int) - 1) ∧ Hid (OwnP wi w.heap.size 3 1 (some ⟨wo.heap.size, 0, none⟩) n n (cR t c (j + 1) m 0)) ∧ Hid (OwnP wi w.heap.size 3 1 (some ⟨wo.heap.size + 1, 0, none⟩) n n (cR t c (j + 1) m 1)) ∧ Hid (OwnP wi w.heap.size 4 1 (some ⟨wo.heap.size + 1 + 1, 0, none⟩) n n (cR t c (j + 1) m 2)) ∧ Hid (ST wi w.heap.size n a cp (fun _ => l) G C) ∧ Below w.heap.size w wi)
          case atStart => exact ⟨0, -1, Nat.zero_le _, rfl, rfl, rfl, oa.out, ob.out, oc.out, ost.out, hbj⟩
          case round =>
            obtain ⟨m, F, hmj, hk2, rfl, hF, ia, ib, ic, ist, hbi⟩ := hrel
            have HK2 := Lib.hid hk2; clear hk2
            obtain ⟨wi, hwi⟩ : ∃ wi : World, wi = wr := ⟨_, rfl⟩
            subst hwi
            have hszi := hbi.size
            by_cases hmi : m < j + 1
            · have HROW0 := Lib.hid (HR.out.then_ hbi)
              have HROWS := Lib.hid (HRS.out.then_ hbi)
              rcases hbk : brk xs j with _ | _
              · have hno : ∀ k, c k (j + 1) = none := fun k => by
                  rw [← HCN.out]
                  exact ndC_line (F := (k : Int) - 1) rfl (ln_t hbk)
                have N0 := Lib.hid (cR_none (t := t) hno m 0)
                have N1 := Lib.hid (cR_none (t := t) hno m 1)
                have N2 := Lib.hid (cR_none (t := t) hno m 2)
                have HB := Lib.hid hbk
                have hFj : F < (j : Int) := by have := hF.out; omega
                clear hbk hno
                go_wp2_with fail
                ((with_reducible refine (isBreak_s _ _ _ _ xs _ HN.out hlt hm ?_).mono ?_); (exact HROW0.out); rintro e w5 ⟨rfl, hb5⟩)
                rw [HB.out]
                go_wp2_with fail
                go_roundg (n - (j + 1))
                case measure => have := HK.out; omega
                case rel => exact ⟨j + 1, by omega, rfl, by go_num, (by show OwnP _ _ _ _ _ _ _ _; rw [← N0.out]; exact ia.out.then_ hb5), (by show OwnP _ _ _ _ _ _ _ _; rw [← N1.out]; exact ib.out.then_ hb5), (by show OwnP _ _ _ _ _ _ _ _; rw [← N2.out]; exact ic.out.then_ hb5), ist.out.then_ hb5, below_then (Nat.le_refl _) hbi hb5⟩
              have HB := Lib.hid hbk
              obtain ⟨U, hU⟩ : ∃ U, Dp.best t (fun k => c k (j + 1)) m = U := ⟨_, rfl⟩
              have HU := Lib.hid hU
              have POST : ∀ w5, Below wi.heap.size wi w5 → OwnP w5 w.heap.size 3 1 (some ⟨wo.heap.size, 0, none⟩) n n (cR t c (j + 1) m 0) ∧ OwnP w5 w.heap.size 3 1 (some ⟨wo.heap.size + 1, 0, none⟩) n n (cR t c (j + 1) m 1) ∧ OwnP w5 w.heap.size 4 1 (some ⟨wo.heap.size + 1 + 1, 0, none⟩) n n (cR t c (j + 1) m 2) ∧ ST w5 w.heap.size n a cp (fun _ => l) G C ∧ Below w.heap.size w w5 ∧
                  w5.cell? ⟨wo.heap.size, j, none⟩ = some (en3 U 0) ∧ w5.cell? ⟨wo.heap.size + 1, j, none⟩ = some (en3 U 1) ∧ w5.cell? ⟨wo.heap.size + 1 + 1, j, none⟩ = some (en3 U 2) := fun w5 hb5 => by
                have r0 := ia.out.then_ hb5
                have r1 := ib.out.then_ hb5
                have r2 := ic.out.then_ hb5
                have f0 := r0.cell1 (i := j) (by omega)
                have f1 := r1.cell1 (i := j) (by omega)
                have f2 := r2.cell1 (i := j) (by omega)
                rw [cR_at, hU] at f0 f1 f2
                exact ⟨r0, r1, r2, ist.out.then_ hb5, below_then (Nat.le_refl _) hbi hb5, f0, f1, f2⟩
              have HP := Lib.hid POST
              clear POST hU hbk
              rcases m with _ | p
              · obtain rfl : F = -1 := by have := hF.out; omega
                have hjI : (-1 : Int) < (j : Int) := by omega
                by_cases hl0 : l = 0
                · have hlz : ((l : Int) == 0) = true := by simp; omega
                  have HT : Hid (t 0 = some (0, 0)) := by show _ = _; rw [← HT2.out, hl0]; rfl
                  clear hl0
                  rcases hl' : lnOk xs (-1) (j : Int) with _ | _
                  · have hCn : c 0 (j + 1) = none := by rw [← HCN.out]; exact ndC_line (F := -1) (by omega) hl'
                    have E := Lib.hid (show sr t c (j + 1) (0 + 1) = sr t c (j + 1) 0 from sr_skipC hCn)
                    have HLV := Lib.hid ((lv_ok HOK.out).trans hl')
                    clear hl' hCn
                    go_wp2_with fail
                    ((with_reducible refine (isBreak_s _ _ _ _ xs _ HN.out hlt hm ?_).mono ?_); (exact HROW0.out); rintro e w4 ⟨rfl, hb4⟩)
                    rw [HB.out]
                    have HROW := Lib.hid (HROW0.out.then_ hb4)
                    skip
                    go_wp2_with fail
                    ((with_reducible refine (validLine_s _ _ _ _ _ xs _ HN.out hm ?_).mono ?_); (exact HROW.out); rintro e w5 ⟨rfl, hb5'⟩)
                    rw [HLV.out]
                    have hb5 := below_then (Nat.le_refl _) hb4 hb5'
                    have hB6 := hb5
                    obtain ⟨r0, r1, r2, rst, hbw, f0, f1, f2⟩ := HP.out _ hB6
                    simp only [en3] at f0 f1 f2
                    have gl0 := r0.lt
                    have gl1 := r1.lt
                    have gl2 := r2.lt
                    have fr0 := r0.frozen j
                    have fr1 := r1.frozen j
                    have fr2 := r2.frozen j

                    have R0 := Lib.hid r0
                    have R1 := Lib.hid r1
                    have R2 := Lib.hid r2
                    have RST := Lib.hid rst
                    clear r0 r1 r2 rst
                    go_wp2_with fail
                    go_roundg (j + 1 - (0 + 1))
                    case measure => have := HK2.out; omega
                    case rel => exact ⟨0 + 1, 0, by omega, rfl, by go_num, (by show _ = _; omega), (by show OwnP _ _ _ _ _ _ _ _; rw [cR_skip E.out]; exact R0.out), (by show OwnP _ _ _ _ _ _ _ _; rw [cR_skip E.out]; exact R1.out), (by show OwnP _ _ _ _ _ _ _ _; rw [cR_skip E.out]; exact R2.out), RST.out, hbw⟩
                  · obtain ⟨hml, hnf⟩ := ln_parts (m := 0) HN.out (by omega) hl'
                    have hCa : c 0 (j + 1) = if costOk xs 0 j d tol then some (costV xs 0 j d tol) else none := by rw [← HCN.out]; exact ndC_at (F := -1) (by omega) hl'
                    have hcb := costV_b (a := 0) (tol := tol) HOK.out HN.out hlt HD.out.1 HD.out.2
                    obtain ⟨s, hs⟩ : ∃ s, costV xs 0 j d tol = s := ⟨_, rfl⟩
                    rw [hs] at hCa hcb
                    have HCV := Lib.hid hs
                    have HLV := Lib.hid ((lv_ok HOK.out).trans hl')
                    have HNF := Lib.hid hnf
                    have HFA := Lib.hid (show (-1 + 1 : Int) = ((0 : Nat) : Int) by omega)

                    clear hl' hnf hs
                    rcases hco : costOk xs 0 j d tol with _ | _
                    · have hCn : c 0 (j + 1) = none := by rw [hCa, hco]; rfl
                      have E := Lib.hid (show sr t c (j + 1) (0 + 1) = sr t c (j + 1) 0 from sr_skipC hCn)
                      have HCO := Lib.hid hco
                      clear hco hCn hCa
                      go_wp2_with fail
                      ((with_reducible refine (isBreak_s _ _ _ _ xs _ HN.out hlt hm ?_).mono ?_); (exact HROW0.out); rintro e w4 ⟨rfl, hb4⟩)
                      rw [HB.out]
                      have HROW := Lib.hid (HROW0.out.then_ hb4)
                      skip
                      go_wp2_with fail
                      ((with_reducible refine (validLine_s _ _ _ _ _ xs _ HN.out hm ?_).mono ?_); (exact HROW.out); rintro e w5 ⟨rfl, hb5'⟩)
                      rw [HLV.out]
                      have hb5 := below_then (Nat.le_refl _) hb4 hb5'
                      go_wp2_with fail
                      ((with_reducible refine (widthOf_s _ _ _ l sh _ HNS.out l1 l2 (by omega) ?_).mono ?_); (exact HROWS.out.then_ hb5); rintro e w7 ⟨rfl, hb7'⟩)
                      rw [HDW.out]
                      have hb7 := below_then (Nat.le_refl _) hb5 hb7'
                      go_wp2_with fail
                      ((with_reducible refine (lineCost_s _ _ _ 0 j _ _ _ xs _ HOK.out HN.out HNF.out HFA.out hml hlt ?_ HD.out.1 HD.out.2).mono ?_); (exact HROW0.out.then_ hb7); rintro e w6 ⟨rfl, hb6⟩)
                      have hB6 := below_then (Nat.le_refl _) hb7 hb6
                      rw [HCV.out, HCO.out]
                      obtain ⟨r0, r1, r2, rst, hbw, f0, f1, f2⟩ := HP.out _ hB6
                      simp only [en3] at f0 f1 f2
                      have gl0 := r0.lt
                      have gl1 := r1.lt
                      have gl2 := r2.lt
                      have fr0 := r0.frozen j
                      have fr1 := r1.frozen j
                      have fr2 := r2.frozen j

                      have R0 := Lib.hid r0
                      have R1 := Lib.hid r1
                      have R2 := Lib.hid r2
                      have RST := Lib.hid rst
                      clear r0 r1 r2 rst
                      go_wp2_with fail
                      go_roundg (j + 1 - (0 + 1))
                      case measure => have := HK2.out; omega
                      case rel => exact ⟨0 + 1, 0, by omega, rfl, by go_num, (by show _ = _; omega), (by show OwnP _ _ _ _ _ _ _ _; rw [cR_skip E.out]; exact R0.out), (by show OwnP _ _ _ _ _ _ _ _; rw [cR_skip E.out]; exact R1.out), (by show OwnP _ _ _ _ _ _ _ _; rw [cR_skip E.out]; exact R2.out), RST.out, hbw⟩
                    · have hCs : c 0 (j + 1) = some s := by rw [hCa, hco]; rfl
                      have HCO := Lib.hid hco
                      clear hco hCa
                      obtain rfl : U = none := by have := HU.out; rw [Dp.best_zero] at this; exact this.symm
                      · have E := Lib.hid (show ∀ k, sr t c (j + 1) (0 + 1) k = if k = j + 1 then some (0 + s, 0) else sr t c (j + 1) 0 k from sr_set (by rw [HU.out]; exact upd_first (HT.out) hCs))
                        clear hCs
                        go_wp2_with fail
                        ((with_reducible refine (isBreak_s _ _ _ _ xs _ HN.out hlt hm ?_).mono ?_); (exact HROW0.out); rintro e w4 ⟨rfl, hb4⟩)
                        rw [HB.out]
                        have HROW := Lib.hid (HROW0.out.then_ hb4)
                        skip
                        go_wp2_with fail
                        ((with_reducible refine (validLine_s _ _ _ _ _ xs _ HN.out hm ?_).mono ?_); (exact HROW.out); rintro e w5 ⟨rfl, hb5'⟩)
                        rw [HLV.out]
                        have hb5 := below_then (Nat.le_refl _) hb4 hb5'
                        go_wp2_with fail
                        ((with_reducible refine (widthOf_s _ _ _ l sh _ HNS.out l1 l2 (by omega) ?_).mono ?_); (exact HROWS.out.then_ hb5); rintro e w7 ⟨rfl, hb7'⟩)
                        rw [HDW.out]
                        have hb7 := below_then (Nat.le_refl _) hb5 hb7'
                        go_wp2_with fail
                        ((with_reducible refine (lineCost_s _ _ _ 0 j _ _ _ xs _ HOK.out HN.out HNF.out HFA.out hml hlt ?_ HD.out.1 HD.out.2).mono ?_); (exact HROW0.out.then_ hb7); rintro e w6 ⟨rfl, hb6⟩)
                        have hB6 := below_then (Nat.le_refl _) hb7 hb6
                        rw [HCV.out, HCO.out]
                        obtain ⟨r0, r1, r2, rst, hbw, f0, f1, f2⟩ := HP.out _ hB6
                        simp only [en3, Option.getD_none, Option.isSome_none] at f0 f1 f2
                        have gl0 := r0.lt
                        have gl1 := r1.lt
                        have gl2 := r2.lt
                        have fr0 := r0.frozen j
                        have fr1 := r1.frozen j
                        have fr2 := r2.frozen j

                        have R0 := Lib.hid r0
                        have R1 := Lib.hid r1
                        have R2 := Lib.hid r2
                        have RST := Lib.hid rst
                        clear r0 r1 r2 rst
                        go_wp2_with fail
                        go_roundg (j + 1 - (0 + 1))
                        case measure => have := HK2.out; omega
                        case rel =>
                          refine ⟨0 + 1, 0, by omega, rfl, by go_num, (by show _ = _; omega), ?_, ?_, ?_, ?_, ?_⟩
                          · show OwnP _ _ _ _ _ _ _ _
                            exact (((((R0.out.set1 (i := j) (by omega) _).far (by intro x hx; cases hx; simp <;> omega) _).far (by intro x hx; cases hx; simp <;> omega) _).congr (cR_set E.out (by simp only [en3, Option.getD_some] <;> congr 1 <;> omega))))
                          · show OwnP _ _ _ _ _ _ _ _
                            exact (((((R1.out.far (by intro x hx; cases hx; simp <;> omega) _).set1 (i := j) (by omega) _).far (by intro x hx; cases hx; simp <;> omega) _).congr (cR_set E.out (by simp only [en3] <;> congr 1 <;> omega))))
                          · show OwnP _ _ _ _ _ _ _ _
                            exact (((((R2.out.far (by intro x hx; cases hx; simp <;> omega) _).far (by intro x hx; cases hx; simp <;> omega) _).set1 (i := j) (by omega) _).congr (cR_set E.out rfl)))
                          · show ST _ _ _ _ _ _ _ _
                            exact ((RST.out.far (fun q hq => by have := HAL.out q hq; simp only; omega) (fun q x hq hx => by have := HGL.out q x hq hx; simp only; omega) _).far (fun q hq => by have := HAL.out q hq; simp only; omega) (fun q x hq hx => by have := HGL.out q x hq hx; simp only; omega) _).far (fun q hq => by have := HAL.out q hq; simp only; omega) (fun q x hq hx => by have := HGL.out q x hq hx; simp only; omega) _
                          · exact ((hbw.setCell (by simp <;> omega) _).setCell (by simp <;> omega) _).setCell (by simp <;> omega) _
                · have hlz : ((l : Int) == 0) = false := by simp; omega
                  have hT : t 0 = none := by
                    rw [← HT2.out]
                    obtain ⟨l1', rfl⟩ : ∃ x, l = x + 1 := ⟨l - 1, by omega⟩
                    rfl
                  have E := Lib.hid (show sr t c (j + 1) (0 + 1) = sr t c (j + 1) 0 from sr_skipT hT)
                  clear hT hl0
                  go_wp2_with fail
                  ((with_reducible refine (isBreak_s _ _ _ _ xs _ HN.out hlt hm ?_).mono ?_); (exact HROW0.out); rintro e w4 ⟨rfl, hb4⟩)
                  rw [HB.out]
                  have HROW := Lib.hid (HROW0.out.then_ hb4)
                  skip
                  have r4 := HP.out _ hb4
                  have R0 := Lib.hid r4.1
                  have R1 := Lib.hid r4.2.1
                  have R2 := Lib.hid r4.2.2.1
                  have RST := Lib.hid r4.2.2.2.1
                  have hbw := r4.2.2.2.2.1
                  clear r4
                  go_wp2_with fail
                  go_roundg (j + 1 - (0 + 1))
                  case measure => have := HK2.out; omega
                  case rel => exact ⟨0 + 1, 0, by omega, rfl, by go_num, (by show _ = _; omega), (by show OwnP _ _ _ _ _ _ _ _; rw [cR_skip E.out]; exact R0.out), (by show OwnP _ _ _ _ _ _ _ _; rw [cR_skip E.out]; exact R1.out), (by show OwnP _ _ _ _ _ _ _ _; rw [cR_skip E.out]; exact R2.out), RST.out, hbw⟩
              · obtain rfl : F = (p : Int) := by have := hF.out; omega
                have hjI : (p : Int) < (j : Int) := by omega
                have hjn' : (p : Int) < (n : Int) := by omega
                have hpz : decide ((p : Int) < 0) = false := decide_eq_false (by omega)
                by_cases hl0 : l = 0
                · have hlz : ((l : Int) == 0) = true := by simp; omega
                  have hT : t (p + 1) = none := by
                    rw [← HT2.out, hl0]
                    exact Dp.T2_zero' (by omega)
                  have E := Lib.hid (show sr t c (j + 1) (p + 1 + 1) = sr t c (j + 1) (p + 1) from sr_skipT hT)
                  clear hT hl0
                  go_wp2_with fail
                  ((with_reducible refine (isBreak_s _ _ _ _ xs _ HN.out hlt hm ?_).mono ?_); (exact HROW0.out); rintro e w4 ⟨rfl, hb4⟩)
                  rw [HB.out]
                  have HROW := Lib.hid (HROW0.out.then_ hb4)
                  skip
                  have r4 := HP.out _ hb4
                  have R0 := Lib.hid r4.1
                  have R1 := Lib.hid r4.2.1
                  have R2 := Lib.hid r4.2.2.1
                  have RST := Lib.hid r4.2.2.2.1
                  have hbw := r4.2.2.2.2.1
                  clear r4
                  go_wp2_with fail
                  go_roundg (j + 1 - (p + 1 + 1))
                  case measure => have := HK2.out; omega
                  case rel => exact ⟨p + 1 + 1, (p : Int) + 1, by omega, rfl, by go_num, (by show _ = _; omega), (by show OwnP _ _ _ _ _ _ _ _; rw [cR_skip E.out]; exact R0.out), (by show OwnP _ _ _ _ _ _ _ _; rw [cR_skip E.out]; exact R1.out), (by show OwnP _ _ _ _ _ _ _ _; rw [cR_skip E.out]; exact R2.out), RST.out, hbw⟩
                · have hlz : ((l : Int) == 0) = false := by simp; omega
                  obtain ⟨l1', hl1'⟩ : ∃ x, l = x + 1 := ⟨l - 1, by omega⟩
                  have HL1 := Lib.hid hl1'.symm
                  have hlm : (l : Int) - 1 = (l1' : Int) := by omega
                  have wl : IntKind.i64.wrap (l1' : Int) = (l1' : Int) := IntWalk.i64_in _ (by omega)
                  have hl1I : (l1' : Int) < (l : Int) := by omega
                  have hl1N : l1' < l := by omega
                  clear hl0 hl1'
                  rcases hT : t (p + 1) with _ | ⟨q1, q2⟩
                  · have E := Lib.hid (show sr t c (j + 1) (p + 1 + 1) = sr t c (j + 1) (p + 1) from sr_skipT hT)
                    have HT := Lib.hid hT
                    clear hT
                    go_wp2_with fail
                    ((with_reducible refine (isBreak_s _ _ _ _ xs _ HN.out hlt hm ?_).mono ?_); (exact HROW0.out); rintro e w4 ⟨rfl, hb4⟩)
                    rw [HB.out]
                    have HROW := Lib.hid (HROW0.out.then_ hb4)
                    have st4 := (HP.out _ hb4).2.2.2.1
                    have kA := st4.outer (q := 2) (x := l1') (by omega) (by omega)
                    have kB := st4.inner (q := 2) (x := l1') (i := p) (by omega) (by omega) (by omega)
                    rw [HL1.out, HT2.out, HT.out] at kB
                    simp only [en3, Option.isSome_none] at kB
                    have kC := st4.ltA (q := 2) (by omega)
                    have kD := st4.ltG (q := 2) (x := l1') (by omega) (by omega)
                    clear st4
                    have r4 := HP.out _ hb4
                    have R0 := Lib.hid r4.1
                    have R1 := Lib.hid r4.2.1
                    have R2 := Lib.hid r4.2.2.1
                    have RST := Lib.hid r4.2.2.2.1
                    have hbw := r4.2.2.2.2.1
                    clear r4
                    go_wp2_with fail
                    go_roundg (j + 1 - (p + 1 + 1))
                    case measure => have := HK2.out; omega
                    case rel => exact ⟨p + 1 + 1, (p : Int) + 1, by omega, rfl, by go_num, (by show _ = _; omega), (by show OwnP _ _ _ _ _ _ _ _; rw [cR_skip E.out]; exact R0.out), (by show OwnP _ _ _ _ _ _ _ _; rw [cR_skip E.out]; exact R1.out), (by show OwnP _ _ _ _ _ _ _ _; rw [cR_skip E.out]; exact R2.out), RST.out, hbw⟩
                  · obtain ⟨t0, t1⟩ := HTR.out l (p + 1) q1 q2 (by omega) (by rw [HT2.out]; exact hT)
                    have HT := Lib.hid hT
                    clear hT
                    rcases hl' : lnOk xs (p : Int) (j : Int) with _ | _
                    · have hCn : c (p + 1) (j + 1) = none := by rw [← HCN.out]; exact ndC_line (F := (p : Int)) (by omega) hl'
                      have E := Lib.hid (show sr t c (j + 1) (p + 1 + 1) = sr t c (j + 1) (p + 1) from sr_skipC hCn)
                      have HLV := Lib.hid ((lv_ok HOK.out).trans hl')
                      clear hl' hCn
                      go_wp2_with fail
                      ((with_reducible refine (isBreak_s _ _ _ _ xs _ HN.out hlt hm ?_).mono ?_); (exact HROW0.out); rintro e w4 ⟨rfl, hb4⟩)
                      rw [HB.out]
                      have HROW := Lib.hid (HROW0.out.then_ hb4)
                      have st4 := (HP.out _ hb4).2.2.2.1
                      have kA := st4.outer (q := 2) (x := l1') (by omega) (by omega)
                      have kB := st4.inner (q := 2) (x := l1') (i := p) (by omega) (by omega) (by omega)
                      rw [HL1.out, HT2.out, HT.out] at kB
                      simp only [en3, Option.isSome_some] at kB
                      have kC := st4.ltA (q := 2) (by omega)
                      have kD := st4.ltG (q := 2) (x := l1') (by omega) (by omega)
                      clear st4
                      go_wp2_with fail
                      ((with_reducible refine (validLine_s _ _ _ _ _ xs _ HN.out hm ?_).mono ?_); (exact HROW.out); rintro e w5 ⟨rfl, hb5'⟩)
                      rw [HLV.out]
                      have hb5 := below_then (Nat.le_refl _) hb4 hb5'
                      have hB6 := hb5
                      obtain ⟨r0, r1, r2, rst, hbw, f0, f1, f2⟩ := HP.out _ hB6
                      simp only [en3] at f0 f1 f2
                      have gl0 := r0.lt
                      have gl1 := r1.lt
                      have gl2 := r2.lt
                      have fr0 := r0.frozen j
                      have fr1 := r1.frozen j
                      have fr2 := r2.frozen j

                      have R0 := Lib.hid r0
                      have R1 := Lib.hid r1
                      have R2 := Lib.hid r2
                      have RST := Lib.hid rst
                      clear r0 r1 r2 rst
                      go_wp2_with fail
                      go_roundg (j + 1 - (p + 1 + 1))
                      case measure => have := HK2.out; omega
                      case rel => exact ⟨p + 1 + 1, (p : Int) + 1, by omega, rfl, by go_num, (by show _ = _; omega), (by show OwnP _ _ _ _ _ _ _ _; rw [cR_skip E.out]; exact R0.out), (by show OwnP _ _ _ _ _ _ _ _; rw [cR_skip E.out]; exact R1.out), (by show OwnP _ _ _ _ _ _ _ _; rw [cR_skip E.out]; exact R2.out), RST.out, hbw⟩
                    · obtain ⟨hml, hnf⟩ := ln_parts (m := (p + 1)) HN.out (by omega) hl'
                      have hCa : c (p + 1) (j + 1) = if costOk xs (p + 1) j d tol then some (costV xs (p + 1) j d tol) else none := by rw [← HCN.out]; exact ndC_at (F := (p : Int)) (by omega) hl'
                      have hcb := costV_b (a := (p + 1)) (tol := tol) HOK.out HN.out hlt HD.out.1 HD.out.2
                      obtain ⟨s, hs⟩ : ∃ s, costV xs (p + 1) j d tol = s := ⟨_, rfl⟩
                      rw [hs] at hCa hcb
                      have HCV := Lib.hid hs
                      have HLV := Lib.hid ((lv_ok HOK.out).trans hl')
                      have HNF := Lib.hid hnf
                      have HFA := Lib.hid (show ((p : Int) + 1 : Int) = ((p + 1 : Nat) : Int) by omega)
                      have w1 : IntKind.i64.wrap (s + q1) = s + q1 := IntWalk.i64_in _ (by omega)
                      clear hl' hnf hs
                      rcases hco : costOk xs (p + 1) j d tol with _ | _
                      · have hCn : c (p + 1) (j + 1) = none := by rw [hCa, hco]; rfl
                        have E := Lib.hid (show sr t c (j + 1) (p + 1 + 1) = sr t c (j + 1) (p + 1) from sr_skipC hCn)
                        have HCO := Lib.hid hco
                        clear hco hCn hCa
                        go_wp2_with fail
                        ((with_reducible refine (isBreak_s _ _ _ _ xs _ HN.out hlt hm ?_).mono ?_); (exact HROW0.out); rintro e w4 ⟨rfl, hb4⟩)
                        rw [HB.out]
                        have HROW := Lib.hid (HROW0.out.then_ hb4)
                        have st4 := (HP.out _ hb4).2.2.2.1
                        have kA := st4.outer (q := 2) (x := l1') (by omega) (by omega)
                        have kB := st4.inner (q := 2) (x := l1') (i := p) (by omega) (by omega) (by omega)
                        rw [HL1.out, HT2.out, HT.out] at kB
                        simp only [en3, Option.isSome_some] at kB
                        have kC := st4.ltA (q := 2) (by omega)
                        have kD := st4.ltG (q := 2) (x := l1') (by omega) (by omega)
                        clear st4
                        go_wp2_with fail
                        ((with_reducible refine (validLine_s _ _ _ _ _ xs _ HN.out hm ?_).mono ?_); (exact HROW.out); rintro e w5 ⟨rfl, hb5'⟩)
                        rw [HLV.out]
                        have hb5 := below_then (Nat.le_refl _) hb4 hb5'
                        go_wp2_with fail
                        ((with_reducible refine (widthOf_s _ _ _ l sh _ HNS.out l1 l2 (by omega) ?_).mono ?_); (exact HROWS.out.then_ hb5); rintro e w7 ⟨rfl, hb7'⟩)
                        rw [HDW.out]
                        have hb7 := below_then (Nat.le_refl _) hb5 hb7'
                        go_wp2_with fail
                        ((with_reducible refine (lineCost_s _ _ _ (p + 1) j _ _ _ xs _ HOK.out HN.out HNF.out HFA.out hml hlt ?_ HD.out.1 HD.out.2).mono ?_); (exact HROW0.out.then_ hb7); rintro e w6 ⟨rfl, hb6⟩)
                        have hB6 := below_then (Nat.le_refl _) hb7 hb6
                        rw [HCV.out, HCO.out]
                        obtain ⟨r0, r1, r2, rst, hbw, f0, f1, f2⟩ := HP.out _ hB6
                        simp only [en3] at f0 f1 f2
                        have gl0 := r0.lt
                        have gl1 := r1.lt
                        have gl2 := r2.lt
                        have fr0 := r0.frozen j
                        have fr1 := r1.frozen j
                        have fr2 := r2.frozen j
                        have cA := rst.outer (q := 0) (x := l1') (by omega) (by omega)
                        have cB := rst.inner (q := 0) (x := l1') (i := p) (by omega) (by omega) (by omega)
                        rw [HL1.out, HT2.out, HT.out] at cB
                        simp only [en3, Option.getD_some] at cB
                        have cC := rst.ltA (q := 0) (by omega)
                        have cD := rst.ltG (q := 0) (x := l1') (by omega) (by omega)
                        have R0 := Lib.hid r0
                        have R1 := Lib.hid r1
                        have R2 := Lib.hid r2
                        have RST := Lib.hid rst
                        clear r0 r1 r2 rst
                        go_wp2_with fail
                        go_roundg (j + 1 - (p + 1 + 1))
                        case measure => have := HK2.out; omega
                        case rel => exact ⟨p + 1 + 1, (p : Int) + 1, by omega, rfl, by go_num, (by show _ = _; omega), (by show OwnP _ _ _ _ _ _ _ _; rw [cR_skip E.out]; exact R0.out), (by show OwnP _ _ _ _ _ _ _ _; rw [cR_skip E.out]; exact R1.out), (by show OwnP _ _ _ _ _ _ _ _; rw [cR_skip E.out]; exact R2.out), RST.out, hbw⟩
                      · have hCs : c (p + 1) (j + 1) = some s := by rw [hCa, hco]; rfl
                        have HCO := Lib.hid hco
                        clear hco hCa
                        rcases U with _ | ⟨b1, b2⟩
                        · have E := Lib.hid (show ∀ k, sr t c (j + 1) (p + 1 + 1) k = if k = j + 1 then some (q1 + s, (p + 1)) else sr t c (j + 1) (p + 1) k from sr_set (by rw [HU.out]; exact upd_first (HT.out) hCs))
                          clear hCs
                          go_wp2_with fail
                          ((with_reducible refine (isBreak_s _ _ _ _ xs _ HN.out hlt hm ?_).mono ?_); (exact HROW0.out); rintro e w4 ⟨rfl, hb4⟩)
                          rw [HB.out]
                          have HROW := Lib.hid (HROW0.out.then_ hb4)
                          have st4 := (HP.out _ hb4).2.2.2.1
                          have kA := st4.outer (q := 2) (x := l1') (by omega) (by omega)
                          have kB := st4.inner (q := 2) (x := l1') (i := p) (by omega) (by omega) (by omega)
                          rw [HL1.out, HT2.out, HT.out] at kB
                          simp only [en3, Option.isSome_some] at kB
                          have kC := st4.ltA (q := 2) (by omega)
                          have kD := st4.ltG (q := 2) (x := l1') (by omega) (by omega)
                          clear st4
                          go_wp2_with fail
                          ((with_reducible refine (validLine_s _ _ _ _ _ xs _ HN.out hm ?_).mono ?_); (exact HROW.out); rintro e w5 ⟨rfl, hb5'⟩)
                          rw [HLV.out]
                          have hb5 := below_then (Nat.le_refl _) hb4 hb5'
                          go_wp2_with fail
                          ((with_reducible refine (widthOf_s _ _ _ l sh _ HNS.out l1 l2 (by omega) ?_).mono ?_); (exact HROWS.out.then_ hb5); rintro e w7 ⟨rfl, hb7'⟩)
                          rw [HDW.out]
                          have hb7 := below_then (Nat.le_refl _) hb5 hb7'
                          go_wp2_with fail
                          ((with_reducible refine (lineCost_s _ _ _ (p + 1) j _ _ _ xs _ HOK.out HN.out HNF.out HFA.out hml hlt ?_ HD.out.1 HD.out.2).mono ?_); (exact HROW0.out.then_ hb7); rintro e w6 ⟨rfl, hb6⟩)
                          have hB6 := below_then (Nat.le_refl _) hb7 hb6
                          rw [HCV.out, HCO.out]
                          obtain ⟨r0, r1, r2, rst, hbw, f0, f1, f2⟩ := HP.out _ hB6
                          simp only [en3, Option.getD_none, Option.isSome_none] at f0 f1 f2
                          have gl0 := r0.lt
                          have gl1 := r1.lt
                          have gl2 := r2.lt
                          have fr0 := r0.frozen j
                          have fr1 := r1.frozen j
                          have fr2 := r2.frozen j
                          have cA := rst.outer (q := 0) (x := l1') (by omega) (by omega)
                          have cB := rst.inner (q := 0) (x := l1') (i := p) (by omega) (by omega) (by omega)
                          rw [HL1.out, HT2.out, HT.out] at cB
                          simp only [en3, Option.getD_some] at cB
                          have cC := rst.ltA (q := 0) (by omega)
                          have cD := rst.ltG (q := 0) (x := l1') (by omega) (by omega)
                          have R0 := Lib.hid r0
                          have R1 := Lib.hid r1
                          have R2 := Lib.hid r2
                          have RST := Lib.hid rst
                          clear r0 r1 r2 rst
                          go_wp2_with fail
                          go_roundg (j + 1 - (p + 1 + 1))
                          case measure => have := HK2.out; omega
                          case rel =>
                            refine ⟨p + 1 + 1, (p : Int) + 1, by omega, rfl, by go_num, (by show _ = _; omega), ?_, ?_, ?_, ?_, ?_⟩
                            · show OwnP _ _ _ _ _ _ _ _
                              exact (((((R0.out.set1 (i := j) (by omega) _).far (by intro x hx; cases hx; simp <;> omega) _).far (by intro x hx; cases hx; simp <;> omega) _).congr (cR_set E.out (by simp only [en3, Option.getD_some] <;> congr 1 <;> omega))))
                            · show OwnP _ _ _ _ _ _ _ _
                              exact (((((R1.out.far (by intro x hx; cases hx; simp <;> omega) _).set1 (i := j) (by omega) _).far (by intro x hx; cases hx; simp <;> omega) _).congr (cR_set E.out (by simp only [en3] <;> congr 1 <;> omega))))
                            · show OwnP _ _ _ _ _ _ _ _
                              exact (((((R2.out.far (by intro x hx; cases hx; simp <;> omega) _).far (by intro x hx; cases hx; simp <;> omega) _).set1 (i := j) (by omega) _).congr (cR_set E.out rfl)))
                            · show ST _ _ _ _ _ _ _ _
                              exact ((RST.out.far (fun q hq => by have := HAL.out q hq; simp only; omega) (fun q x hq hx => by have := HGL.out q x hq hx; simp only; omega) _).far (fun q hq => by have := HAL.out q hq; simp only; omega) (fun q x hq hx => by have := HGL.out q x hq hx; simp only; omega) _).far (fun q hq => by have := HAL.out q hq; simp only; omega) (fun q x hq hx => by have := HGL.out q x hq hx; simp only; omega) _
                            · exact ((hbw.setCell (by simp <;> omega) _).setCell (by simp <;> omega) _).setCell (by simp <;> omega) _
                        · by_cases hless : s + q1 < b1
                          · have E := Lib.hid (show ∀ k, sr t c (j + 1) (p + 1 + 1) k = if k = j + 1 then some (q1 + s, (p + 1)) else sr t c (j + 1) (p + 1) k from sr_set (by rw [HU.out]; exact upd_less (HT.out) hCs (by omega)))
                            clear hCs
                            go_wp2_with fail
                            ((with_reducible refine (isBreak_s _ _ _ _ xs _ HN.out hlt hm ?_).mono ?_); (exact HROW0.out); rintro e w4 ⟨rfl, hb4⟩)
                            rw [HB.out]
                            have HROW := Lib.hid (HROW0.out.then_ hb4)
                            have st4 := (HP.out _ hb4).2.2.2.1
                            have kA := st4.outer (q := 2) (x := l1') (by omega) (by omega)
                            have kB := st4.inner (q := 2) (x := l1') (i := p) (by omega) (by omega) (by omega)
                            rw [HL1.out, HT2.out, HT.out] at kB
                            simp only [en3, Option.isSome_some] at kB
                            have kC := st4.ltA (q := 2) (by omega)
                            have kD := st4.ltG (q := 2) (x := l1') (by omega) (by omega)
                            clear st4
                            go_wp2_with fail
                            ((with_reducible refine (validLine_s _ _ _ _ _ xs _ HN.out hm ?_).mono ?_); (exact HROW.out); rintro e w5 ⟨rfl, hb5'⟩)
                            rw [HLV.out]
                            have hb5 := below_then (Nat.le_refl _) hb4 hb5'
                            go_wp2_with fail
                            ((with_reducible refine (widthOf_s _ _ _ l sh _ HNS.out l1 l2 (by omega) ?_).mono ?_); (exact HROWS.out.then_ hb5); rintro e w7 ⟨rfl, hb7'⟩)
                            rw [HDW.out]
                            have hb7 := below_then (Nat.le_refl _) hb5 hb7'
                            go_wp2_with fail
                            ((with_reducible refine (lineCost_s _ _ _ (p + 1) j _ _ _ xs _ HOK.out HN.out HNF.out HFA.out hml hlt ?_ HD.out.1 HD.out.2).mono ?_); (exact HROW0.out.then_ hb7); rintro e w6 ⟨rfl, hb6⟩)
                            have hB6 := below_then (Nat.le_refl _) hb7 hb6
                            rw [HCV.out, HCO.out]
                            obtain ⟨r0, r1, r2, rst, hbw, f0, f1, f2⟩ := HP.out _ hB6
                            simp only [en3, Option.getD_some, Option.isSome_some] at f0 f1 f2
                            have gl0 := r0.lt
                            have gl1 := r1.lt
                            have gl2 := r2.lt
                            have fr0 := r0.frozen j
                            have fr1 := r1.frozen j
                            have fr2 := r2.frozen j
                            have cA := rst.outer (q := 0) (x := l1') (by omega) (by omega)
                            have cB := rst.inner (q := 0) (x := l1') (i := p) (by omega) (by omega) (by omega)
                            rw [HL1.out, HT2.out, HT.out] at cB
                            simp only [en3, Option.getD_some] at cB
                            have cC := rst.ltA (q := 0) (by omega)
                            have cD := rst.ltG (q := 0) (x := l1') (by omega) (by omega)
                            have R0 := Lib.hid r0
                            have R1 := Lib.hid r1
                            have R2 := Lib.hid r2
                            have RST := Lib.hid rst
                            clear r0 r1 r2 rst
                            go_wp2_with fail
                            go_roundg (j + 1 - (p + 1 + 1))
                            case measure => have := HK2.out; omega
                            case rel =>
                              refine ⟨p + 1 + 1, (p : Int) + 1, by omega, rfl, by go_num, (by show _ = _; omega), ?_, ?_, ?_, ?_, ?_⟩
                              · show OwnP _ _ _ _ _ _ _ _
                                exact (((((R0.out.set1 (i := j) (by omega) _).far (by intro x hx; cases hx; simp <;> omega) _).far (by intro x hx; cases hx; simp <;> omega) _).congr (cR_set E.out (by simp only [en3, Option.getD_some] <;> congr 1 <;> omega))))
                              · show OwnP _ _ _ _ _ _ _ _
                                exact (((((R1.out.far (by intro x hx; cases hx; simp <;> omega) _).set1 (i := j) (by omega) _).far (by intro x hx; cases hx; simp <;> omega) _).congr (cR_set E.out (by simp only [en3] <;> congr 1 <;> omega))))
                              · show OwnP _ _ _ _ _ _ _ _
                                exact (((((R2.out.far (by intro x hx; cases hx; simp <;> omega) _).far (by intro x hx; cases hx; simp <;> omega) _).set1 (i := j) (by omega) _).congr (cR_set E.out rfl)))
                              · show ST _ _ _ _ _ _ _ _
                                exact ((RST.out.far (fun q hq => by have := HAL.out q hq; simp only; omega) (fun q x hq hx => by have := HGL.out q x hq hx; simp only; omega) _).far (fun q hq => by have := HAL.out q hq; simp only; omega) (fun q x hq hx => by have := HGL.out q x hq hx; simp only; omega) _).far (fun q hq => by have := HAL.out q hq; simp only; omega) (fun q x hq hx => by have := HGL.out q x hq hx; simp only; omega) _
                              · exact ((hbw.setCell (by simp <;> omega) _).setCell (by simp <;> omega) _).setCell (by simp <;> omega) _
                          · have E := Lib.hid (show sr t c (j + 1) (p + 1 + 1) = sr t c (j + 1) (p + 1) from sr_skip (by rw [HU.out]; exact upd_keep (HT.out) hCs (by omega)))
                            clear hCs
                            go_wp2_with fail
                            ((with_reducible refine (isBreak_s _ _ _ _ xs _ HN.out hlt hm ?_).mono ?_); (exact HROW0.out); rintro e w4 ⟨rfl, hb4⟩)
                            rw [HB.out]
                            have HROW := Lib.hid (HROW0.out.then_ hb4)
                            have st4 := (HP.out _ hb4).2.2.2.1
                            have kA := st4.outer (q := 2) (x := l1') (by omega) (by omega)
                            have kB := st4.inner (q := 2) (x := l1') (i := p) (by omega) (by omega) (by omega)
                            rw [HL1.out, HT2.out, HT.out] at kB
                            simp only [en3, Option.isSome_some] at kB
                            have kC := st4.ltA (q := 2) (by omega)
                            have kD := st4.ltG (q := 2) (x := l1') (by omega) (by omega)
                            clear st4
                            go_wp2_with fail
                            ((with_reducible refine (validLine_s _ _ _ _ _ xs _ HN.out hm ?_).mono ?_); (exact HROW.out); rintro e w5 ⟨rfl, hb5'⟩)
                            rw [HLV.out]
                            have hb5 := below_then (Nat.le_refl _) hb4 hb5'
                            go_wp2_with fail
                            ((with_reducible refine (widthOf_s _ _ _ l sh _ HNS.out l1 l2 (by omega) ?_).mono ?_); (exact HROWS.out.then_ hb5); rintro e w7 ⟨rfl, hb7'⟩)
                            rw [HDW.out]
                            have hb7 := below_then (Nat.le_refl _) hb5 hb7'
                            go_wp2_with fail
                            ((with_reducible refine (lineCost_s _ _ _ (p + 1) j _ _ _ xs _ HOK.out HN.out HNF.out HFA.out hml hlt ?_ HD.out.1 HD.out.2).mono ?_); (exact HROW0.out.then_ hb7); rintro e w6 ⟨rfl, hb6⟩)
                            have hB6 := below_then (Nat.le_refl _) hb7 hb6
                            rw [HCV.out, HCO.out]
                            obtain ⟨r0, r1, r2, rst, hbw, f0, f1, f2⟩ := HP.out _ hB6
                            simp only [en3, Option.getD_some, Option.isSome_some] at f0 f1 f2
                            have gl0 := r0.lt
                            have gl1 := r1.lt
                            have gl2 := r2.lt
                            have fr0 := r0.frozen j
                            have fr1 := r1.frozen j
                            have fr2 := r2.frozen j
                            have cA := rst.outer (q := 0) (x := l1') (by omega) (by omega)
                            have cB := rst.inner (q := 0) (x := l1') (i := p) (by omega) (by omega) (by omega)
                            rw [HL1.out, HT2.out, HT.out] at cB
                            simp only [en3, Option.getD_some] at cB
                            have cC := rst.ltA (q := 0) (by omega)
                            have cD := rst.ltG (q := 0) (x := l1') (by omega) (by omega)
                            have R0 := Lib.hid r0
                            have R1 := Lib.hid r1
                            have R2 := Lib.hid r2
                            have RST := Lib.hid rst
                            clear r0 r1 r2 rst
                            go_wp2_with fail
                            go_roundg (j + 1 - (p + 1 + 1))
                            case measure => have := HK2.out; omega
                            case rel => exact ⟨p + 1 + 1, (p : Int) + 1, by omega, rfl, by go_num, (by show _ = _; omega), (by show OwnP _ _ _ _ _ _ _ _; rw [cR_skip E.out]; exact R0.out), (by show OwnP _ _ _ _ _ _ _ _; rw [cR_skip E.out]; exact R1.out), (by show OwnP _ _ _ _ _ _ _ _; rw [cR_skip E.out]; exact R2.out), RST.out, hbw⟩
            · obtain rfl : m = j + 1 := by omega
              obtain rfl : F = (j : Int) := by have := hF.out; omega
              have N0 := Lib.hid (cR_next t c (j + 1) 0)
              have N1 := Lib.hid (cR_next t c (j + 1) 1)
              have N2 := Lib.hid (cR_next t c (j + 1) 2)
              go_wp2_with fail
              go_roundg (n - (j + 1))
              case measure => have := HK.out; omega
              case rel => exact ⟨j + 1, by omega, rfl, by go_num, (by show OwnP _ _ _ _ _ _ _ _; rw [← N0.out]; exact ia.out), (by show OwnP _ _ _ _ _ _ _ _; rw [← N1.out]; exact ib.out), (by show OwnP _ _ _ _ _ _ _ _; rw [← N2.out]; exact ic.out), ist.out, hbi⟩
        · obtain rfl : j = n := by omega
          have hjI : decide ((j : Int) < (j : Int)) = false := decide_eq_false (by omega)
          have fin : ∀ q x z, x < j → cR t c (j + 1) 0 q x z = en3 (Dp.T2 C (l + 1) (x + 1)) q := fun q x z hx => by
            rw [cR_lt (by omega), Dp.T2_succ, HT2.out, HCC.out]
          have hap : AP w wj w.heap.size j l wo.heap.size a cp (fun _ => l) G C := by
            refine ⟨ost.out, fun q hq => ?_, fun q r hq hr => by have := HAL.out q hq; omega, hbj⟩
            match q, hq with
            | 0, _ => exact oa.out.congr fun x z hx _ => fin 0 x z hx
            | 1, _ => exact ob.out.congr fun x z hx _ => fin 1 x z hx
            | 2, _ => exact oc.out.congr fun x z hx _ => fin 2 x z hx
          obtain ⟨g0, hg0⟩ : ∃ g0, wo.heap.size = g0 := ⟨_, rfl⟩
          rw [hg0] at hap
          have hg0' := hg0
          obtain ⟨L0, OL0, BL0, HB0, NX0⟩ := hap.step (q := 0) (gq := g0) (aq := a 0) (cq := cp 0) (T := 24) (by omega) hszj rfl rfl rfl rfl rfl
          clear fin oa ob oc ost hap
          try rw [hg0]
          clear hg0
          go_wp2_with (first | (at_builtin; (refine wpList_append_one_at _ rfl _ _ 60 rfl w.heap.size 24 i0 _ 1 24 Try.underlying60 ii iz0 iz1 iz2 rfl (by omega) (some ⟨a 0, 0, none⟩) l (cp 0) L0 rfl OL0.out wj.heap.size [.slice (some ⟨g0, 0, none⟩) j j] rfl rfl BL0.out (by simp [Value.oneCell']) (by omega) (by omega) HB0.out ?_); intro n0 c0 v0 hw0 hgr0 hat0; (obtain ⟨ap0, hz0⟩ := NX0.out n0 c0 v0 hw0 hgr0 hat0); (obtain ⟨L1, OL1, BL1, HB1, NX1⟩ := ap0.step (q := 1) (gq := g0 + 1) (aq := a 1) (cq := cp 1) (T := 24) (by omega) hz0 rfl rfl rfl rfl rfl); clear ap0; clear hw0 hgr0 hat0 OL0 BL0 HB0 NX0) | (at_builtin; (refine wpList_append_one_at _ rfl _ _ 60 rfl w.heap.size 24 i0 _ 1 24 Try.underlying60 ii iz0 iz1 iz2 rfl (by omega) (some ⟨a 1, 0, none⟩) l (cp 1) L1 rfl OL1.out v0.heap.size [.slice (some ⟨g0 + 1, 0, none⟩) j j] rfl rfl BL1.out (by simp [Value.oneCell']) (by omega) (by omega) HB1.out ?_); intro n1 c1 v1 hw1 hgr1 hat1; (obtain ⟨ap1, hz1⟩ := NX1.out n1 c1 v1 hw1 hgr1 hat1); (obtain ⟨L2, OL2, BL2, HB2, NX2⟩ := ap1.step (q := 2) (gq := g0 + 1 + 1) (aq := a 2) (cq := cp 2) (T := 64) (by omega) hz1 rfl rfl rfl rfl rfl); clear ap1; clear hw1 hgr1 hat1 OL1 BL1 HB1 NX1) | (at_builtin; (refine wpList_append_one_at _ rfl _ _ 61 rfl w.heap.size 64 b0 _ 1 24 Try.underlying61 bi bz0 bz1 bz2 rfl (by omega) (some ⟨a 2, 0, none⟩) l (cp 2) L2 rfl OL2.out v1.heap.size [.slice (some ⟨g0 + 1 + 1, 0, none⟩) j j] rfl rfl BL2.out (by simp [Value.oneCell']) (by omega) (by omega) HB2.out ?_); intro n2 c2 v2 hw2 hgr2 hat2; (obtain ⟨ap2, hz2⟩ := NX2.out n2 c2 v2 hw2 hgr2 hat2); (have AP2 := Lib.hid ap2); (have hB2 := ap2.2.2.2); clear ap2; clear hw2 hgr2 hat2 OL2 BL2 HB2 NX2))
          go_roundg (j - (l + 1))
          case measure => have := HKL.out; omega
          case rel => exact ⟨l + 1, (fun r => if r = 2 then n2 else (fun r => if r = 1 then n1 else (fun r => if r = 0 then n0 else a r) r) r), (fun r => if r = 2 then c2 else (fun r => if r = 1 then c1 else (fun r => if r = 0 then c0 else cp r) r) r), (fun r x => if r = 2 ∧ x = l then g0 + 1 + 1 else (fun r x => if r = 1 ∧ x = l then g0 + 1 else (fun r x => if r = 0 ∧ x = l then g0 else G r x) r x) r x), by omega, rfl, by go_num, rfl, rfl, rfl, AP2.out.1.len (fun q hq => by
              match q, hq with
              | 0, _ => rfl
              | 1, _ => rfl
              | 2, _ => rfl), hB2⟩
    · obtain rfl : l = n := by omega
      go_wp2_with fail
      (first | go_returns | (refine bodyPost_ret (by simp [results, Try.results45, go_sem, *]; try rfl) rfl ?_))
      exact ⟨a, cp, G, rfl, hst.out, hbel⟩
end Go.Proofs.Ytkmipgekmbngcaa
