/- shapeStep of the program returns the best way to one more line. Conditions: the slices read as lists; the states are small. -/
import Derived.Test.YtkmipgekmbngcaaShapePlain
import Derived.Test.YtkmipgekmbngcaaBestPath
import Derived.Test.YtkmipgekmbngcaaLineCost
namespace Go.Proofs.Ytkmipgekmbngcaa
open Go.RowKit

/-- A state as one value. -/
def encV (o : Option (Int × Nat)) : Value := .agg #[enc o 0, enc o 1, enc o 2]
def encA (o : Option (Int × Nat)) : Array Value := #[enc o 0, enc o 1, enc o 2]
theorem enc_none (q : Nat) : enc none q = (match q with | 0 => .int .i64 0 | 1 => .int .i64 0 | _ => .bool false) := by
  match q with
  | 0 => rfl
  | 1 => rfl
  | q + 2 => rfl
theorem encA_none : encA none = #[.int .i64 0, .int .i64 0, .bool false] := rfl
theorem encA_some (v : Int) (k : Nat) : encA (some (v, k)) = #[.int .i64 v, .int .i64 (k : Int), .bool true] := rfl
theorem best_skipT {t : Nat → Option (Int × Nat)} {c : Nat → Option Int} {m : Nat} (h : t m = none) : Dp.best t c (m + 1) = Dp.best t c m := by rw [Dp.best_succ]; exact Dp.upd_skip (.inl h) _
theorem best_skipC {t : Nat → Option (Int × Nat)} {c : Nat → Option Int} {m : Nat} (h : c m = none) : Dp.best t c (m + 1) = Dp.best t c m := by rw [Dp.best_succ]; exact Dp.upd_skip (.inr h) _

set_option maxRecDepth 100000 in
set_option maxHeartbeats 8000000 in
theorem shapeStep_i (A S R : Option Addr) (n cap N scap rcap i : Nat) (d tol : Int) (xs : List It) (ss : List Int) (t : Nat → Option (Int × Nat)) (w : World) (hok : itemsOk xs = true) (hn : xs.length = n) (hcap : n ≤ cap ∧ cap ≤ maxLen) (hd : 1 ≤ d ∧ d ≤ 10000) (hr : Row w w.heap.size 6 A n (itc xs))
    (hN : ss.length = N) (hN2 : N ≤ 101) (hiN : i < N) (hs : Row w w.heap.size 1 S N (inc ss)) (ht : Row w w.heap.size 3 R N (fun k q => enc (t k) q)) (htb : ∀ k v f, t k = some (v, f) → -20000000000 ≤ v ∧ v ≤ 20000000000) :
    Calls Try.prog 73 #[.slice A n cap, .slice S N scap, .slice R N rcap, .int .i64 (i : Int), .int .i64 d, .int .i64 tol] w fun e w' => e = .returned (encV (Dp.best t (fun k => lc xs d tol (ss.getD k default) (ss.getD i default)) i)) ∧ Below w.heap.size w w' := by
  have h60 := (itemsOk_len hok hn).2
  have HOK := Lib.hid hok
  have HN := Lib.hid hn
  have HSN := Lib.hid hN
  have HTB := Lib.hid htb
  obtain ⟨d0, d1⟩ := hd
  obtain ⟨c, hc⟩ : ∃ c : Nat → Option Int, (fun k => lc xs d tol (ss.getD k default) (ss.getD i default)) = c := ⟨_, rfl⟩
  have HC := Lib.hid hc
  rw [hc]
  have hb0 : Below w.heap.size w ((w.alloc (.cells #[.int .i64 0, .int .i64 0, .bool false] 93)).alloc (.cells #[.int .i64 0, .int .i64 0, .bool false] 93)) := ((Below.refl _ _).alloc (Nat.le_refl _) _).alloc (by simp) _
  have g0 := Lib.hid ((Blk.new w 93 #[.int .i64 0, .int .i64 0, .bool false]).alloc (.cells #[.int .i64 0, .int .i64 0, .bool false] 93))
  have g1 := Lib.hid (Blk.new_at (w.alloc (.cells #[.int .i64 0, .int .i64 0, .bool false] 93)) 93 #[.int .i64 0, .int .i64 0, .bool false] (w.heap.size + 1) (by simp))
  have HR := Lib.hid hr
  have HS := Lib.hid hs
  have HT := Lib.hid ht
  clear hok hn hN htb hc hr hs ht
  go_enter Try.func73, Try.ntmps73
  go_wp2_with fail
  go_loopg [18] i (fun k iv wr => ∃ (m : Nat) (U : Option (Int × Nat)), m ≤ i ∧ k = i - m ∧ iv = .int .i64 (m : Int) ∧ Hid (Dp.best t c m = U) ∧ Hid (Blk wr w.heap.size 93 #[.int .i64 0, .int .i64 0, .bool false]) ∧ Hid (Blk wr (w.heap.size + 1) 93 (encA U)) ∧ Below w.heap.size w wr)
  case atStart => exact ⟨0, none, Nat.zero_le _, rfl, rfl, rfl, g0.out, g1.out, hb0⟩
  case round =>
    obtain ⟨m, U, hm, hk, rfl, HU, k0, k1, hbel⟩ := hrel
    have HK := Lib.hid hk; clear hk
    have hsz := hbel.size
    obtain ⟨wi, hwi⟩ : ∃ wi : World, wi = wr := ⟨_, rfl⟩
    subst hwi
    by_cases hlt : m < i
    · have hltI : (m : Int) < (i : Int) := by omega
      have hmN : (m : Int) < (N : Int) := by omega
      have hiNI : (i : Int) < (N : Int) := by omega
      obtain ⟨bS, oS, hS0, hbS, hcS⟩ := HS.out.at1 (by omega)
      have c0 : wi.cell? ⟨bS, oS + m, none⟩ = _ := (hbel.cell (p := ⟨bS, oS + m, none⟩) hbS).trans (hcS m (by omega))
      have c1 : wi.cell? ⟨bS, oS + i, none⟩ = _ := (hbel.cell (p := ⟨bS, oS + i, none⟩) hbS).trans (hcS i (by omega))
      subst hS0
      obtain ⟨bR, oR, hR0, hbR, hcR⟩ := HT.out (by omega)
      have r2 : wi.cell? ⟨bR, oR + m * 3 + 2, none⟩ = some (enc (t m) 2) := (hbel.cell (p := ⟨bR, oR + m * 3 + 2, none⟩) hbR).trans (hcR m 2 (by omega) (by omega))
      have r0 : wi.cell? ⟨bR, oR + m * 3, none⟩ = some (enc (t m) 0) := (hbel.cell (p := ⟨bR, oR + m * 3, none⟩) hbR).trans (hcR m 0 (by omega) (by omega))
      subst hR0
      obtain ⟨x, hx⟩ : ∃ x, ss.getD m default = x := ⟨_, rfl⟩
      obtain ⟨y, hy⟩ : ∃ y, ss.getD i default = y := ⟨_, rfl⟩
      simp only [inc, hx, hy] at c0 c1
      have hcm : c m = lc xs d tol x y := by rw [← HC.out]; simp only [hx, hy]
      have hbSw : bS < wi.heap.size := by omega
      have hbRw : bR < wi.heap.size := by omega
      clear hx hy hcS hcR
      rcases hT : t m with _ | ⟨q1, q2⟩
      · rw [hT] at r0 r2
        simp only [enc, Option.getD_none, Option.isSome_none] at r0 r2
        have E := Lib.hid (best_skipT (c := c) hT)
        clear hT hcm
        go_wp2_with fail
        go_quiet (fail)
        go_wp2_with fail
        go_roundg (i - (m + 1))
        case measure => have := HK.out; omega
        case rel => exact ⟨m + 1, U, by omega, rfl, by go_num, E.out.trans HU.out, (by show Blk _ _ _ _; first | exact k0.out | exact k0.out.drewN _), (by show Blk _ _ _ _; first | exact k1.out | exact k1.out.drewN _), by (repeat' (first | (with_reducible exact Below.refl _ _) | (with_reducible assumption) | (with_reducible refine Below.alloc ?_ ?_ _) | (with_reducible refine Below.drew ?_) | (with_reducible refine below_drewN ?_ _) | (with_reducible refine Below.setCell ?_ ?_ _) | (with_reducible refine below_then ?_ ?_ (by with_reducible assumption)) | (with_reducible exact Nat.le_refl _) | go_size | (simp only [*]; done)))⟩
      have htq := HTB.out m q1 q2 hT
      rw [hT] at r0 r2
      simp only [enc, Option.getD_some, Option.isSome_some] at r0 r2
      rcases hl : lnOk xs x y with _ | _
      · have E := Lib.hid (best_skipC (t := t) (hcm.trans (lc_line hl)))
        have HL := Lib.hid hl
        clear hT hcm hl
        go_wp2_with fail
        go_region_held3 (fun w' => (w'.cell? ⟨bS, oS + m, none⟩ = some (.int .i64 x) ∧ w'.cell? ⟨bS, oS + i, none⟩ = some (.int .i64 y) ∧ w'.cell? ⟨bR, oR + m * 3 + 2, none⟩ = some (.bool true)) ∧ Below wi.heap.size wi w')
          ((refine (fun hB : Below wi.heap.size wi _ => ⟨⟨(hB.cell (p := ⟨bS, oS + m, none⟩) hbSw).trans c0, (hB.cell (p := ⟨bS, oS + i, none⟩) hbSw).trans c1, (hB.cell (p := ⟨bR, oR + m * 3 + 2, none⟩) hbRw).trans r2⟩, hB⟩) ?_; first | exact Below.refl _ _ | exact (Below.refl _ _).drew | exact And.right (by assumption) | exact hB5))
          (first | (go_at_call 49; refine (isLine_i _ _ _ _ _ xs _ HN.out h60 hcap ?_).mono ?_; (exact (HR.out.then_ hbel).then_ (by first | exact And.right (by assumption) | exact (Below.refl _ _).drew | exact Below.refl _ _)); rintro e w5 ⟨rfl, hb5⟩; rw [HL.out]; have hB5 : Below wi.heap.size wi w5 := (by first | exact below_then (Nat.le_refl _) (And.right (by assumption)) hb5 | exact below_then (Nat.le_refl _) (Below.refl _ _).drew hb5 | exact hb5)))
        have rr0 := (hB5.cell (p := ⟨bR, oR + m * 3, none⟩) hbRw).trans r0
        have cc0 := (hB5.cell (p := ⟨bS, oS + m, none⟩) hbSw).trans c0
        have cc1 := (hB5.cell (p := ⟨bS, oS + i, none⟩) hbSw).trans c1
        have hs5 := hB5.size
        go_wp2_with fail
        go_roundg (i - (m + 1))
        case measure => have := HK.out; omega
        case rel => exact ⟨m + 1, U, by omega, rfl, by go_num, E.out.trans HU.out, (by show Blk _ _ _ _; first | exact k0.out.then_ hB5 | exact (k0.out.then_ hB5).drewN _), (by show Blk _ _ _ _; first | exact k1.out.then_ hB5 | exact (k1.out.then_ hB5).drewN _), by (repeat' (first | (with_reducible exact Below.refl _ _) | (with_reducible assumption) | (with_reducible refine Below.alloc ?_ ?_ _) | (with_reducible refine Below.drew ?_) | (with_reducible refine below_drewN ?_ _) | (with_reducible refine Below.setCell ?_ ?_ _) | (with_reducible refine below_then ?_ ?_ (by with_reducible assumption)) | (with_reducible exact Nat.le_refl _) | go_size | (simp only [*]; done)))⟩
      obtain ⟨a, u, ef, rfl, hau, hun, _⟩ := ln_iff HN.out hl
      rw [lc_at ef rfl hl] at hcm
      have HFA := Lib.hid (show x + 1 = (a : Int) by omega)
      have HL := Lib.hid hl
      clear ef hl
      have hcb := costV_b (a := a) (tol := tol) HOK.out HN.out hun d0 d1
      obtain ⟨s, hs⟩ : ∃ s, costV xs a u d tol = s := ⟨_, rfl⟩
      rw [hs] at hcm hcb
      have HSV := Lib.hid hs
      have w1 : IntKind.i64.wrap (q1 + s) = q1 + s := IntWalk.i64_in _ (by omega)
      clear hs
      rcases hco : costOk xs a u d tol with _ | _
      · rw [hco] at hcm
        have E := Lib.hid (best_skipC (t := t) (hcm.trans rfl))
        have HCO := Lib.hid hco
        clear hT hcm hco
        go_wp2_with fail
        go_region_held3 (fun w' => (w'.cell? ⟨bS, oS + m, none⟩ = some (.int .i64 x) ∧ w'.cell? ⟨bS, oS + i, none⟩ = some (.int .i64 (u : Int)) ∧ w'.cell? ⟨bR, oR + m * 3 + 2, none⟩ = some (.bool true)) ∧ Below wi.heap.size wi w')
          ((refine (fun hB : Below wi.heap.size wi _ => ⟨⟨(hB.cell (p := ⟨bS, oS + m, none⟩) hbSw).trans c0, (hB.cell (p := ⟨bS, oS + i, none⟩) hbSw).trans c1, (hB.cell (p := ⟨bR, oR + m * 3 + 2, none⟩) hbRw).trans r2⟩, hB⟩) ?_; first | exact Below.refl _ _ | exact (Below.refl _ _).drew | exact And.right (by assumption) | exact hB5))
          (first | (go_at_call 49; refine (isLine_i _ _ _ _ _ xs _ HN.out h60 hcap ?_).mono ?_; (exact (HR.out.then_ hbel).then_ (by first | exact And.right (by assumption) | exact (Below.refl _ _).drew | exact Below.refl _ _)); rintro e w5 ⟨rfl, hb5⟩; rw [HL.out]; have hB5 : Below wi.heap.size wi w5 := (by first | exact below_then (Nat.le_refl _) (And.right (by assumption)) hb5 | exact below_then (Nat.le_refl _) (Below.refl _ _).drew hb5 | exact hb5)))
        have rr0 := (hB5.cell (p := ⟨bR, oR + m * 3, none⟩) hbRw).trans r0
        have cc0 := (hB5.cell (p := ⟨bS, oS + m, none⟩) hbSw).trans c0
        have cc1 := (hB5.cell (p := ⟨bS, oS + i, none⟩) hbSw).trans c1
        have hs5 := hB5.size
        go_wp2_with fail
        go_region_held3 (fun w' => (w'.cell? ⟨bS, oS + m, none⟩ = some (.int .i64 x) ∧ w'.cell? ⟨bS, oS + i, none⟩ = some (.int .i64 (u : Int))) ∧ Below wi.heap.size wi w')
          ((refine (fun hB : Below wi.heap.size wi _ => ⟨⟨(hB.cell (p := ⟨bS, oS + m, none⟩) hbSw).trans c0, (hB.cell (p := ⟨bS, oS + i, none⟩) hbSw).trans c1⟩, hB⟩) ?_; first | exact hB6 | exact hB5 | exact hB5.drew | exact below_drewN hB5 _ | exact And.right (by assumption)))
          (first | (go_at_call 58; refine (lineCost_i _ _ _ a u _ _ _ xs _ HOK.out HN.out hcap HFA.out hau hun ?_ d0 d1).mono ?_; (exact (HR.out.then_ hbel).then_ (by first | exact And.right (by assumption) | exact hB5 | exact hB5.drew | exact below_drewN hB5 _)); rintro e w6 ⟨rfl, hb6⟩; rw [HSV.out, HCO.out]; have hB6 : Below wi.heap.size wi w6 := (by first | exact below_then (Nat.le_refl _) (And.right (by assumption)) hb6 | exact below_then (Nat.le_refl _) hB5 hb6 | exact below_then (Nat.le_refl _) hB5.drew hb6)))
        have qq0 := (hB6.cell (p := ⟨bR, oR + m * 3, none⟩) hbRw).trans r0
        have hs6 := hB6.size
        rcases U with _ | ⟨b1, b2⟩
        all_goals
          have k0' := k0.out.then_ hB6
          have k1' := k1.out.then_ hB6
          first | rw [encA_none] at k1' | rw [encA_some] at k1'
          have K0 := Lib.hid k0'
          have K1 := Lib.hid k1'
          (have olt := k1'.lt; have oc0 := k1'.cell 0; have of0 := k1'.frozen 0; have oc1 := k1'.cell 1; have of1 := k1'.frozen 1; have oc2 := k1'.cell 2; have of2 := k1'.frozen 2; simp only [List.getElem?_toArray, List.getElem?_cons_zero, List.getElem?_cons_succ] at oc0 oc1 oc2)
          clear k0' k1'
          go_wp2_with fail
          go_quiet (fail)
          go_wp2_with fail
          go_roundg (i - (m + 1))
          case measure => have := HK.out; omega
          case rel => exact ⟨m + 1, _, by omega, rfl, by go_num, E.out.trans HU.out, (by show Blk _ _ _ _; first | exact K0.out | exact K0.out.drewN _), (by show Blk _ _ _ _; first | exact K1.out | exact K1.out.drewN _), by (repeat' (first | (with_reducible exact Below.refl _ _) | (with_reducible assumption) | (with_reducible refine Below.alloc ?_ ?_ _) | (with_reducible refine Below.drew ?_) | (with_reducible refine below_drewN ?_ _) | (with_reducible refine Below.setCell ?_ ?_ _) | (with_reducible refine below_then ?_ ?_ (by with_reducible assumption)) | (with_reducible exact Nat.le_refl _) | go_size | (simp only [*]; done)))⟩
      have hcs : c m = some s := by rw [hcm, hco]; rfl
      have HCO := Lib.hid hco
      clear hcm hco
      rcases U with _ | ⟨b1, b2⟩
      · have E := Lib.hid (show Dp.best t c (m + 1) = some (q1 + s, m) by rw [Dp.best_succ, HU.out]; exact upd_first hT hcs)
        clear hT hcs
        go_wp2_with fail
        go_region_held3 (fun w' => (w'.cell? ⟨bS, oS + m, none⟩ = some (.int .i64 x) ∧ w'.cell? ⟨bS, oS + i, none⟩ = some (.int .i64 (u : Int)) ∧ w'.cell? ⟨bR, oR + m * 3 + 2, none⟩ = some (.bool true)) ∧ Below wi.heap.size wi w')
          ((refine (fun hB : Below wi.heap.size wi _ => ⟨⟨(hB.cell (p := ⟨bS, oS + m, none⟩) hbSw).trans c0, (hB.cell (p := ⟨bS, oS + i, none⟩) hbSw).trans c1, (hB.cell (p := ⟨bR, oR + m * 3 + 2, none⟩) hbRw).trans r2⟩, hB⟩) ?_; first | exact Below.refl _ _ | exact (Below.refl _ _).drew | exact And.right (by assumption) | exact hB5))
          (first | (go_at_call 49; refine (isLine_i _ _ _ _ _ xs _ HN.out h60 hcap ?_).mono ?_; (exact (HR.out.then_ hbel).then_ (by first | exact And.right (by assumption) | exact (Below.refl _ _).drew | exact Below.refl _ _)); rintro e w5 ⟨rfl, hb5⟩; rw [HL.out]; have hB5 : Below wi.heap.size wi w5 := (by first | exact below_then (Nat.le_refl _) (And.right (by assumption)) hb5 | exact below_then (Nat.le_refl _) (Below.refl _ _).drew hb5 | exact hb5)))
        have rr0 := (hB5.cell (p := ⟨bR, oR + m * 3, none⟩) hbRw).trans r0
        have cc0 := (hB5.cell (p := ⟨bS, oS + m, none⟩) hbSw).trans c0
        have cc1 := (hB5.cell (p := ⟨bS, oS + i, none⟩) hbSw).trans c1
        have hs5 := hB5.size
        go_wp2_with fail
        go_region_held3 (fun w' => (w'.cell? ⟨bS, oS + m, none⟩ = some (.int .i64 x) ∧ w'.cell? ⟨bS, oS + i, none⟩ = some (.int .i64 (u : Int))) ∧ Below wi.heap.size wi w')
          ((refine (fun hB : Below wi.heap.size wi _ => ⟨⟨(hB.cell (p := ⟨bS, oS + m, none⟩) hbSw).trans c0, (hB.cell (p := ⟨bS, oS + i, none⟩) hbSw).trans c1⟩, hB⟩) ?_; first | exact hB6 | exact hB5 | exact hB5.drew | exact below_drewN hB5 _ | exact And.right (by assumption)))
          (first | (go_at_call 58; refine (lineCost_i _ _ _ a u _ _ _ xs _ HOK.out HN.out hcap HFA.out hau hun ?_ d0 d1).mono ?_; (exact (HR.out.then_ hbel).then_ (by first | exact And.right (by assumption) | exact hB5 | exact hB5.drew | exact below_drewN hB5 _)); rintro e w6 ⟨rfl, hb6⟩; rw [HSV.out, HCO.out]; have hB6 : Below wi.heap.size wi w6 := (by first | exact below_then (Nat.le_refl _) (And.right (by assumption)) hb6 | exact below_then (Nat.le_refl _) hB5 hb6 | exact below_then (Nat.le_refl _) hB5.drew hb6)))
        have qq0 := (hB6.cell (p := ⟨bR, oR + m * 3, none⟩) hbRw).trans r0
        have hs6 := hB6.size
        have k0' := k0.out.then_ hB6
        have k1' := k1.out.then_ hB6
        first | rw [encA_none] at k1' | rw [encA_some] at k1'
        have K0 := Lib.hid k0'
        have K1 := Lib.hid k1'
        (have olt := k1'.lt; have oc0 := k1'.cell 0; have of0 := k1'.frozen 0; have oc1 := k1'.cell 1; have of1 := k1'.frozen 1; have oc2 := k1'.cell 2; have of2 := k1'.frozen 2; simp only [List.getElem?_toArray, List.getElem?_cons_zero, List.getElem?_cons_succ] at oc0 oc1 oc2)
        clear k0' k1'
        go_wp2_with fail
        go_quiet (fail)
        go_wp2_with fail
        go_roundg (i - (m + 1))
        case measure => have := HK.out; omega
        case rel =>
          refine ⟨m + 1, some (q1 + s, m), by omega, rfl, by go_num, E.out, ?_, ?_, ?_⟩
          · ((show Blk _ _ _ _); repeat' (first | (with_reducible exact K0.out) | (with_reducible refine Blk.alloc ?_ _) | (with_reducible refine Blk.drew ?_) | (with_reducible refine Blk.drewN ?_ _) | (with_reducible refine Blk.far ?_ ?_ _) | (with_reducible refine Blk.then_ ?_ (by with_reducible assumption)) | (simp; done) | (simp; omega) | omega))
          · rw [encA_some]
            ((show Blk _ _ _ _); apply Blk.eq; (case h => (repeat' (first | (with_reducible exact K1.out) | (with_reducible apply Blk.alloc) | (with_reducible apply Blk.drew) | (with_reducible apply Blk.drewN) | (with_reducible apply Blk.set_) | (with_reducible apply Blk.far) | (with_reducible apply Blk.then_; rotate_left; with_reducible assumption) | (simp; done) | (simp; omega) | omega))); (case e => (first | (simp []; done) | (simp [Nat.zero_add]; omega))))
          · (repeat' (first | (with_reducible exact Below.refl _ _) | (with_reducible assumption) | (with_reducible refine Below.alloc ?_ ?_ _) | (with_reducible refine Below.drew ?_) | (with_reducible refine below_drewN ?_ _) | (with_reducible refine Below.setCell ?_ ?_ _) | (with_reducible refine below_then ?_ ?_ (by with_reducible assumption)) | (with_reducible exact Nat.le_refl _) | go_size | (simp only [*]; done)))
      by_cases hless : q1 + s < b1
      · have E := Lib.hid (show Dp.best t c (m + 1) = some (q1 + s, m) by rw [Dp.best_succ, HU.out]; exact upd_less hT hcs hless)
        have hd' : decide (q1 + s < b1) = true := decide_eq_true hless
        clear hT hcs
        go_wp2_with fail
        go_region_held3 (fun w' => (w'.cell? ⟨bS, oS + m, none⟩ = some (.int .i64 x) ∧ w'.cell? ⟨bS, oS + i, none⟩ = some (.int .i64 (u : Int)) ∧ w'.cell? ⟨bR, oR + m * 3 + 2, none⟩ = some (.bool true)) ∧ Below wi.heap.size wi w')
          ((refine (fun hB : Below wi.heap.size wi _ => ⟨⟨(hB.cell (p := ⟨bS, oS + m, none⟩) hbSw).trans c0, (hB.cell (p := ⟨bS, oS + i, none⟩) hbSw).trans c1, (hB.cell (p := ⟨bR, oR + m * 3 + 2, none⟩) hbRw).trans r2⟩, hB⟩) ?_; first | exact Below.refl _ _ | exact (Below.refl _ _).drew | exact And.right (by assumption) | exact hB5))
          (first | (go_at_call 49; refine (isLine_i _ _ _ _ _ xs _ HN.out h60 hcap ?_).mono ?_; (exact (HR.out.then_ hbel).then_ (by first | exact And.right (by assumption) | exact (Below.refl _ _).drew | exact Below.refl _ _)); rintro e w5 ⟨rfl, hb5⟩; rw [HL.out]; have hB5 : Below wi.heap.size wi w5 := (by first | exact below_then (Nat.le_refl _) (And.right (by assumption)) hb5 | exact below_then (Nat.le_refl _) (Below.refl _ _).drew hb5 | exact hb5)))
        have rr0 := (hB5.cell (p := ⟨bR, oR + m * 3, none⟩) hbRw).trans r0
        have cc0 := (hB5.cell (p := ⟨bS, oS + m, none⟩) hbSw).trans c0
        have cc1 := (hB5.cell (p := ⟨bS, oS + i, none⟩) hbSw).trans c1
        have hs5 := hB5.size
        go_wp2_with fail
        go_region_held3 (fun w' => (w'.cell? ⟨bS, oS + m, none⟩ = some (.int .i64 x) ∧ w'.cell? ⟨bS, oS + i, none⟩ = some (.int .i64 (u : Int))) ∧ Below wi.heap.size wi w')
          ((refine (fun hB : Below wi.heap.size wi _ => ⟨⟨(hB.cell (p := ⟨bS, oS + m, none⟩) hbSw).trans c0, (hB.cell (p := ⟨bS, oS + i, none⟩) hbSw).trans c1⟩, hB⟩) ?_; first | exact hB6 | exact hB5 | exact hB5.drew | exact below_drewN hB5 _ | exact And.right (by assumption)))
          (first | (go_at_call 58; refine (lineCost_i _ _ _ a u _ _ _ xs _ HOK.out HN.out hcap HFA.out hau hun ?_ d0 d1).mono ?_; (exact (HR.out.then_ hbel).then_ (by first | exact And.right (by assumption) | exact hB5 | exact hB5.drew | exact below_drewN hB5 _)); rintro e w6 ⟨rfl, hb6⟩; rw [HSV.out, HCO.out]; have hB6 : Below wi.heap.size wi w6 := (by first | exact below_then (Nat.le_refl _) (And.right (by assumption)) hb6 | exact below_then (Nat.le_refl _) hB5 hb6 | exact below_then (Nat.le_refl _) hB5.drew hb6)))
        have qq0 := (hB6.cell (p := ⟨bR, oR + m * 3, none⟩) hbRw).trans r0
        have hs6 := hB6.size
        have k0' := k0.out.then_ hB6
        have k1' := k1.out.then_ hB6
        first | rw [encA_none] at k1' | rw [encA_some] at k1'
        have K0 := Lib.hid k0'
        have K1 := Lib.hid k1'
        (have olt := k1'.lt; have oc0 := k1'.cell 0; have of0 := k1'.frozen 0; have oc1 := k1'.cell 1; have of1 := k1'.frozen 1; have oc2 := k1'.cell 2; have of2 := k1'.frozen 2; simp only [List.getElem?_toArray, List.getElem?_cons_zero, List.getElem?_cons_succ] at oc0 oc1 oc2)
        clear k0' k1'
        go_wp2_with fail
        go_quiet (fail)
        go_wp2_with fail
        go_roundg (i - (m + 1))
        case measure => have := HK.out; omega
        case rel =>
          refine ⟨m + 1, some (q1 + s, m), by omega, rfl, by go_num, E.out, ?_, ?_, ?_⟩
          · ((show Blk _ _ _ _); repeat' (first | (with_reducible exact K0.out) | (with_reducible refine Blk.alloc ?_ _) | (with_reducible refine Blk.drew ?_) | (with_reducible refine Blk.drewN ?_ _) | (with_reducible refine Blk.far ?_ ?_ _) | (with_reducible refine Blk.then_ ?_ (by with_reducible assumption)) | (simp; done) | (simp; omega) | omega))
          · rw [encA_some]
            ((show Blk _ _ _ _); apply Blk.eq; (case h => (repeat' (first | (with_reducible exact K1.out) | (with_reducible apply Blk.alloc) | (with_reducible apply Blk.drew) | (with_reducible apply Blk.drewN) | (with_reducible apply Blk.set_) | (with_reducible apply Blk.far) | (with_reducible apply Blk.then_; rotate_left; with_reducible assumption) | (simp; done) | (simp; omega) | omega))); (case e => (first | (simp []; done) | (simp [Nat.zero_add]; omega))))
          · (repeat' (first | (with_reducible exact Below.refl _ _) | (with_reducible assumption) | (with_reducible refine Below.alloc ?_ ?_ _) | (with_reducible refine Below.drew ?_) | (with_reducible refine below_drewN ?_ _) | (with_reducible refine Below.setCell ?_ ?_ _) | (with_reducible refine below_then ?_ ?_ (by with_reducible assumption)) | (with_reducible exact Nat.le_refl _) | go_size | (simp only [*]; done)))
      · have E := Lib.hid (show Dp.best t c (m + 1) = some (b1, b2) by rw [Dp.best_succ, HU.out]; exact upd_keep hT hcs hless)
        have hd' : decide (q1 + s < b1) = false := decide_eq_false hless
        clear hT hcs hless
        go_wp2_with fail
        go_region_held3 (fun w' => (w'.cell? ⟨bS, oS + m, none⟩ = some (.int .i64 x) ∧ w'.cell? ⟨bS, oS + i, none⟩ = some (.int .i64 (u : Int)) ∧ w'.cell? ⟨bR, oR + m * 3 + 2, none⟩ = some (.bool true)) ∧ Below wi.heap.size wi w')
          ((refine (fun hB : Below wi.heap.size wi _ => ⟨⟨(hB.cell (p := ⟨bS, oS + m, none⟩) hbSw).trans c0, (hB.cell (p := ⟨bS, oS + i, none⟩) hbSw).trans c1, (hB.cell (p := ⟨bR, oR + m * 3 + 2, none⟩) hbRw).trans r2⟩, hB⟩) ?_; first | exact Below.refl _ _ | exact (Below.refl _ _).drew | exact And.right (by assumption) | exact hB5))
          (first | (go_at_call 49; refine (isLine_i _ _ _ _ _ xs _ HN.out h60 hcap ?_).mono ?_; (exact (HR.out.then_ hbel).then_ (by first | exact And.right (by assumption) | exact (Below.refl _ _).drew | exact Below.refl _ _)); rintro e w5 ⟨rfl, hb5⟩; rw [HL.out]; have hB5 : Below wi.heap.size wi w5 := (by first | exact below_then (Nat.le_refl _) (And.right (by assumption)) hb5 | exact below_then (Nat.le_refl _) (Below.refl _ _).drew hb5 | exact hb5)))
        have rr0 := (hB5.cell (p := ⟨bR, oR + m * 3, none⟩) hbRw).trans r0
        have cc0 := (hB5.cell (p := ⟨bS, oS + m, none⟩) hbSw).trans c0
        have cc1 := (hB5.cell (p := ⟨bS, oS + i, none⟩) hbSw).trans c1
        have hs5 := hB5.size
        go_wp2_with fail
        go_region_held3 (fun w' => (w'.cell? ⟨bS, oS + m, none⟩ = some (.int .i64 x) ∧ w'.cell? ⟨bS, oS + i, none⟩ = some (.int .i64 (u : Int))) ∧ Below wi.heap.size wi w')
          ((refine (fun hB : Below wi.heap.size wi _ => ⟨⟨(hB.cell (p := ⟨bS, oS + m, none⟩) hbSw).trans c0, (hB.cell (p := ⟨bS, oS + i, none⟩) hbSw).trans c1⟩, hB⟩) ?_; first | exact hB6 | exact hB5 | exact hB5.drew | exact below_drewN hB5 _ | exact And.right (by assumption)))
          (first | (go_at_call 58; refine (lineCost_i _ _ _ a u _ _ _ xs _ HOK.out HN.out hcap HFA.out hau hun ?_ d0 d1).mono ?_; (exact (HR.out.then_ hbel).then_ (by first | exact And.right (by assumption) | exact hB5 | exact hB5.drew | exact below_drewN hB5 _)); rintro e w6 ⟨rfl, hb6⟩; rw [HSV.out, HCO.out]; have hB6 : Below wi.heap.size wi w6 := (by first | exact below_then (Nat.le_refl _) (And.right (by assumption)) hb6 | exact below_then (Nat.le_refl _) hB5 hb6 | exact below_then (Nat.le_refl _) hB5.drew hb6)))
        have qq0 := (hB6.cell (p := ⟨bR, oR + m * 3, none⟩) hbRw).trans r0
        have hs6 := hB6.size
        have k0' := k0.out.then_ hB6
        have k1' := k1.out.then_ hB6
        rw [encA_some] at k1'
        have K0 := Lib.hid k0'
        have K1 := Lib.hid k1'
        (have olt := k1'.lt; have oc0 := k1'.cell 0; have of0 := k1'.frozen 0; have oc1 := k1'.cell 1; have of1 := k1'.frozen 1; have oc2 := k1'.cell 2; have of2 := k1'.frozen 2; simp only [List.getElem?_toArray, List.getElem?_cons_zero, List.getElem?_cons_succ] at oc0 oc1 oc2)
        clear k0' k1'
        go_wp2_with fail
        go_quiet (fail)
        go_wp2_with fail
        go_roundg (i - (m + 1))
        case measure => have := HK.out; omega
        case rel => exact ⟨m + 1, some (b1, b2), by omega, rfl, by go_num, E.out, (by show Blk _ _ _ _; first | exact K0.out | exact K0.out.drewN _), (by show Blk _ _ _ _; first | exact K1.out | exact K1.out.drewN _), by (repeat' (first | (with_reducible exact Below.refl _ _) | (with_reducible assumption) | (with_reducible refine Below.alloc ?_ ?_ _) | (with_reducible refine Below.drew ?_) | (with_reducible refine below_drewN ?_ _) | (with_reducible refine Below.setCell ?_ ?_ _) | (with_reducible refine below_then ?_ ?_ (by with_reducible assumption)) | (with_reducible exact Nat.le_refl _) | go_size | (simp only [*]; done)))⟩
    · obtain rfl : m = i := by omega
      have HEND := Lib.hid (show encV (Dp.best t c m) = encV U by rw [HU.out])
      have k0' := k0.out
      have zlt := k0'.lt
      have zc0 := k0'.cell 0; have zf0 := k0'.frozen 0
      have zc1 := k0'.cell 1; have zf1 := k0'.frozen 1
      have zc2 := k0'.cell 2; have zf2 := k0'.frozen 2
      simp only [List.getElem?_toArray, List.getElem?_cons_zero, List.getElem?_cons_succ] at zc0 zc1 zc2
      rcases U with _ | ⟨b1, b2⟩
      · have k1' := k1.out
        rw [encA_none] at k1'
        have olt := k1'.lt
        have oc0 := k1'.cell 0; have of0 := k1'.frozen 0
        have oc1 := k1'.cell 1; have of1 := k1'.frozen 1
        have oc2 := k1'.cell 2; have of2 := k1'.frozen 2
        simp only [List.getElem?_toArray, List.getElem?_cons_zero, List.getElem?_cons_succ] at oc0 oc1 oc2
        clear k0' k1'
        go_wp2_with fail
        (first | go_returns | (refine bodyPost_ret (by simp [results, Try.results73, go_sem, *]; try rfl) rfl ?_))
        rw [HEND.out]
        exact ⟨rfl, by (repeat' (first | (with_reducible exact Below.refl _ _) | (with_reducible assumption) | (with_reducible refine Below.alloc ?_ ?_ _) | (with_reducible refine Below.drew ?_) | (with_reducible refine below_drewN ?_ _) | (with_reducible refine Below.setCell ?_ ?_ _) | (with_reducible refine below_then ?_ ?_ (by with_reducible assumption)) | (with_reducible exact Nat.le_refl _) | go_size | (simp only [*]; done)))⟩
      · have k1' := k1.out
        rw [encA_some] at k1'
        have olt := k1'.lt
        have oc0 := k1'.cell 0; have of0 := k1'.frozen 0
        have oc1 := k1'.cell 1; have of1 := k1'.frozen 1
        have oc2 := k1'.cell 2; have of2 := k1'.frozen 2
        simp only [List.getElem?_toArray, List.getElem?_cons_zero, List.getElem?_cons_succ] at oc0 oc1 oc2
        clear k0' k1'
        go_wp2_with fail
        (first | go_returns | (refine bodyPost_ret (by simp [results, Try.results73, go_sem, *]; try rfl) rfl ?_))
        rw [HEND.out]
        exact ⟨rfl, by (repeat' (first | (with_reducible exact Below.refl _ _) | (with_reducible assumption) | (with_reducible refine Below.alloc ?_ ?_ _) | (with_reducible refine Below.drew ?_) | (with_reducible refine below_drewN ?_ _) | (with_reducible refine Below.setCell ?_ ?_ _) | (with_reducible refine below_then ?_ ?_ (by with_reducible assumption)) | (with_reducible exact Nat.le_refl _) | go_size | (simp only [*]; done)))⟩
end Go.Proofs.Ytkmipgekmbngcaa
