/- bestTable of the reference holds the least costs over the nodes of a paragraph. Conditions: the slice reads as the list; the items and the width are valid. -/
import Derived.Test.YtkmipgekmbngcaaMSb7
import Derived.Test.YtkmipgekmbngcaaMSb5
import Derived.Test.YtkmipgekmbngcaaMSb0
import Derived.Test.YtkmipgekmbngcaaCostS
namespace Go.Proofs.Ytkmipgekmbngcaa
open Go.RowKit

/-- The cells of one entry of the tables: cost, break before, known. -/
def en3 (o : Option (Int × Nat)) (q : Nat) : Value := match q with
  | 0 => .int .i64 (o.getD (0, 0)).1
  | 1 => .int .i64 (match o with | none => 0 | some p => (p.2 : Int) - 1)
  | _ => .bool o.isSome
def cK (c : Nat → Nat → Option Int) (i m q x _z : Nat) : Value := en3 (stt c i m (x + 1)) q
theorem bool_info : (Try.prog.info? 4).map (fun i => (i.zero, i.size, i.bytes)) = some (some (.bool false), 1, 1) := by kernel_rfl
theorem made1 (w : World) (t : TypeId) (z : Value) (n : Nat) (hn : n ≤ maxLen) : OwnP (w.alloc (.cells (madeCells #[z] n) t)) w.heap.size t 1 (some ⟨w.heap.size, 0, none⟩) n n (fun _ _ => z) := by
  have h := OwnP.made w t #[z] n (by simp) hn
  have e : n * #[z].size = n := by simp
  rw [e] at h
  exact h.congr fun i q _ hq => by
    have hq' : q < 1 := hq
    obtain rfl : q = 0 := by omega
    rfl
theorem cK_first (c : Nat → Nat → Option Int) (q x z : Nat) : cK c 1 0 q x z = en3 none q := by unfold cK; rw [stt_first]; rfl
theorem cK_at (c : Nat → Nat → Option Int) (j m q z : Nat) : cK c (j + 1) m q j z = en3 (Dp.best (Dp.tbl c) (fun k => c k (j + 1)) m) q := by unfold cK; rw [stt_at]
theorem cK_lt {c : Nat → Nat → Option Int} {i m q x z : Nat} (h : x + 1 < i) : cK c i m q x z = en3 (Dp.tbl c (x + 1)) q := by unfold cK; rw [stt_lt h]
theorem cK_skip {c : Nat → Nat → Option Int} {i m q : Nat} (e : stt c i (m + 1) = stt c i m) : cK c i (m + 1) q = cK c i m q := by funext k z; unfold cK; rw [e]
theorem cK_next {c : Nat → Nat → Option Int} {i q : Nat} (hi : 0 < i) : cK c i i q = cK c (i + 1) 0 q := by funext k z; unfold cK; rw [stt_next hi]
theorem stt_skipC {c : Nat → Nat → Option Int} {i m : Nat} (h : c m i = none) : stt c i (m + 1) = stt c i m := stt_skip (Dp.upd_skip (S := fun k => c k i) (N := m) (.inr h) _)
theorem stt_skipT {c : Nat → Nat → Option Int} {i m : Nat} (h : Dp.tbl c m = none) : stt c i (m + 1) = stt c i m := stt_skip (Dp.upd_skip (S := fun k => c k i) (N := m) (.inl h) _)
theorem stt_no {c : Nat → Nat → Option Int} {i : Nat} (h : ∀ k, c k i = none) (m : Nat) : stt c i m = stt c i 0 := by
  induction m with
  | zero => rfl
  | succ m ih => rw [stt_skipC (h m), ih]
theorem cK_no {c : Nat → Nat → Option Int} {i q : Nat} (hi : 0 < i) (h : ∀ k, c k i = none) : cK c i 0 q = cK c (i + 1) 0 q := by rw [← cK_next hi]; funext k z; unfold cK; rw [stt_no h i]
theorem cK_set {c : Nat → Nat → Option Int} {j m N q : Nat} {v : Int} (e : ∀ k, stt c (j + 1) (m + 1) k = if k = j + 1 then some (v, m) else stt c (j + 1) m k) {u : Value} (hu : u = en3 (some (v, m)) q) : ∀ x z, x < N → z < 1 →
    (if x = j ∧ z = 0 then u else cK c (j + 1) m q x z) = cK c (j + 1) (m + 1) q x z := by
  intro x z _ hz
  obtain rfl : z = 0 := by omega
  unfold cK
  rw [e]
  by_cases h : x = j
  · subst h; simp [hu]
  · simp [h]
section
variable {xs : List It} {d tol F : Int} {m j : Nat}
theorem ndC_eq (hF : F = (m : Int) - 1) : ndC xs d tol m (j + 1) = lc xs d tol F (j : Int) := by
  rw [ndC, ← hF, show ((j + 1 : Nat) : Int) - 1 = (j : Int) by omega]
theorem ndC_line (hF : F = (m : Int) - 1) (h : lnOk xs F (j : Int) = false) : ndC xs d tol m (j + 1) = none := by rw [ndC_eq hF, lc_line h]
theorem ndC_at (hF : F = (m : Int) - 1) (h : lnOk xs F (j : Int) = true) : ndC xs d tol m (j + 1) = if costOk xs m j d tol then some (costV xs m j d tol) else none := by rw [ndC_eq hF, lc_at hF rfl h]
theorem ln_parts {n : Nat} (hn : xs.length = n) (hF : F = (m : Int) - 1) (h : lnOk xs F (j : Int) = true) : m ≤ j ∧ noF xs m j = true := by
  obtain ⟨a, u, h1, h2, h3, _, _, h6, _⟩ := ln_iff hn h
  obtain rfl : a = m := by omega
  obtain rfl : u = j := by omega
  exact ⟨h3, h6⟩
theorem ndC_rng {n k i : Nat} {s : Int} (hok : itemsOk xs = true) (hn : xs.length = n) (d0 : 1 ≤ d) (d1 : d ≤ 10000) (h : ndC xs d tol k i = some s) : -200000000 ≤ s ∧ s ≤ 200000000 := (lc_some hok hn d0 d1 h).2.2.2
theorem ndT_rng {n i k : Nat} {v : Int} (hok : itemsOk xs = true) (hn : xs.length = n) (d0 : 1 ≤ d) (d1 : d ≤ 10000) (hi : i ≤ 60) (h : Dp.tbl (ndC xs d tol) i = some (v, k)) : -12000000000 ≤ v ∧ v ≤ 12000000000 := by
  have := Dp.tbl_bound (c := ndC xs d tol) (M := 200000000) (by omega) (fun k i s _ hs => ndC_rng hok hn d0 d1 hs) i v k h
  omega
end

/-- What a call leaves that returns three tables of its own. -/
def TabOut (w : World) (n : Nat) (t : Nat → Option (Int × Nat)) (e : Ending) (w' : World) : Prop :=
  e = .returned (.tuple #[.slice (some ⟨w.heap.size, 0, none⟩) n n, .slice (some ⟨w.heap.size + 1, 0, none⟩) n n, .slice (some ⟨w.heap.size + 1 + 1, 0, none⟩) n n]) ∧
    OwnP w' w.heap.size 3 1 (some ⟨w.heap.size, 0, none⟩) n n (fun x _ => en3 (t (x + 1)) 0) ∧ OwnP w' w.heap.size 3 1 (some ⟨w.heap.size + 1, 0, none⟩) n n (fun x _ => en3 (t (x + 1)) 1) ∧ OwnP w' w.heap.size 4 1 (some ⟨w.heap.size + 1 + 1, 0, none⟩) n n (fun x _ => en3 (t (x + 1)) 2) ∧ Below w.heap.size w w'

set_option maxRecDepth 100000 in
set_option maxHeartbeats 8000000 in
theorem bestTable_s (A : Option Addr) (n cap : Nat) (d tol : Int) (xs : List It) (w : World) (hok : itemsOk xs = true) (hn : xs.length = n) (d0 : 1 ≤ d) (d1 : d ≤ 10000) (hr : Row w w.heap.size 6 A n (itc xs)) :
    Calls Try.prog 68 #[.slice A n cap, .int .i64 d, .int .i64 tol] w (TabOut w n (Dp.tbl (ndC xs d tol))) := by
  obtain ⟨c, hc⟩ : ∃ c, ndC xs d tol = c := ⟨_, rfl⟩
  have h60 := (itemsOk_len hok hn).2
  have hm : n ≤ maxLen := by unfold maxLen; omega
  obtain ⟨j0, ji, jz0, jz1, jz2⟩ := info_parts int_info
  obtain ⟨k0, ki, kz0, kz1, kz2⟩ := info_parts bool_info
  have hmk := make_n (P := Try.prog) 24 3 j0 _ Try.underlying24 ji jz0 n (by rw [jz2]; omega) (by omega)
  rw [jz1] at hmk
  have hmb := make_n (P := Try.prog) 64 4 k0 _ Try.underlying64 ki kz0 n (by rw [kz2]; omega) (by omega)
  rw [kz1] at hmb
  have HOK := Lib.hid hok
  have HN := Lib.hid hn
  have HR := Lib.hid hr
  have HD := Lib.hid (And.intro d0 d1)
  have HC := Lib.hid hc
  have HCR : Hid (∀ k i s, c k i = some s → -200000000 ≤ s ∧ s ≤ 200000000) := fun k i s h => by rw [← hc] at h; exact ndC_rng hok hn d0 d1 h
  have HTR : Hid (∀ i k v, i ≤ 60 → Dp.tbl c i = some (v, k) → -12000000000 ≤ v ∧ v ≤ 12000000000) := fun i k v hi h => by rw [← hc] at h; exact ndT_rng hok hn d0 d1 hi h
  rw [hc]
  have a0 : OwnP (((w.alloc (.cells (madeCells #[.int .i64 0] n) 3)).alloc (.cells (madeCells #[.int .i64 0] n) 3)).alloc (.cells (madeCells #[.bool false] n) 4)) w.heap.size 3 1 (some ⟨w.heap.size, 0, none⟩) n n (cK c 1 0 0) :=
    (((made1 w 3 (.int .i64 0) n hm).alloc _).alloc _).congr fun k q _ _ => (cK_first c 0 k q).symm
  have a1 : OwnP (((w.alloc (.cells (madeCells #[.int .i64 0] n) 3)).alloc (.cells (madeCells #[.int .i64 0] n) 3)).alloc (.cells (madeCells #[.bool false] n) 4)) (w.alloc (.cells (madeCells #[.int .i64 0] n) 3)).heap.size 3 1 (some ⟨(w.alloc (.cells (madeCells #[.int .i64 0] n) 3)).heap.size, 0, none⟩) n n (cK c 1 0 1) :=
    ((made1 _ 3 (.int .i64 0) n hm).alloc _).congr fun k q _ _ => (cK_first c 1 k q).symm
  have a2 : OwnP (((w.alloc (.cells (madeCells #[.int .i64 0] n) 3)).alloc (.cells (madeCells #[.int .i64 0] n) 3)).alloc (.cells (madeCells #[.bool false] n) 4)) ((w.alloc (.cells (madeCells #[.int .i64 0] n) 3)).alloc (.cells (madeCells #[.int .i64 0] n) 3)).heap.size 4 1 (some ⟨((w.alloc (.cells (madeCells #[.int .i64 0] n) 3)).alloc (.cells (madeCells #[.int .i64 0] n) 3)).heap.size, 0, none⟩) n n (cK c 1 0 2) :=
    (made1 _ 4 (.bool false) n hm).congr fun k q _ _ => (cK_first c 2 k q).symm
  simp only [World.size_alloc] at a1 a2
  have HA0 := Lib.hid a0
  have HA1 := Lib.hid (a1.mono (base' := w.heap.size) (by omega))
  have HA2 := Lib.hid (a2.mono (base' := w.heap.size) (by omega))
  have hbW : Below w.heap.size w (((w.alloc (.cells (madeCells #[.int .i64 0] n) 3)).alloc (.cells (madeCells #[.int .i64 0] n) 3)).alloc (.cells (madeCells #[.bool false] n) 4)) := (((Below.refl _ _).alloc (Nat.le_refl _) _).alloc (by simp) _).alloc (by simp; omega) _
  clear a0 a1 a2 hok hn hr d0 d1 hc
  go_enter Try.func68, Try.ntmps68
  go_wp2_with fail
  go_loopg [12] n (fun k jv wr => ∃ j : Nat, j ≤ n ∧ k = n - j ∧ jv = .int .i64 j ∧ Hid (OwnP wr w.heap.size 3 1 (some ⟨w.heap.size, 0, none⟩) n n (cK c (j + 1) 0 0)) ∧ Hid (OwnP wr w.heap.size 3 1 (some ⟨w.heap.size + 1, 0, none⟩) n n (cK c (j + 1) 0 1)) ∧ Hid (OwnP wr w.heap.size 4 1 (some ⟨w.heap.size + 1 + 1, 0, none⟩) n n (cK c (j + 1) 0 2)) ∧ Below w.heap.size w wr)
  case atStart => exact ⟨0, Nat.zero_le _, rfl, rfl, HA0.out, HA1.out, HA2.out, hbW⟩
  case round =>
    obtain ⟨j, hjn, hk, rfl, oa, ob, oc, hbel⟩ := hrel
    have HK := Lib.hid hk; clear hk
    obtain ⟨wo, hwo⟩ : ∃ wo : World, wo = wr := ⟨_, rfl⟩
    subst hwo
    have hsz := hbel.size
    by_cases hlt : j < n
    · have hltN : (j : Int) < (n : Int) := by omega
      rcases hbk : brk xs j with _ | _
      · have HB := Lib.hid hbk
        have hno : ∀ k, c k (j + 1) = none := fun k => by
          rw [← HC.out]
          exact ndC_line (F := (k : Int) - 1) rfl (ln_t hbk)
        have N0 := Lib.hid (cK_no (q := 0) (Nat.succ_pos j) hno)
        have N1 := Lib.hid (cK_no (q := 1) (Nat.succ_pos j) hno)
        have N2 := Lib.hid (cK_no (q := 2) (Nat.succ_pos j) hno)
        clear hbk hno
        go_wp2_with fail
        ((with_reducible refine (isBreak_s _ _ _ _ xs _ HN.out hlt hm ?_).mono ?_); (exact HR.out.then_ hbel); rintro e w1 ⟨rfl, hb1⟩)
        rw [HB.out]
        go_wp2_with fail
        go_roundg (n - (j + 1))
        case measure => have := HK.out; omega
        case rel => exact ⟨j + 1, by omega, rfl, by go_num, (by show OwnP _ _ _ _ _ _ _ _; rw [← N0.out]; exact oa.out.then_ hb1), (by show OwnP _ _ _ _ _ _ _ _; rw [← N1.out]; exact ob.out.then_ hb1), (by show OwnP _ _ _ _ _ _ _ _; rw [← N2.out]; exact oc.out.then_ hb1), below_then (Nat.le_refl _) hbel hb1⟩
      · have HB := Lib.hid hbk
        clear hbk
        go_wp2_with fail
        ((with_reducible refine (isBreak_s _ _ _ _ xs _ HN.out hlt hm ?_).mono ?_); (exact HR.out.then_ hbel); rintro e w1 ⟨rfl, hb1⟩)
        rw [HB.out]
        have OA := Lib.hid (oa.out.then_ hb1)
        have OB := Lib.hid (ob.out.then_ hb1)
        have OC := Lib.hid (oc.out.then_ hb1)
        have hb1' := below_then (Nat.le_refl _) hbel hb1
        have hs1 := hb1'.size
        go_wp2_with fail
        go_loopg [13] (j + 1) (fun kk fv wi => ∃ (m : Nat) (F : Int), m ≤ j + 1 ∧ kk = j + 1 - m ∧ fv = .int .i64 F ∧ Hid (F = (m : Int) - 1) ∧ Hid (OwnP wi w.heap.size 3 1 (some ⟨w.heap.size, 0, none⟩) n n (cK c (j + 1) m 0)) ∧ Hid (OwnP wi w.heap.size 3 1 (some ⟨w.heap.size + 1, 0, none⟩) n n (cK c (j + 1) m 1)) ∧ Hid (OwnP wi w.heap.size 4 1 (some ⟨w.heap.size + 1 + 1, 0, none⟩) n n (cK c (j + 1) m 2)) ∧ Below w.heap.size w wi)
        case atStart => exact ⟨0, -1, Nat.zero_le _, rfl, rfl, rfl, OA.out, OB.out, OC.out, hb1'⟩
        case round =>
          obtain ⟨m, F, hmj, hk2, rfl, hF, ia, ib, ic, hbi⟩ := hrel
          have HK2 := Lib.hid hk2; clear hk2
          obtain ⟨wi, hwi⟩ : ∃ wi : World, wi = wr := ⟨_, rfl⟩
          subst hwi
          have hszi := hbi.size
          by_cases hmi : m < j + 1
          · have HROW := Lib.hid (HR.out.then_ hbi)
            obtain ⟨U, hU⟩ : ∃ U, Dp.best (Dp.tbl c) (fun k => c k (j + 1)) m = U := ⟨_, rfl⟩
            obtain ⟨C, hC⟩ : ∃ C, c m (j + 1) = C := ⟨_, rfl⟩
            have HU := Lib.hid hU
            have POST : ∀ w5, Below wi.heap.size wi w5 → OwnP w5 w.heap.size 3 1 (some ⟨w.heap.size, 0, none⟩) n n (cK c (j + 1) m 0) ∧ OwnP w5 w.heap.size 3 1 (some ⟨w.heap.size + 1, 0, none⟩) n n (cK c (j + 1) m 1) ∧ OwnP w5 w.heap.size 4 1 (some ⟨w.heap.size + 1 + 1, 0, none⟩) n n (cK c (j + 1) m 2) ∧ Below w.heap.size w w5 ∧
                w5.cell? ⟨w.heap.size, j, none⟩ = some (en3 U 0) ∧ w5.cell? ⟨w.heap.size + 1, j, none⟩ = some (en3 U 1) ∧ w5.cell? ⟨w.heap.size + 1 + 1, j, none⟩ = some (en3 U 2) := fun w5 hb5 => by
              have r0 := ia.out.then_ hb5
              have r1 := ib.out.then_ hb5
              have r2 := ic.out.then_ hb5
              have f0 := r0.cell1 (i := j) (by omega)
              have f1 := r1.cell1 (i := j) (by omega)
              have f2 := r2.cell1 (i := j) (by omega)
              rw [cK_at, hU] at f0 f1 f2
              exact ⟨r0, r1, r2, below_then (Nat.le_refl _) hbi hb5, f0, f1, f2⟩
            have HP := Lib.hid POST
            have HCC := Lib.hid hC
            clear POST hU hC
            rcases m with _ | p
            · obtain rfl : F = -1 := by have := hF.out; omega
              have hjI : (-1 : Int) < (j : Int) := by omega
              rcases hl : lnOk xs (-1) (j : Int) with _ | _
              · have hCn : c 0 (j + 1) = none := by rw [← HC.out]; exact ndC_line (F := -1) (by omega) hl
                have E := Lib.hid (show stt c (j + 1) (0 + 1) = stt c (j + 1) 0 from stt_skipC hCn)
                have HLV := Lib.hid ((lv_ok HOK.out).trans hl)
                clear hl hCn
                go_wp2_with fail
                ((with_reducible refine (validLine_s _ _ _ _ _ xs _ HN.out hm ?_).mono ?_); (exact HROW.out); rintro e w5 ⟨rfl, hb5⟩)
                rw [HLV.out]
                have hB6 := hb5
                obtain ⟨r0, r1, r2, hbw, f0, f1, f2⟩ := HP.out _ hB6
                simp only [en3] at f0 f1 f2
                have gl0 := r0.lt
                have gl1 := r1.lt
                have gl2 := r2.lt
                have fr0 := r0.frozen j
                have fr1 := r1.frozen j
                have fr2 := r2.frozen j

                have R0 := Lib.hid r0
                have R1 := Lib.hid r1
                have R2 := Lib.hid r2
                clear r0 r1 r2
                go_wp2_with fail
                go_roundg (j + 1 - (0 + 1))
                case measure => have := HK2.out; omega
                case rel => exact ⟨0 + 1, 0, by omega, rfl, by go_num, (by show _ = _; omega), (by show OwnP _ _ _ _ _ _ _ _; rw [cK_skip E.out]; exact R0.out), (by show OwnP _ _ _ _ _ _ _ _; rw [cK_skip E.out]; exact R1.out), (by show OwnP _ _ _ _ _ _ _ _; rw [cK_skip E.out]; exact R2.out), hbw⟩
              · obtain ⟨hml, hnf⟩ := ln_parts (m := 0) HN.out (by omega) hl
                have hCa : c 0 (j + 1) = if costOk xs 0 j d tol then some (costV xs 0 j d tol) else none := by rw [← HC.out]; exact ndC_at (F := -1) (by omega) hl
                have hcb := costV_b (a := 0) (tol := tol) HOK.out HN.out hlt HD.out.1 HD.out.2
                obtain ⟨s, hs⟩ : ∃ s, costV xs 0 j d tol = s := ⟨_, rfl⟩
                rw [hs] at hCa hcb
                have HCV := Lib.hid hs
                have HLV := Lib.hid ((lv_ok HOK.out).trans hl)
                have HNF := Lib.hid hnf
                have HFA := Lib.hid (show (-1 + 1 : Int) = ((0 : Nat) : Int) by omega)

                clear hl hnf hs
                rcases hco : costOk xs 0 j d tol with _ | _
                · have hCn : c 0 (j + 1) = none := by rw [hCa, hco]; rfl
                  have E := Lib.hid (show stt c (j + 1) (0 + 1) = stt c (j + 1) 0 from stt_skipC hCn)
                  have HCO := Lib.hid hco
                  clear hco hCn hCa
                  go_wp2_with fail
                  ((with_reducible refine (validLine_s _ _ _ _ _ xs _ HN.out hm ?_).mono ?_); (exact HROW.out); rintro e w5 ⟨rfl, hb5⟩)
                  rw [HLV.out]
                  go_wp2_with fail
                  ((with_reducible refine (lineCost_s _ _ _ 0 j _ _ _ xs _ HOK.out HN.out HNF.out HFA.out hml hlt ?_ HD.out.1 HD.out.2).mono ?_); (exact HROW.out.then_ hb5); rintro e w6 ⟨rfl, hb6⟩)
                  have hB6 := below_then (Nat.le_refl _) hb5 hb6
                  rw [HCV.out, HCO.out]
                  obtain ⟨r0, r1, r2, hbw, f0, f1, f2⟩ := HP.out _ hB6
                  simp only [en3] at f0 f1 f2
                  have gl0 := r0.lt
                  have gl1 := r1.lt
                  have gl2 := r2.lt
                  have fr0 := r0.frozen j
                  have fr1 := r1.frozen j
                  have fr2 := r2.frozen j

                  have R0 := Lib.hid r0
                  have R1 := Lib.hid r1
                  have R2 := Lib.hid r2
                  clear r0 r1 r2
                  go_wp2_with fail
                  go_roundg (j + 1 - (0 + 1))
                  case measure => have := HK2.out; omega
                  case rel => exact ⟨0 + 1, 0, by omega, rfl, by go_num, (by show _ = _; omega), (by show OwnP _ _ _ _ _ _ _ _; rw [cK_skip E.out]; exact R0.out), (by show OwnP _ _ _ _ _ _ _ _; rw [cK_skip E.out]; exact R1.out), (by show OwnP _ _ _ _ _ _ _ _; rw [cK_skip E.out]; exact R2.out), hbw⟩
                · have hCs : c 0 (j + 1) = some s := by rw [hCa, hco]; rfl
                  have HCO := Lib.hid hco
                  clear hco hCa
                  obtain rfl : U = none := by have := HU.out; rw [Dp.best_zero] at this; exact this.symm
                  · have E := Lib.hid (show ∀ k, stt c (j + 1) (0 + 1) k = if k = j + 1 then some (0 + s, 0) else stt c (j + 1) 0 k from stt_set (by rw [HU.out]; exact upd_first (Dp.tbl_zero c) hCs))
                    clear hCs
                    go_wp2_with fail
                    ((with_reducible refine (validLine_s _ _ _ _ _ xs _ HN.out hm ?_).mono ?_); (exact HROW.out); rintro e w5 ⟨rfl, hb5⟩)
                    rw [HLV.out]
                    go_wp2_with fail
                    ((with_reducible refine (lineCost_s _ _ _ 0 j _ _ _ xs _ HOK.out HN.out HNF.out HFA.out hml hlt ?_ HD.out.1 HD.out.2).mono ?_); (exact HROW.out.then_ hb5); rintro e w6 ⟨rfl, hb6⟩)
                    have hB6 := below_then (Nat.le_refl _) hb5 hb6
                    rw [HCV.out, HCO.out]
                    obtain ⟨r0, r1, r2, hbw, f0, f1, f2⟩ := HP.out _ hB6
                    simp only [en3, Option.getD_none, Option.isSome_none] at f0 f1 f2
                    have gl0 := r0.lt
                    have gl1 := r1.lt
                    have gl2 := r2.lt
                    have fr0 := r0.frozen j
                    have fr1 := r1.frozen j
                    have fr2 := r2.frozen j

                    have R0 := Lib.hid r0
                    have R1 := Lib.hid r1
                    have R2 := Lib.hid r2
                    clear r0 r1 r2
                    go_wp2_with fail
                    go_roundg (j + 1 - (0 + 1))
                    case measure => have := HK2.out; omega
                    case rel =>
                      refine ⟨0 + 1, 0, by omega, rfl, by go_num, (by show _ = _; omega), ?_, ?_, ?_, ?_⟩
                      · show OwnP _ _ _ _ _ _ _ _
                        exact (((((R0.out.set1 (i := j) (by omega) _).far (by intro x hx; cases hx; simp <;> omega) _).far (by intro x hx; cases hx; simp <;> omega) _).congr (cK_set E.out (by simp only [en3, Option.getD_some] <;> congr 1 <;> omega))))
                      · show OwnP _ _ _ _ _ _ _ _
                        exact (((((R1.out.far (by intro x hx; cases hx; simp <;> omega) _).set1 (i := j) (by omega) _).far (by intro x hx; cases hx; simp <;> omega) _).congr (cK_set E.out (by simp only [en3] <;> congr 1 <;> omega))))
                      · show OwnP _ _ _ _ _ _ _ _
                        exact (((((R2.out.far (by intro x hx; cases hx; simp <;> omega) _).far (by intro x hx; cases hx; simp <;> omega) _).set1 (i := j) (by omega) _).congr (cK_set E.out rfl)))
                      · exact ((hbw.setCell (by simp) _).setCell (by simp <;> omega) _).setCell (by simp <;> omega) _
            · obtain rfl : F = (p : Int) := by have := hF.out; omega
              have hjI : (p : Int) < (j : Int) := by omega
              have hjn' : (p : Int) < (n : Int) := by omega
              have hkp := ic.out.cell1 (i := p) (by omega)
              rw [cK_lt (by omega)] at hkp
              rcases hT : Dp.tbl c (p + 1) with _ | ⟨q1, q2⟩
              · have E := Lib.hid (show stt c (j + 1) (p + 1 + 1) = stt c (j + 1) (p + 1) from stt_skipT hT)
                rw [hT] at hkp
                simp only [en3, Option.isSome_none] at hkp
                clear hT
                have gl2 := ic.out.lt
                go_wp2_with fail
                go_roundg (j + 1 - (p + 1 + 1))
                case measure => have := HK2.out; omega
                case rel => exact ⟨p + 1 + 1, (p : Int) + 1, by omega, rfl, by go_num, (by show _ = _; omega), (by show OwnP _ _ _ _ _ _ _ _; rw [cK_skip E.out]; exact ia.out), (by show OwnP _ _ _ _ _ _ _ _; rw [cK_skip E.out]; exact ib.out), (by show OwnP _ _ _ _ _ _ _ _; rw [cK_skip E.out]; exact ic.out), hbi⟩
              · obtain ⟨t0, t1⟩ := HTR.out (p + 1) q2 q1 (by omega) hT
                rw [hT] at hkp
                simp only [en3, Option.isSome_some] at hkp
                have HT := Lib.hid hT
                have gl2' := ic.out.lt
                clear hT
                rcases hl : lnOk xs (p : Int) (j : Int) with _ | _
                · have hCn : c (p + 1) (j + 1) = none := by rw [← HC.out]; exact ndC_line (F := (p : Int)) (by omega) hl
                  have E := Lib.hid (show stt c (j + 1) (p + 1 + 1) = stt c (j + 1) (p + 1) from stt_skipC hCn)
                  have HLV := Lib.hid ((lv_ok HOK.out).trans hl)
                  clear hl hCn
                  go_wp2_with fail
                  ((with_reducible refine (validLine_s _ _ _ _ _ xs _ HN.out hm ?_).mono ?_); (exact HROW.out); rintro e w5 ⟨rfl, hb5⟩)
                  rw [HLV.out]
                  have hB6 := hb5
                  obtain ⟨r0, r1, r2, hbw, f0, f1, f2⟩ := HP.out _ hB6
                  simp only [en3] at f0 f1 f2
                  have gl0 := r0.lt
                  have gl1 := r1.lt
                  have gl2 := r2.lt
                  have fr0 := r0.frozen j
                  have fr1 := r1.frozen j
                  have fr2 := r2.frozen j
                  have e1 := (r0.cell1 (i := p) (by omega))
                  rw [cK_lt (by omega), HT.out] at e1
                  simp only [en3, Option.getD_some] at e1
                  have R0 := Lib.hid r0
                  have R1 := Lib.hid r1
                  have R2 := Lib.hid r2
                  clear r0 r1 r2
                  go_wp2_with fail
                  go_roundg (j + 1 - (p + 1 + 1))
                  case measure => have := HK2.out; omega
                  case rel => exact ⟨p + 1 + 1, (p : Int) + 1, by omega, rfl, by go_num, (by show _ = _; omega), (by show OwnP _ _ _ _ _ _ _ _; rw [cK_skip E.out]; exact R0.out), (by show OwnP _ _ _ _ _ _ _ _; rw [cK_skip E.out]; exact R1.out), (by show OwnP _ _ _ _ _ _ _ _; rw [cK_skip E.out]; exact R2.out), hbw⟩
                · obtain ⟨hml, hnf⟩ := ln_parts (m := (p + 1)) HN.out (by omega) hl
                  have hCa : c (p + 1) (j + 1) = if costOk xs (p + 1) j d tol then some (costV xs (p + 1) j d tol) else none := by rw [← HC.out]; exact ndC_at (F := (p : Int)) (by omega) hl
                  have hcb := costV_b (a := (p + 1)) (tol := tol) HOK.out HN.out hlt HD.out.1 HD.out.2
                  obtain ⟨s, hs⟩ : ∃ s, costV xs (p + 1) j d tol = s := ⟨_, rfl⟩
                  rw [hs] at hCa hcb
                  have HCV := Lib.hid hs
                  have HLV := Lib.hid ((lv_ok HOK.out).trans hl)
                  have HNF := Lib.hid hnf
                  have HFA := Lib.hid (show ((p : Int) + 1 : Int) = ((p + 1 : Nat) : Int) by omega)
                  have w1 : IntKind.i64.wrap (s + q1) = s + q1 := IntWalk.i64_in _ (by omega)
                  clear hl hnf hs
                  rcases hco : costOk xs (p + 1) j d tol with _ | _
                  · have hCn : c (p + 1) (j + 1) = none := by rw [hCa, hco]; rfl
                    have E := Lib.hid (show stt c (j + 1) (p + 1 + 1) = stt c (j + 1) (p + 1) from stt_skipC hCn)
                    have HCO := Lib.hid hco
                    clear hco hCn hCa
                    go_wp2_with fail
                    ((with_reducible refine (validLine_s _ _ _ _ _ xs _ HN.out hm ?_).mono ?_); (exact HROW.out); rintro e w5 ⟨rfl, hb5⟩)
                    rw [HLV.out]
                    go_wp2_with fail
                    ((with_reducible refine (lineCost_s _ _ _ (p + 1) j _ _ _ xs _ HOK.out HN.out HNF.out HFA.out hml hlt ?_ HD.out.1 HD.out.2).mono ?_); (exact HROW.out.then_ hb5); rintro e w6 ⟨rfl, hb6⟩)
                    have hB6 := below_then (Nat.le_refl _) hb5 hb6
                    rw [HCV.out, HCO.out]
                    obtain ⟨r0, r1, r2, hbw, f0, f1, f2⟩ := HP.out _ hB6
                    simp only [en3] at f0 f1 f2
                    have gl0 := r0.lt
                    have gl1 := r1.lt
                    have gl2 := r2.lt
                    have fr0 := r0.frozen j
                    have fr1 := r1.frozen j
                    have fr2 := r2.frozen j
                    have e1 := (r0.cell1 (i := p) (by omega))
                    rw [cK_lt (by omega), HT.out] at e1
                    simp only [en3, Option.getD_some] at e1
                    have R0 := Lib.hid r0
                    have R1 := Lib.hid r1
                    have R2 := Lib.hid r2
                    clear r0 r1 r2
                    go_wp2_with fail
                    go_roundg (j + 1 - (p + 1 + 1))
                    case measure => have := HK2.out; omega
                    case rel => exact ⟨p + 1 + 1, (p : Int) + 1, by omega, rfl, by go_num, (by show _ = _; omega), (by show OwnP _ _ _ _ _ _ _ _; rw [cK_skip E.out]; exact R0.out), (by show OwnP _ _ _ _ _ _ _ _; rw [cK_skip E.out]; exact R1.out), (by show OwnP _ _ _ _ _ _ _ _; rw [cK_skip E.out]; exact R2.out), hbw⟩
                  · have hCs : c (p + 1) (j + 1) = some s := by rw [hCa, hco]; rfl
                    have HCO := Lib.hid hco
                    clear hco hCa
                    rcases U with _ | ⟨b1, b2⟩
                    · have E := Lib.hid (show ∀ k, stt c (j + 1) (p + 1 + 1) k = if k = j + 1 then some (q1 + s, (p + 1)) else stt c (j + 1) (p + 1) k from stt_set (by rw [HU.out]; exact upd_first (HT.out) hCs))
                      clear hCs
                      go_wp2_with fail
                      ((with_reducible refine (validLine_s _ _ _ _ _ xs _ HN.out hm ?_).mono ?_); (exact HROW.out); rintro e w5 ⟨rfl, hb5⟩)
                      rw [HLV.out]
                      go_wp2_with fail
                      ((with_reducible refine (lineCost_s _ _ _ (p + 1) j _ _ _ xs _ HOK.out HN.out HNF.out HFA.out hml hlt ?_ HD.out.1 HD.out.2).mono ?_); (exact HROW.out.then_ hb5); rintro e w6 ⟨rfl, hb6⟩)
                      have hB6 := below_then (Nat.le_refl _) hb5 hb6
                      rw [HCV.out, HCO.out]
                      obtain ⟨r0, r1, r2, hbw, f0, f1, f2⟩ := HP.out _ hB6
                      simp only [en3, Option.getD_none, Option.isSome_none] at f0 f1 f2
                      have gl0 := r0.lt
                      have gl1 := r1.lt
                      have gl2 := r2.lt
                      have fr0 := r0.frozen j
                      have fr1 := r1.frozen j
                      have fr2 := r2.frozen j
                      have e1 := (r0.cell1 (i := p) (by omega))
                      rw [cK_lt (by omega), HT.out] at e1
                      simp only [en3, Option.getD_some] at e1
                      have R0 := Lib.hid r0
                      have R1 := Lib.hid r1
                      have R2 := Lib.hid r2
                      clear r0 r1 r2
                      go_wp2_with fail
                      go_roundg (j + 1 - (p + 1 + 1))
                      case measure => have := HK2.out; omega
                      case rel =>
                        refine ⟨p + 1 + 1, (p : Int) + 1, by omega, rfl, by go_num, (by show _ = _; omega), ?_, ?_, ?_, ?_⟩
                        · show OwnP _ _ _ _ _ _ _ _
                          exact (((((R0.out.set1 (i := j) (by omega) _).far (by intro x hx; cases hx; simp <;> omega) _).far (by intro x hx; cases hx; simp <;> omega) _).congr (cK_set E.out (by simp only [en3, Option.getD_some] <;> congr 1 <;> omega))))
                        · show OwnP _ _ _ _ _ _ _ _
                          exact (((((R1.out.far (by intro x hx; cases hx; simp <;> omega) _).set1 (i := j) (by omega) _).far (by intro x hx; cases hx; simp <;> omega) _).congr (cK_set E.out (by simp only [en3] <;> congr 1 <;> omega))))
                        · show OwnP _ _ _ _ _ _ _ _
                          exact (((((R2.out.far (by intro x hx; cases hx; simp <;> omega) _).far (by intro x hx; cases hx; simp <;> omega) _).set1 (i := j) (by omega) _).congr (cK_set E.out rfl)))
                        · exact ((hbw.setCell (by simp) _).setCell (by simp <;> omega) _).setCell (by simp <;> omega) _
                    · by_cases hless : s + q1 < b1
                      · have E := Lib.hid (show ∀ k, stt c (j + 1) (p + 1 + 1) k = if k = j + 1 then some (q1 + s, (p + 1)) else stt c (j + 1) (p + 1) k from stt_set (by rw [HU.out]; exact upd_less (HT.out) hCs (by omega)))
                        clear hCs
                        go_wp2_with fail
                        ((with_reducible refine (validLine_s _ _ _ _ _ xs _ HN.out hm ?_).mono ?_); (exact HROW.out); rintro e w5 ⟨rfl, hb5⟩)
                        rw [HLV.out]
                        go_wp2_with fail
                        ((with_reducible refine (lineCost_s _ _ _ (p + 1) j _ _ _ xs _ HOK.out HN.out HNF.out HFA.out hml hlt ?_ HD.out.1 HD.out.2).mono ?_); (exact HROW.out.then_ hb5); rintro e w6 ⟨rfl, hb6⟩)
                        have hB6 := below_then (Nat.le_refl _) hb5 hb6
                        rw [HCV.out, HCO.out]
                        obtain ⟨r0, r1, r2, hbw, f0, f1, f2⟩ := HP.out _ hB6
                        simp only [en3, Option.getD_some, Option.isSome_some] at f0 f1 f2
                        have gl0 := r0.lt
                        have gl1 := r1.lt
                        have gl2 := r2.lt
                        have fr0 := r0.frozen j
                        have fr1 := r1.frozen j
                        have fr2 := r2.frozen j
                        have e1 := (r0.cell1 (i := p) (by omega))
                        rw [cK_lt (by omega), HT.out] at e1
                        simp only [en3, Option.getD_some] at e1
                        have R0 := Lib.hid r0
                        have R1 := Lib.hid r1
                        have R2 := Lib.hid r2
                        clear r0 r1 r2
                        go_wp2_with fail
                        go_roundg (j + 1 - (p + 1 + 1))
                        case measure => have := HK2.out; omega
                        case rel =>
                          refine ⟨p + 1 + 1, (p : Int) + 1, by omega, rfl, by go_num, (by show _ = _; omega), ?_, ?_, ?_, ?_⟩
                          · show OwnP _ _ _ _ _ _ _ _
                            exact (((((R0.out.set1 (i := j) (by omega) _).far (by intro x hx; cases hx; simp <;> omega) _).far (by intro x hx; cases hx; simp <;> omega) _).congr (cK_set E.out (by simp only [en3, Option.getD_some] <;> congr 1 <;> omega))))
                          · show OwnP _ _ _ _ _ _ _ _
                            exact (((((R1.out.far (by intro x hx; cases hx; simp <;> omega) _).set1 (i := j) (by omega) _).far (by intro x hx; cases hx; simp <;> omega) _).congr (cK_set E.out (by simp only [en3] <;> congr 1 <;> omega))))
                          · show OwnP _ _ _ _ _ _ _ _
                            exact (((((R2.out.far (by intro x hx; cases hx; simp <;> omega) _).far (by intro x hx; cases hx; simp <;> omega) _).set1 (i := j) (by omega) _).congr (cK_set E.out rfl)))
                          · exact ((hbw.setCell (by simp) _).setCell (by simp <;> omega) _).setCell (by simp <;> omega) _
                      · have E := Lib.hid (show stt c (j + 1) (p + 1 + 1) = stt c (j + 1) (p + 1) from stt_skip (by rw [HU.out]; exact upd_keep (HT.out) hCs (by omega)))
                        clear hCs
                        go_wp2_with fail
                        ((with_reducible refine (validLine_s _ _ _ _ _ xs _ HN.out hm ?_).mono ?_); (exact HROW.out); rintro e w5 ⟨rfl, hb5⟩)
                        rw [HLV.out]
                        go_wp2_with fail
                        ((with_reducible refine (lineCost_s _ _ _ (p + 1) j _ _ _ xs _ HOK.out HN.out HNF.out HFA.out hml hlt ?_ HD.out.1 HD.out.2).mono ?_); (exact HROW.out.then_ hb5); rintro e w6 ⟨rfl, hb6⟩)
                        have hB6 := below_then (Nat.le_refl _) hb5 hb6
                        rw [HCV.out, HCO.out]
                        obtain ⟨r0, r1, r2, hbw, f0, f1, f2⟩ := HP.out _ hB6
                        simp only [en3, Option.getD_some, Option.isSome_some] at f0 f1 f2
                        have gl0 := r0.lt
                        have gl1 := r1.lt
                        have gl2 := r2.lt
                        have fr0 := r0.frozen j
                        have fr1 := r1.frozen j
                        have fr2 := r2.frozen j
                        have e1 := (r0.cell1 (i := p) (by omega))
                        rw [cK_lt (by omega), HT.out] at e1
                        simp only [en3, Option.getD_some] at e1
                        have R0 := Lib.hid r0
                        have R1 := Lib.hid r1
                        have R2 := Lib.hid r2
                        clear r0 r1 r2
                        go_wp2_with fail
                        go_roundg (j + 1 - (p + 1 + 1))
                        case measure => have := HK2.out; omega
                        case rel => exact ⟨p + 1 + 1, (p : Int) + 1, by omega, rfl, by go_num, (by show _ = _; omega), (by show OwnP _ _ _ _ _ _ _ _; rw [cK_skip E.out]; exact R0.out), (by show OwnP _ _ _ _ _ _ _ _; rw [cK_skip E.out]; exact R1.out), (by show OwnP _ _ _ _ _ _ _ _; rw [cK_skip E.out]; exact R2.out), hbw⟩
          · obtain rfl : m = j + 1 := by omega
            obtain rfl : F = (j : Int) := by have := hF.out; omega
            have N0 := Lib.hid (cK_next (c := c) (q := 0) (Nat.succ_pos j))
            have N1 := Lib.hid (cK_next (c := c) (q := 1) (Nat.succ_pos j))
            have N2 := Lib.hid (cK_next (c := c) (q := 2) (Nat.succ_pos j))
            go_wp2_with fail
            go_roundg (n - (j + 1))
            case measure => have := HK.out; omega
            case rel => exact ⟨j + 1, by omega, rfl, by go_num, (by show OwnP _ _ _ _ _ _ _ _; rw [← N0.out]; exact ia.out), (by show OwnP _ _ _ _ _ _ _ _; rw [← N1.out]; exact ib.out), (by show OwnP _ _ _ _ _ _ _ _; rw [← N2.out]; exact ic.out), hbi⟩
    · obtain rfl : j = n := by omega
      go_wp2_with fail
      (first | go_returns | (refine bodyPost_ret (by simp [results, Try.results68, go_sem, *]; try rfl) rfl ?_))
      exact ⟨rfl, oa.out.congr fun x z hx _ => cK_lt (by omega), ob.out.congr fun x z hx _ => cK_lt (by omega), oc.out.congr fun x z hx _ => cK_lt (by omega), hbel⟩
end Go.Proofs.Ytkmipgekmbngcaa
