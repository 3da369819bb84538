/- BestBreaks of the program returns the cheapest way through the stops. Conditions: the slice reads as the list. -/
import Derived.Test.YtkmipgekmbngcaaMSb8
import Derived.Test.YtkmipgekmbngcaaCheckBreaks
import Derived.Test.YtkmipgekmbngcaaBestPath
namespace Go.Proofs.Ytkmipgekmbngcaa
open Go.RowKit Go.Shelf

theorem optV_cost {xs : List It} {d tol f t : Int} {a u : Nat} (hf : f = (a : Int) - 1) (ht : t = (u : Int)) (hl : lnOk xs f t = true) : optV (lc xs d tol f t) = .tuple #[.int .i64 (costV xs a u d tol), .bool (costOk xs a u d tol)] := by
  rw [lc_at hf ht hl, optV]
  rcases hq : costOk xs a u d tol with _ | _
  · rw [show costV xs a u d tol = 0 by rw [costV, hq]; rfl]; rfl
  · rfl

set_option maxRecDepth 100000 in
set_option maxHeartbeats 1000000 in
theorem bestFn_i (g1 g2 g3 : Nat) (A : Option Addr) (n cap : Nat) (xs : List It) (d tol f t : Int) (w : World) (h1 : Blk w g1 23 #[.slice A n cap]) (h2 : Blk w g2 3 #[.int .i64 d]) (h3 : Blk w g3 3 #[.int .i64 tol])
    (hok : itemsOk xs = true) (hn : xs.length = n) (hcap : n ≤ cap ∧ cap ≤ maxLen) (hd : 1 ≤ d ∧ d ≤ 10000) (hr : Row w w.heap.size 6 A n (itc xs)) :
    Calls Try.prog 59 #[.int .i64 f, .int .i64 t, .pointer (some ⟨g1, 0, none⟩), .pointer (some ⟨g2, 0, none⟩), .pointer (some ⟨g3, 0, none⟩)] w fun e w' => e = .returned (optV (lc xs d tol f t)) ∧ Below w.heap.size w w' := by
  have h60 := (itemsOk_len hok hn).2
  have H1 := Lib.hid h1
  have H2 := Lib.hid h2
  have H3 := Lib.hid h3
  have HOK := Lib.hid hok
  have HN := Lib.hid hn
  obtain ⟨d0, d1⟩ := hd
  have plt := h1.lt
  have pc0 := h1.cell 0; have pf0 := h1.frozen 0
  simp only [List.getElem?_toArray, List.getElem?_cons_zero] at pc0
  rcases hl : lnOk xs f t with _ | _
  · have HE := Lib.hid (lc_line (d := d) (tol := tol) hl)
    have HL := Lib.hid hl
    clear hl h1 h2 h3 hok hn
    go_enter Try.func59, Try.ntmps59
    go_wp2_with fail
    ((with_reducible refine (isLine_i _ _ _ _ _ xs _ HN.out h60 hcap ?_).mono ?_); (exact hr); rintro e w1 ⟨rfl, hb1⟩)
    rw [HL.out]
    go_wp2_with fail
    (first | go_returns | (refine bodyPost_ret (by simp [results, Try.results59, go_sem, *]; try rfl) rfl ?_))
    exact ⟨by rw [HE.out]; rfl, hb1⟩
  obtain ⟨a, u, ef, et, hau, hun, _⟩ := ln_iff hn hl
  have HE := Lib.hid (optV_cost (d := d) (tol := tol) ef et hl)
  have HL := Lib.hid hl
  have HFA := Lib.hid (show f + 1 = (a : Int) by omega)
  clear hl h1 h2 h3 hok hn ef
  subst et
  go_enter Try.func59, Try.ntmps59
  go_wp2_with fail
  ((with_reducible refine (isLine_i _ _ _ _ _ xs _ HN.out h60 hcap ?_).mono ?_); (exact hr); rintro e w1 ⟨rfl, hb1⟩)
  rw [HL.out]
  have k1 := H1.out.then_ hb1
  have k2 := H2.out.then_ hb1
  have k3 := H3.out.then_ hb1
  clear plt pc0 pf0
  have plt := k1.lt
  have pc0 := k1.cell 0; have pf0 := k1.frozen 0
  simp only [List.getElem?_toArray, List.getElem?_cons_zero] at pc0
  have qlt := k2.lt
  have qc0 := k2.cell 0; have qf0 := k2.frozen 0
  simp only [List.getElem?_toArray, List.getElem?_cons_zero] at qc0
  have rlt := k3.lt
  have rc0 := k3.cell 0; have rf0 := k3.frozen 0
  simp only [List.getElem?_toArray, List.getElem?_cons_zero] at rc0
  have hr1 := hr.then_ hb1
  go_wp2_with fail
  ((with_reducible refine (lineCost_i _ _ _ a u _ _ _ xs _ HOK.out HN.out hcap HFA.out hau hun ?_ d0 d1).mono ?_); (exact hr1); rintro e w3 ⟨rfl, hb3⟩)
  go_wp2_with fail
  (first | go_returns | (refine bodyPost_ret (by simp [results, Try.results59, go_sem, *]; try rfl) rfl ?_))
  exact ⟨by rw [HE.out]; rfl, below_then (Nat.le_refl _) hb1 hb3⟩

/-- The cost of a step from stop to stop. -/
def stC (xs : List It) (d tol : Int) (k i : Nat) : Option Int := lc xs d tol ((stps xs).getD k default) ((stps xs).getD i default)
def bbV (xs : List It) (d tol : Int) : List Int × Int × Bool := if itemsOk xs && widthOk d && inR tol 0 10000 then pathV (stC xs d tol) (stps xs) (brksV xs).length else ([], 0, false)
theorem stps_len (xs : List It) : (stps xs).length = (brksV xs).length + 1 := by simp [stps]

set_option maxRecDepth 100000 in
set_option maxHeartbeats 4000000 in
theorem bestBreaks_i (A : Option Addr) (n cap : Nat) (d tol : Int) (xs : List It) (w : World) (hn : xs.length = n) (hm : n ≤ maxLen) (hcap : n ≤ cap ∧ cap ≤ maxLen) (hr : Row w w.heap.size 6 A n (itc xs)) :
    Calls Try.prog 20 #[.slice A n cap, .int .i64 d, .int .i64 tol] w (PathOut w (bbV xs d tol)) := by
  have HN := Lib.hid hn
  have HR := Lib.hid hr
  have eg : ∀ args w, (callFunc 59 args).run Try.prog w = .ok (.enter 59 args) w := enters_of Try.func59 (by kernel_rfl) rfl
  have EG := Lib.hid eg
  obtain ⟨W0, hW0⟩ : ∃ W0, ((w.alloc (.cells #[.slice A n cap] 23)).alloc (.cells #[.int .i64 d] 3)).alloc (.cells #[.int .i64 tol] 3) = W0 := ⟨_, rfl⟩
  have g1 : Blk W0 w.heap.size 23 #[.slice A n cap] := by rw [← hW0]; exact ((Blk.new w _ _).alloc _).alloc _
  have g2 : Blk W0 (w.heap.size + 1) 3 #[.int .i64 d] := by rw [← hW0]; exact (Blk.new_at _ _ _ _ (by simp)).alloc _
  have g3 : Blk W0 (w.heap.size + 1 + 1) 3 #[.int .i64 tol] := by rw [← hW0]; exact Blk.new_at _ _ _ _ (by simp)
  have hB0 : Below w.heap.size w W0 := by rw [← hW0]; exact (((Below.refl _ _).alloc (Nat.le_refl _) _).alloc (by simp) _).alloc (by simp; omega) _
  have hr0 : Row W0 W0.heap.size 6 A n (itc xs) := (hr.below hB0).more hB0.size
  have G1 := Lib.hid g1
  have G2 := Lib.hid g2
  have G3 := Lib.hid g3
  have HR0 := Lib.hid hr0
  clear eg hr hn hr0
  rcases hv : (itemsOk xs && widthOk d && inR tol 0 10000) with _ | _
  · have HE := Lib.hid (show bbV xs d tol = ([], 0, false) by rw [bbV, hv]; rfl)
    have HV := Lib.hid hv
    have plt := g1.lt
    have pc0 := g1.cell 0; have pf0 := g1.frozen 0
    simp only [List.getElem?_toArray, List.getElem?_cons_zero] at pc0
    have qlt := g2.lt
    have qc0 := g2.cell 0; have qf0 := g2.frozen 0
    simp only [List.getElem?_toArray, List.getElem?_cons_zero] at qc0
    have rlt := g3.lt
    have rc0 := g3.cell 0; have rf0 := g3.frozen 0
    simp only [List.getElem?_toArray, List.getElem?_cons_zero] at rc0
    clear hv g1 g2 g3
    go_enter Try.func20, Try.ntmps20
    go_wp2_with fail
    ((with_reducible refine (validBreaking_i _ _ _ _ _ xs _ HN.out hm ?_).mono ?_); (exact HR0.out); rintro e w1 ⟨rfl, hb1⟩)
    rw [HV.out]
    go_wp2_with fail
    (first | go_returns | (refine bodyPost_ret (by simp [results, Try.results20, go_sem, *]; try rfl) rfl ?_))
    rw [HE.out]
    exact ⟨none, 0, rfl, ownI_none _ _, below_then (Nat.le_refl _) hB0 hb1⟩
  have HE := Lib.hid (show bbV xs d tol = pathV (stC xs d tol) (stps xs) (brksV xs).length by rw [bbV, hv]; rfl)
  have HV := Lib.hid hv
  rw [Bool.and_eq_true, Bool.and_eq_true] at hv
  obtain ⟨⟨hv1, hv2⟩, _⟩ := hv
  have hd := inR_iff.1 hv2
  have h60 := (itemsOk_len hv1 HN.out).2
  have HV1 := Lib.hid hv1
  obtain ⟨nb, hnb⟩ : ∃ nb, (brksV xs).length = nb := ⟨_, rfl⟩
  have hnb60 : nb ≤ 60 := by have := brksV_len xs; have := HN.out; omega
  have hsl : (stps xs).length = nb + 1 := by rw [stps_len, hnb]
  rw [hnb] at HE
  have HSL := Lib.hid hsl
  have plt := g1.lt
  have pc0 := g1.cell 0; have pf0 := g1.frozen 0
  simp only [List.getElem?_toArray, List.getElem?_cons_zero] at pc0
  have qlt := g2.lt
  have qc0 := g2.cell 0; have qf0 := g2.frozen 0
  simp only [List.getElem?_toArray, List.getElem?_cons_zero] at qc0
  have rlt := g3.lt
  have rc0 := g3.cell 0; have rf0 := g3.frozen 0
  simp only [List.getElem?_toArray, List.getElem?_cons_zero] at rc0
  clear hv1 hv2 g1 g2 g3 hnb hsl
  go_enter Try.func20, Try.ntmps20
  go_wp2_with fail
  ((with_reducible refine (validBreaking_i _ _ _ _ _ xs _ HN.out hm ?_).mono ?_); (exact HR0.out); rintro e w1 ⟨rfl, hb1⟩)
  rw [HV.out]
  have k1 := G1.out.then_ hb1
  have hB1 := below_then (Nat.le_refl _) hB0 hb1
  clear plt pc0 pf0 qlt qc0 qf0 rlt rc0 rf0
  have plt := k1.lt
  have pc0 := k1.cell 0; have pf0 := k1.frozen 0
  simp only [List.getElem?_toArray, List.getElem?_cons_zero] at pc0
  go_wp2_with fail
  ((with_reducible refine (breakStops_i _ _ _ xs _ HN.out h60 ?_).mono ?_); (exact HR0.out.then_ hb1); rintro e w2 ⟨D, dd, rfl, hst, hb2⟩)
  have hB2 := below_then (Nat.le_refl _) hB1 hb2
  rw [HSL.out] at hst ⊢
  have HST := Lib.hid hst
  clear hst
  go_wp2_with fail
  ((with_reducible refine (bestPath_any 59 #[.pointer (some ⟨w.heap.size, 0, none⟩), .pointer (some ⟨w.heap.size + 1, 0, none⟩), .pointer (some ⟨w.heap.size + 1 + 1, 0, none⟩)] D (nb + 1) nb dd (stps xs) (stC xs d tol) 20000000000 _ EG.out HSL.out rfl (by omega) HST.out.row (by omega) (by omega) ?_ ?_ ?_).mono ?_); rotate_left 3; rintro e w3 ⟨A3, d3, rfl, hown3, hb3⟩)
  · go_wp2_with fail
    (first | go_returns | (refine bodyPost_ret (by simp [results, Try.results20, go_sem, *]; try rfl) rfl ?_))
    rw [HE.out]
    exact ⟨A3, d3, rfl, hown3.mono hB2.size, below_then (Nat.le_refl _) hB2 hb3⟩
  · intro i v k hi ht
    have h1 := Dp.tbl_bound (M := 200000000) (by omega) (c := stC xs d tol) (fun k i s _ h => by
      have := lc_some HV1.out HN.out hd.1 hd.2 h
      omega) i v k ht
    have h2 : (i : Int) * 200000000 ≤ 60 * 200000000 := Int.mul_le_mul_of_nonneg_right (by omega) (by omega)
    omega
  · intro k i s _ _ h
    have := lc_some HV1.out HN.out hd.1 hd.2 h
    omega
  · intro k i W _ _ hW
    exact bestFn_i _ _ _ _ _ _ xs d tol _ _ W ((k1.then_ hb2).then_ hW) (((G2.out.then_ hb1).then_ hb2).then_ hW) (((G3.out.then_ hb1).then_ hb2).then_ hW) HV1.out HN.out hcap hd (((HR0.out.then_ hb1).then_ hb2).then_ hW)
end Go.Proofs.Ytkmipgekmbngcaa
