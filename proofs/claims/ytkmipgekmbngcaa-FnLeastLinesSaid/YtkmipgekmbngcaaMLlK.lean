/- The least number of lines, in plain terms: the table of cheapest ways where each step costs one. No program. No condition. -/
import Derived.Test.YtkmipgekmbngcaaMLlJ
namespace Go.Proofs.Ytkmipgekmbngcaa

/-- Each step that can be made costs one. -/
def one_ (c : Nat → Nat → Option Int) (k i : Nat) : Option Int := (c k i).map fun _ => 1
theorem one_none {c : Nat → Nat → Option Int} {k i : Nat} (h : c k i = none) : one_ c k i = none := by rw [one_, h]; rfl
theorem one_some {c : Nat → Nat → Option Int} {k i : Nat} {s : Int} (h : c k i = some s) : one_ c k i = some 1 := by rw [one_, h]; rfl
theorem one_of {c : Nat → Nat → Option Int} {k i : Nat} {s : Int} (h : one_ c k i = some s) : s = 1 ∧ ∃ t, c k i = some t := by
  rcases hc : c k i with _ | t
  · rw [one_none hc] at h; cases h
  · rw [one_some hc] at h; cases h; exact ⟨rfl, t, rfl⟩
theorem one_b {c : Nat → Nat → Option Int} : ∀ (i : Nat) (v : Int) (k : Nat), Dp.tbl (one_ c) i = some (v, k) → 0 ≤ v ∧ v ≤ (i : Int) ∧ (0 < i → 1 ≤ v) := by
  intro i
  induction i using Nat.strongRecOn with
  | _ i ih =>
    intro v k h
    rcases Nat.eq_zero_or_pos i with rfl | hi
    · rw [Dp.tbl_zero] at h; cases h; omega
    · obtain ⟨hk, u, k', s, h1, h2, rfl⟩ := Dp.tbl_some hi h
      obtain ⟨rfl, _⟩ := one_of h2
      have := ih k hk u k' h1
      omega
/-- The same stops can be reached. -/
theorem one_same {c : Nat → Nat → Option Int} : ∀ i, (Dp.tbl (one_ c) i).isSome = (Dp.tbl c i).isSome := by
  intro i
  induction i using Nat.strongRecOn with
  | _ i ih =>
    rcases Nat.eq_zero_or_pos i with rfl | hi
    · rw [Dp.tbl_zero, Dp.tbl_zero]
    · rcases h1 : Dp.tbl (one_ c) i with _ | ⟨v, k⟩
      · rcases h2 : Dp.tbl c i with _ | ⟨v', k'⟩
        · rfl
        · obtain ⟨hk, u, k2, s, e1, e2, _⟩ := Dp.tbl_some hi h2
          have e3 := ih k' hk
          rw [e1] at e3
          rcases e4 : Dp.tbl (one_ c) k' with _ | ⟨u', k3⟩
          · rw [e4] at e3; cases e3
          · obtain ⟨v2, f, e5, _⟩ := Dp.tbl_le hk e4 (one_some e2)
            rw [h1] at e5; cases e5
      · obtain ⟨hk, u, k2, s, e1, e2, _⟩ := Dp.tbl_some hi h1
        obtain ⟨_, t, e2'⟩ := one_of e2
        have e3 := ih k hk
        rw [e1] at e3
        rcases e4 : Dp.tbl c k with _ | ⟨u', k3⟩
        · rw [e4] at e3; cases e3
        · obtain ⟨v2, f, e5, _⟩ := Dp.tbl_le hk e4 e2'
          rw [e5]; rfl
def llN (xs : List It) (d tol : Int) (n : Nat) : Int := ((Dp.tbl (one_ (ndC xs d tol)) n).getD (0, 0)).1
def llV (xs : List It) (d tol : Int) : Int := if itemsOk xs && widthOk d && inR tol 0 10000 then llN xs d tol xs.length else 0
theorem llN_b (xs : List It) (d tol : Int) (n : Nat) : 0 ≤ llN xs d tol n ∧ llN xs d tol n ≤ (n : Int) := by
  unfold llN
  rcases h : Dp.tbl (one_ (ndC xs d tol)) n with _ | ⟨v, k⟩
  · exact ⟨Int.le_refl _, by show (0 : Int) ≤ _; omega⟩
  · have := one_b _ _ _ h
    exact ⟨this.1, this.2.1⟩
/-- The least number of lines in terms of the stops. -/
theorem llN_stops {xs : List It} {n : Nat} {d tol : Int} (hok : itemsOk xs = true) (hn : xs.length = n) : (pathV (one_ (stC xs d tol)) (stps xs) (brksV xs).length).2.1 = llN xs d tol n := by
  have hp := last_brk hok hn
  have hst := stps_eq hok hn
  have hlen : (Dp.sts (ndP xs) (n + 1)).length = Dp.rk (ndP xs) n + 1 := Dp.rk_yes hp
  have hbl : (brksV xs).length = Dp.rk (ndP xs) n := by
    have h1 := stps_len xs
    rw [hst, List.length_map, hlen] at h1
    omega
  have hget : ∀ k, k ≤ Dp.rk (ndP xs) n → (stps xs).getD k default = (((Dp.sts (ndP xs) (n + 1)).getD k 0 : Nat) : Int) - 1 := by
    intro k hk
    rw [hst, List.getD_eq_getElem?_getD, List.getD_eq_getElem?_getD, List.getElem?_map, List.getElem?_eq_getElem (by omega)]
    rfl
  have hcc : ∀ k i, k < i → i ≤ Dp.rk (ndP xs) n → one_ (stC xs d tol) k i = (fun k i => one_ (ndC xs d tol) ((Dp.sts (ndP xs) (n + 1)).getD k 0) ((Dp.sts (ndP xs) (n + 1)).getD i 0)) k i := by
    intro k i hk hi
    show Option.map _ (lc _ _ _ _ _) = Option.map _ (lc _ _ _ _ _)
    rw [hget k (by omega), hget i hi]
  have hT := Dp.tbl_stops (n + 1) (fun k i h => one_none (ndC_no (xs := xs) (d := d) (tol := tol) k i h)) (ndP_zero xs) n (by omega) hp
  have hTC := tbl_congr hcc _ (Nat.le_refl _)
  rw [pathV, hbl, hTC, llN, hT]
  rcases Dp.tbl (fun k i => one_ (ndC xs d tol) ((Dp.sts (ndP xs) (n + 1)).getD k 0) ((Dp.sts (ndP xs) (n + 1)).getD i 0)) (Dp.rk (ndP xs) n) with _ | ⟨v, k⟩ <;> rfl
theorem llV_no {xs : List It} {d tol : Int} (h : (itemsOk xs && widthOk d && inR tol 0 10000) = false) : llV xs d tol = 0 := by rw [llV, h]; rfl
theorem llV_yes {xs : List It} {d tol : Int} {n : Nat} (hn : xs.length = n) (h : (itemsOk xs && widthOk d && inR tol 0 10000) = true) : llV xs d tol = llN xs d tol n := by rw [llV, h, hn]; rfl
/-- There are lines exactly if there is a cheapest way. -/
theorem ll_best {xs : List It} {d tol : Int} : decide (0 < llV xs d tol) = (bbV xs d tol).2.2 := by
  rcases hv : (itemsOk xs && widthOk d && inR tol 0 10000) with _ | _
  · rw [llV_no hv, bbV, hv]; rfl
  · rw [llV_yes rfl hv]
    simp only [Bool.and_eq_true] at hv
    have hlen := (itemsOk_len hv.1.1 rfl).1
    rw [bbV_nodes hv.1.1 rfl hv.1.2 hv.2]
    have h1 := one_same (c := ndC xs d tol) xs.length
    unfold llN
    rcases h2 : Dp.tbl (one_ (ndC xs d tol)) xs.length with _ | ⟨v, k⟩
    · rw [h2] at h1
      rcases h3 : Dp.tbl (ndC xs d tol) xs.length with _ | ⟨v', k'⟩
      · rfl
      · rw [h3] at h1; cases h1
    · rw [h2] at h1
      rcases h3 : Dp.tbl (ndC xs d tol) xs.length with _ | ⟨v', k'⟩
      · rw [h3] at h1; cases h1
      · have := (one_b _ _ _ h2).2.2 (by omega)
        exact decide_eq_true this
/-- No breaks that are accepted have fewer lines. -/
theorem ll_sum {xs : List It} {wd : Nat → Int} {d tol : Int} {bs : List Int} (hd : ∀ k, wd k = d) : ∀ (j : Nat) (s : Int), sumJ xs wd tol bs j = some s → -1 ≤ frm bs j ∧ ∃ v k, Dp.tbl (one_ (ndC xs d tol)) (frm bs j + 1).toNat = some (v, k) ∧ v ≤ (j : Int) := by
  intro j
  induction j with
  | zero => intro s _; exact ⟨by simp [frm], 0, 0, Dp.tbl_zero _, by omega⟩
  | succ j ih =>
    intro s h
    rcases hs : sumJ xs wd tol bs j with _ | s'
    · rw [sumJ, hs] at h; cases h
    · obtain ⟨h0, v, k, h1, h2⟩ := ih s' hs
      rcases hc : lc xs (wd j) tol (frm bs j) (bs.getD j default) with _ | c
      · rw [sumJ_no1 hs hc] at h; cases h
      · rw [hd] at hc
        have hlt : frm bs j < bs.getD j default := by
          rcases hl : lnOk xs (frm bs j) (bs.getD j default) with _ | _
          · rw [lc_line hl] at hc; cases hc
          · obtain ⟨a, u, hf, ht, h3, h4, _⟩ := ln_iff rfl hl
            omega
        rw [frm_succ]
        have hnd : ndC xs d tol (frm bs j + 1).toNat (bs.getD j default + 1).toNat = some c := by
          rw [ndC, show (((frm bs j + 1).toNat : Nat) : Int) - 1 = frm bs j by omega, show (((bs.getD j default + 1).toNat : Nat) : Int) - 1 = bs.getD j default by omega]
          exact hc
        obtain ⟨v2, f, e5, e6⟩ := Dp.tbl_le (by omega) h1 (one_some hnd)
        exact ⟨by omega, v2, f, e5, by omega⟩
theorem ll_chk {xs : List It} {d tol : Int} {bs : List Int} {q : Nat} {V : Int} (hq : bs.length = q) (h : chkV xs [d] tol bs = some V) (hd : ∀ k, wof [d] k = d) (hw : widthOk d = true) : llV xs d tol ≤ (q : Int) := by
  unfold chkV at h
  split at h
  · rename_i hv
    have hv' : (itemsOk xs && widthOk d && inR tol 0 10000) = true := by
      simp only [Bool.and_eq_true] at hv ⊢
      exact ⟨⟨hv.1.1, hw⟩, hv.2⟩
    rw [llV_yes rfl hv']
    unfold chkP at h
    split at h
    · cases h
    · split at h
      · rename_i hl
        obtain ⟨h0, v, k, h1, h2⟩ := ll_sum hd _ _ h
        rw [hl, show ((xs.length : Int) - 1 + 1).toNat = xs.length by omega] at h1
        unfold llN
        rw [h1]
        show v ≤ _
        omega
      · cases h
  · cases h
end Go.Proofs.Ytkmipgekmbngcaa
/- LeastLines of the program returns the least number of lines. Conditions: the slice reads as the list. -/
namespace Go.Proofs.Ytkmipgekmbngcaa
open Go.RowKit Go.Shelf

theorem optV_one {xs : List It} {d tol f t : Int} {a u : Nat} (hf : f = (a : Int) - 1) (ht : t = (u : Int)) (hl : lnOk xs f t = true) : ((lc xs d tol f t).map fun _ => (1 : Int)) = if costOk xs a u d tol then some 1 else none := by
  rw [lc_at hf ht hl]
  rcases costOk xs a u d tol with _ | _ <;> rfl
/-- What the function value tells: the cost 1 for a line that may be set. -/
def OneOut (r : Option Int) (w : World) (e : Ending) (w' : World) : Prop :=
  ∃ (x : Int) , e = .returned (.tuple #[.int .i64 x, .bool r.isSome]) ∧ (r.isSome = true → x = 1) ∧ Below w.heap.size w w'

set_option maxRecDepth 100000 in
set_option maxHeartbeats 1000000 in
theorem leastFn_i (g1 g2 g3 : Nat) (A : Option Addr) (n cap : Nat) (xs : List It) (d tol f t : Int) (w : World) (h1 : Blk w g1 23 #[.slice A n cap]) (h2 : Blk w g2 3 #[.int .i64 d]) (h3 : Blk w g3 3 #[.int .i64 tol])
    (hok : itemsOk xs = true) (hn : xs.length = n) (hcap : n ≤ cap ∧ cap ≤ maxLen) (hd : 1 ≤ d ∧ d ≤ 10000) (hr : Row w w.heap.size 6 A n (itc xs)) :
    Calls Try.prog 57 #[.int .i64 f, .int .i64 t, .pointer (some ⟨g1, 0, none⟩), .pointer (some ⟨g2, 0, none⟩), .pointer (some ⟨g3, 0, none⟩)] w (OneOut ((lc xs d tol f t).map fun _ => 1) w) := by
  have h60 := (itemsOk_len hok hn).2
  have H1 := Lib.hid h1
  have H2 := Lib.hid h2
  have H3 := Lib.hid h3
  have HOK := Lib.hid hok
  have HN := Lib.hid hn
  obtain ⟨d0, d1⟩ := hd
  have plt := h1.lt
  have pc0 := h1.cell 0; have pf0 := h1.frozen 0
  simp only [List.getElem?_toArray, List.getElem?_cons_zero, List.getElem?_cons_succ] at pc0
  rcases hl : lnOk xs f t with _ | _
  · have HE := Lib.hid (lc_line (d := d) (tol := tol) hl)
    have HL := Lib.hid hl
    clear hl h1 h2 h3 hok hn
    go_enter Try.func57, Try.ntmps57
    go_wp2_with fail
    ((with_reducible refine (isLine_i _ _ _ _ _ xs _ HN.out h60 hcap ?_).mono ?_); (exact hr); rintro e w1 ⟨rfl, hb1⟩)
    rw [HL.out]
    go_wp2_with fail
    (first | go_returns | (refine bodyPost_ret (by simp [results, Try.results57, go_sem, *]; try rfl) rfl ?_))
    rw [HE.out]
    exact ⟨0, rfl, (fun h => by cases h), hb1⟩
  obtain ⟨a, u, ef, et, hau, hun, _⟩ := ln_iff hn hl
  have HE := Lib.hid (optV_one (d := d) (tol := tol) ef et hl)
  have HL := Lib.hid hl
  have HFA := Lib.hid (show f + 1 = (a : Int) by omega)
  clear hl h1 h2 h3 hok hn ef
  subst et
  obtain ⟨co, hco⟩ : ∃ co, costOk xs a u d tol = co := ⟨_, rfl⟩
  rw [hco] at HE
  have HCO := Lib.hid hco
  clear hco
  go_enter Try.func57, Try.ntmps57
  go_wp2_with fail
  ((with_reducible refine (isLine_i _ _ _ _ _ xs _ HN.out h60 hcap ?_).mono ?_); (exact hr); rintro e w1 ⟨rfl, hb1⟩)
  rw [HL.out]
  have k1 := H1.out.then_ hb1
  have k2 := H2.out.then_ hb1
  have k3 := H3.out.then_ hb1
  clear plt pc0 pf0
  have plt := k1.lt
  have pc0 := k1.cell 0; have pf0 := k1.frozen 0
  simp only [List.getElem?_toArray, List.getElem?_cons_zero, List.getElem?_cons_succ] at pc0
  have qlt := k2.lt
  have qc0 := k2.cell 0; have qf0 := k2.frozen 0
  simp only [List.getElem?_toArray, List.getElem?_cons_zero, List.getElem?_cons_succ] at qc0
  have rlt := k3.lt
  have rc0 := k3.cell 0; have rf0 := k3.frozen 0
  simp only [List.getElem?_toArray, List.getElem?_cons_zero, List.getElem?_cons_succ] at rc0
  have hr1 := hr.then_ hb1
  go_wp2_with fail
  ((with_reducible refine (lineCost_i _ _ _ a u _ _ _ xs _ HOK.out HN.out hcap HFA.out hau hun ?_ d0 d1).mono ?_); (exact hr1); rintro e w3 ⟨rfl, hb3⟩)
  rw [HCO.out]
  go_wp2_with fail
  (first | go_returns | (refine bodyPost_ret (by simp [results, Try.results57, go_sem, *]; try rfl) rfl ?_))
  rw [HE.out]
  rcases co with _ | _
  · exact ⟨1, rfl, (fun h => by cases h), below_then (Nat.le_refl _) hb1 hb3⟩
  · exact ⟨1, rfl, (fun _ => rfl), below_then (Nat.le_refl _) hb1 hb3⟩

set_option maxRecDepth 100000 in
set_option maxHeartbeats 4000000 in
theorem leastLines_i (A : Option Addr) (n cap : Nat) (d tol : Int) (xs : List It) (w : World) (hn : xs.length = n) (hm : n ≤ maxLen) (hcap : n ≤ cap ∧ cap ≤ maxLen) (hr : Row w w.heap.size 6 A n (itc xs)) :
    Calls Try.prog 19 #[.slice A n cap, .int .i64 d, .int .i64 tol] w fun e w' => e = .returned (.int .i64 (llV xs d tol)) ∧ Below w.heap.size w w' := by
  have HN := Lib.hid hn
  have HR := Lib.hid hr
  have eg : ∀ args w, (callFunc 57 args).run Try.prog w = .ok (.enter 57 args) w := enters_of Try.func57 (by kernel_rfl) rfl
  have EG := Lib.hid eg
  obtain ⟨W0, hW0⟩ : ∃ W0, ((w.alloc (.cells #[.slice A n cap] 23)).alloc (.cells #[.int .i64 d] 3)).alloc (.cells #[.int .i64 tol] 3) = W0 := ⟨_, rfl⟩
  have g1 : Blk W0 w.heap.size 23 #[.slice A n cap] := by rw [← hW0]; exact ((Blk.new w _ _).alloc _).alloc _
  have g2 : Blk W0 (w.heap.size + 1) 3 #[.int .i64 d] := by rw [← hW0]; exact (Blk.new_at _ _ _ _ (by simp)).alloc _
  have g3 : Blk W0 (w.heap.size + 1 + 1) 3 #[.int .i64 tol] := by rw [← hW0]; exact Blk.new_at _ _ _ _ (by simp)
  have hB0 : Below w.heap.size w W0 := by rw [← hW0]; exact (((Below.refl _ _).alloc (Nat.le_refl _) _).alloc (by simp) _).alloc (by simp; omega) _
  have hr0 : Row W0 W0.heap.size 6 A n (itc xs) := (hr.below hB0).more hB0.size
  have G1 := Lib.hid g1
  have G2 := Lib.hid g2
  have G3 := Lib.hid g3
  have HR0 := Lib.hid hr0
  clear eg hr hn hr0
  rcases hv : (itemsOk xs && widthOk d && inR tol 0 10000) with _ | _
  · have HE := Lib.hid (show llV xs d tol = 0 from llV_no hv)
    have HV := Lib.hid hv
    rw [HE.out]
    have plt := g1.lt
    have pc0 := g1.cell 0; have pf0 := g1.frozen 0
    simp only [List.getElem?_toArray, List.getElem?_cons_zero, List.getElem?_cons_succ] at pc0
    have qlt := g2.lt
    have qc0 := g2.cell 0; have qf0 := g2.frozen 0
    simp only [List.getElem?_toArray, List.getElem?_cons_zero, List.getElem?_cons_succ] at qc0
    have rlt := g3.lt
    have rc0 := g3.cell 0; have rf0 := g3.frozen 0
    simp only [List.getElem?_toArray, List.getElem?_cons_zero, List.getElem?_cons_succ] at rc0
    clear hv g1 g2 g3
    go_enter Try.func19, Try.ntmps19
    go_wp2_with fail
    ((with_reducible refine (validBreaking_i _ _ _ _ _ xs _ HN.out hm ?_).mono ?_); (exact HR0.out); rintro e w1 ⟨rfl, hb1⟩)
    rw [HV.out]
    go_wp2_with fail
    go_ret
    exact ⟨rfl, below_then (Nat.le_refl _) hB0 hb1⟩
  have HE := Lib.hid (show llV xs d tol = llN xs d tol n from llV_yes HN.out hv)
  have HV := Lib.hid hv
  rw [Bool.and_eq_true, Bool.and_eq_true] at hv
  obtain ⟨⟨hv1, hv2⟩, _⟩ := hv
  have hd := inR_iff.1 hv2
  have h60 := (itemsOk_len hv1 HN.out).2
  have HV1 := Lib.hid hv1
  have HLS := Lib.hid (llN_stops (d := d) (tol := tol) hv1 HN.out)
  obtain ⟨nb, hnb⟩ : ∃ nb, (brksV xs).length = nb := ⟨_, rfl⟩
  have hnb60 : nb ≤ 60 := by have := brksV_len xs; have := HN.out; omega
  have hsl : (stps xs).length = nb + 1 := by rw [stps_len, hnb]
  rw [hnb] at HLS
  obtain ⟨R, hR⟩ : ∃ R, pathV (one_ (stC xs d tol)) (stps xs) nb = R := ⟨_, rfl⟩
  have hR3 : R.2.2 = false → R.2.1 = 0 := by
    rw [← hR, pathV]
    rcases Dp.tbl (one_ (stC xs d tol)) nb with _ | ⟨v, k⟩
    · intro _; rfl
    · intro h; cases h
  have hRL : R.1.length ≤ maxLen := by
    rw [← hR, pathV]
    rcases Dp.tbl (one_ (stC xs d tol)) nb with _ | ⟨v, k⟩
    · exact Nat.zero_le _
    · show (List.map _ _).length ≤ _
      rw [List.length_map]
      have key : ∀ i, (Dp.path (one_ (stC xs d tol)) i).length ≤ i := by
        intro i
        induction i using Nat.strongRecOn with
        | _ i ih =>
          rcases Nat.eq_zero_or_pos i with rfl | hp
          · rw [Dp.path_zero]; exact Nat.zero_le _
          · rcases hs : Dp.tbl (one_ (stC xs d tol)) i with _ | ⟨v, k⟩
            · obtain ⟨j, rfl⟩ : ∃ j, i = j + 1 := ⟨i - 1, by omega⟩
              have : Dp.path (one_ (stC xs d tol)) (j + 1) = [] := by
                show (if j + 1 = 0 then [] else match Dp.tbl (one_ (stC xs d tol)) (j + 1) with | some (_, k) => Dp.pathF (one_ (stC xs d tol)) j k ++ [j + 1] | none => []) = _
                rw [if_neg (by omega), hs]
              rw [this]; exact Nat.zero_le _
            · have hk := (Dp.tbl_some hp hs).1
              have := ih k hk
              rw [Dp.path_pos hp hs, List.length_append, List.length_singleton]
              omega
      have := key nb
      unfold maxLen
      omega
  rw [hR] at HLS
  have HR2 := Lib.hid hR
  obtain ⟨R1, R2, R3⟩ := R
  have HR3 := Lib.hid hR3
  have HSL := Lib.hid hsl
  have plt := g1.lt
  have pc0 := g1.cell 0; have pf0 := g1.frozen 0
  simp only [List.getElem?_toArray, List.getElem?_cons_zero, List.getElem?_cons_succ] at pc0
  have qlt := g2.lt
  have qc0 := g2.cell 0; have qf0 := g2.frozen 0
  simp only [List.getElem?_toArray, List.getElem?_cons_zero, List.getElem?_cons_succ] at qc0
  have rlt := g3.lt
  have rc0 := g3.cell 0; have rf0 := g3.frozen 0
  simp only [List.getElem?_toArray, List.getElem?_cons_zero, List.getElem?_cons_succ] at rc0
  rw [HE.out, ← HLS.out]
  clear hv1 hv2 g1 g2 g3 hnb hsl hR hR3
  go_enter Try.func19, Try.ntmps19
  go_wp2_with fail
  ((with_reducible refine (validBreaking_i _ _ _ _ _ xs _ HN.out hm ?_).mono ?_); (exact HR0.out); rintro e w1 ⟨rfl, hb1⟩)
  rw [HV.out]
  have k1 := G1.out.then_ hb1
  have hB1 := below_then (Nat.le_refl _) hB0 hb1
  clear plt pc0 pf0 qlt qc0 qf0 rlt rc0 rf0
  have plt := k1.lt
  have pc0 := k1.cell 0; have pf0 := k1.frozen 0
  simp only [List.getElem?_toArray, List.getElem?_cons_zero, List.getElem?_cons_succ] at pc0
  go_wp2_with fail
  ((with_reducible refine (breakStops_i _ _ _ xs _ HN.out h60 ?_).mono ?_); (exact HR0.out.then_ hb1); rintro e w2 ⟨D, dd, rfl, hst, hb2⟩)
  have hB2 := below_then (Nat.le_refl _) hB1 hb2
  rw [HSL.out] at hst ⊢
  have HST := Lib.hid hst
  clear hst
  go_wp2_with fail
  ((with_reducible refine (bestPath_gen 57 #[.pointer (some ⟨w.heap.size, 0, none⟩), .pointer (some ⟨w.heap.size + 1, 0, none⟩), .pointer (some ⟨w.heap.size + 1 + 1, 0, none⟩)] D (nb + 1) nb dd (stps xs) (one_ (stC xs d tol)) 1000 _ EG.out HSL.out rfl (by omega) HST.out.row (by omega) (by omega) ?_ ?_ ?_).mono ?_); rotate_left 3; rintro e w3 ⟨A3, d3, rfl, hown3, hb3⟩)
  · rw [HR2.out]
    have hB3 := below_then (Nat.le_refl _) hB2 hb3
    clear hown3
    rcases R3 with _ | _
    · have h0 := HR3.out rfl
      have h0 : R2 = 0 := h0
      subst h0
      go_wp2_with fail
      go_ret
      exact ⟨rfl, hB3⟩
    · go_wp2_with fail
      go_ret
      exact ⟨rfl, hB3⟩
  · intro i v k hi ht
    have := one_b i v k ht
    omega
  · intro k i s _ _ h
    obtain ⟨rfl, _⟩ := one_of h
    omega
  · intro k i W _ _ hW
    refine (leastFn_i _ _ _ _ _ _ xs d tol _ _ W ((k1.then_ hb2).then_ hW) (((G2.out.then_ hb1).then_ hb2).then_ hW) (((G3.out.then_ hb1).then_ hb2).then_ hW) HV1.out HN.out hcap hd (((HR0.out.then_ hb1).then_ hb2).then_ hW)).mono ?_
    rintro e W' ⟨x, rfl, hx, hb⟩
    refine ⟨x, rfl, fun s hs => ?_, hb⟩
    have e1 : ((lc xs d tol ((stps xs).getD k default) ((stps xs).getD i default)).map fun _ => (1 : Int)) = some s := hs
    rw [e1] at hx
    obtain ⟨rfl, _⟩ := one_of hs
    exact hx rfl
end Go.Proofs.Ytkmipgekmbngcaa
/- LeastLines of the reference returns the least number of lines over the nodes of a paragraph. Conditions: the slice reads as the list. -/
namespace Go.Proofs.Ytkmipgekmbngcaa
open Go.RowKit

theorem nd1_line {xs : List It} {d tol F : Int} {m j : Nat} (hF : F = (m : Int) - 1) (h : lnOk xs F (j : Int) = false) : one_ (ndC xs d tol) m (j + 1) = none := one_none (ndC_line hF h)
theorem nd1_no {xs : List It} {d tol F : Int} {m j : Nat} (hF : F = (m : Int) - 1) (h : lnOk xs F (j : Int) = true) (hc : costOk xs m j d tol = false) : one_ (ndC xs d tol) m (j + 1) = none := one_none (by rw [ndC_at hF h, hc]; rfl)
theorem nd1_yes {xs : List It} {d tol F : Int} {m j : Nat} (hF : F = (m : Int) - 1) (h : lnOk xs F (j : Int) = true) (hc : costOk xs m j d tol = true) : one_ (ndC xs d tol) m (j + 1) = some 1 := one_some (s := costV xs m j d tol) (by rw [ndC_at hF h, hc]; rfl)
theorem cK_none {c : Nat → Nat → Option Int} {j m : Nat} (h : ∀ k, c k (j + 1) = none) : cK c (j + 1) m 0 = cK c (j + 1 + 1) 0 0 := by
  rw [← cK_no (q := 0) (Nat.succ_pos j) h]
  funext x z
  unfold cK
  rw [stt_no h m]
theorem best_one {c : Nat → Nat → Option Int} {i m : Nat} {v : Int} {k : Nat} (h : Dp.best (Dp.tbl (one_ c)) (fun k => one_ c k i) m = some (v, k)) : 1 ≤ v := by
  obtain ⟨hk, ⟨q, s, h1, h2, rfl⟩, _⟩ := (Dp.best_spec _ _ _).1 v k h
  obtain ⟨rfl, _⟩ := one_of h2
  have := one_b k q.1 q.2 h1
  omega

set_option maxRecDepth 100000 in
set_option maxHeartbeats 8000000 in
theorem leastLines_s (A : Option Addr) (n cap : Nat) (d tol : Int) (xs : List It) (w : World) (hn : xs.length = n) (hm : n ≤ maxLen) (hr : Row w w.heap.size 6 A n (itc xs)) :
    Calls Try.prog 21 #[.slice A n cap, .int .i64 d, .int .i64 tol] w fun e w' => e = .returned (.int .i64 (llV xs d tol)) ∧ Below w.heap.size w w' := by
  have HN := Lib.hid hn
  have HR := Lib.hid hr
  rcases hok : itemsOk xs with _ | _
  · have E := Lib.hid (show llV xs d tol = 0 from llV_no (by rw [hok]; rfl))
    have HV := Lib.hid hok
    rw [E.out]
    clear hr hok hn
    go_enter Try.func21, Try.ntmps21
    go_wp2_with fail
    ((with_reducible refine (validItems_s _ _ _ xs _ HN.out hm ?_).mono ?_); (exact HR.out); rintro e w1 ⟨rfl, hb⟩)
    rw [HV.out]
    go_wp2_with fail
    go_ret
    exact ⟨rfl, hb⟩
  rcases hwo : widthOk d with _ | _
  · have E := Lib.hid (show llV xs d tol = 0 from llV_no (by rw [hok, hwo]; rfl))
    have HV := Lib.hid hok
    have HW := Lib.hid hwo
    rw [E.out]
    clear hr hok hn hwo
    go_enter Try.func21, Try.ntmps21
    go_wp2_with fail
    ((with_reducible refine (validItems_s _ _ _ xs _ HN.out hm ?_).mono ?_); (exact HR.out); rintro e w1 ⟨rfl, hb⟩)
    rw [HV.out]
    go_wp2_with fail
    ((with_reducible refine (validWidth_any _ _).mono ?_); rintro e w' ⟨rfl, rfl⟩)
    rw [HW.out]
    go_wp2_with fail
    go_ret
    exact ⟨rfl, hb⟩
  rcases hto : inR tol 0 10000 with _ | _
  · have E := Lib.hid (show llV xs d tol = 0 from llV_no (by rw [hok, hwo, hto]; rfl))
    have HV := Lib.hid hok
    have HW := Lib.hid hwo
    have HT := Lib.hid hto
    rw [E.out]
    clear hr hok hn hwo hto
    go_enter Try.func21, Try.ntmps21
    go_wp2_with fail
    ((with_reducible refine (validItems_s _ _ _ xs _ HN.out hm ?_).mono ?_); (exact HR.out); rintro e w1 ⟨rfl, hb⟩)
    rw [HV.out]
    go_wp2_with fail
    ((with_reducible refine (validWidth_any _ _).mono ?_); rintro e w' ⟨rfl, rfl⟩)
    rw [HW.out]
    go_wp2_with fail
    ((with_reducible refine (inRange_any _ _ _ _).mono ?_); rintro e w' ⟨rfl, rfl⟩)
    rw [HT.out]
    go_wp2_with fail
    go_ret
    exact ⟨rfl, hb⟩
  have E := Lib.hid (show llV xs d tol = llN xs d tol n from llV_yes hn (by rw [hok, hwo, hto]; rfl))
  rw [E.out]
  clear E
  obtain ⟨c, hc⟩ : ∃ c, one_ (ndC xs d tol) = c := ⟨_, rfl⟩
  have h60 := itemsOk_len hok hn
  obtain ⟨d0, d1⟩ := inR_iff.1 hwo
  obtain ⟨j0, ji, jz0, jz1, jz2⟩ := info_parts int_info
  have hmk := make_n (P := Try.prog) 24 3 j0 _ Try.underlying24 ji jz0 n (by rw [jz2]; omega) (by omega)
  rw [jz1] at hmk
  have HOK := Lib.hid hok
  have HW := Lib.hid hwo
  have HT := Lib.hid hto
  have HD := Lib.hid (And.intro d0 d1)
  have HC := Lib.hid hc
  have HTB : Hid (∀ i k v, Dp.tbl c i = some (v, k) → 0 ≤ v ∧ v ≤ (i : Int) ∧ (0 < i → 1 ≤ v)) := fun i k v h => by rw [← hc] at h; exact one_b i v k h
  have HBO : Hid (∀ i m v k, Dp.best (Dp.tbl c) (fun k => c k i) m = some (v, k) → 1 ≤ v) := fun i m v k h => by rw [← hc] at h; exact best_one h
  have HLL : Hid (llN xs d tol n = ((Dp.tbl c n).getD (0, 0)).1) := by show _ = _; rw [llN, hc]
  obtain ⟨x0, hx0⟩ : ∃ x, n = x + 1 := ⟨n - 1, by omega⟩
  have HX0 := Lib.hid hx0
  have HDI := Lib.hid (show (n : Int) - 1 = (x0 : Int) by omega)
  have wD : IntKind.i64.wrap ((n : Int) - 1) = (x0 : Int) := by rw [HDI.out]; exact IntWalk.i64_in _ (by omega)
  clear hok hn hr hwo hto hc hx0
  go_enter Try.func21, Try.ntmps21
  go_wp2_with fail
  ((with_reducible refine (validItems_s _ _ _ xs _ HN.out hm ?_).mono ?_); (exact HR.out); rintro e w1 ⟨rfl, hb0⟩)
  rw [HOK.out]
  go_wp2_with fail
  ((with_reducible refine (validWidth_any _ _).mono ?_); rintro e w' ⟨rfl, rfl⟩)
  rw [HW.out]
  go_wp2_with fail
  ((with_reducible refine (inRange_any _ _ _ _).mono ?_); rintro e w' ⟨rfl, rfl⟩)
  rw [HT.out]
  have hs0 := hb0.size
  have a0 : OwnP (w1.alloc (.cells (madeCells #[.int .i64 0] n) 3)) w1.heap.size 3 1 (some ⟨w1.heap.size, 0, none⟩) n n (cK c 1 0 0) :=
    (made1 w1 3 (.int .i64 0) n hm).congr fun k q _ _ => (cK_first c 0 k q).symm
  have HA0 := Lib.hid a0
  have hbW : Below w.heap.size w (w1.alloc (.cells (madeCells #[.int .i64 0] n) 3)) := hb0.alloc hs0 _
  have hRW := Lib.hid (HR.out.then_ hbW)
  clear a0
  go_wp2_with fail
  go_loopg [8] n (fun k jv wr => ∃ j : Nat, j ≤ n ∧ k = n - j ∧ jv = .int .i64 j ∧ Hid (OwnP wr w1.heap.size 3 1 (some ⟨w1.heap.size, 0, none⟩) n n (cK c (j + 1) 0 0)) ∧ Below w.heap.size w wr)
  case atStart => exact ⟨0, Nat.zero_le _, rfl, rfl, HA0.out, hbW⟩
  case round =>
    obtain ⟨j, hjn, hk, rfl, oa, hbel⟩ := hrel
    have HK := Lib.hid hk; clear hk
    obtain ⟨wo, hwo⟩ : ∃ wo : World, wo = wr := ⟨_, rfl⟩
    subst hwo
    have hsz := hbel.size
    by_cases hlt : j < n
    · have hltN : (j : Int) < (n : Int) := by omega
      go_wp2_with fail
      go_loopg [9] (j + 1) (fun kk fv wi => ∃ (m : Nat) (F : Int), m ≤ j + 1 ∧ kk = j + 1 - m ∧ fv = .int .i64 F ∧ Hid (F = (m : Int) - 1) ∧ Hid (OwnP wi w1.heap.size 3 1 (some ⟨w1.heap.size, 0, none⟩) n n (cK c (j + 1) m 0)) ∧ Below w.heap.size w wi)
      case atStart => exact ⟨0, -1, Nat.zero_le _, rfl, rfl, rfl, oa.out, hbel⟩
      case round =>
        obtain ⟨m, F, hmj, hk2, rfl, hF, ia, hbi⟩ := hrel
        have HK2 := Lib.hid hk2; clear hk2
        obtain ⟨wi, hwi⟩ : ∃ wi : World, wi = wr := ⟨_, rfl⟩
        subst hwi
        have hszi := hbi.size
        by_cases hmi : m < j + 1
        · have HROW0 := Lib.hid (HR.out.then_ hbi)
          rcases hbk : brk xs j with _ | _
          · have hno : ∀ k, c k (j + 1) = none := fun k => by
              rw [← HC.out]
              exact nd1_line (F := (k : Int) - 1) rfl (ln_t hbk)
            have N0 := Lib.hid (cK_none (m := m) hno)
            have HB := Lib.hid hbk
            have hFj : F < (j : Int) := by have := hF.out; omega
            clear hbk hno
            go_wp2_with fail
            ((with_reducible refine (isBreak_s _ _ _ _ xs _ HN.out hlt hm ?_).mono ?_); (exact HROW0.out); rintro e w5 ⟨rfl, hb5⟩)
            rw [HB.out]
            go_wp2_with fail
            go_roundg (n - (j + 1))
            case measure => have := HK.out; omega
            case rel => exact ⟨j + 1, by omega, rfl, by go_num, (by show OwnP _ _ _ _ _ _ _ _; rw [← N0.out]; exact ia.out.then_ hb5), below_then (Nat.le_refl _) hbi hb5⟩
          have HB := Lib.hid hbk
          obtain ⟨U, hU⟩ : ∃ U, Dp.best (Dp.tbl c) (fun k => c k (j + 1)) m = U := ⟨_, rfl⟩
          have HU := Lib.hid hU
          have POST : ∀ w5, Below wi.heap.size wi w5 → OwnP w5 w1.heap.size 3 1 (some ⟨w1.heap.size, 0, none⟩) n n (cK c (j + 1) m 0) ∧ Below w.heap.size w w5 ∧
              w5.cell? ⟨w1.heap.size, j, none⟩ = some (en3 U 0) := fun w5 hb5 => by
            have r0 := ia.out.then_ hb5
            have f0 := r0.cell1 (i := j) (by omega)
            rw [cK_at, hU] at f0
            exact ⟨r0, below_then (Nat.le_refl _) hbi hb5, f0⟩
          have HP := Lib.hid POST
          clear POST hU hbk
          rcases m with _ | p
          · obtain rfl : F = -1 := by have := hF.out; omega
            have hjI : (-1 : Int) < (j : Int) := by omega
            rcases hl : lnOk xs (-1) (j : Int) with _ | _
            · have hCn : c 0 (j + 1) = none := by rw [← HC.out]; exact nd1_line (F := -1) (by omega) hl
              have E := Lib.hid (show stt c (j + 1) (0 + 1) = stt c (j + 1) 0 from stt_skipC hCn)
              have HLV := Lib.hid ((lv_ok HOK.out).trans hl)
              clear hl hCn
              go_wp2_with fail
              ((with_reducible refine (isBreak_s _ _ _ _ xs _ HN.out hlt hm ?_).mono ?_); (exact HROW0.out); rintro e w4 ⟨rfl, hb4⟩)
              rw [HB.out]
              have HROW := Lib.hid (HROW0.out.then_ hb4)
              skip
              go_wp2_with fail
              ((with_reducible refine (validLine_s _ _ _ _ _ xs _ HN.out hm ?_).mono ?_); (exact HROW.out); rintro e w5 ⟨rfl, hb5'⟩)
              rw [HLV.out]
              have hb5 := below_then (Nat.le_refl _) hb4 hb5'
              skip
              have hB6 := hb5
              obtain ⟨r0, hbw, f0⟩ := HP.out _ hB6
              simp only [en3, Option.getD_none, Option.getD_some, Option.isSome_none, Option.isSome_some] at f0
              have gl0 := r0.lt
              have fr0 := r0.frozen j

              have R0 := Lib.hid r0
              clear r0
              go_wp2_with fail
              go_roundg (j + 1 - (0 + 1))
              case measure => have := HK2.out; omega
              case rel => exact ⟨0 + 1, 0, by omega, rfl, by go_num, (by show _ = _; omega), (by show OwnP _ _ _ _ _ _ _ _; rw [cK_skip E.out]; exact R0.out), hbw⟩
            · obtain ⟨hml, hnf⟩ := ln_parts (m := 0) HN.out (by omega) hl
              have HLV := Lib.hid ((lv_ok HOK.out).trans hl)
              have HNF := Lib.hid hnf
              have HFA := Lib.hid (show (-1 + 1 : Int) = ((0 : Nat) : Int) by omega)
              skip
              clear hnf
              rcases hco : costOk xs 0 j d tol with _ | _
              · have hCn : c 0 (j + 1) = none := by rw [← HC.out]; exact nd1_no (F := -1) (by omega) hl hco
                have E := Lib.hid (show stt c (j + 1) (0 + 1) = stt c (j + 1) 0 from stt_skipC hCn)
                have HCO := Lib.hid hco
                clear hco hCn hl
                go_wp2_with fail
                ((with_reducible refine (isBreak_s _ _ _ _ xs _ HN.out hlt hm ?_).mono ?_); (exact HROW0.out); rintro e w4 ⟨rfl, hb4⟩)
                rw [HB.out]
                have HROW := Lib.hid (HROW0.out.then_ hb4)
                skip
                go_wp2_with fail
                ((with_reducible refine (validLine_s _ _ _ _ _ xs _ HN.out hm ?_).mono ?_); (exact HROW.out); rintro e w5 ⟨rfl, hb5'⟩)
                rw [HLV.out]
                have hb5 := below_then (Nat.le_refl _) hb4 hb5'
                skip
                go_wp2_with fail
                ((with_reducible refine (lineCost_s _ _ _ 0 j _ _ _ xs _ HOK.out HN.out HNF.out HFA.out hml hlt ?_ HD.out.1 HD.out.2).mono ?_); (exact HROW.out.then_ hb5'); rintro e w6 ⟨rfl, hb6⟩)
                have hB6 := below_then (Nat.le_refl _) hb5 hb6
                rw [HCO.out]
                obtain ⟨r0, hbw, f0⟩ := HP.out _ hB6
                simp only [en3, Option.getD_none, Option.getD_some, Option.isSome_none, Option.isSome_some] at f0
                have gl0 := r0.lt
                have fr0 := r0.frozen j

                have R0 := Lib.hid r0
                clear r0
                go_wp2_with fail
                go_roundg (j + 1 - (0 + 1))
                case measure => have := HK2.out; omega
                case rel => exact ⟨0 + 1, 0, by omega, rfl, by go_num, (by show _ = _; omega), (by show OwnP _ _ _ _ _ _ _ _; rw [cK_skip E.out]; exact R0.out), hbw⟩
              · have hCs : c 0 (j + 1) = some 1 := by rw [← HC.out]; exact nd1_yes (F := -1) (by omega) hl hco
                have HCO := Lib.hid hco
                clear hco hl
                obtain rfl : U = none := by have := HU.out; rw [Dp.best_zero] at this; exact this.symm
                · have E := Lib.hid (show ∀ k, stt c (j + 1) (0 + 1) k = if k = j + 1 then some (0 + 1, 0) else stt c (j + 1) 0 k from stt_set (by rw [HU.out]; exact upd_first (Dp.tbl_zero c) hCs))
                  clear hCs
                  go_wp2_with fail
                  ((with_reducible refine (isBreak_s _ _ _ _ xs _ HN.out hlt hm ?_).mono ?_); (exact HROW0.out); rintro e w4 ⟨rfl, hb4⟩)
                  rw [HB.out]
                  have HROW := Lib.hid (HROW0.out.then_ hb4)
                  skip
                  go_wp2_with fail
                  ((with_reducible refine (validLine_s _ _ _ _ _ xs _ HN.out hm ?_).mono ?_); (exact HROW.out); rintro e w5 ⟨rfl, hb5'⟩)
                  rw [HLV.out]
                  have hb5 := below_then (Nat.le_refl _) hb4 hb5'
                  skip
                  go_wp2_with fail
                  ((with_reducible refine (lineCost_s _ _ _ 0 j _ _ _ xs _ HOK.out HN.out HNF.out HFA.out hml hlt ?_ HD.out.1 HD.out.2).mono ?_); (exact HROW.out.then_ hb5'); rintro e w6 ⟨rfl, hb6⟩)
                  have hB6 := below_then (Nat.le_refl _) hb5 hb6
                  rw [HCO.out]
                  obtain ⟨r0, hbw, f0⟩ := HP.out _ hB6
                  simp only [en3, Option.getD_none, Option.getD_some, Option.isSome_none, Option.isSome_some] at f0
                  have gl0 := r0.lt
                  have fr0 := r0.frozen j

                  have R0 := Lib.hid r0
                  clear r0
                  go_wp2_with fail
                  go_roundg (j + 1 - (0 + 1))
                  case measure => have := HK2.out; omega
                  case rel =>
                    refine ⟨0 + 1, 0, by omega, rfl, by go_num, (by show _ = _; omega), ?_, ?_⟩
                    · show OwnP _ _ _ _ _ _ _ _
                      exact (R0.out.set1 (i := j) (by omega) _).congr (cK_set E.out (by simp only [en3, Option.getD_some] <;> congr 1 <;> omega))
                    · exact hbw.setCell (by simp <;> omega) _
          · obtain rfl : F = (p : Int) := by have := hF.out; omega
            have hjI : (p : Int) < (j : Int) := by omega
            have hjn' : (p : Int) < (n : Int) := by omega
            rcases hT : Dp.tbl c (p + 1) with _ | ⟨q1, q2⟩
            · have E := Lib.hid (show stt c (j + 1) (p + 1 + 1) = stt c (j + 1) (p + 1) from stt_skipT hT)
              go_wp2_with fail
              ((with_reducible refine (isBreak_s _ _ _ _ xs _ HN.out hlt hm ?_).mono ?_); (exact HROW0.out); rintro e w4 ⟨rfl, hb4⟩)
              rw [HB.out]
              have HROW := Lib.hid (HROW0.out.then_ hb4)
              skip
              have r4 := (HP.out _ hb4).1
              have hbw4 := (HP.out _ hb4).2.1
              have c4 : w4.cell? ⟨w1.heap.size, p, none⟩ = _ := r4.cell1 (i := p) (by omega)
              rw [cK_lt (by omega), hT] at c4
              simp only [en3, Option.getD_none] at c4
              have gl4 := r4.lt
              have HR4 := Lib.hid r4
              clear hT r4
              go_wp2_with fail
              go_roundg (j + 1 - (p + 1 + 1))
              case measure => have := HK2.out; omega
              case rel => exact ⟨p + 1 + 1, (p : Int) + 1, by omega, rfl, by go_num, (by show _ = _; omega), (by show OwnP _ _ _ _ _ _ _ _; rw [cK_skip E.out]; exact HR4.out), hbw4⟩
            · obtain ⟨t0, t1, t2⟩ := HTB.out (p + 1) q2 q1 hT
              have t2' := t2 (by omega)
              have hq1z : (q1 == 0) = false := by simp; omega
              have HT1 := Lib.hid hT
              clear hT t2
              rcases hl : lnOk xs (p : Int) (j : Int) with _ | _
              · have hCn : c (p + 1) (j + 1) = none := by rw [← HC.out]; exact nd1_line (F := (p : Int)) (by omega) hl
                have E := Lib.hid (show stt c (j + 1) (p + 1 + 1) = stt c (j + 1) (p + 1) from stt_skipC hCn)
                have HLV := Lib.hid ((lv_ok HOK.out).trans hl)
                clear hl hCn
                go_wp2_with fail
                ((with_reducible refine (isBreak_s _ _ _ _ xs _ HN.out hlt hm ?_).mono ?_); (exact HROW0.out); rintro e w4 ⟨rfl, hb4⟩)
                rw [HB.out]
                have HROW := Lib.hid (HROW0.out.then_ hb4)
                have c4 : w4.cell? ⟨w1.heap.size, p, none⟩ = _ := ((HP.out _ hb4).1.cell1 (i := p) (by omega))
                rw [cK_lt (by omega), HT1.out] at c4
                simp only [en3, Option.getD_some] at c4
                have gq4 := (HP.out _ hb4).1.lt
                go_wp2_with fail
                ((with_reducible refine (validLine_s _ _ _ _ _ xs _ HN.out hm ?_).mono ?_); (exact HROW.out); rintro e w5 ⟨rfl, hb5'⟩)
                rw [HLV.out]
                have hb5 := below_then (Nat.le_refl _) hb4 hb5'
                have c5 : w5.cell? ⟨w1.heap.size, p, none⟩ = _ := ((HP.out _ hb5).1.cell1 (i := p) (by omega))
                rw [cK_lt (by omega), HT1.out] at c5
                simp only [en3, Option.getD_some] at c5
                have gq5 := (HP.out _ hb5).1.lt
                have hB6 := hb5
                obtain ⟨r0, hbw, f0⟩ := HP.out _ hB6
                simp only [en3, Option.getD_none, Option.getD_some, Option.isSome_none, Option.isSome_some] at f0
                have gl0 := r0.lt
                have fr0 := r0.frozen j

                have R0 := Lib.hid r0
                clear r0
                go_wp2_with fail
                go_roundg (j + 1 - (p + 1 + 1))
                case measure => have := HK2.out; omega
                case rel => exact ⟨p + 1 + 1, (p : Int) + 1, by omega, rfl, by go_num, (by show _ = _; omega), (by show OwnP _ _ _ _ _ _ _ _; rw [cK_skip E.out]; exact R0.out), hbw⟩
              · obtain ⟨hml, hnf⟩ := ln_parts (m := (p + 1)) HN.out (by omega) hl
                have HLV := Lib.hid ((lv_ok HOK.out).trans hl)
                have HNF := Lib.hid hnf
                have HFA := Lib.hid (show ((p : Int) + 1 : Int) = ((p + 1 : Nat) : Int) by omega)
                have w1' : IntKind.i64.wrap (q1 + 1) = q1 + 1 := IntWalk.i64_in _ (by omega)
                clear hnf
                rcases hco : costOk xs (p + 1) j d tol with _ | _
                · have hCn : c (p + 1) (j + 1) = none := by rw [← HC.out]; exact nd1_no (F := (p : Int)) (by omega) hl hco
                  have E := Lib.hid (show stt c (j + 1) (p + 1 + 1) = stt c (j + 1) (p + 1) from stt_skipC hCn)
                  have HCO := Lib.hid hco
                  clear hco hCn hl
                  go_wp2_with fail
                  ((with_reducible refine (isBreak_s _ _ _ _ xs _ HN.out hlt hm ?_).mono ?_); (exact HROW0.out); rintro e w4 ⟨rfl, hb4⟩)
                  rw [HB.out]
                  have HROW := Lib.hid (HROW0.out.then_ hb4)
                  have c4 : w4.cell? ⟨w1.heap.size, p, none⟩ = _ := ((HP.out _ hb4).1.cell1 (i := p) (by omega))
                  rw [cK_lt (by omega), HT1.out] at c4
                  simp only [en3, Option.getD_some] at c4
                  have gq4 := (HP.out _ hb4).1.lt
                  go_wp2_with fail
                  ((with_reducible refine (validLine_s _ _ _ _ _ xs _ HN.out hm ?_).mono ?_); (exact HROW.out); rintro e w5 ⟨rfl, hb5'⟩)
                  rw [HLV.out]
                  have hb5 := below_then (Nat.le_refl _) hb4 hb5'
                  have c5 : w5.cell? ⟨w1.heap.size, p, none⟩ = _ := ((HP.out _ hb5).1.cell1 (i := p) (by omega))
                  rw [cK_lt (by omega), HT1.out] at c5
                  simp only [en3, Option.getD_some] at c5
                  have gq5 := (HP.out _ hb5).1.lt
                  go_wp2_with fail
                  ((with_reducible refine (lineCost_s _ _ _ (p + 1) j _ _ _ xs _ HOK.out HN.out HNF.out HFA.out hml hlt ?_ HD.out.1 HD.out.2).mono ?_); (exact HROW.out.then_ hb5'); rintro e w6 ⟨rfl, hb6⟩)
                  have hB6 := below_then (Nat.le_refl _) hb5 hb6
                  rw [HCO.out]
                  obtain ⟨r0, hbw, f0⟩ := HP.out _ hB6
                  simp only [en3, Option.getD_none, Option.getD_some, Option.isSome_none, Option.isSome_some] at f0
                  have gl0 := r0.lt
                  have fr0 := r0.frozen j

                  have R0 := Lib.hid r0
                  clear r0
                  go_wp2_with fail
                  go_roundg (j + 1 - (p + 1 + 1))
                  case measure => have := HK2.out; omega
                  case rel => exact ⟨p + 1 + 1, (p : Int) + 1, by omega, rfl, by go_num, (by show _ = _; omega), (by show OwnP _ _ _ _ _ _ _ _; rw [cK_skip E.out]; exact R0.out), hbw⟩
                · have hCs : c (p + 1) (j + 1) = some 1 := by rw [← HC.out]; exact nd1_yes (F := (p : Int)) (by omega) hl hco
                  have HCO := Lib.hid hco
                  clear hco hl
                  rcases U with _ | ⟨b1, b2⟩
                  · have E := Lib.hid (show ∀ k, stt c (j + 1) (p + 1 + 1) k = if k = j + 1 then some (q1 + 1, (p + 1)) else stt c (j + 1) (p + 1) k from stt_set (by rw [HU.out]; exact upd_first (HT1.out) hCs))
                    clear hCs
                    go_wp2_with fail
                    ((with_reducible refine (isBreak_s _ _ _ _ xs _ HN.out hlt hm ?_).mono ?_); (exact HROW0.out); rintro e w4 ⟨rfl, hb4⟩)
                    rw [HB.out]
                    have HROW := Lib.hid (HROW0.out.then_ hb4)
                    have c4 : w4.cell? ⟨w1.heap.size, p, none⟩ = _ := ((HP.out _ hb4).1.cell1 (i := p) (by omega))
                    rw [cK_lt (by omega), HT1.out] at c4
                    simp only [en3, Option.getD_some] at c4
                    have gq4 := (HP.out _ hb4).1.lt
                    go_wp2_with fail
                    ((with_reducible refine (validLine_s _ _ _ _ _ xs _ HN.out hm ?_).mono ?_); (exact HROW.out); rintro e w5 ⟨rfl, hb5'⟩)
                    rw [HLV.out]
                    have hb5 := below_then (Nat.le_refl _) hb4 hb5'
                    have c5 : w5.cell? ⟨w1.heap.size, p, none⟩ = _ := ((HP.out _ hb5).1.cell1 (i := p) (by omega))
                    rw [cK_lt (by omega), HT1.out] at c5
                    simp only [en3, Option.getD_some] at c5
                    have gq5 := (HP.out _ hb5).1.lt
                    go_wp2_with fail
                    ((with_reducible refine (lineCost_s _ _ _ (p + 1) j _ _ _ xs _ HOK.out HN.out HNF.out HFA.out hml hlt ?_ HD.out.1 HD.out.2).mono ?_); (exact HROW.out.then_ hb5'); rintro e w6 ⟨rfl, hb6⟩)
                    have hB6 := below_then (Nat.le_refl _) hb5 hb6
                    rw [HCO.out]
                    obtain ⟨r0, hbw, f0⟩ := HP.out _ hB6
                    simp only [en3, Option.getD_none, Option.getD_some, Option.isSome_none, Option.isSome_some] at f0
                    have gl0 := r0.lt
                    have fr0 := r0.frozen j

                    have R0 := Lib.hid r0
                    clear r0
                    go_wp2_with fail
                    go_roundg (j + 1 - (p + 1 + 1))
                    case measure => have := HK2.out; omega
                    case rel =>
                      refine ⟨p + 1 + 1, (p : Int) + 1, by omega, rfl, by go_num, (by show _ = _; omega), ?_, ?_⟩
                      · show OwnP _ _ _ _ _ _ _ _
                        exact (R0.out.set1 (i := j) (by omega) _).congr (cK_set E.out (by simp only [en3, Option.getD_some] <;> congr 1 <;> omega))
                      · exact hbw.setCell (by simp <;> omega) _
                  · have hb1p := HBO.out _ _ _ _ HU.out
                    have hb1z : (b1 == 0) = false := by simp; omega
                    by_cases hless : q1 + 1 < b1
                    · have E := Lib.hid (show ∀ k, stt c (j + 1) (p + 1 + 1) k = if k = j + 1 then some (q1 + 1, (p + 1)) else stt c (j + 1) (p + 1) k from stt_set (by rw [HU.out]; exact upd_less (HT1.out) hCs hless))
                      clear hCs
                      go_wp2_with fail
                      ((with_reducible refine (isBreak_s _ _ _ _ xs _ HN.out hlt hm ?_).mono ?_); (exact HROW0.out); rintro e w4 ⟨rfl, hb4⟩)
                      rw [HB.out]
                      have HROW := Lib.hid (HROW0.out.then_ hb4)
                      have c4 : w4.cell? ⟨w1.heap.size, p, none⟩ = _ := ((HP.out _ hb4).1.cell1 (i := p) (by omega))
                      rw [cK_lt (by omega), HT1.out] at c4
                      simp only [en3, Option.getD_some] at c4
                      have gq4 := (HP.out _ hb4).1.lt
                      go_wp2_with fail
                      ((with_reducible refine (validLine_s _ _ _ _ _ xs _ HN.out hm ?_).mono ?_); (exact HROW.out); rintro e w5 ⟨rfl, hb5'⟩)
                      rw [HLV.out]
                      have hb5 := below_then (Nat.le_refl _) hb4 hb5'
                      have c5 : w5.cell? ⟨w1.heap.size, p, none⟩ = _ := ((HP.out _ hb5).1.cell1 (i := p) (by omega))
                      rw [cK_lt (by omega), HT1.out] at c5
                      simp only [en3, Option.getD_some] at c5
                      have gq5 := (HP.out _ hb5).1.lt
                      go_wp2_with fail
                      ((with_reducible refine (lineCost_s _ _ _ (p + 1) j _ _ _ xs _ HOK.out HN.out HNF.out HFA.out hml hlt ?_ HD.out.1 HD.out.2).mono ?_); (exact HROW.out.then_ hb5'); rintro e w6 ⟨rfl, hb6⟩)
                      have hB6 := below_then (Nat.le_refl _) hb5 hb6
                      rw [HCO.out]
                      obtain ⟨r0, hbw, f0⟩ := HP.out _ hB6
                      simp only [en3, Option.getD_none, Option.getD_some, Option.isSome_none, Option.isSome_some] at f0
                      have gl0 := r0.lt
                      have fr0 := r0.frozen j

                      have R0 := Lib.hid r0
                      clear r0
                      go_wp2_with fail
                      go_roundg (j + 1 - (p + 1 + 1))
                      case measure => have := HK2.out; omega
                      case rel =>
                        refine ⟨p + 1 + 1, (p : Int) + 1, by omega, rfl, by go_num, (by show _ = _; omega), ?_, ?_⟩
                        · show OwnP _ _ _ _ _ _ _ _
                          exact (R0.out.set1 (i := j) (by omega) _).congr (cK_set E.out (by simp only [en3, Option.getD_some] <;> congr 1 <;> omega))
                        · exact hbw.setCell (by simp <;> omega) _
                    · have E := Lib.hid (show stt c (j + 1) (p + 1 + 1) = stt c (j + 1) (p + 1) from stt_skip (by rw [HU.out]; exact upd_keep (HT1.out) hCs hless))
                      clear hCs
                      go_wp2_with fail
                      ((with_reducible refine (isBreak_s _ _ _ _ xs _ HN.out hlt hm ?_).mono ?_); (exact HROW0.out); rintro e w4 ⟨rfl, hb4⟩)
                      rw [HB.out]
                      have HROW := Lib.hid (HROW0.out.then_ hb4)
                      have c4 : w4.cell? ⟨w1.heap.size, p, none⟩ = _ := ((HP.out _ hb4).1.cell1 (i := p) (by omega))
                      rw [cK_lt (by omega), HT1.out] at c4
                      simp only [en3, Option.getD_some] at c4
                      have gq4 := (HP.out _ hb4).1.lt
                      go_wp2_with fail
                      ((with_reducible refine (validLine_s _ _ _ _ _ xs _ HN.out hm ?_).mono ?_); (exact HROW.out); rintro e w5 ⟨rfl, hb5'⟩)
                      rw [HLV.out]
                      have hb5 := below_then (Nat.le_refl _) hb4 hb5'
                      have c5 : w5.cell? ⟨w1.heap.size, p, none⟩ = _ := ((HP.out _ hb5).1.cell1 (i := p) (by omega))
                      rw [cK_lt (by omega), HT1.out] at c5
                      simp only [en3, Option.getD_some] at c5
                      have gq5 := (HP.out _ hb5).1.lt
                      go_wp2_with fail
                      ((with_reducible refine (lineCost_s _ _ _ (p + 1) j _ _ _ xs _ HOK.out HN.out HNF.out HFA.out hml hlt ?_ HD.out.1 HD.out.2).mono ?_); (exact HROW.out.then_ hb5'); rintro e w6 ⟨rfl, hb6⟩)
                      have hB6 := below_then (Nat.le_refl _) hb5 hb6
                      rw [HCO.out]
                      obtain ⟨r0, hbw, f0⟩ := HP.out _ hB6
                      simp only [en3, Option.getD_none, Option.getD_some, Option.isSome_none, Option.isSome_some] at f0
                      have gl0 := r0.lt
                      have fr0 := r0.frozen j

                      have R0 := Lib.hid r0
                      clear r0
                      go_wp2_with fail
                      go_roundg (j + 1 - (p + 1 + 1))
                      case measure => have := HK2.out; omega
                      case rel => exact ⟨p + 1 + 1, (p : Int) + 1, by omega, rfl, by go_num, (by show _ = _; omega), (by show OwnP _ _ _ _ _ _ _ _; rw [cK_skip E.out]; exact R0.out), hbw⟩
        · obtain rfl : m = j + 1 := by omega
          obtain rfl : F = (j : Int) := by have := hF.out; omega
          have N0 := Lib.hid (cK_next (c := c) (q := 0) (Nat.succ_pos j))
          go_wp2_with fail
          go_roundg (n - (j + 1))
          case measure => have := HK.out; omega
          case rel => exact ⟨j + 1, by omega, rfl, by go_num, (by show OwnP _ _ _ _ _ _ _ _; rw [← N0.out]; exact ia.out), hbi⟩
    · obtain rfl : j = n := by omega
      have hx0 := HX0.out
      have z0 := oa.out.cell1 (i := x0) (by omega)
      rw [cK_lt (by omega), ← hx0] at z0
      simp only [en3] at z0
      have gl := oa.out.lt
      have hx0I : (x0 : Int) < (j : Int) := by omega
      clear hx0
      go_wp2_with fail
      go_ret
      exact ⟨by rw [HLL.out]; rfl, hbel⟩
end Go.Proofs.Ytkmipgekmbngcaa
/- The law on the least number of lines: FnLeastLines answers true. Conditions: the code is a slice of bytes. -/
namespace Go.Proofs.Ytkmipgekmbngcaa
open Go.RowKit

theorem llV_b (xs : List It) (d tol : Int) : 0 ≤ llV xs d tol ∧ llV xs d tol ≤ 60 := by
  rcases hv : (itemsOk xs && widthOk d && inR tol 0 10000) with _ | _
  · rw [llV_no hv]; omega
  · rw [llV_yes rfl hv]
    simp only [Bool.and_eq_true] at hv
    have h1 := (itemsOk_len hv.1.1 rfl).2
    have h2 := llN_b xs d tol xs.length
    omega
theorem ll_le {xs : List It} {d tol : Int} {bs : List Int} {q : Nat} (hq : bs.length = q) (h : (chkV xs [d] tol bs).isSome = true) : llV xs d tol ≤ (q : Int) := by
  rcases hc : chkV xs [d] tol bs with _ | V
  · rw [hc] at h; cases h
  · refine ll_chk hq hc (wof_one d) ?_
    unfold chkV at hc
    split at hc
    · rename_i hv
      simp only [Bool.and_eq_true] at hv
      rw [← shape_one]
      exact hv.1.2
    · cases hc

set_option maxRecDepth 100000 in
set_option maxHeartbeats 4000000 in
theorem law_LeastLines (A : Option Addr) (n cap : Nat) (cs : List Int) (w : World) (hc : Code w A n cap cs) :
    Calls Try.prog 4 #[.slice A n cap] w fun e w' => e = .returned (.bool true) ∧ Below w.heap.size w w' := by
  have hn := hc.1
  unfold maxLen at hn
  by_cases hbig : 1048576 < n
  · go_enter Try.func4, Try.ntmps4
    go_wp2
    go_returns
    exact ⟨rfl, Below.refl _ _⟩
  go_enter Try.func4, Try.ntmps4
  go_wp2_with fail
  ((with_reducible refine (DrawCheckBreaks_any _ _ _ cs _ hc).mono ?_); rintro e w1 ⟨g, m, c, xs, d, tol, B, q, cb, bs, rfl, hx, hm, hcp, hr1, hq, hqm, ho1, hb1⟩)
  have HX := Lib.hid hx; clear hx
  have HQ := Lib.hid hq; clear hq
  have HCP := Lib.hid hcp; clear hcp
  have hmx : m ≤ maxLen := by unfold maxLen; omega
  have hqx : q ≤ maxLen := by unfold maxLen; omega
  obtain ⟨V, hV⟩ : ∃ V, chkV xs [d] tol bs = V := ⟨_, rfl⟩
  obtain ⟨v, hv⟩ : ∃ v, V.getD 0 = v := ⟨_, rfl⟩
  obtain ⟨o, ho⟩ : ∃ o, V.isSome = o := ⟨_, rfl⟩
  obtain ⟨L, hL⟩ : ∃ L, llV xs d tol = L := ⟨_, rfl⟩
  obtain ⟨R, hR⟩ : ∃ R, bbV xs d tol = R := ⟨_, rfl⟩
  obtain ⟨R1, R2, R3⟩ := R
  have hLb := llV_b xs d tol
  have hLF := ll_best (xs := xs) (d := d) (tol := tol)
  have hLO : o = true → L ≤ (q : Int) := fun h => by
    rw [← hL]
    exact ll_le HQ.out (by rw [hV, ho, h])
  rw [hL] at hLb
  rw [hL, hR] at hLF
  have hLF' : decide (0 < L) = R3 := hLF
  have HV := Lib.hid hV
  have HC := Lib.hid hv
  have HO := Lib.hid ho
  have HL := Lib.hid hL
  have HRR := Lib.hid hR
  clear hV hv ho hL hR hLF
  go_wp2_with fail
  ((with_reducible refine ((checkBreaks_i _ _ _ _ _ _ d tol xs bs _ HX.out hmx HCP.out ?_ HQ.out hqx ?_).mono fun _ _ h => opt_form HV.out HC.out HO.out h).mono ?_); (exact hr1); (exact ho1); rintro e w2 ⟨rfl, hb2⟩)
  have hr2 := hr1.then_ hb2
  have ho2 := ho1.then_ hb2
  have hB2 := below_then (Nat.le_refl _) hb1 hb2
  go_wp2_with fail
  ((with_reducible refine ((checkBreaks_s _ _ _ _ _ _ d tol xs bs _ HX.out hmx ?_ HQ.out hqx ?_).mono fun _ _ h => opt_form HV.out HC.out HO.out h).mono ?_); (exact hr2); (exact ho2); rintro e w3 ⟨rfl, hb3⟩)
  have hr3 := hr2.then_ hb3
  have hB3 := below_then (Nat.le_refl _) hB2 hb3
  clear hr1 hr2 ho1 ho2
  go_wp2_with fail
  ((with_reducible refine (leastLines_i _ _ _ d tol xs _ HX.out hmx HCP.out ?_).mono ?_); (exact hr3); rintro e w4 ⟨rfl, hb4⟩)
  rw [HL.out]
  have hr4 := hr3.then_ hb4
  have hB4 := below_then (Nat.le_refl _) hB3 hb4
  go_wp2_with fail
  ((with_reducible refine (bestBreaks_i _ _ _ d tol xs _ HX.out hmx HCP.out ?_).mono ?_); (exact hr4); rintro e w5 ⟨A5, c5, rfl, hown5, hb5⟩)
  rw [HRR.out]
  have hr5 := Lib.hid (hr4.then_ hb5)
  have hB5 := below_then (Nat.le_refl _) hB4 hb5
  have hoo : (o == o) = true := by simp
  have hll : (L == L) = true := by simp
  clear hr3 hr4 hown5
  go_wp2_with fail
  ((with_reducible refine (leastLines_s _ _ _ d tol xs _ HX.out hmx ?_).mono ?_); (exact hr5.out); rintro e w6 ⟨rfl, hb6⟩)
  rw [HL.out]
  have hB6 := below_then (Nat.le_refl _) hB5 hb6
  by_cases h0 : 0 < L
  · have hR3 : R3 = true := by rw [← hLF']; exact decide_eq_true h0
    have hd : decide (0 < L) = true := decide_eq_true h0
    subst hR3
    clear hLF'
    rcases o with _ | _
    · go_wp2_with fail
      go_returns
      exact ⟨by first | rfl | simp, hB6⟩
    · have hle := hLO rfl
      go_wp2_with fail
      go_returns
      exact ⟨by first | rfl | simp, hB6⟩
  · have hR3 : R3 = false := by rw [← hLF']; exact decide_eq_false h0
    have hd : decide (0 < L) = false := decide_eq_false h0
    subst hR3
    clear hLF' h0
    rcases o with _ | _
    · go_wp2_with fail
      go_returns
      exact ⟨by first | rfl | simp, hB6⟩
    · have hle := hLO rfl
      go_wp2_with fail
      go_returns
      exact ⟨by first | rfl | simp, hB6⟩
end Go.Proofs.Ytkmipgekmbngcaa
