/- The cheapest breaks for a shape, in plain terms: they are accepted, no breaks are cheaper, one width is as a width; over the nodes and over the stops. No program. No condition. -/
import Derived.Test.YtkmipgekmbngcaaShapeDp
import Derived.Test.YtkmipgekmbngcaaBestNodes
import Derived.Test.YtkmipgekmbngcaaCheckShape
import Derived.Test.YtkmipgekmbngcaaMSb7
namespace Go.Proofs.Ytkmipgekmbngcaa

/-- The cost of line l from node to node. -/
def shC (xs : List It) (sh : List Int) (tol : Int) (l k i : Nat) : Option Int := ndC xs (wof sh l) tol k i
/-- The cheapest way for a shape, over some stops. -/
def pathS (C : Nat → Nat → Nat → Option Int) (f : Nat → Int) (N : Nat) : List Int × Int × Bool := match Dp.bestL (fun l => (Dp.T2 C (l + 1) N).map Prod.fst) N with
  | none => ([], 0, false)
  | some (v, l) => ((Dp.path2 C (l + 1) N).map f, v, true)
def nd1 (k : Nat) : Int := (k : Int) - 1
def shV (xs : List It) (sh : List Int) (tol : Int) : List Int × Int × Bool := if itemsOk xs && shapeOk sh && inR tol 0 10000 then pathS (shC xs sh tol) nd1 xs.length else ([], 0, false)
section
variable {C : Nat → Nat → Nat → Option Int} {f : Nat → Int} {N n l : Nat} {v tol : Int} {xs : List It} {sh bs : List Int} {wd : Nat → Int}
theorem pathS_none (h : Dp.bestL (fun l => (Dp.T2 C (l + 1) N).map Prod.fst) N = none) : pathS C f N = ([], 0, false) := by rw [pathS, h]
theorem pathS_some (h : Dp.bestL (fun l => (Dp.T2 C (l + 1) N).map Prod.fst) N = some (v, l)) : pathS C f N = ((Dp.path2 C (l + 1) N).map f, v, true) := by rw [pathS, h]
theorem shV_no (h : (itemsOk xs && shapeOk sh && inR tol 0 10000) = false) : shV xs sh tol = ([], 0, false) := by rw [shV, h]; rfl
theorem shV_yes (hn : xs.length = n) (h : (itemsOk xs && shapeOk sh && inR tol 0 10000) = true) : shV xs sh tol = pathS (shC xs sh tol) nd1 n := by rw [shV, h, hn]; rfl
theorem fst_some {o : Option (Int × Nat)} (h : o.map Prod.fst = some v) : ∃ k, o = some (v, k) := by
  rcases o with _ | ⟨a, k⟩
  · cases h
  · simp only [Option.map_some, Option.some.injEq] at h
    exact ⟨k, by rw [h]⟩
theorem pathS_len : (pathS C f N).1.length ≤ N := by
  rcases hb : Dp.bestL (fun l => (Dp.T2 C (l + 1) N).map Prod.fst) N with _ | ⟨v, l⟩
  · rw [pathS_none hb]; exact Nat.zero_le _
  · rw [pathS_some hb]
    obtain ⟨hl, h1, _⟩ := Dp.bestL_some _ _ _ hb
    obtain ⟨k, h2⟩ := fst_some h1
    show (List.map _ _).length ≤ N
    rw [List.length_map, Dp.path2_len _ _ (by rw [h2]; intro e; cases e)]
    omega
theorem shV_len : (shV xs sh tol).1.length ≤ xs.length := by
  rcases hv : (itemsOk xs && shapeOk sh && inR tol 0 10000) with _ | _
  · rw [shV_no hv]; exact Nat.zero_le _
  · rw [shV_yes rfl hv]; exact pathS_len
theorem getD_snoc1 {bs : List Int} {x : Int} {j : Nat} (h : j < bs.length) : (bs ++ [x]).getD j default = bs.getD j default := by
  rw [List.getD_eq_getElem?_getD, List.getD_eq_getElem?_getD, List.getElem?_append_left h]
theorem getD_snoc2 {bs : List Int} {x : Int} {j : Nat} (h : j = bs.length) : (bs ++ [x]).getD j default = x := by
  subst h
  rw [List.getD_eq_getElem?_getD, List.getElem?_append_right (Nat.le_refl _), Nat.sub_self]
  rfl
theorem frm_snoc {x : Int} {j : Nat} (h : j ≤ bs.length) : frm (bs ++ [x]) j = frm bs j := by
  unfold frm
  split
  · rfl
  · exact getD_snoc1 (by omega)
theorem sumJ_snoc {x : Int} : ∀ j, j ≤ bs.length → sumJ xs wd tol (bs ++ [x]) j = sumJ xs wd tol bs j := by
  intro j
  induction j with
  | zero => intro _; rfl
  | succ j ih =>
    intro h
    rw [sumJ, sumJ, ih (by omega), frm_snoc (by omega), getD_snoc1 (by omega)]
/-- The way to a node has the sum that the table tells. -/
theorem sh_path : ∀ n i v k, Dp.T2 (shC xs sh tol) n i = some (v, k) → ((Dp.path2 (shC xs sh tol) n i).map nd1).length = n ∧ frm ((Dp.path2 (shC xs sh tol) n i).map nd1) n = (i : Int) - 1 ∧ sumJ xs (wof sh) tol ((Dp.path2 (shC xs sh tol) n i).map nd1) n = some v := by
  intro n
  induction n with
  | zero =>
    intro i v k h
    rcases Nat.eq_zero_or_pos i with rfl | hi
    · rw [Dp.T2_zero] at h; cases h
      exact ⟨rfl, rfl, rfl⟩
    · rw [Dp.T2_zero' hi] at h; cases h
  | succ n ih =>
    intro i v k h
    obtain ⟨hk, u, k', s, h1, h2, rfl⟩ := Dp.T2_some h
    obtain ⟨e1, e2, e3⟩ := ih k u k' h1
    rw [Dp.path2_succ h, List.map_append]
    obtain ⟨P, hP⟩ : ∃ P, (Dp.path2 (shC xs sh tol) n k).map nd1 = P := ⟨_, rfl⟩
    rw [hP] at e1 e2 e3 ⊢
    have g : (P ++ [nd1 i]).getD n default = (i : Int) - 1 := getD_snoc2 e1.symm
    refine ⟨by simp [e1], ?_, ?_⟩
    · rw [frm_succ]; exact g
    · refine sumJ_yes (by rw [← e3]; exact sumJ_snoc (x := nd1 i) n (by omega)) ?_
      show lc xs _ tol (frm (P ++ [nd1 i]) n) ((P ++ [nd1 i]).getD n default) = _
      rw [frm_snoc (by omega), e2, g]
      exact h2
theorem lns_sum : ∀ j s, sumJ xs wd tol bs j = some s → lns xs bs j = true := by
  intro j
  induction j with
  | zero => intro s _; rfl
  | succ j ih =>
    intro s h
    rcases hs : sumJ xs wd tol bs j with _ | s'
    · rw [sumJ, hs] at h; cases h
    · rcases hl : lnOk xs (frm bs j) (bs.getD j default) with _ | _
      · rw [sumJ_no1 hs (lc_line hl)] at h; cases h
      · exact lns_yes (ih s' hs) hl
/-- The cheapest breaks are accepted. -/
theorem sh_chk (h : shV xs sh tol = (bs, v, true)) : chkV xs sh tol bs = some v ∧ vbV xs bs = true := by
  rcases hv : (itemsOk xs && shapeOk sh && inR tol 0 10000) with _ | _
  · rw [shV_no hv] at h; cases h
  · rw [shV_yes rfl hv] at h
    rcases hb : Dp.bestL (fun l => (Dp.T2 (shC xs sh tol) (l + 1) xs.length).map Prod.fst) xs.length with _ | ⟨b, l⟩
    · rw [pathS_none hb] at h; cases h
    · rw [pathS_some hb] at h
      injection h with h1 h2
      injection h2 with h2 _
      subst h1 h2
      obtain ⟨hl, h1, _⟩ := Dp.bestL_some _ _ _ hb
      obtain ⟨k, h2⟩ := fst_some h1
      obtain ⟨e1, e2, e3⟩ := sh_path _ _ _ _ h2
      obtain ⟨P, hP⟩ : ∃ P, (Dp.path2 (shC xs sh tol) (l + 1) xs.length).map nd1 = P := ⟨_, rfl⟩
      rw [hP] at e1 e2 e3 ⊢
      constructor
      · rw [chkV, hv]
        show chkP _ _ _ _ = _
        rw [chkP, if_neg (by omega), e1, if_pos e2, e3]
      · simp only [Bool.and_eq_true] at hv
        exact vb_yes hv.1.1 e1 (by omega) rfl e2 rfl (lns_sum _ _ e3)
theorem sh_sum : ∀ (j : Nat) (s : Int), sumJ xs (wof sh) tol bs j = some s → -1 ≤ frm bs j ∧ ∃ v k, Dp.T2 (shC xs sh tol) j (frm bs j + 1).toNat = some (v, k) ∧ v ≤ s := by
  intro j
  induction j with
  | zero => intro s h; rw [sumJ] at h; cases h; exact ⟨by simp [frm], 0, 0, Dp.T2_zero _, by omega⟩
  | succ j ih =>
    intro s h
    rcases hs : sumJ xs (wof sh) tol bs j with _ | s'
    · rw [sumJ, hs] at h; cases h
    · obtain ⟨h0, v, k, h1, h2⟩ := ih s' hs
      rcases hc : lc xs (wof sh j) tol (frm bs j) (bs.getD j default) with _ | c
      · rw [sumJ_no1 hs hc] at h; cases h
      · rw [sumJ_yes hs hc] at h
        cases h
        have hlt : frm bs j < bs.getD j default := by
          rcases hl : lnOk xs (frm bs j) (bs.getD j default) with _ | _
          · rw [lc_line hl] at hc; cases hc
          · obtain ⟨a, u, hf, ht, h3, h4, _⟩ := ln_iff rfl hl
            omega
        rw [frm_succ]
        have hnd : shC xs sh tol j (frm bs j + 1).toNat (bs.getD j default + 1).toNat = some c := by
          rw [shC, ndC, show (((frm bs j + 1).toNat : Nat) : Int) - 1 = frm bs j by omega, show (((bs.getD j default + 1).toNat : Nat) : Int) - 1 = bs.getD j default by omega]
          exact hc
        obtain ⟨v2, f, e5, e6⟩ := Dp.T2_le (by omega) h1 hnd
        exact ⟨by omega, v2, f, e5, by omega⟩
/-- No breaks that are accepted are cheaper. -/
theorem sh_best {V : Int} (h : chkV xs sh tol bs = some V) : (shV xs sh tol).2.2 = true ∧ (shV xs sh tol).2.1 ≤ V := by
  rcases hv : (itemsOk xs && shapeOk sh && inR tol 0 10000) with _ | _
  · rw [chkV, hv] at h; cases h
  · rw [chkV, hv] at h
    have h : chkP xs (wof sh) tol bs = some V := h
    rw [shV_yes rfl hv]
    unfold chkP at h
    split at h
    · cases h
    · split at h
      · rename_i hq hl
        obtain ⟨_, v, k, h1, h2⟩ := sh_sum _ _ h
        rw [hl, show ((xs.length : Int) - 1 + 1).toNat = xs.length by omega] at h1
        have hle : bs.length ≤ xs.length := by
          rcases Nat.lt_or_ge xs.length bs.length with hlt | hge
          · rw [Dp.T2_low hlt] at h1; cases h1
          · exact hge
        obtain ⟨l, hl'⟩ : ∃ l, bs.length = l + 1 := ⟨bs.length - 1, by omega⟩
        rw [hl'] at h1
        rcases hb : Dp.bestL (fun l => (Dp.T2 (shC xs sh tol) (l + 1) xs.length).map Prod.fst) xs.length with _ | ⟨b, l2⟩
        · have := Dp.bestL_none _ hb l (by omega)
          simp only [h1] at this
          cases this
        · rw [pathS_some hb]
          refine ⟨rfl, ?_⟩
          have := (Dp.bestL_some _ _ _ hb).2.2 l v (by omega) (by simp only [h1]; rfl)
          show b ≤ V
          omega
      · cases h
/-- A shape of one width is a width. -/
theorem sh_const {d : Int} (h1 : shapeOk [d] = widthOk d) (hw : ∀ k, wof [d] k = d) : (shV xs [d] tol).2.2 = (bbV xs d tol).2.2 ∧ (shV xs [d] tol).2.1 = (bbV xs d tol).2.1 := by
  rcases hv : (itemsOk xs && widthOk d && inR tol 0 10000) with _ | _
  · rw [shV_no (by rw [h1, hv]), bbV, hv]; exact ⟨rfl, rfl⟩
  · rw [shV_yes rfl (by rw [h1, hv])]
    simp only [Bool.and_eq_true] at hv
    have hlen := (itemsOk_len hv.1.1 rfl).1
    rw [bbV_nodes hv.1.1 rfl hv.1.2 hv.2]
    have hC : shC xs [d] tol = fun _ => ndC xs d tol := by
      funext l k i
      rw [shC, hw]
    rw [hC]
    rcases hb : Dp.bestL (fun l => (Dp.T2 (fun _ => ndC xs d tol) (l + 1) xs.length).map Prod.fst) xs.length with _ | ⟨b, l⟩
    · rw [pathS_none hb]
      rcases ht : Dp.tbl (ndC xs d tol) xs.length with _ | ⟨v, k⟩
      · exact ⟨rfl, rfl⟩
      · obtain ⟨n, v', k', e1, e2, e3, _⟩ := Dp.tbl_T2 _ _ _ ht
        have hn := e2 (by omega)
        obtain ⟨l, rfl⟩ : ∃ l, n = l + 1 := ⟨n - 1, by omega⟩
        have := Dp.bestL_none _ hb l (by omega)
        simp only [e3] at this
        cases this
    · rw [pathS_some hb]
      obtain ⟨hl, h3, h4⟩ := Dp.bestL_some _ _ _ hb
      obtain ⟨k, h5⟩ := fst_some h3
      obtain ⟨v', k', h6, h7⟩ := Dp.T2_tbl _ _ _ _ h5
      rw [h6]
      refine ⟨rfl, ?_⟩
      obtain ⟨n, v2, k2, e1, e2, e3, e4⟩ := Dp.tbl_T2 _ _ _ h6
      have hn := e2 (by omega)
      obtain ⟨l2, rfl⟩ : ∃ l, n = l + 1 := ⟨n - 1, by omega⟩
      have := h4 l2 v2 (by omega) (by simp only [e3]; rfl)
      show b = v'
      omega
/-- The cost of line l from stop to stop. -/
def stS (xs : List It) (sh : List Int) (tol : Int) (l k i : Nat) : Option Int := lc xs (wof sh l) tol ((stps xs).getD k default) ((stps xs).getD i default)
/-- The same over the stops. -/
theorem sh_stops (hok : itemsOk xs = true) (hn : xs.length = n) : pathS (stS xs sh tol) (fun i => (stps xs).getD i default) (brksV xs).length = pathS (shC xs sh tol) nd1 n := by
  have hp := last_brk hok hn
  have hst := stps_eq hok hn
  have hlen : (Dp.sts (ndP xs) (n + 1)).length = Dp.rk (ndP xs) n + 1 := Dp.rk_yes hp
  have hbl : (brksV xs).length = Dp.rk (ndP xs) n := by
    have h1 := stps_len xs
    rw [hst, List.length_map, hlen] at h1
    omega
  have hrn : Dp.rk (ndP xs) n ≤ n := by
    rw [← hbl]
    have := brksV_len xs
    omega
  have hget : ∀ k, k ≤ Dp.rk (ndP xs) n → (stps xs).getD k default = (((Dp.sts (ndP xs) (n + 1)).getD k 0 : Nat) : Int) - 1 := by
    intro k hk
    rw [hst, List.getD_eq_getElem?_getD, List.getD_eq_getElem?_getD, List.getElem?_map, List.getElem?_eq_getElem (by omega)]
    rfl
  have hcc : ∀ l k i, k < i → i ≤ Dp.rk (ndP xs) n → stS xs sh tol l k i = (fun l k i => shC xs sh tol l ((Dp.sts (ndP xs) (n + 1)).getD k 0) ((Dp.sts (ndP xs) (n + 1)).getD i 0)) l k i := by
    intro l k i hk hi
    show lc _ _ _ _ _ = lc _ _ _ _ _
    rw [hget k (by omega), hget i hi]
  have hC : ∀ l k i, ndP xs k = false → shC xs sh tol l k i = none := fun l k i h => ndC_no (xs := xs) (d := wof sh l) (tol := tol) k i h
  have hT := fun l => Dp.T2_stops (n + 1) hC (ndP_zero xs) l n (by omega) hp
  have hTC := fun l => Dp.T2_congr hcc l _ (Nat.le_refl _)
  have hf : ∀ l, (Dp.T2 (stS xs sh tol) l (Dp.rk (ndP xs) n)).map Prod.fst = (Dp.T2 (shC xs sh tol) l n).map Prod.fst := by
    intro l
    rw [hT l, hTC l, Dp.lift, Option.map_map]
    rfl
  have hbest : Dp.bestL (fun l => (Dp.T2 (stS xs sh tol) (l + 1) (Dp.rk (ndP xs) n)).map Prod.fst) (Dp.rk (ndP xs) n) = Dp.bestL (fun l => (Dp.T2 (shC xs sh tol) (l + 1) n).map Prod.fst) n := by
    have e1 := Dp.bestL_more (t := fun l => (Dp.T2 (stS xs sh tol) (l + 1) (Dp.rk (ndP xs) n)).map Prod.fst) (m := Dp.rk (ndP xs) n) (n - Dp.rk (ndP xs) n) (fun j hj => by
      show Option.map _ _ = none
      rw [Dp.T2_low (by omega)]; rfl)
    rw [show Dp.rk (ndP xs) n + (n - Dp.rk (ndP xs) n) = n by omega] at e1
    rw [← e1]
    exact Dp.bestL_congr _ fun j _ => hf (j + 1)
  rw [hbl]
  rcases hb : Dp.bestL (fun l => (Dp.T2 (shC xs sh tol) (l + 1) n).map Prod.fst) n with _ | ⟨v, l⟩
  · rw [pathS_none hb, pathS_none (hbest.trans hb)]
  · rw [pathS_some hb, pathS_some (hbest.trans hb)]
    obtain ⟨hl, h1, _⟩ := Dp.bestL_some _ _ _ hb
    obtain ⟨k, h2⟩ := fst_some h1
    have hne : Dp.T2 (shC xs sh tol) (l + 1) n ≠ none := by rw [h2]; intro e; cases e
    have hne2 : Dp.T2 (stS xs sh tol) (l + 1) (Dp.rk (ndP xs) n) ≠ none := by
      intro e
      have := hf (l + 1)
      rw [e, h2] at this
      cases this
    rw [Dp.path2_stops (n + 1) hC (ndP_zero xs) (l + 1) n (by omega) hp hne, ← Dp.path2_congr hcc (l + 1) _ (Nat.le_refl _), List.map_map]
    congr 1
    apply List.map_congr_left
    intro i hi
    exact hget i (Dp.path2_le _ _ hne2 i hi)
end
end Go.Proofs.Ytkmipgekmbngcaa
