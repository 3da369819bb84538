/- Plain facts on the widths of columns: all cells fit, no column can be narrower, more rows have wider columns, single cells determine their columns, wider columns fit as well. No program. No condition. -/
import Derived.Test.YtbkhimdebpllcaaColsP
namespace Go.Proofs.Ytbkhimdebpllcaa
open Go.RowKit

theorem cwU_le (out : List Int) (m : Int) (s : Sp) : m ≤ cwU out m s := by
  unfold cwU
  split <;> omega
theorem cwF_le (out : List Int) : ∀ (ss : List Sp) (m : Int), m ≤ ss.foldl (cwU out) m := by
  intro ss
  induction ss with
  | nil => intro m; exact Int.le_refl _
  | cons s r ih => intro m; exact Int.le_trans (cwU_le out m s) (ih _)
theorem cwF_mono (out : List Int) : ∀ (ss : List Sp) (m m' : Int), m ≤ m' → ss.foldl (cwU out) m ≤ ss.foldl (cwU out) m' := by
  intro ss
  induction ss with
  | nil => intro m m' h; exact h
  | cons s r ih =>
    intro m m' h
    refine ih _ _ ?_
    unfold cwU
    split <;> omega
theorem cwF_ge (out : List Int) (s : Sp) (ht : s.t = (out.length : Int) + 1) : ∀ (ss : List Sp) (m : Int), s ∈ ss → s.w - (out.drop s.f.toNat).sum ≤ ss.foldl (cwU out) m := by
  intro ss
  induction ss with
  | nil => intro m h; cases h
  | cons u r ih =>
    intro m h
    rcases List.mem_cons.1 h with rfl | h
    · refine Int.le_trans ?_ (cwF_le out r _)
      unfold cwU
      rw [if_pos ht]
      omega
    · exact ih _ h
theorem cwF_from (out : List Int) : ∀ (ss : List Sp) (m : Int), ss.foldl (cwU out) m = m ∨ ∃ s ∈ ss, s.t = (out.length : Int) + 1 ∧ s.w - (out.drop s.f.toNat).sum = ss.foldl (cwU out) m := by
  intro ss
  induction ss with
  | nil => intro m; exact .inl rfl
  | cons u r ih =>
    intro m
    simp only [List.foldl_cons]
    rcases ih (cwU out m u) with h | ⟨s, hs, h1, h2⟩
    · rw [h]
      unfold cwU
      split
      · rename_i ht
        by_cases hm : m ≤ u.w - (out.drop u.f.toNat).sum
        · exact .inr ⟨u, List.mem_cons_self .., ht, by omega⟩
        · exact .inl (by omega)
      · exact .inl rfl
    · exact .inr ⟨s, List.mem_cons_of_mem _ hs, h1, h2⟩
theorem cwW_ge {ss : List Sp} {out : List Int} {s : Sp} (hs : s ∈ ss) (ht : s.t = (out.length : Int) + 1) : s.w - (out.drop s.f.toNat).sum ≤ cwW ss out := cwF_ge out s ht ss 0 hs
theorem cwW_from {ss : List Sp} {out : List Int} : cwW ss out = 0 ∨ ∃ s ∈ ss, s.t = (out.length : Int) + 1 ∧ s.w - (out.drop s.f.toNat).sum = cwW ss out := cwF_from out ss 0
theorem cwW_nn (ss : List Sp) (out : List Int) : 0 ≤ cwW ss out := cwF_le out ss 0

/-- The sum up to the last of c + 1 columns. -/
theorem sm_last (l : List Int) (x : Int) {f : Nat} (hf : f ≤ l.length) : sm (l ++ [x]) f (l.length + 1) = (l.drop f).sum + x := by
  rw [sm, List.take_of_length_le (by simp), List.drop_append_of_le_length hf]
  simp
theorem sm_cw (ss : List Sp) {f c n : Nat} (hf : f ≤ c) (hc : c < n) : sm (cw ss n) f (c + 1) = ((cw ss c).drop f).sum + cwW ss (cw ss c) := by
  have h : sm (cw ss n) f (c + 1) = sm (cw ss c ++ [cwW ss (cw ss c)]) f ((cw ss c).length + 1) := by
    rw [sm, sm, cw_take ss (show c + 1 ≤ n by omega), cw_len, show cw ss c ++ [cwW ss (cw ss c)] = cw ss (c + 1) from rfl, List.take_of_length_le (by rw [cw_len]; exact Nat.le_refl _)]
  rw [h, sm_last _ _ (by rw [cw_len]; exact hf)]
theorem wsOk_mk {l : List Int} (h : ∀ x ∈ l, 0 ≤ x ∧ x ≤ 10000) (h1 : 1 ≤ l.length) (h2 : l.length ≤ 8) : wsOk l = true := by
  simp only [wsOk, Bool.and_eq_true, List.all_eq_true]
  exact ⟨fun x hx => inR_mk (h x hx).1 (h x hx).2, inR_mk (by omega) (by omega)⟩
theorem wsOk_iff {l : List Int} (h : wsOk l = true) : (∀ x ∈ l, 0 ≤ x ∧ x ≤ 10000) ∧ 1 ≤ l.length ∧ l.length ≤ 8 := by
  simp only [wsOk, Bool.and_eq_true, List.all_eq_true, inR_iff] at h
  exact ⟨h.1, by omega, by omega⟩
theorem fitsV_mk {rs : List (List Cl)} {ws : List Int} {n : Nat} (hn : ws.length = n) (h1 : wsOk ws = true) (h2 : tabOk rs (n : Int) = true) (h3 : ∀ s ∈ spans rs, s.w ≤ sm ws s.f.toNat s.t.toNat) : fitsV rs ws = true := by
  simp only [fitsV, h1, hn, h2, Bool.true_and, fitsP, List.all_eq_true, decide_eq_true_eq]
  exact h3
/-- All cells fit. -/
theorem cols_fit {rs : List (List Cl)} {n : Nat} (h : tabOk rs (n : Int) = true) : fitsV rs (cw (spans rs) n) = true := by
  have hr := spans_rng h
  obtain ⟨⟨n1, n8⟩, _, _⟩ := tabOk_iff h
  refine fitsV_mk (cw_len _ _) (wsOk_mk (fun x hx => ?_) (by rw [cw_len]; omega) (by rw [cw_len]; omega)) h fun s hs => ?_
  · have := cw_b (fun s hs => (hr s hs).2.2.2) n x hx
    omega
  · have h1 := hr s hs
    obtain ⟨c, hc⟩ : ∃ c : Nat, s.t = (c : Int) + 1 := ⟨(s.t - 1).toNat, by omega⟩
    have e : s.t.toNat = c + 1 := by omega
    rw [e, sm_cw _ (by omega) (by omega)]
    have := cwW_ge (out := cw (spans rs) c) hs (by rw [cw_len]; exact hc)
    omega
theorem spR_take (r : List Cl) : ∀ (a : Int) (s : Sp), s ∈ spR a r → ∃ q, q ≤ r.length ∧ s ∈ spR a (r.take q) ∧ a + sumS (r.take q) = s.t := by
  induction r with
  | nil => intro a s h; simp [spR] at h
  | cons c r ih =>
    intro a s h
    simp only [spR, List.mem_cons] at h
    rcases h with rfl | h
    · exact ⟨1, by simp, by simp [spR], by simp [sumS]⟩
    · obtain ⟨q, h1, h2, h3⟩ := ih _ _ h
      refine ⟨q + 1, by simp; omega, by simp only [List.take_succ_cons, spR, List.mem_cons]; exact .inr h2, ?_⟩
      simp only [List.take_succ_cons, sumS, List.map_cons, List.sum_cons] at h3 ⊢
      omega
/-- No column can be narrower: the rows' parts up to a column don't fit if it is narrower by 1. -/
theorem cols_less {rs ps : List (List Cl)} {n k : Nat} (h : tabOk rs (n : Int) = true) (hk : k < n) (hps : ∀ r ∈ rs, ∀ q, q ≤ r.length → sumS (r.take q) = (k : Int) + 1 → r.take q ∈ ps) :
    fitsV ps (((cw (spans rs) n).take (k + 1)).set k ((cw (spans rs) n).getD k default - 1)) = false := by
  have hr := spans_rng h
  rw [cw_take _ (show k + 1 ≤ n by omega), cw_at _ hk, cw]
  have e : (cw (spans rs) k ++ [cwW (spans rs) (cw (spans rs) k)]).set k (cwW (spans rs) (cw (spans rs) k) - 1) = cw (spans rs) k ++ [cwW (spans rs) (cw (spans rs) k) - 1] := by
    rw [List.set_append_right _ _ (by rw [cw_len]; exact Nat.le_refl _), cw_len, Nat.sub_self]
    rfl
  rw [e]
  have hl : (cw (spans rs) k ++ [cwW (spans rs) (cw (spans rs) k) - 1]).length = k + 1 := by rw [List.length_append, cw_len]; rfl
  rcases cwW_from (ss := spans rs) (out := cw (spans rs) k) with h0 | ⟨s, hs, ht, hw⟩
  · refine fits_no1 ?_
    rw [h0]
    rcases hv : colsOk (cw (spans rs) k ++ [0 - 1]) with _ | _
    · rfl
    · exfalso
      have := (wsOk_iff (l := cw (spans rs) k ++ [0 - 1]) hv).1 (-1) (by simp)
      omega
  · rcases hv : tabOk ps ((k + 1 : Nat) : Int) with _ | _
    · exact fits_no2 hl hv
    · rcases hf : fitsV ps (cw (spans rs) k ++ [cwW (spans rs) (cw (spans rs) k) - 1]) with _ | _
      · rfl
      · exfalso
        simp only [fitsV, Bool.and_eq_true, fitsP, List.all_eq_true, decide_eq_true_eq] at hf
        have hsr := hr s hs
        rw [cw_len] at ht
        simp only [spans, List.mem_flatMap] at hs
        obtain ⟨r, hrr, hs⟩ := hs
        obtain ⟨q, h1, h2, h3⟩ := spR_take r 0 s hs
        have hm : s ∈ spans ps := by
          simp only [spans, List.mem_flatMap]
          exact ⟨r.take q, hps r hrr q h1 (by omega), h2⟩
        have h4 := hf.2 s hm
        have e1 : s.t.toNat = (cw (spans rs) k).length + 1 := by rw [cw_len]; omega
        rw [e1, sm_last _ _ (by rw [cw_len]; omega)] at h4
        omega

theorem rowR_ones (r : List Cl) : ∀ left v : Int, 0 ≤ left → rowR left r = some v → left = v + r.length → ∀ c ∈ r, c.s = 1 := by
  induction r with
  | nil => intro left v _ _ _ c hc; cases hc
  | cons d r ih =>
    intro left v h0 h e c hc
    simp only [rowR] at h
    split at h
    · rename_i hd
      simp only [Bool.and_eq_true, inR_iff] at hd
      have h1 := rowR_rng r _ _ (by omega) h
      simp only [List.length_cons, Int.natCast_add, Int.natCast_one] at e
      rcases List.mem_cons.1 hc with rfl | hc
      · omega
      · exact ih _ _ (by omega) h (by omega) c hc
    · cases h
theorem spR_ones (r : List Cl) (h : ∀ c ∈ r, c.s = 1) : ∀ a, ∀ s ∈ spR a r, s.t = s.f + 1 := by
  induction r with
  | nil => intro a s hs; cases hs
  | cons c r ih =>
    intro a s hs
    simp only [spR, List.mem_cons] at hs
    rcases hs with rfl | hs
    · have := h c (List.mem_cons_self ..)
      dsimp only
      omega
    · exact ih (fun x hx => h x (List.mem_cons_of_mem _ hx)) _ s hs
theorem cwF_ones (out out' : List Int) (hl : out.length = out'.length) : ∀ (ss : List Sp) (m : Int), (∀ s ∈ ss, 0 ≤ s.f ∧ s.t = s.f + 1) → ss.foldl (cwU out) m = ss.foldl (cwU out') m := by
  intro ss
  induction ss with
  | nil => intro m _; rfl
  | cons u r ih =>
    intro m h
    simp only [List.foldl_cons]
    have hu := h u (List.mem_cons_self ..)
    have e : cwU out m u = cwU out' m u := by
      unfold cwU
      rw [hl]
      split
      · rw [List.drop_of_length_le (by omega), List.drop_of_length_le (by omega)]
      · rfl
    rw [e]
    exact ih _ fun s hs => h s (List.mem_cons_of_mem _ hs)
/-- Fewer rows of single cells have no wider columns. -/
theorem tab_take {rs : List (List Cl)} {n : Int} (h : tabOk rs n = true) (k : Nat) : tabOk (rs.take k) n = true := by
  obtain ⟨h1, h2, h3⟩ := tabOk_iff h
  simp only [tabOk, Bool.and_eq_true, inR_iff, decide_eq_true_eq, List.all_eq_true]
  exact ⟨⟨h1, by rw [List.length_take]; omega⟩, fun r hr => h3 r (List.mem_of_mem_take hr)⟩
theorem cols_yes {rs : List (List Cl)} {n : Nat} (h : tabOk rs (n : Int) = true) : colsV rs n = cw (spans rs) n := by
  rw [colsV, if_pos h]
  rfl
theorem cols_no {rs : List (List Cl)} {n : Int} (h : tabOk rs n = false) : colsV rs n = [] := by
  rw [colsV, h]
  rfl
theorem cols_more {rs : List (List Cl)} {n c : Nat} (h : tabOk rs (n : Int) = true) (hl : ∀ r ∈ rs, r.length = n) (k : Nat) (hc : c < n) : (colsV (rs.take k) n).getD c default ≤ (colsV rs n).getD c default := by
  obtain ⟨h1, h2, h3⟩ := tabOk_iff h
  rw [cols_yes h, cols_yes (tab_take h k), cw_at _ hc, cw_at _ hc]
  have e : spans rs = spans (rs.take k) ++ spans (rs.drop k) := by
    rw [spans, spans, spans, ← List.flatMap_append, List.take_append_drop]
  have hone : ∀ s ∈ spans (rs.take k), 0 ≤ s.f ∧ s.t = s.f + 1 := by
    intro s hs
    refine ⟨(spans_rng (tab_take h k) s hs).1, ?_⟩
    simp only [spans, List.mem_flatMap] at hs
    obtain ⟨r, hr, hs⟩ := hs
    have hr' := List.mem_of_mem_take hr
    exact spR_ones r (rowR_ones r _ 0 (by omega) (rowOk_some (h3 r hr')) (by rw [hl r hr']; omega)) 0 s hs
  have e2 : cwW (spans (rs.take k)) (cw (spans (rs.take k)) c) = cwW (spans (rs.take k)) (cw (spans rs) c) := cwF_ones _ _ (by rw [cw_len, cw_len]) _ _ hone
  rw [e2]
  generalize cw (spans rs) c = out
  rw [e, cwW, cwW, List.foldl_append]
  exact cwF_le _ _ _

/-- A row of single cells. -/
def plainR (ws : List Int) : List Cl := ws.map fun x => ⟨1, x⟩
theorem plain_sp (ws : List Int) : ∀ (a : Int) (s : Sp), s ∈ spR a (plainR ws) ↔ ∃ i, i < ws.length ∧ s = ⟨a + i, a + i + 1, ws.getD i default⟩ := by
  induction ws with
  | nil => intro a s; simp [plainR, spR]
  | cons x r ih =>
    intro a s
    have e : spR a (plainR (x :: r)) = ⟨a, a + 1, x⟩ :: spR (a + 1) (plainR r) := rfl
    rw [e, List.mem_cons, ih]
    constructor
    · rintro (rfl | ⟨i, hi, rfl⟩)
      · exact ⟨0, by simp, by simp⟩
      · refine ⟨i + 1, by simp; omega, ?_⟩
        simp only [Int.natCast_add, Int.natCast_one, List.getD_cons_succ]
        congr 1 <;> omega
    · rintro ⟨i, hi, rfl⟩
      cases i with
      | zero => exact .inl (by simp)
      | succ i =>
        refine .inr ⟨i, by simp at hi; omega, ?_⟩
        simp only [Int.natCast_add, Int.natCast_one, List.getD_cons_succ]
        congr 1 <;> omega
theorem plain_row (ws : List Int) (hb : ∀ x ∈ ws, 0 ≤ x ∧ x ≤ 1000) : ∀ v : Int, 0 ≤ v → rowR (v + ws.length) (plainR ws) = some v := by
  induction ws with
  | nil => intro v _; simp [plainR, rowR]
  | cons x r ih =>
    intro v hv
    have e : plainR (x :: r) = ⟨1, x⟩ :: plainR r := rfl
    have hx := hb x (List.mem_cons_self ..)
    rw [e, rowR, if_pos (by
      simp only [Bool.and_eq_true, inR_iff, List.length_cons, Int.natCast_add, Int.natCast_one]
      omega)]
    have := ih (fun y hy => hb y (List.mem_cons_of_mem _ hy)) v hv
    simp only [List.length_cons, Int.natCast_add, Int.natCast_one]
    rwa [show v + ((r.length : Int) + 1) - 1 = v + r.length by omega]
/-- Single cells determine their columns. -/
theorem cols_plain {ws : List Int} {n : Nat} (hn : ws.length = n) (h1 : 1 ≤ n) (h8 : n ≤ 8) (hb : ∀ x ∈ ws, 0 ≤ x ∧ x ≤ 1000) : colsV [plainR ws] n = ws := by
  have htab : tabOk [plainR ws] (n : Int) = true := by
    have h2 : rowR (n : Int) (plainR ws) = some 0 := by
      have := plain_row ws hb 0 (by omega)
      rwa [hn, Int.zero_add] at this
    simp only [tabOk, Bool.and_eq_true, inR_iff, decide_eq_true_eq, List.all_eq_true, List.mem_singleton]
    refine ⟨⟨by omega, by simp⟩, fun r hr => ?_⟩
    rw [hr, rowOk, h2]
    rfl
  rw [cols_yes htab]
  have hs : spans [plainR ws] = spR 0 (plainR ws) := by simp [spans]
  rw [hs]
  have key : ∀ c, c ≤ n → cw (spR 0 (plainR ws)) c = ws.take c := by
    intro c
    induction c with
    | zero => intro _; simp [cw]
    | succ c ih =>
      intro hc
      rw [cw, ih (by omega), tk_snoc ws c (by omega)]
      have hl : (ws.take c).length = c := by rw [List.length_take]; omega
      have hx := hb _ (mem_of_getD hn (show c < n by omega) rfl)
      have g : (⟨(0 : Int) + c, 0 + c + 1, ws.getD c default⟩ : Sp) ∈ spR 0 (plainR ws) := (plain_sp ws 0 _).2 ⟨c, by omega, rfl⟩
      have h2 := cwW_ge (out := ws.take c) g (by rw [hl]; simp)
      dsimp only at h2
      rw [List.drop_of_length_le (by rw [hl]; omega)] at h2
      simp only [List.sum_nil] at h2
      rcases cwW_from (ss := spR 0 (plainR ws)) (out := ws.take c) with h3 | ⟨s, hs, ht, hw⟩
      · rw [h3] at h2 ⊢
        rw [show ws.getD c default = 0 by omega]
      · obtain ⟨i, hi, rfl⟩ := (plain_sp ws 0 s).1 hs
        dsimp only at ht hw
        rw [hl] at ht
        obtain rfl : i = c := by omega
        rw [List.drop_of_length_le (by rw [hl]; omega)] at hw
        simp only [List.sum_nil] at hw
        rw [← hw, Int.sub_zero]
  rw [key n (Nat.le_refl _), ← hn, List.take_length]

theorem sum_le : ∀ (l l' : List Int), l.length = l'.length → (∀ i, i < l.length → l.getD i default ≤ l'.getD i default) → l.sum ≤ l'.sum := by
  intro l
  induction l with
  | nil => intro l' h _; cases l' with
    | nil => exact Int.le_refl _
    | cons y r => cases h
  | cons x r ih =>
    intro l' h h2
    cases l' with
    | nil => cases h
    | cons y r' =>
      have h3 := h2 0 (by simp)
      have h4 := ih r' (by simpa using h) fun i hi => by
        have := h2 (i + 1) (by simp; omega)
        simpa using this
      simp only [List.getD_cons_zero] at h3
      simp only [List.sum_cons]
      omega
theorem sm_le {l l' : List Int} (hl : l.length = l'.length) (h : ∀ i, i < l.length → l.getD i default ≤ l'.getD i default) (f t : Nat) : sm l f t ≤ sm l' f t := by
  rw [sm, sm]
  refine sum_le _ _ (by rw [List.length_drop, List.length_drop, List.length_take, List.length_take, hl]) fun i hi => ?_
  rw [List.length_drop, List.length_take] at hi
  have := h (f + i) (by omega)
  simp only [List.getD_eq_getElem?_getD] at this ⊢
  rwa [List.getElem?_drop, List.getElem?_drop, List.getElem?_take_of_lt (by omega), List.getElem?_take_of_lt (by omega)]
/-- Wider columns fit as well. -/
theorem fits_wider {rs : List (List Cl)} {ws : List Int} {n k : Nat} {v : Int} (h : fitsV rs ws = true) (hn : ws.length = n) (hv : ws.getD k default ≤ v) (hv0 : 0 ≤ v) (hv2 : v ≤ 10000) : fitsV rs (ws.set k v) = true := by
  simp only [fitsV, Bool.and_eq_true, fitsP, List.all_eq_true, decide_eq_true_eq] at h
  obtain ⟨⟨h1, h2⟩, h3⟩ := h
  obtain ⟨k1, k2, k3⟩ := wsOk_iff h1
  rw [hn] at h2
  refine fitsV_mk (n := n) (by rw [List.length_set]; exact hn) (wsOk_mk (fun x hx => ?_) (by rw [List.length_set]; exact k2) (by rw [List.length_set]; exact k3)) h2 fun s hs => ?_
  · rcases List.mem_or_eq_of_mem_set hx with hx | rfl
    · exact k1 x hx
    · exact ⟨hv0, hv2⟩
  · refine Int.le_trans (h3 s hs) (sm_le (by rw [List.length_set]) (fun i hi => ?_) _ _)
    by_cases e : i = k
    · subst e
      rw [List.getD_eq_getElem?_getD (l := ws.set i v), List.getElem?_set_self (by omega)]
      exact hv
    · rw [List.getD_eq_getElem?_getD, List.getD_eq_getElem?_getD, List.getElem?_set_ne (by omega)]
      exact Int.le_refl _
end Go.Proofs.Ytbkhimdebpllcaa
