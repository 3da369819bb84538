/- Positions of boxes, in plain terms: each begins at or behind the end of the one before it; the length of a line is the width where it can be. No program. No condition. -/
import Derived.Test.YtpcjoehdbohaoaaSetPlain
namespace Go.Proofs.Ytpcjoehdbohaoaa

/-- Where item j would begin. -/
def Fp (l : List It) (d tS tH : Int) (s j : Nat) : Int := mv d tS tH (sW (sg l s j)) (sS (sg l s j)) (sH (sg l s j))
theorem ediv_more {a b c t : Int} (ht : 0 < t) (h : a ≤ b + t * c) : a / t ≤ b / t + c := by
  have h1 : a / t ≤ (b + t * c) / t := Int.ediv_le_ediv ht h
  rwa [Int.add_mul_ediv_left _ _ (by omega)] at h1
theorem mv_more {d tS tH b s h b' s' h' : Int} (hb : b ≤ b') (hs : s ≤ s') (hh : h ≤ h') (hS : 0 ≤ tS) (hH : 0 ≤ tH) (hd : h' - h ≤ b' - b) : mv d tS tH b s h ≤ mv d tS tH b' s' h' := by
  unfold mv mvd
  by_cases h0 : 0 < d
  · simp only [if_pos h0]
    by_cases hz : tS = 0
    · simp only [if_pos hz]; omega
    · simp only [if_neg hz]
      have h1 : d * s ≤ d * s' := Int.mul_le_mul_of_nonneg_left hs (by omega)
      have h2 := Int.ediv_le_ediv (show 0 < tS by omega) h1
      omega
  · simp only [if_neg h0]
    by_cases hz : tH = 0
    · simp only [if_pos hz]; omega
    · simp only [if_neg hz]
      obtain ⟨M, hM⟩ : ∃ M, min (-d) tH = M := ⟨_, rfl⟩
      rw [hM]
      have hM1 : M ≤ tH := by omega
      have hM0 : 0 ≤ M := by omega
      have h1 : M * h' ≤ M * h + tH * (h' - h) := by
        have e : M * h' = M * h + M * (h' - h) := by rw [Int.mul_sub]; omega
        rw [e]
        have : M * (h' - h) ≤ tH * (h' - h) := Int.mul_le_mul_of_nonneg_right hM1 (by omega)
        omega
      have h2 := ediv_more (show 0 < tH by omega) h1
      omega
section
variable {l : List It} {n s j : Nat} {d tS tH : Int}
theorem Fp_step (hok : itemsOk l = true) (hn : l.length = n) (hj : j < n) (hs : s ≤ j) (hS : 0 ≤ tS) (hH : 0 ≤ tH) : Fp l d tS tH s j + (if kd l j = 1 then (l.getD j default).w else 0) ≤ Fp l d tS tH s (j + 1) := by
  obtain ⟨x, hx⟩ : ∃ x, l.getD j default = x := ⟨_, rfl⟩
  obtain ⟨⟨w0, w1⟩, ⟨st0, _⟩, ⟨sh0, _⟩, _, hk, hk1, hk2, hk3⟩ := itemOk_b (itemsOk_at hok hn hj hx)
  unfold Fp
  rw [sg_snoc hn hj hs hx, sW_snoc, sS_snoc, sH_snoc, kd, hx, gw, gs, gh]
  rcases hk with h | h | h
  · obtain ⟨z1, z2, _⟩ := hk1 h
    have h3 : ¬ x.k = 3 := by omega
    rw [if_pos h, if_neg h3, if_neg h3, if_neg h3, z1, z2, Int.add_zero, Int.add_zero]
    unfold mv; omega
  · obtain ⟨_, _, z3⟩ := hk2 h
    have h3 : ¬ x.k = 3 := by omega
    have h1 : ¬ x.k = 1 := by omega
    rw [if_neg h1, if_neg h3, if_neg h3, if_neg h3, Int.add_zero]
    exact mv_more (by omega) (by omega) (by omega) hS hH (by omega)
  · have h1 : ¬ x.k = 1 := by omega
    rw [if_neg h1, if_pos h, if_pos h, if_pos h]
    simp
end
/-- Each number but the last is at least the box's width below the next one. -/
def Chain (l : List It) (bs P : List Int) : Prop := P.length = bs.length + 1 ∧ ∀ i, i < bs.length → P.getD i default + (l.getD (bs.getD i default).toNat default).w ≤ P.getD (i + 1) default
theorem getD_app1 (a b : List Int) {i : Nat} (h : i < a.length) : (a ++ b).getD i default = a.getD i default := by
  rw [List.getD_eq_getElem?_getD, List.getD_eq_getElem?_getD, List.getElem?_append_left h]
theorem getD_app2 (a : List Int) (x : Int) {i : Nat} (h : i = a.length) : (a ++ [x]).getD i default = x := by
  subst h
  rw [List.getD_eq_getElem?_getD, List.getElem?_append_right (Nat.le_refl _)]
  simp
theorem chain_one (l : List It) (x : Int) : Chain l [] [x] := ⟨rfl, fun i hi => absurd hi (Nat.not_lt_zero _)⟩
theorem chain_up {l : List It} {bs P : List Int} {x y : Int} (h : Chain l bs (P ++ [x])) (hxy : x ≤ y) : Chain l bs (P ++ [y]) := by
  obtain ⟨h1, h2⟩ := h
  simp only [List.length_append, List.length_singleton] at h1
  refine ⟨by simp; omega, fun i hi => ?_⟩
  have h3 := h2 i hi
  rw [getD_app1 P _ (by omega)] at h3 ⊢
  rcases Nat.lt_or_ge (i + 1) P.length with h4 | h4
  · rw [getD_app1 P _ h4] at h3 ⊢; exact h3
  · rw [getD_app2 P _ (by omega)] at h3 ⊢; omega
theorem chain_snoc {l : List It} {bs P : List Int} {x y b : Int} (h : Chain l bs (P ++ [x])) (hxy : x + (l.getD b.toNat default).w ≤ y) : Chain l (bs ++ [b]) (P ++ [x] ++ [y]) := by
  obtain ⟨h1, h2⟩ := h
  simp only [List.length_append, List.length_singleton] at h1
  refine ⟨by simp; omega, fun i hi => ?_⟩
  simp only [List.length_append, List.length_singleton] at hi
  rcases Nat.lt_or_ge i bs.length with h4 | h4
  · have h3 := h2 i h4
    rw [getD_app1 bs _ h4, getD_app1 (P ++ [x]) _ (by simp; omega), getD_app1 (P ++ [x]) _ (by simp; omega)]
    exact h3
  · have e : i = bs.length := by omega
    rw [getD_app2 bs _ e, getD_app1 (P ++ [x]) _ (by simp; omega), getD_app2 P _ (by omega), getD_app2 (P ++ [x]) _ (by simp; omega)]
    exact hxy
theorem posP_chain {l : List It} {n s : Nat} {d tS tH : Int} (hok : itemsOk l = true) (hn : l.length = n) (hS : 0 ≤ tS) (hH : 0 ≤ tH) : ∀ j, s ≤ j → j ≤ n → Chain l (boxesP l s j) (posP l d tS tH s j ++ [Fp l d tS tH s j]) := by
  intro j hsj
  induction hsj with
  | refl => intro _; rw [boxesP_nil, posP_none _ _ _ _ (Nat.le_refl _)]; exact chain_one _ _
  | @step j hsj ih =>
    have hsj : _ ≤ j := hsj
    intro hj
    have h1 := ih (by omega)
    have h2 := Fp_step (d := d) hok hn (show j < n by omega) hsj hS hH
    rw [boxesP_snoc _ hsj, posP_snoc _ _ _ _ hsj]
    by_cases hk : kd l j = 1
    · rw [if_pos hk] at h2 ⊢
      rw [if_pos hk]
      refine chain_snoc h1 ?_
      rw [show ((j : Int)).toNat = j by omega]
      exact h2
    · rw [if_neg hk] at h2 ⊢
      rw [if_neg hk]
      exact chain_up h1 (by show _ ≤ Fp l d tS tH s (j + 1); omega)
/-- No boxes lie ahead of the first one. -/
theorem boxesP_lst {l : List It} {n a u : Nat} (hn : l.length = n) (hu : u ≤ n) (ha : a ≤ u) : boxesP l a u = boxesP l (lst l a u) u := by
  obtain ⟨h1, h2, h3, _⟩ := lst_spec hn hu ha
  have key : ∀ s, a ≤ s → s ≤ lst l a u → boxesP l a u = boxesP l s u := by
    intro s hs
    induction hs with
    | refl => intro _; rfl
    | @step s hs ih =>
      have hs : _ ≤ s := hs
      intro hsl
      rw [ih (by omega)]
      unfold boxesP
      rw [show u - s = (u - (s + 1)) + 1 by omega, List.range'_succ, List.filter_cons]
      have hk : (kd l s == 1) = false := by simpa using h3 s hs (by omega)
      simp [hk]
  exact key _ h1 (Nat.le_refl _)
theorem setP_chain {l : List It} {n a u : Nat} (hok : itemsOk l = true) (hn : l.length = n) (hu : u < n) (ha : a ≤ u) (wd : Int) : Chain l (boxesP l a u) (setP l a u wd) := by
  obtain ⟨h1, h2, _, _⟩ := lst_spec (a := a) hn (show u ≤ n by omega) ha
  obtain ⟨_, ⟨hS, _⟩, hH, _⟩ := lg_b (a := a) hok hn hu
  rw [boxesP_lst hn (by omega) ha]
  unfold setP
  refine chain_up (posP_chain (d := wd - lgW l a u) hok hn hS hH u h2 (by omega)) ?_
  obtain ⟨⟨w0, _⟩, _⟩ := itemOk_b (itemsOk_at hok hn hu rfl)
  unfold Fp
  refine mv_more ?_ (Int.le_refl _) (Int.le_refl _) hS hH ?_
  · unfold lgW; split <;> omega
  · unfold lgH lgW; split <;> omega
theorem boxesP_mem {l : List It} {a u : Nat} {x : Int} (h : x ∈ boxesP l a u) : ∃ i : Nat, x = (i : Int) ∧ a ≤ i ∧ i < u ∧ kd l i = 1 := by
  simp only [boxesP, List.mem_map, List.mem_filter, List.mem_range'_1, beq_iff_eq] at h
  obtain ⟨i, ⟨⟨h1, h2⟩, h3⟩, rfl⟩ := h
  exact ⟨i, rfl, h1, by omega, h3⟩
theorem boxesP_has {l : List It} {a u i : Nat} (h1 : a ≤ i) (h2 : i < u) : has (boxesP l a u) (i : Int) = (kd l i == 1) := by
  rcases hk : (kd l i == 1) with _ | _
  · rcases hh : has (boxesP l a u) (i : Int) with _ | _
    · rfl
    · obtain ⟨j, e, _, _, h3⟩ := boxesP_mem (has_iff.1 hh)
      have : i = j := by omega
      subst this
      rw [h3] at hk
      cases hk
  · rw [has_iff]
    simp only [boxesP, List.mem_map, List.mem_filter, List.mem_range'_1]
    exact ⟨i, ⟨⟨h1, by omega⟩, hk⟩, rfl⟩
/-- The sum of the widths of some items. -/
def wsum (l : List It) (bs : List Int) : Int := (bs.map fun b => (l.getD b.toNat default).w).sum
theorem wsum_snoc (l : List It) (bs : List Int) (b : Int) : wsum l (bs ++ [b]) = wsum l bs + (l.getD b.toNat default).w := by simp [wsum]
theorem wsum_le {l : List It} {n s : Nat} (hok : itemsOk l = true) (hn : l.length = n) : ∀ j, s ≤ j → j ≤ n → wsum l (boxesP l s j) ≤ sW (sg l s j) := by
  intro j hsj
  induction hsj with
  | refl => intro _; rw [boxesP_nil, sg_none _ (Nat.le_refl _)]; exact Int.le_refl _
  | @step j hsj ih =>
    have hsj : _ ≤ j := hsj
    intro hj
    have h1 := ih (by omega)
    obtain ⟨x, hx⟩ : ∃ x, l.getD j default = x := ⟨_, rfl⟩
    obtain ⟨⟨w0, _⟩, _⟩ := itemOk_b (itemsOk_at hok hn (show j < n by omega) hx)
    rw [boxesP_snoc _ hsj, sg_snoc hn (by omega) hsj hx, sW_snoc, kd, hx, gw]
    by_cases hk : x.k = 1
    · have h3 : ¬ x.k = 3 := by omega
      rw [if_pos hk, if_neg h3, wsum_snoc, show ((j : Int)).toNat = j by omega, hx]
      omega
    · rw [if_neg hk]
      split <;> omega
theorem wsum_lg {l : List It} {n a u : Nat} (hok : itemsOk l = true) (hn : l.length = n) (hu : u < n) (ha : a ≤ u) : wsum l (boxesP l a u) ≤ lgW l a u := by
  obtain ⟨h1, h2, _, _⟩ := lst_spec (a := a) hn (show u ≤ n by omega) ha
  rw [boxesP_lst hn (by omega) ha]
  have h3 := wsum_le hok hn u h2 (by omega)
  obtain ⟨⟨w0, _⟩, _⟩ := itemOk_b (itemsOk_at hok hn hu rfl)
  unfold lgW
  split <;> omega
/-- The length of a line that fits. -/
theorem mv_exact {wd W S H : Int} (hS : 0 ≤ S) (hH : 0 ≤ H) (h : W = wd ∨ (W < wd ∧ 0 < S) ∨ (W > wd ∧ W - wd ≤ H)) : mv (wd - W) S H W S H = wd := by
  unfold mv mvd
  rcases h with h | ⟨h, h'⟩ | ⟨h, h'⟩
  · have h0 : ¬ 0 < wd - W := by omega
    rw [if_neg h0, if_neg h0]
    by_cases hz : H = 0
    · rw [if_pos hz]; omega
    · rw [if_neg hz]
      have : min (-(wd - W)) H = 0 := by omega
      rw [this]
      simp
      omega
  · have h0 : 0 < wd - W := by omega
    rw [if_pos h0, if_pos h0, if_neg (by omega), Int.mul_ediv_cancel _ (by omega)]
    omega
  · have h0 : ¬ 0 < wd - W := by omega
    rw [if_neg h0, if_neg h0, if_neg (by omega)]
    have : min (-(wd - W)) H = W - wd := by omega
    rw [this, Int.mul_ediv_cancel _ (by omega)]
    omega
theorem chain_inc {l : List It} {bs P : List Int} (h : Chain l bs P) (hw : ∀ i, i < bs.length → 0 ≤ (l.getD (bs.getD i default).toNat default).w) {i : Nat} (hi : i + 1 < P.length) : P.getD i default ≤ P.getD (i + 1) default := by
  obtain ⟨h1, h2⟩ := h
  have := h2 i (by omega)
  have := hw i (by omega)
  omega
end Go.Proofs.Ytpcjoehdbohaoaa
