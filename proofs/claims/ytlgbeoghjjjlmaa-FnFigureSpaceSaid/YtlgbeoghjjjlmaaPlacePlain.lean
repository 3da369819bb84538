/- Placing figures, in plain terms; more space places nothing later. No program. Conditions: where it says so the figures and spaces are valid. -/
import Derived.Test.YtlgbeoghjjjlmaaFigCheck
namespace Go.Proofs.Ytlgbeoghjjjlmaa

def pgF (l : List Int) (h : Int) : Nat → Nat → Nat
  | 0, p => p
  | d + 1, p => if l.getD p default < h then pgF l h d (p + 1) else p
/-- The first page from p on that has enough space; the number of pages if there is none. -/
def pgFind (l : List Int) (h : Int) (p : Nat) : Nat := pgF l h (l.length - p) p
theorem pgFind_end {l : List Int} {h : Int} {m p : Nat} (hl : l.length = m) (hp : m ≤ p) : pgFind l h p = p := by
  unfold pgFind
  rw [show l.length - p = 0 by omega]
  rfl
theorem pgFind_next {l : List Int} {h y : Int} {m p : Nat} (hl : l.length = m) (hp : p < m) (hy : l.getD p default = y) (hh : y < h) : pgFind l h p = pgFind l h (p + 1) := by
  unfold pgFind
  rw [show l.length - p = (l.length - (p + 1)) + 1 by omega, pgF, hy, if_pos hh]
theorem pgFind_stop {l : List Int} {h y : Int} {m p : Nat} (hl : l.length = m) (hp : p < m) (hy : l.getD p default = y) (hh : h ≤ y) : pgFind l h p = p := by
  unfold pgFind
  rw [show l.length - p = (l.length - (p + 1)) + 1 by omega, pgF, hy, if_neg (by omega)]
theorem pgFind_spec {l : List Int} {h : Int} {m : Nat} (hl : l.length = m) : ∀ d p, m ≤ p + d → p ≤ pgFind l h p ∧ (pgFind l h p < m → h ≤ l.getD (pgFind l h p) default) ∧ ∀ q, p ≤ q → q < m → h ≤ l.getD q default → pgFind l h p ≤ q := by
  intro d
  induction d with
  | zero =>
    intro p hp
    rw [pgFind_end hl (by omega)]
    exact ⟨Nat.le_refl _, fun h => absurd h (by omega), fun q h1 h2 _ => by omega⟩
  | succ d ih =>
    intro p hp
    by_cases h0 : m ≤ p
    · rw [pgFind_end hl h0]
      exact ⟨Nat.le_refl _, fun h => absurd h (by omega), fun q h1 h2 _ => by omega⟩
    · by_cases h1 : l.getD p default < h
      · rw [pgFind_next hl (by omega) rfl h1]
        obtain ⟨a, b, c⟩ := ih (p + 1) (by omega)
        refine ⟨by omega, b, fun q q1 q2 q3 => ?_⟩
        by_cases e : q = p
        · subst e; omega
        · exact c q (by omega) q2 q3
      · rw [pgFind_stop hl (by omega) rfl (by omega)]
        exact ⟨Nat.le_refl _, fun _ => by omega, fun q q1 _ _ => q1⟩
def plStep (a : Option (List Int × Nat × List Int)) (f : Fg) : Option (List Int × Nat × List Int) :=
  a.bind fun q => if pgFind q.1 f.a (max q.2.1 f.b.toNat) < q.1.length then some (q.1.set (pgFind q.1 f.a (max q.2.1 f.b.toNat)) (q.1.getD (pgFind q.1 f.a (max q.2.1 f.b.toNat)) default - f.a), pgFind q.1 f.a (max q.2.1 f.b.toNat), q.2.2 ++ [(pgFind q.1 f.a (max q.2.1 f.b.toNat) : Int)]) else none
def plF (xs : List Fg) (ss : List Int) : Nat → Option (List Int × Nat × List Int)
  | 0 => some (ss, 0, [])
  | j + 1 => plStep (plF xs ss j) (xs.getD j default)
def placeV (xs : List Fg) (ss : List Int) : List Int × Bool := if figsOk xs && spaceOk ss then (match plF xs ss xs.length with | none => ([], false) | some q => (q.2.2, true)) else ([], false)
section
variable {xs : List Fg} {ss l out : List Int} {n m j pg : Nat} {x : Fg}
theorem pl_none (h : plF xs ss j = none) : ∀ k, j ≤ k → plF xs ss k = none := by
  intro k
  induction k with
  | zero => intro hk; obtain rfl : j = 0 := by omega
            exact h
  | succ k ih =>
    intro hk
    by_cases e : j = k + 1
    · subst e; exact h
    · rw [plF, ih (by omega)]; rfl
theorem place_b1 (h : figsOk xs = false) : placeV xs ss = ([], false) := by rw [placeV, h]; rfl
theorem place_b2 (h : spaceOk ss = false) : placeV xs ss = ([], false) := by rw [placeV, h]; simp
theorem place_no (hn : xs.length = n) (hj : j ≤ n) (h : plF xs ss j = none) : placeV xs ss = ([], false) := by
  unfold placeV
  split
  · rw [hn, pl_none h n hj]
  · rfl
theorem place_yes (h1 : figsOk xs = true) (h2 : spaceOk ss = true) (hn : xs.length = n) (h : plF xs ss n = some (l, pg, out)) : placeV xs ss = (out, true) := by
  rw [placeV, h1, h2, hn, h]; rfl
theorem place_true {out : List Int} (hn : xs.length = n) (h : placeV xs ss = (out, true)) : figsOk xs = true ∧ spaceOk ss = true ∧ ∃ l pg, plF xs ss n = some (l, pg, out) := by
  rcases h1 : figsOk xs with _ | _
  · rw [place_b1 h1] at h; cases h
  rcases h2 : spaceOk ss with _ | _
  · rw [place_b2 h2] at h; cases h
  rcases h3 : plF xs ss n with _ | ⟨l, pg, o⟩
  · rw [place_no hn (Nat.le_refl _) h3] at h; cases h
  · rw [place_yes h1 h2 hn h3] at h
    cases h
    exact ⟨rfl, rfl, l, pg, rfl⟩
theorem pl_next {P : Nat} (hl : l.length = m) (hx : xs.getD j default = x) (h : plF xs ss j = some (l, pg, out)) (hP : pgFind l x.a (max pg x.b.toNat) = P) : plF xs ss (j + 1) = if P < m then some (l.set P (l.getD P default - x.a), P, out ++ [(P : Int)]) else none := by
  rw [plF, h, hx]
  show (if _ then _ else _) = _
  simp only [hP, hl]
theorem pl_inv (hok : figsOk xs = true) (hn : xs.length = n) (hs : ss.length = m) (hso : spaceOk ss = true) : ∀ j, j ≤ n → ∀ l pg out, plF xs ss j = some (l, pg, out) → l.length = m ∧ (∀ y ∈ l, 0 ≤ y ∧ y ≤ 10000) ∧ pg ≤ m ∧ out.length = j := by
  intro j
  induction j with
  | zero =>
    intro _ l pg out h
    cases h
    exact ⟨hs, (space_iff hso).2, Nat.zero_le _, rfl⟩
  | succ j ih =>
    intro hj l pg out h
    rcases hq : plF xs ss j with _ | ⟨l0, pg0, out0⟩
    · rw [plF, hq] at h; cases h
    · obtain ⟨h1, h2, h3, h4⟩ := ih (by omega) l0 pg0 out0 hq
      rw [pl_next h1 rfl hq rfl] at h
      obtain ⟨P, hP⟩ : ∃ P, pgFind l0 (xs.getD j default).a (max pg0 (xs.getD j default).b.toNat) = P := ⟨_, rfl⟩
      rw [hP] at h
      by_cases hc : P < m
      · rw [if_pos hc] at h
        obtain ⟨⟨a1, a2⟩, b1, b2⟩ := fig_at hok hn (show j < n by omega) rfl
        have hsp := (pgFind_spec (h := (xs.getD j default).a) h1 m (max pg0 (xs.getD j default).b.toNat) (by omega)).2.1
        rw [hP] at hsp
        have hle := hsp hc
        have hel := h2 _ (mem_of_getD h1 hc rfl)
        cases h
        refine ⟨by rw [List.length_set]; exact h1, fun y hy => ?_, by omega, by simp [h4]⟩
        rcases List.mem_or_eq_of_mem_set hy with h5 | h5
        · exact h2 y h5
        · subst h5; omega
      · rw [if_neg hc] at h; cases h
theorem getD_set' (xs : List Int) (i k : Nat) (v : Int) : (xs.set i v).getD k default = if i = k ∧ k < xs.length then v else xs.getD k default := by
  rw [List.getD_eq_getElem?_getD, List.getD_eq_getElem?_getD, List.getElem?_set]
  by_cases e : i = k
  · subst e
    by_cases h : i < xs.length
    · simp [h]
    · simp [h]
  · simp [e]
/-- More space places nothing later. -/
theorem pl_more {ws : List Int} (hok : figsOk xs = true) (hn : xs.length = n) (hs : ss.length = m) (hso : spaceOk ss = true) (hw : ws.length = m) (hle : ∀ q, q < m → ss.getD q default ≤ ws.getD q default) :
    ∀ j, j ≤ n → ∀ l pg out, plF xs ss j = some (l, pg, out) → ∃ l' pg' out', plF xs ws j = some (l', pg', out') ∧ l'.length = m ∧ out'.length = j ∧
      (pg' < pg ∨ (pg' = pg ∧ l.getD pg default ≤ l'.getD pg default)) ∧ (∀ q, pg < q → q < m → l.getD q default = ss.getD q default) ∧ (∀ q, pg' < q → q < m → l'.getD q default = ws.getD q default) ∧
      (∀ q, q < m → l.getD q default ≤ ss.getD q default) ∧ ∀ i, i < j → out'.getD i default ≤ out.getD i default := by
  intro j
  induction j with
  | zero =>
    intro _ l pg out h
    cases h
    refine ⟨ws, 0, [], rfl, hw, rfl, .inr ⟨rfl, ?_⟩, fun _ _ _ => rfl, fun _ _ _ => rfl, fun _ _ => Int.le_refl _, fun i hi => absurd hi (by omega)⟩
    by_cases h0 : 0 < m
    · exact hle 0 h0
    · have e1 : ss = [] := List.eq_nil_of_length_eq_zero (by omega)
      have e2 : ws = [] := List.eq_nil_of_length_eq_zero (by omega)
      rw [e1, e2]
      exact Int.le_refl _
  | succ j ih =>
    intro hj l pg out h
    rcases hq : plF xs ss j with _ | ⟨l0, pg0, out0⟩
    · rw [plF, hq] at h; cases h
    · obtain ⟨l1, pg1, out1, k1, k2, k3, k4, k5, k6, k7, k8⟩ := ih (by omega) l0 pg0 out0 hq
      obtain ⟨i1, _, i3, i4⟩ := pl_inv hok hn hs hso j (by omega) l0 pg0 out0 hq
      obtain ⟨f, hf⟩ : ∃ f, xs.getD j default = f := ⟨_, rfl⟩
      obtain ⟨⟨a1, a2⟩, b1, b2⟩ := fig_at hok hn (show j < n by omega) hf
      rw [pl_next i1 hf hq rfl] at h
      obtain ⟨P, hP⟩ : ∃ P, pgFind l0 f.a (max pg0 f.b.toNat) = P := ⟨_, rfl⟩
      rw [hP] at h
      by_cases hc : P < m
      · rw [if_pos hc] at h
        obtain ⟨s1, s2, _⟩ := pgFind_spec (h := f.a) i1 m (max pg0 f.b.toNat) (by omega)
        rw [hP] at s1 s2
        have s3 := s2 hc
        obtain ⟨P', hP'⟩ : ∃ P', pgFind l1 f.a (max pg1 f.b.toNat) = P' := ⟨_, rfl⟩
        obtain ⟨t1, t2, t3⟩ := pgFind_spec (h := f.a) k2 m (max pg1 f.b.toNat) (by omega)
        rw [hP'] at t1 t2 t3
        have hl1P : l0.getD P default ≤ l1.getD P default := by
          by_cases e : pg1 < P
          · rw [k6 P e hc]
            have u1 := k7 P hc
            have u2 := hle P hc
            omega
          · have e1 : P = pg0 := by omega
            have e2 : pg1 = pg0 := by omega
            rcases k4 with h4 | ⟨_, h4⟩
            · omega
            · rw [e1]; exact h4
        have hPP : P' ≤ P := t3 P (by omega) hc (by omega)
        have hP'm : P' < m := by omega
        have hnx := pl_next (ss := ws) k2 hf k1 hP'
        rw [if_pos hP'm] at hnx
        cases h
        refine ⟨_, P', _, hnx, by rw [List.length_set]; exact k2, by simp [k3], ?_, fun q q1 q2 => ?_, fun q q1 q2 => ?_, fun q q2 => ?_, fun i hi => ?_⟩
        · by_cases e : P' < pg
          · exact .inl e
          · have e1 : P' = pg := by omega
            subst e1
            refine .inr ⟨rfl, ?_⟩
            rw [getD_set', getD_set', if_pos ⟨rfl, by omega⟩, if_pos ⟨rfl, by omega⟩]
            omega
        · rw [getD_set', if_neg (by omega)]
          exact k5 q (by omega) q2
        · rw [getD_set', if_neg (by omega)]
          exact k6 q (by omega) q2
        · rw [getD_set']
          split
          · rename_i e
            obtain ⟨e, _⟩ := e
            subst e
            have := k7 pg hc
            omega
          · exact k7 q q2
        · rw [List.getD_eq_getElem?_getD, List.getD_eq_getElem?_getD]
          by_cases e : i < j
          · rw [List.getElem?_append_left (by omega), List.getElem?_append_left (by omega)]
            have := k8 i e
            rw [List.getD_eq_getElem?_getD, List.getD_eq_getElem?_getD] at this
            exact this
          · have e1 : i = j := by omega
            subst e1
            rw [List.getElem?_append_right (by omega), List.getElem?_append_right (by omega), k3, i4, Nat.sub_self]
            simp only [List.getElem?_cons_zero, Option.getD_some]
            omega
      · rw [if_neg hc] at h; cases h
end
end Go.Proofs.Ytlgbeoghjjjlmaa
