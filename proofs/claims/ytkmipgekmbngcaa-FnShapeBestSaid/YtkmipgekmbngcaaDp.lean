/- The cheapest way through numbered stops, in plain terms: the table of least costs, the way back, and that no way is cheaper. No program. No condition. -/
import Derived.KernelRfl
namespace Go.Proofs.Ytkmipgekmbngcaa.Dp

/-- One candidate more: the way over stop k is taken if it is cheaper than what is known. -/
def upd (t : Nat → Option (Int × Nat)) (c : Nat → Option Int) (cur : Option (Int × Nat)) (k : Nat) : Option (Int × Nat) :=
  match t k with
  | none => cur
  | some q => match c k with
    | none => cur
    | some s => match cur with
      | none => some (q.1 + s, k)
      | some b => if q.1 + s < b.1 then some (q.1 + s, k) else some b

def best (t : Nat → Option (Int × Nat)) (c : Nat → Option Int) (m : Nat) : Option (Int × Nat) := (List.range m).foldl (upd t c) none

theorem best_zero (t : Nat → Option (Int × Nat)) (c : Nat → Option Int) : best t c 0 = none := rfl
theorem best_succ (t : Nat → Option (Int × Nat)) (c : Nat → Option Int) (m : Nat) : best t c (m + 1) = upd t c (best t c m) m := by
  unfold best; rw [List.range_succ, List.foldl_append]; rfl
theorem best_congr {t t' : Nat → Option (Int × Nat)} {c c' : Nat → Option Int} {m : Nat} (h : ∀ k, k < m → t k = t' k ∧ c k = c' k) : best t c m = best t' c' m := by
  induction m with
  | zero => rfl
  | succ m ih =>
    rw [best_succ, best_succ, ih (fun k hk => h k (by omega))]
    unfold upd
    rw [(h m (by omega)).1, (h m (by omega)).2]

/-- What the best candidate is: it is one; none is cheaper; each one before it is dearer. -/
theorem best_spec (t : Nat → Option (Int × Nat)) (c : Nat → Option Int) (m : Nat) :
    (∀ v k, best t c m = some (v, k) → k < m ∧ (∃ q s, t k = some q ∧ c k = some s ∧ v = q.1 + s) ∧
      (∀ j q s, j < m → t j = some q → c j = some s → v ≤ q.1 + s) ∧ ∀ j q s, j < k → t j = some q → c j = some s → v < q.1 + s) ∧
    (best t c m = none → ∀ j q s, j < m → t j = some q → c j = some s → False) := by
  induction m with
  | zero => exact ⟨by intro v k h; simp [best_zero] at h, by intro _ j q s hj; omega⟩
  | succ m ih =>
    rw [best_succ]
    unfold upd
    obtain ⟨ih1, ih2⟩ := ih
    rcases ht : t m with _ | q
    · refine ⟨fun v k h => ?_, fun h j q s hj hq hs => ?_⟩
      · obtain ⟨h1, h2, h3, h4⟩ := ih1 v k h
        refine ⟨by omega, h2, fun j q s hj hq hs => ?_, h4⟩
        rcases Nat.lt_or_ge j m with hlt | hge
        · exact h3 j q s hlt hq hs
        · obtain rfl : j = m := by omega
          rw [ht] at hq; cases hq
      · rcases Nat.lt_or_ge j m with hlt | hge
        · exact ih2 h j q s hlt hq hs
        · obtain rfl : j = m := by omega
          rw [ht] at hq; cases hq
    · rcases hc : c m with _ | s0
      · refine ⟨fun v k h => ?_, fun h j q s hj hq hs => ?_⟩
        · obtain ⟨h1, h2, h3, h4⟩ := ih1 v k h
          refine ⟨by omega, h2, fun j q s hj hq hs => ?_, h4⟩
          rcases Nat.lt_or_ge j m with hlt | hge
          · exact h3 j q s hlt hq hs
          · obtain rfl : j = m := by omega
            rw [hc] at hs; cases hs
        · rcases Nat.lt_or_ge j m with hlt | hge
          · exact ih2 h j q s hlt hq hs
          · obtain rfl : j = m := by omega
            rw [hc] at hs; cases hs
      · rcases hb : best t c m with _ | ⟨v0, k0⟩
        · simp only
          refine ⟨fun v k h => ?_, fun h => by cases h⟩
          simp only [Option.some.injEq, Prod.mk.injEq] at h
          obtain ⟨rfl, rfl⟩ := h
          refine ⟨by omega, ⟨q, s0, ht, hc, rfl⟩, fun j q' s' hj hq hs => ?_, fun j q' s' hj hq hs => absurd (ih2 hb j q' s' hj hq hs) id⟩
          rcases Nat.lt_or_ge j m with hlt | hge
          · exact absurd (ih2 hb j q' s' hlt hq hs) id
          · obtain rfl : j = m := by omega
            rw [ht] at hq; rw [hc] at hs; cases hq; cases hs; exact Int.le_refl _
        · obtain ⟨h1, h2, h3, h4⟩ := ih1 v0 k0 hb
          simp only
          by_cases hlt : q.1 + s0 < v0
          · rw [if_pos hlt]
            refine ⟨fun v k h => ?_, fun h => by cases h⟩
            simp only [Option.some.injEq, Prod.mk.injEq] at h
            obtain ⟨rfl, rfl⟩ := h
            refine ⟨by omega, ⟨q, s0, ht, hc, rfl⟩, fun j q' s' hj hq hs => ?_, fun j q' s' hj hq hs => ?_⟩
            · rcases Nat.lt_or_ge j m with hl | hge
              · have := h3 j q' s' hl hq hs; omega
              · obtain rfl : j = m := by omega
                rw [ht] at hq; rw [hc] at hs; cases hq; cases hs; exact Int.le_refl _
            · have := h3 j q' s' hj hq hs; omega
          · rw [if_neg hlt]
            refine ⟨fun v k h => ?_, fun h => by cases h⟩
            simp only [Option.some.injEq, Prod.mk.injEq] at h
            obtain ⟨rfl, rfl⟩ := h
            refine ⟨by omega, h2, fun j q' s' hj hq hs => ?_, h4⟩
            rcases Nat.lt_or_ge j m with hl | hge
            · exact h3 j q' s' hl hq hs
            · obtain rfl : j = m := by omega
              rw [ht] at hq; rw [hc] at hs; cases hq; cases hs; omega

/-- The table over the stops below n. -/
def T (c : Nat → Nat → Option Int) : Nat → Nat → Option (Int × Nat)
  | 0, _ => none
  | n + 1, i => if i = n then (if n = 0 then some (0, 0) else best (T c n) (fun k => c k n) n) else T c n i
def tbl (c : Nat → Nat → Option Int) (i : Nat) : Option (Int × Nat) := T c (i + 1) i

theorem T_tbl (c : Nat → Nat → Option Int) (n i : Nat) (h : i < n) : T c n i = tbl c i := by
  induction n with
  | zero => omega
  | succ n ih =>
    by_cases e : i = n
    · subst e; rfl
    · have : T c (n + 1) i = T c n i := by show (if i = n then _ else _) = _; rw [if_neg e]
      rw [this, ih (by omega)]
theorem tbl_zero (c : Nat → Nat → Option Int) : tbl c 0 = some (0, 0) := rfl
theorem tbl_pos (c : Nat → Nat → Option Int) (i : Nat) (h : 0 < i) : tbl c i = best (tbl c) (fun k => c k i) i := by
  unfold tbl
  show (if i = i then (if i = 0 then some (0, 0) else best (T c i) (fun k => c k i) i) else T c i i) = _
  rw [if_pos rfl, if_neg (by omega)]
  exact best_congr fun k hk => ⟨T_tbl c i k hk, rfl⟩

theorem tbl_some {c : Nat → Nat → Option Int} {i : Nat} {v : Int} {k : Nat} (hi : 0 < i) (h : tbl c i = some (v, k)) :
    k < i ∧ ∃ u k' s, tbl c k = some (u, k') ∧ c k i = some s ∧ v = u + s := by
  rw [tbl_pos c i hi] at h
  obtain ⟨h1, ⟨q, s, h2, h3, h4⟩, _⟩ := (best_spec _ _ _).1 v k h
  exact ⟨h1, q.1, q.2, s, h2, h3, h4⟩
theorem tbl_le {c : Nat → Nat → Option Int} {k i : Nat} {u : Int} {k' : Nat} {s : Int} (hi : k < i) (hk : tbl c k = some (u, k')) (hs : c k i = some s) :
    ∃ v f, tbl c i = some (v, f) ∧ v ≤ u + s := by
  rw [tbl_pos c i (by omega)]
  rcases hb : best (tbl c) (fun k => c k i) i with _ | ⟨v, f⟩
  · exact absurd ((best_spec _ _ _).2 hb k (u, k') s hi hk hs) id
  · exact ⟨v, f, rfl, ((best_spec _ _ _).1 v f hb).2.2.1 k (u, k') s hi hk hs⟩

/-- Costs of at most M each: a cost at stop i is at most i * M. -/
theorem tbl_bound {c : Nat → Nat → Option Int} {M : Int} (hM : 0 ≤ M) (hc : ∀ k i s, k < i → c k i = some s → -M ≤ s ∧ s ≤ M) (i : Nat) :
    ∀ v k, tbl c i = some (v, k) → -(i * M) ≤ v ∧ v ≤ i * M := by
  induction i using Nat.strongRecOn with
  | _ i ih =>
    intro v k h
    rcases Nat.eq_zero_or_pos i with rfl | hi
    · rw [tbl_zero] at h; cases h; simp
    · obtain ⟨hk, u, k', s, h1, h2, rfl⟩ := tbl_some hi h
      obtain ⟨a1, a2⟩ := ih k hk u k' h1
      obtain ⟨b1, b2⟩ := hc k i s hk h2
      have hle : (k : Int) * M + M ≤ i * M := by
        have : ((k + 1 : Nat) : Int) * M ≤ i * M := Int.mul_le_mul_of_nonneg_right (by omega) hM
        rw [Int.natCast_add, Int.add_mul] at this
        simpa using this
      exact ⟨by omega, by omega⟩

/-- The stops of the way to stop i, stop 0 left out. -/
def pathF (c : Nat → Nat → Option Int) : Nat → Nat → List Nat
  | 0, _ => []
  | f + 1, i => if i = 0 then [] else match tbl c i with
    | some (_, k) => pathF c f k ++ [i]
    | none => []
def path (c : Nat → Nat → Option Int) (i : Nat) : List Nat := pathF c i i
theorem pathF_eq (c : Nat → Nat → Option Int) : ∀ (f g i : Nat), i ≤ f → i ≤ g → pathF c f i = pathF c g i := by
  intro f
  induction f with
  | zero => intro g i hf _; obtain rfl : i = 0 := by omega
            cases g <;> simp [pathF]
  | succ f ih =>
    intro g i hf hg
    cases g with
    | zero => obtain rfl : i = 0 := by omega
              simp [pathF]
    | succ g =>
      rcases Nat.eq_zero_or_pos i with rfl | hi
      · simp [pathF]
      · unfold pathF
        rw [if_neg (by omega), if_neg (by omega)]
        rcases h : tbl c i with _ | ⟨v, k⟩
        · rfl
        · have := (tbl_some hi h).1
          simp only
          rw [ih g k (by omega) (by omega)]
theorem path_zero (c : Nat → Nat → Option Int) : path c 0 = [] := rfl
theorem path_pos {c : Nat → Nat → Option Int} {i : Nat} {v : Int} {k : Nat} (hi : 0 < i) (h : tbl c i = some (v, k)) : path c i = path c k ++ [i] := by
  have hk := (tbl_some hi h).1
  unfold path
  obtain ⟨j, rfl⟩ : ∃ j, i = j + 1 := ⟨i - 1, by omega⟩
  show (if j + 1 = 0 then [] else match tbl c (j + 1) with | some (_, k) => pathF c j k ++ [j + 1] | none => []) = _
  rw [if_neg (by omega), h]
  simp only
  rw [pathF_eq c j k k (by omega) (Nat.le_refl _)]

/-- The cost of a way that goes on from stop a. -/
def cost (c : Nat → Nat → Option Int) : Nat → List Nat → Option Int
  | _, [] => some 0
  | a, b :: r => match c a b with
    | none => none
    | some x => match cost c b r with
      | none => none
      | some y => some (x + y)
theorem cost_snoc (c : Nat → Nat → Option Int) (l : List Nat) : ∀ (a b : Nat), cost c a (l ++ [b]) = match cost c a l with
    | none => none
    | some x => match c ((a :: l).getLastD 0) b with
      | none => none
      | some y => some (x + y) := by
  induction l with
  | nil => intro a b; simp only [List.nil_append, cost, List.getLastD_cons, List.getLastD_nil]; cases c a b <;> simp
  | cons d r ih =>
    intro a b
    simp only [List.cons_append, cost]
    rw [ih d b]
    simp only [List.getLastD_cons]
    cases c a d with
    | none => rfl
    | some x =>
      simp only
      cases cost c d r with
      | none => rfl
      | some y =>
        simp only
        cases c ((r.getLastD d)) b with
        | none => rfl
        | some z => simp [Int.add_assoc]
end Go.Proofs.Ytkmipgekmbngcaa.Dp
