/- The cheapest ways with a given number of steps, in plain terms: the table, the way back, the best number of steps; over all nodes or over the stops alone. No program. No condition. -/
import Derived.Test.YtkmipgekmbngcaaDp
import Derived.Test.YtkmipgekmbngcaaMSb0
namespace Go.Proofs.Ytkmipgekmbngcaa.Dp

/-- The table of the cheapest ways with n steps, whose costs C tells for each step. -/
def T2 (C : Nat → Nat → Nat → Option Int) : Nat → Nat → Option (Int × Nat)
  | 0, i => if i = 0 then some (0, 0) else none
  | n + 1, i => best (T2 C n) (fun k => C n k i) i
section
variable {C : Nat → Nat → Nat → Option Int} {n i k k' m : Nat} {u v s : Int}
theorem T2_zero (C : Nat → Nat → Nat → Option Int) : T2 C 0 0 = some (0, 0) := rfl
theorem T2_zero' (h : 0 < i) : T2 C 0 i = none := by rw [T2, if_neg (by omega)]
theorem T2_succ (C : Nat → Nat → Nat → Option Int) (n i : Nat) : T2 C (n + 1) i = best (T2 C n) (fun k => C n k i) i := rfl
theorem best_none {t : Nat → Option (Int × Nat)} {c : Nat → Option Int} (h : ∀ k, k < m → t k = none) : best t c m = none := by
  rcases hb : best t c m with _ | ⟨v, k⟩
  · rfl
  · obtain ⟨hk, ⟨q, s, h1, _⟩, _⟩ := (best_spec t c m).1 v k hb
    rw [h k hk] at h1; cases h1
theorem T2_low : ∀ {n i : Nat}, i < n → T2 C n i = none := by
  intro n
  induction n with
  | zero => intro i h; omega
  | succ n ih =>
    intro i h
    rw [T2_succ]
    exact best_none fun k hk => ih (by omega)
theorem T2_some (h : T2 C (n + 1) i = some (v, k)) : k < i ∧ ∃ u k' s, T2 C n k = some (u, k') ∧ C n k i = some s ∧ v = u + s := by
  rw [T2_succ] at h
  obtain ⟨h1, ⟨q, s, h2, h3, h4⟩, _⟩ := (best_spec _ _ _).1 v k h
  exact ⟨h1, q.1, q.2, s, h2, h3, h4⟩
theorem T2_le (hi : k < i) (hk : T2 C n k = some (u, k')) (hs : C n k i = some s) : ∃ v f, T2 C (n + 1) i = some (v, f) ∧ v ≤ u + s := by
  rw [T2_succ]
  rcases hb : best (T2 C n) (fun k => C n k i) i with _ | ⟨v, f⟩
  · exact absurd ((best_spec _ _ _).2 hb k (u, k') s hi hk hs) id
  · exact ⟨v, f, rfl, ((best_spec _ _ _).1 v f hb).2.2.1 k (u, k') s hi hk hs⟩
theorem T2_bound {M : Int} (_hM : 0 ≤ M) (hc : ∀ l k i s, C l k i = some s → -M ≤ s ∧ s ≤ M) : ∀ n i v k, T2 C n i = some (v, k) → -(n * M) ≤ v ∧ v ≤ n * M := by
  intro n
  induction n with
  | zero =>
    intro i v k h
    rcases Nat.eq_zero_or_pos i with rfl | hi
    · rw [T2_zero] at h; cases h; simp
    · rw [T2_zero' hi] at h; cases h
  | succ n ih =>
    intro i v k h
    obtain ⟨_, u, k', s, h1, h2, rfl⟩ := T2_some h
    obtain ⟨a1, a2⟩ := ih k u k' h1
    obtain ⟨b1, b2⟩ := hc n k i s h2
    have e : ((n + 1 : Nat) : Int) * M = n * M + M := by rw [Int.natCast_add, Int.add_mul]; simp
    rw [e]
    exact ⟨by omega, by omega⟩
theorem best_bound {M A : Int} (hc : ∀ l k i s, C l k i = some s → -M ≤ s ∧ s ≤ M) (hA : ∀ k v f, T2 C n k = some (v, f) → -A ≤ v ∧ v ≤ A) (h : best (T2 C n) (fun k => C n k i) m = some (v, k)) : -(A + M) ≤ v ∧ v ≤ A + M := by
  obtain ⟨_, ⟨q, s, h1, h2, rfl⟩, _⟩ := (best_spec _ _ _).1 v k h
  have := hc n k i s h2
  have := hA k q.1 q.2 h1
  omega

/-- The nodes of the cheapest way with n steps to node i. -/
def path2 (C : Nat → Nat → Nat → Option Int) : Nat → Nat → List Nat
  | 0, _ => []
  | n + 1, i => match T2 C (n + 1) i with
    | some (_, k) => path2 C n k ++ [i]
    | none => []
theorem path2_zero (C : Nat → Nat → Nat → Option Int) (i : Nat) : path2 C 0 i = [] := rfl
theorem path2_succ (h : T2 C (n + 1) i = some (v, k)) : path2 C (n + 1) i = path2 C n k ++ [i] := by rw [path2, h]
theorem path2_len : ∀ n i, T2 C n i ≠ none → (path2 C n i).length = n := by
  intro n
  induction n with
  | zero => intro i _; rfl
  | succ n ih =>
    intro i h
    rcases hs : T2 C (n + 1) i with _ | ⟨v, k⟩
    · exact absurd hs h
    · obtain ⟨_, u, k', s, h1, _⟩ := T2_some hs
      rw [path2_succ hs, List.length_append, List.length_singleton, ih k (by rw [h1]; intro e; cases e)]
theorem path2_le : ∀ n i, T2 C n i ≠ none → ∀ k ∈ path2 C n i, k ≤ i := by
  intro n
  induction n with
  | zero => intro i _ k hk; cases hk
  | succ n ih =>
    intro i h k hk
    rcases hs : T2 C (n + 1) i with _ | ⟨v, j⟩
    · exact absurd hs h
    · obtain ⟨hj, u, k', s, h1, _⟩ := T2_some hs
      rw [path2_succ hs, List.mem_append, List.mem_singleton] at hk
      rcases hk with hk | hk
      · have := ih j (by rw [h1]; intro e; cases e) k hk
        omega
      · omega

/-- The least of some values, and where it comes first. -/
def bestL (t : Nat → Option Int) : Nat → Option (Int × Nat)
  | 0 => none
  | m + 1 => match t m with
    | none => bestL t m
    | some v => match bestL t m with
      | none => some (v, m)
      | some b => if v < b.1 then some (v, m) else some b
theorem bestL_no {t : Nat → Option Int} (h : t m = none) : bestL t (m + 1) = bestL t m := by rw [bestL, h]
theorem bestL_first {t : Nat → Option Int} (h : t m = some v) (hb : bestL t m = none) : bestL t (m + 1) = some (v, m) := by rw [bestL, h, hb]
theorem bestL_less {t : Nat → Option Int} {b : Int × Nat} (h : t m = some v) (hb : bestL t m = some b) (hv : v < b.1) : bestL t (m + 1) = some (v, m) := by rw [bestL, h, hb]; exact if_pos hv
theorem bestL_keep {t : Nat → Option Int} {b : Int × Nat} (h : t m = some v) (hb : bestL t m = some b) (hv : ¬ v < b.1) : bestL t (m + 1) = some b := by rw [bestL, h, hb]; exact if_neg hv
theorem bestL_some {t : Nat → Option Int} : ∀ m v l, bestL t m = some (v, l) → l < m ∧ t l = some v ∧ ∀ j x, j < m → t j = some x → v ≤ x := by
  intro m
  induction m with
  | zero => intro v l h; cases h
  | succ m ih =>
    intro v l h
    rcases ht : t m with _ | x
    · rw [bestL_no ht] at h
      obtain ⟨h1, h2, h3⟩ := ih v l h
      refine ⟨by omega, h2, fun j y hj hy => ?_⟩
      rcases Nat.lt_or_ge j m with hl | hg
      · exact h3 j y hl hy
      · obtain rfl : j = m := by omega
        rw [ht] at hy; cases hy
    · rcases hb : bestL t m with _ | ⟨b, l'⟩
      · rw [bestL_first ht hb] at h
        cases h
        refine ⟨by omega, ht, fun j y hj hy => ?_⟩
        rcases Nat.lt_or_ge j m with hl | hg
        · exfalso
          have key : ∀ m, bestL t m = none → ∀ j, j < m → t j = none := by
            intro m
            induction m with
            | zero => intro _ j hj; omega
            | succ m ihm =>
              intro h j hj
              rcases hq : t m with _ | z
              · rw [bestL_no hq] at h
                rcases Nat.lt_or_ge j m with hl | hg
                · exact ihm h j hl
                · obtain rfl : j = m := by omega
                  exact hq
              · exfalso
                rcases hw : bestL t m with _ | w
                · rw [bestL_first hq hw] at h; cases h
                · by_cases hv : z < w.1
                  · rw [bestL_less hq hw hv] at h; cases h
                  · rw [bestL_keep hq hw hv] at h; cases h
          rw [key m hb j hl] at hy; cases hy
        · obtain rfl : j = m := by omega
          rw [ht] at hy; cases hy; exact Int.le_refl _
      · obtain ⟨h1, h2, h3⟩ := ih b l' hb
        by_cases hv : x < b
        · rw [bestL_less ht hb hv] at h
          cases h
          refine ⟨by omega, ht, fun j y hj hy => ?_⟩
          rcases Nat.lt_or_ge j m with hl | hg
          · have := h3 j y hl hy; omega
          · obtain rfl : j = m := by omega
            rw [ht] at hy; cases hy; exact Int.le_refl _
        · rw [bestL_keep ht hb hv] at h
          cases h
          refine ⟨by omega, h2, fun j y hj hy => ?_⟩
          rcases Nat.lt_or_ge j m with hl | hg
          · exact h3 j y hl hy
          · obtain rfl : j = m := by omega
            rw [ht] at hy; cases hy; omega
theorem bestL_none {t : Nat → Option Int} : ∀ m, bestL t m = none → ∀ j, j < m → t j = none := by
  intro m
  induction m with
  | zero => intro _ j hj; omega
  | succ m ihm =>
    intro h j hj
    rcases hq : t m with _ | z
    · rw [bestL_no hq] at h
      rcases Nat.lt_or_ge j m with hl | hg
      · exact ihm h j hl
      · obtain rfl : j = m := by omega
        exact hq
    · exfalso
      rcases hw : bestL t m with _ | w
      · rw [bestL_first hq hw] at h; cases h
      · by_cases hv : z < w.1
        · rw [bestL_less hq hw hv] at h; cases h
        · rw [bestL_keep hq hw hv] at h; cases h
theorem bestL_congr {t t' : Nat → Option Int} : ∀ m, (∀ j, j < m → t j = t' j) → bestL t m = bestL t' m := by
  intro m
  induction m with
  | zero => intro _; rfl
  | succ m ih =>
    intro h
    rw [bestL, bestL, ih (fun j hj => h j (by omega)), h m (by omega)]
theorem bestL_more {t : Nat → Option Int} (d : Nat) (h : ∀ j, m ≤ j → t j = none) : bestL t (m + d) = bestL t m := by
  induction d with
  | zero => rfl
  | succ d ih => rw [← Nat.add_assoc, bestL_no (h _ (by omega)), ih]
end
section
variable {C : Nat → Nat → Nat → Option Int} {p : Nat → Bool}
theorem T2_stops (n : Nat) (hC : ∀ l k i, p k = false → C l k i = none) (h0 : p 0 = true) : ∀ l N, N < n → p N = true → T2 C l N = lift (fun k => (sts p n).getD k 0) (T2 (fun l k i => C l ((sts p n).getD k 0) ((sts p n).getD i 0)) l (rk p N)) := by
  intro l
  induction l with
  | zero =>
    intro N hN hp
    have hself := sts_at hp hN
    rcases Nat.eq_zero_or_pos N with rfl | hpos
    · have e : rk p 0 = 0 := rfl
      rw [e] at hself ⊢
      rw [T2_zero, T2_zero, lift]
      simp only [Option.map_some, hself]
    · have hr := rk_lt h0 hpos
      rw [T2_zero' hpos, T2_zero' (by omega)]
      rfl
  | succ l ih =>
    intro N hN hp
    have hself := sts_at hp hN
    rw [T2_succ, T2_succ]
    have key : ∀ M, M ≤ N → best (T2 C l) (fun k => C l k N) M = lift (fun k => (sts p n).getD k 0) (best (T2 (fun l k i => C l ((sts p n).getD k 0) ((sts p n).getD i 0)) l) (fun k => C l ((sts p n).getD k 0) ((sts p n).getD (rk p N) 0)) (rk p M)) := by
      intro M
      induction M with
      | zero => intro _; rfl
      | succ M ihM =>
        intro hM
        rw [best_succ, ihM (by omega)]
        rcases hq : p M with _ | _
        · rw [rk_no hq]
          exact upd_skip (T := T2 C l) (S := fun k => C l k N) (N := M) (.inr (hC l M N hq)) _
        · rw [rk_yes hq, best_succ]
          refine upd_lift (ih M (by omega) hq) ?_ (sts_at hq (by omega)) _
          rw [sts_at hq (by omega), hself]
    exact key N (Nat.le_refl _)
theorem path2_stops (n : Nat) (hC : ∀ l k i, p k = false → C l k i = none) (h0 : p 0 = true) : ∀ l N, N < n → p N = true → T2 C l N ≠ none → path2 C l N = (path2 (fun l k i => C l ((sts p n).getD k 0) ((sts p n).getD i 0)) l (rk p N)).map (fun k => (sts p n).getD k 0) := by
  intro l
  induction l with
  | zero => intro N _ _ _; rfl
  | succ l ih =>
    intro N hN hp ht
    have hself := sts_at hp hN
    have htb := T2_stops n hC h0 (l + 1) N hN hp
    rcases hs : T2 (fun l k i => C l ((sts p n).getD k 0) ((sts p n).getD i 0)) (l + 1) (rk p N) with _ | ⟨v, k⟩
    · rw [hs] at htb
      exact absurd htb ht
    · rw [hs] at htb
      obtain ⟨hk, u, k', s, h1, h2, _⟩ := T2_some hs
      obtain ⟨K, hK1, hK2, hK3⟩ := rk_surj hk
      have hLK : (sts p n).getD k 0 = K := by rw [← hK3]; exact sts_at hK2 (by omega)
      have hcK : T2 C (l + 1) N = some (v, K) := by rw [htb, lift]; simp only [Option.map_some, hLK]
      have htK : T2 C l K ≠ none := by
        rw [T2_stops n hC h0 l K (by omega) hK2, hK3, h1]
        intro e
        cases e
      rw [path2_succ hcK, path2_succ hs, List.map_append, ih K (by omega) hK2 htK, hK3]
      simp only [List.map_cons, List.map_nil, hself]
theorem T2_congr {C C' : Nat → Nat → Nat → Option Int} {n : Nat} (h : ∀ l k i, k < i → i ≤ n → C l k i = C' l k i) : ∀ l i, i ≤ n → T2 C l i = T2 C' l i := by
  intro l
  induction l with
  | zero => intro i _; rfl
  | succ l ih =>
    intro i hi
    rw [T2_succ, T2_succ]
    exact best_congr fun k hk => ⟨ih k (by omega), h l k i hk hi⟩
theorem path2_congr {C C' : Nat → Nat → Nat → Option Int} {n : Nat} (h : ∀ l k i, k < i → i ≤ n → C l k i = C' l k i) : ∀ l i, i ≤ n → path2 C l i = path2 C' l i := by
  intro l
  induction l with
  | zero => intro i _; rfl
  | succ l ih =>
    intro i hi
    rcases hs : T2 C (l + 1) i with _ | ⟨v, k⟩
    · have hs' := hs
      rw [T2_congr h _ _ hi] at hs'
      rw [path2, path2, hs, hs']
    · have hs' := hs
      rw [T2_congr h _ _ hi] at hs'
      rw [path2_succ hs, path2_succ hs', ih k (by have := (T2_some hs).1; omega)]
/-- One cost for all steps: no number of steps is cheaper than the cheapest way, and one is as cheap. -/
theorem T2_tbl {c : Nat → Nat → Option Int} : ∀ n i v k, T2 (fun _ => c) n i = some (v, k) → ∃ v' k', tbl c i = some (v', k') ∧ v' ≤ v := by
  intro n
  induction n with
  | zero =>
    intro i v k h
    rcases Nat.eq_zero_or_pos i with rfl | hi
    · rw [T2_zero] at h; cases h; exact ⟨0, 0, tbl_zero c, Int.le_refl _⟩
    · rw [T2_zero' hi] at h; cases h
  | succ n ih =>
    intro i v k h
    obtain ⟨hk, u, k', s, h1, h2, rfl⟩ := T2_some h
    obtain ⟨u', f, h3, h4⟩ := ih k u k' h1
    obtain ⟨v', f', h5, h6⟩ := tbl_le hk h3 h2
    exact ⟨v', f', h5, by omega⟩
theorem tbl_T2 {c : Nat → Nat → Option Int} : ∀ i v k, tbl c i = some (v, k) → ∃ n v' k', n ≤ i ∧ (0 < i → 0 < n) ∧ T2 (fun _ => c) n i = some (v', k') ∧ v' ≤ v := by
  intro i
  induction i using Nat.strongRecOn with
  | _ i ih =>
    intro v k h
    rcases Nat.eq_zero_or_pos i with rfl | hi
    · rw [tbl_zero] at h; cases h
      exact ⟨0, 0, 0, Nat.le_refl _, fun h => absurd h (by omega), rfl, Int.le_refl _⟩
    · obtain ⟨hk, u, k', s, h1, h2, rfl⟩ := tbl_some hi h
      obtain ⟨n, u', f, h3, _, h4, h5⟩ := ih k hk u k' h1
      obtain ⟨v', f', h6, h7⟩ := T2_le (C := fun _ => c) (n := n) hk h4 h2
      exact ⟨n + 1, v', f', by omega, fun _ => by omega, h6, by omega⟩
end
end Go.Proofs.Ytkmipgekmbngcaa.Dp
