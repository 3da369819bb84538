/- The cheapest ways with a given number of steps, in plain terms: the table, the way back, the best number of steps; over all nodes or over the stops alone. No program. No condition. -/
import Derived.Test.YtkmipgekmbngcaaMShF
import Derived.Laws.AppendOwnNone
import Derived.BigQuiet
import Derived.BigGuardPart
import Derived.StillTail
import Derived.Shelf.Abstract
namespace Go.Proofs.Ytkmipgekmbngcaa.Dp

/-- The table of the cheapest ways with n steps, whose costs C tells for each step. -/
def T2 (C : Nat → Nat → Nat → Option Int) : Nat → Nat → Option (Int × Nat)
  | 0, i => if i = 0 then some (0, 0) else none
  | n + 1, i => best (T2 C n) (fun k => C n k i) i
section
variable {C : Nat → Nat → Nat → Option Int} {n i k k' m : Nat} {u v s : Int}
theorem T2_zero (C : Nat → Nat → Nat → Option Int) : T2 C 0 0 = some (0, 0) := rfl
theorem T2_zero' (h : 0 < i) : T2 C 0 i = none := by rw [T2, if_neg (by omega)]
theorem T2_succ (C : Nat → Nat → Nat → Option Int) (n i : Nat) : T2 C (n + 1) i = best (T2 C n) (fun k => C n k i) i := rfl
theorem best_none {t : Nat → Option (Int × Nat)} {c : Nat → Option Int} (h : ∀ k, k < m → t k = none) : best t c m = none := by
  rcases hb : best t c m with _ | ⟨v, k⟩
  · rfl
  · obtain ⟨hk, ⟨q, s, h1, _⟩, _⟩ := (best_spec t c m).1 v k hb
    rw [h k hk] at h1; cases h1
theorem T2_low : ∀ {n i : Nat}, i < n → T2 C n i = none := by
  intro n
  induction n with
  | zero => intro i h; omega
  | succ n ih =>
    intro i h
    rw [T2_succ]
    exact best_none fun k hk => ih (by omega)
theorem T2_some (h : T2 C (n + 1) i = some (v, k)) : k < i ∧ ∃ u k' s, T2 C n k = some (u, k') ∧ C n k i = some s ∧ v = u + s := by
  rw [T2_succ] at h
  obtain ⟨h1, ⟨q, s, h2, h3, h4⟩, _⟩ := (best_spec _ _ _).1 v k h
  exact ⟨h1, q.1, q.2, s, h2, h3, h4⟩
theorem T2_le (hi : k < i) (hk : T2 C n k = some (u, k')) (hs : C n k i = some s) : ∃ v f, T2 C (n + 1) i = some (v, f) ∧ v ≤ u + s := by
  rw [T2_succ]
  rcases hb : best (T2 C n) (fun k => C n k i) i with _ | ⟨v, f⟩
  · exact absurd ((best_spec _ _ _).2 hb k (u, k') s hi hk hs) id
  · exact ⟨v, f, rfl, ((best_spec _ _ _).1 v f hb).2.2.1 k (u, k') s hi hk hs⟩
theorem T2_bound {M : Int} (_hM : 0 ≤ M) (hc : ∀ l k i s, C l k i = some s → -M ≤ s ∧ s ≤ M) : ∀ n i v k, T2 C n i = some (v, k) → -(n * M) ≤ v ∧ v ≤ n * M := by
  intro n
  induction n with
  | zero =>
    intro i v k h
    rcases Nat.eq_zero_or_pos i with rfl | hi
    · rw [T2_zero] at h; cases h; simp
    · rw [T2_zero' hi] at h; cases h
  | succ n ih =>
    intro i v k h
    obtain ⟨_, u, k', s, h1, h2, rfl⟩ := T2_some h
    obtain ⟨a1, a2⟩ := ih k u k' h1
    obtain ⟨b1, b2⟩ := hc n k i s h2
    have e : ((n + 1 : Nat) : Int) * M = n * M + M := by rw [Int.natCast_add, Int.add_mul]; simp
    rw [e]
    exact ⟨by omega, by omega⟩
theorem best_bound {M A : Int} (hc : ∀ l k i s, C l k i = some s → -M ≤ s ∧ s ≤ M) (hA : ∀ k v f, T2 C n k = some (v, f) → -A ≤ v ∧ v ≤ A) (h : best (T2 C n) (fun k => C n k i) m = some (v, k)) : -(A + M) ≤ v ∧ v ≤ A + M := by
  obtain ⟨_, ⟨q, s, h1, h2, rfl⟩, _⟩ := (best_spec _ _ _).1 v k h
  have := hc n k i s h2
  have := hA k q.1 q.2 h1
  omega

/-- The nodes of the cheapest way with n steps to node i. -/
def path2 (C : Nat → Nat → Nat → Option Int) : Nat → Nat → List Nat
  | 0, _ => []
  | n + 1, i => match T2 C (n + 1) i with
    | some (_, k) => path2 C n k ++ [i]
    | none => []
theorem path2_zero (C : Nat → Nat → Nat → Option Int) (i : Nat) : path2 C 0 i = [] := rfl
theorem path2_succ (h : T2 C (n + 1) i = some (v, k)) : path2 C (n + 1) i = path2 C n k ++ [i] := by rw [path2, h]
theorem path2_len : ∀ n i, T2 C n i ≠ none → (path2 C n i).length = n := by
  intro n
  induction n with
  | zero => intro i _; rfl
  | succ n ih =>
    intro i h
    rcases hs : T2 C (n + 1) i with _ | ⟨v, k⟩
    · exact absurd hs h
    · obtain ⟨_, u, k', s, h1, _⟩ := T2_some hs
      rw [path2_succ hs, List.length_append, List.length_singleton, ih k (by rw [h1]; intro e; cases e)]
theorem path2_le : ∀ n i, T2 C n i ≠ none → ∀ k ∈ path2 C n i, k ≤ i := by
  intro n
  induction n with
  | zero => intro i _ k hk; cases hk
  | succ n ih =>
    intro i h k hk
    rcases hs : T2 C (n + 1) i with _ | ⟨v, j⟩
    · exact absurd hs h
    · obtain ⟨hj, u, k', s, h1, _⟩ := T2_some hs
      rw [path2_succ hs, List.mem_append, List.mem_singleton] at hk
      rcases hk with hk | hk
      · have := ih j (by rw [h1]; intro e; cases e) k hk
        omega
      · omega

/-- The least of some values, and where it comes first. -/
def bestL (t : Nat → Option Int) : Nat → Option (Int × Nat)
  | 0 => none
  | m + 1 => match t m with
    | none => bestL t m
    | some v => match bestL t m with
      | none => some (v, m)
      | some b => if v < b.1 then some (v, m) else some b
theorem bestL_no {t : Nat → Option Int} (h : t m = none) : bestL t (m + 1) = bestL t m := by rw [bestL, h]
theorem bestL_first {t : Nat → Option Int} (h : t m = some v) (hb : bestL t m = none) : bestL t (m + 1) = some (v, m) := by rw [bestL, h, hb]
theorem bestL_less {t : Nat → Option Int} {b : Int × Nat} (h : t m = some v) (hb : bestL t m = some b) (hv : v < b.1) : bestL t (m + 1) = some (v, m) := by rw [bestL, h, hb]; exact if_pos hv
theorem bestL_keep {t : Nat → Option Int} {b : Int × Nat} (h : t m = some v) (hb : bestL t m = some b) (hv : ¬ v < b.1) : bestL t (m + 1) = some b := by rw [bestL, h, hb]; exact if_neg hv
theorem bestL_some {t : Nat → Option Int} : ∀ m v l, bestL t m = some (v, l) → l < m ∧ t l = some v ∧ ∀ j x, j < m → t j = some x → v ≤ x := by
  intro m
  induction m with
  | zero => intro v l h; cases h
  | succ m ih =>
    intro v l h
    rcases ht : t m with _ | x
    · rw [bestL_no ht] at h
      obtain ⟨h1, h2, h3⟩ := ih v l h
      refine ⟨by omega, h2, fun j y hj hy => ?_⟩
      rcases Nat.lt_or_ge j m with hl | hg
      · exact h3 j y hl hy
      · obtain rfl : j = m := by omega
        rw [ht] at hy; cases hy
    · rcases hb : bestL t m with _ | ⟨b, l'⟩
      · rw [bestL_first ht hb] at h
        cases h
        refine ⟨by omega, ht, fun j y hj hy => ?_⟩
        rcases Nat.lt_or_ge j m with hl | hg
        · exfalso
          have key : ∀ m, bestL t m = none → ∀ j, j < m → t j = none := by
            intro m
            induction m with
            | zero => intro _ j hj; omega
            | succ m ihm =>
              intro h j hj
              rcases hq : t m with _ | z
              · rw [bestL_no hq] at h
                rcases Nat.lt_or_ge j m with hl | hg
                · exact ihm h j hl
                · obtain rfl : j = m := by omega
                  exact hq
              · exfalso
                rcases hw : bestL t m with _ | w
                · rw [bestL_first hq hw] at h; cases h
                · by_cases hv : z < w.1
                  · rw [bestL_less hq hw hv] at h; cases h
                  · rw [bestL_keep hq hw hv] at h; cases h
          rw [key m hb j hl] at hy; cases hy
        · obtain rfl : j = m := by omega
          rw [ht] at hy; cases hy; exact Int.le_refl _
      · obtain ⟨h1, h2, h3⟩ := ih b l' hb
        by_cases hv : x < b
        · rw [bestL_less ht hb hv] at h
          cases h
          refine ⟨by omega, ht, fun j y hj hy => ?_⟩
          rcases Nat.lt_or_ge j m with hl | hg
          · have := h3 j y hl hy; omega
          · obtain rfl : j = m := by omega
            rw [ht] at hy; cases hy; exact Int.le_refl _
        · rw [bestL_keep ht hb hv] at h
          cases h
          refine ⟨by omega, h2, fun j y hj hy => ?_⟩
          rcases Nat.lt_or_ge j m with hl | hg
          · exact h3 j y hl hy
          · obtain rfl : j = m := by omega
            rw [ht] at hy; cases hy; omega
theorem bestL_none {t : Nat → Option Int} : ∀ m, bestL t m = none → ∀ j, j < m → t j = none := by
  intro m
  induction m with
  | zero => intro _ j hj; omega
  | succ m ihm =>
    intro h j hj
    rcases hq : t m with _ | z
    · rw [bestL_no hq] at h
      rcases Nat.lt_or_ge j m with hl | hg
      · exact ihm h j hl
      · obtain rfl : j = m := by omega
        exact hq
    · exfalso
      rcases hw : bestL t m with _ | w
      · rw [bestL_first hq hw] at h; cases h
      · by_cases hv : z < w.1
        · rw [bestL_less hq hw hv] at h; cases h
        · rw [bestL_keep hq hw hv] at h; cases h
theorem bestL_congr {t t' : Nat → Option Int} : ∀ m, (∀ j, j < m → t j = t' j) → bestL t m = bestL t' m := by
  intro m
  induction m with
  | zero => intro _; rfl
  | succ m ih =>
    intro h
    rw [bestL, bestL, ih (fun j hj => h j (by omega)), h m (by omega)]
theorem bestL_more {t : Nat → Option Int} (d : Nat) (h : ∀ j, m ≤ j → t j = none) : bestL t (m + d) = bestL t m := by
  induction d with
  | zero => rfl
  | succ d ih => rw [← Nat.add_assoc, bestL_no (h _ (by omega)), ih]
end
section
variable {C : Nat → Nat → Nat → Option Int} {p : Nat → Bool}
theorem T2_stops (n : Nat) (hC : ∀ l k i, p k = false → C l k i = none) (h0 : p 0 = true) : ∀ l N, N < n → p N = true → T2 C l N = lift (fun k => (sts p n).getD k 0) (T2 (fun l k i => C l ((sts p n).getD k 0) ((sts p n).getD i 0)) l (rk p N)) := by
  intro l
  induction l with
  | zero =>
    intro N hN hp
    have hself := sts_at hp hN
    rcases Nat.eq_zero_or_pos N with rfl | hpos
    · have e : rk p 0 = 0 := rfl
      rw [e] at hself ⊢
      rw [T2_zero, T2_zero, lift]
      simp only [Option.map_some, hself]
    · have hr := rk_lt h0 hpos
      rw [T2_zero' hpos, T2_zero' (by omega)]
      rfl
  | succ l ih =>
    intro N hN hp
    have hself := sts_at hp hN
    rw [T2_succ, T2_succ]
    have key : ∀ M, M ≤ N → best (T2 C l) (fun k => C l k N) M = lift (fun k => (sts p n).getD k 0) (best (T2 (fun l k i => C l ((sts p n).getD k 0) ((sts p n).getD i 0)) l) (fun k => C l ((sts p n).getD k 0) ((sts p n).getD (rk p N) 0)) (rk p M)) := by
      intro M
      induction M with
      | zero => intro _; rfl
      | succ M ihM =>
        intro hM
        rw [best_succ, ihM (by omega)]
        rcases hq : p M with _ | _
        · rw [rk_no hq]
          exact upd_skip (T := T2 C l) (S := fun k => C l k N) (N := M) (.inr (hC l M N hq)) _
        · rw [rk_yes hq, best_succ]
          refine upd_lift (ih M (by omega) hq) ?_ (sts_at hq (by omega)) _
          rw [sts_at hq (by omega), hself]
    exact key N (Nat.le_refl _)
theorem path2_stops (n : Nat) (hC : ∀ l k i, p k = false → C l k i = none) (h0 : p 0 = true) : ∀ l N, N < n → p N = true → T2 C l N ≠ none → path2 C l N = (path2 (fun l k i => C l ((sts p n).getD k 0) ((sts p n).getD i 0)) l (rk p N)).map (fun k => (sts p n).getD k 0) := by
  intro l
  induction l with
  | zero => intro N _ _ _; rfl
  | succ l ih =>
    intro N hN hp ht
    have hself := sts_at hp hN
    have htb := T2_stops n hC h0 (l + 1) N hN hp
    rcases hs : T2 (fun l k i => C l ((sts p n).getD k 0) ((sts p n).getD i 0)) (l + 1) (rk p N) with _ | ⟨v, k⟩
    · rw [hs] at htb
      exact absurd htb ht
    · rw [hs] at htb
      obtain ⟨hk, u, k', s, h1, h2, _⟩ := T2_some hs
      obtain ⟨K, hK1, hK2, hK3⟩ := rk_surj hk
      have hLK : (sts p n).getD k 0 = K := by rw [← hK3]; exact sts_at hK2 (by omega)
      have hcK : T2 C (l + 1) N = some (v, K) := by rw [htb, lift]; simp only [Option.map_some, hLK]
      have htK : T2 C l K ≠ none := by
        rw [T2_stops n hC h0 l K (by omega) hK2, hK3, h1]
        intro e
        cases e
      rw [path2_succ hcK, path2_succ hs, List.map_append, ih K (by omega) hK2 htK, hK3]
      simp only [List.map_cons, List.map_nil, hself]
theorem T2_congr {C C' : Nat → Nat → Nat → Option Int} {n : Nat} (h : ∀ l k i, k < i → i ≤ n → C l k i = C' l k i) : ∀ l i, i ≤ n → T2 C l i = T2 C' l i := by
  intro l
  induction l with
  | zero => intro i _; rfl
  | succ l ih =>
    intro i hi
    rw [T2_succ, T2_succ]
    exact best_congr fun k hk => ⟨ih k (by omega), h l k i hk hi⟩
theorem path2_congr {C C' : Nat → Nat → Nat → Option Int} {n : Nat} (h : ∀ l k i, k < i → i ≤ n → C l k i = C' l k i) : ∀ l i, i ≤ n → path2 C l i = path2 C' l i := by
  intro l
  induction l with
  | zero => intro i _; rfl
  | succ l ih =>
    intro i hi
    rcases hs : T2 C (l + 1) i with _ | ⟨v, k⟩
    · have hs' := hs
      rw [T2_congr h _ _ hi] at hs'
      rw [path2, path2, hs, hs']
    · have hs' := hs
      rw [T2_congr h _ _ hi] at hs'
      rw [path2_succ hs, path2_succ hs', ih k (by have := (T2_some hs).1; omega)]
/-- One cost for all steps: no number of steps is cheaper than the cheapest way, and one is as cheap. -/
theorem T2_tbl {c : Nat → Nat → Option Int} : ∀ n i v k, T2 (fun _ => c) n i = some (v, k) → ∃ v' k', tbl c i = some (v', k') ∧ v' ≤ v := by
  intro n
  induction n with
  | zero =>
    intro i v k h
    rcases Nat.eq_zero_or_pos i with rfl | hi
    · rw [T2_zero] at h; cases h; exact ⟨0, 0, tbl_zero c, Int.le_refl _⟩
    · rw [T2_zero' hi] at h; cases h
  | succ n ih =>
    intro i v k h
    obtain ⟨hk, u, k', s, h1, h2, rfl⟩ := T2_some h
    obtain ⟨u', f, h3, h4⟩ := ih k u k' h1
    obtain ⟨v', f', h5, h6⟩ := tbl_le hk h3 h2
    exact ⟨v', f', h5, by omega⟩
theorem tbl_T2 {c : Nat → Nat → Option Int} : ∀ i v k, tbl c i = some (v, k) → ∃ n v' k', n ≤ i ∧ (0 < i → 0 < n) ∧ T2 (fun _ => c) n i = some (v', k') ∧ v' ≤ v := by
  intro i
  induction i using Nat.strongRecOn with
  | _ i ih =>
    intro v k h
    rcases Nat.eq_zero_or_pos i with rfl | hi
    · rw [tbl_zero] at h; cases h
      exact ⟨0, 0, 0, Nat.le_refl _, fun h => absurd h (by omega), rfl, Int.le_refl _⟩
    · obtain ⟨hk, u, k', s, h1, h2, rfl⟩ := tbl_some hi h
      obtain ⟨n, u', f, h3, _, h4, h5⟩ := ih k hk u k' h1
      obtain ⟨v', f', h6, h7⟩ := T2_le (C := fun _ => c) (n := n) hk h4 h2
      exact ⟨n + 1, v', f', by omega, fun _ => by omega, h6, by omega⟩
end
end Go.Proofs.Ytkmipgekmbngcaa.Dp
/- What a call leaves that returns numbers of its own. No condition. -/
namespace Go.Proofs.Ytkmipgekmbngcaa
open Go.RowKit

/-- What a call leaves that returns numbers of its own. -/
def IntsOut (w : World) (xs : List Int) (e : Ending) (w' : World) : Prop :=
  ∃ (A : Option Addr) (c : Nat), e = .returned (.slice A xs.length c) ∧ OwnI w' w.heap.size A xs.length c xs ∧ Below w.heap.size w w'
theorem ownI_none (w : World) (base : Nat) : OwnI w base none 0 0 [] := ⟨rfl, .inl ⟨rfl, rfl⟩⟩
theorem ownI_c {w : World} {base n c : Nat} {A : Option Addr} {xs : List Int} (h : OwnI w base A n c xs) : c ≤ maxLen := by
  rcases h.2 with ⟨hv, _⟩ | ⟨g', cap, cur, hv, _, _, hnc, hcm, _⟩
  · cases hv; exact Nat.zero_le _
  · cases hv; exact hcm
theorem ints_of {w : World} {ys zs : List Int} (h : zs = ys) {n c : Nat} {A : Option Addr} (hl : ys.length = n) {w' : World} (ho : OwnI w' w.heap.size A n c ys) (hb : Below w.heap.size w w') : IntsOut w zs (.returned (.slice A n c)) w' := by
  subst h
  refine ⟨A, c, by rw [hl], ?_, hb⟩
  rw [hl]
  exact ho
end Go.Proofs.Ytkmipgekmbngcaa
/- The breaks of a paragraph, of the reference, are what the plain function says; append of numbers behind a row of the call's own. Conditions: the slice reads as the list. -/
namespace Go.Proofs.Ytkmipgekmbngcaa
open Go.RowKit

def brksP (l : List It) (j : Nat) : List Int := ((List.range j).filter (brk l)).map fun (i : Nat) => (i : Int)
def brksV (l : List It) : List Int := if itemsOk l then brksP l l.length else []
theorem brksP_succ (l : List It) (j : Nat) : brksP l (j + 1) = if brk l j then brksP l j ++ [(j : Int)] else brksP l j := by
  unfold brksP
  rw [List.range_succ, List.filter_append, List.map_append]
  by_cases h : brk l j
  · simp [h]
  · simp [h]
theorem brksP_len (l : List It) (j : Nat) : (brksP l j).length ≤ j := by
  unfold brksP
  rw [List.length_map]
  refine Nat.le_trans (List.length_filter_le _ _) ?_
  simp
theorem brksV_no {l : List It} (h : itemsOk l = false) : brksV l = [] := by simp [brksV, h]
theorem brksV_yes {l : List It} {n : Nat} (h : itemsOk l = true) (hn : l.length = n) : brksV l = brksP l n := by simp [brksV, h, hn]
theorem brksV_len (l : List It) : (brksV l).length ≤ l.length := by
  rcases h : itemsOk l with _ | _
  · rw [brksV_no h]; simp
  · rw [brksV_yes h rfl]; exact brksP_len _ _

theorem wpList_append_ints (w : World) {ops : Array Oper} {rest : List Oper} {o : Oper} {a : Act} {Q : Exit → Act → World → Prop} (hgd : o.guard = none) (s x : Operand)
    (ho : o.op = .call { callee := .builtin .append, args := #[s, x], argTypes := #[24, 24] })
    (base base2 gs n c m d : Nat) (A : Option Addr) (xs ys : List Int) (hs : a.eval s = .slice (some ⟨gs, 0, none⟩) n c) (hown : OwnI w base (some ⟨gs, 0, none⟩) n c xs) (hx : a.eval x = .slice A m d) (hown2 : OwnI w base2 A m d ys)
    (hn : n + m ≤ 1048576) (hbase : base ≤ w.heap.size)
    (h : ∀ g c' w', OwnI w' base (some ⟨g, 0, none⟩) (n + m) c' (xs ++ ys) → w.grownBy w' (some gs) → wpList Try.prog ops Q rest (a.put o.dst (.slice (some ⟨g, 0, none⟩) (n + m) c')) w') : wpList Try.prog ops Q (o :: rest) a w := by
  obtain ⟨i0, hi, hz0, hz1, hz2⟩ := info_parts int_info
  have hl2 := hown2.len
  rcases hown2.2 with ⟨hv, _⟩ | ⟨g', cap, cur, hv, _, _, _⟩
  · cases hv
    refine wpList_append_own_none hgd s x 24 ho base 3 i0 1 Try.underlying24 hi _ n (inl xs) hs hown hx ?_
    have e : ys = [] := List.eq_nil_of_length_eq_zero hl2
    subst e
    exact h gs c w (by rw [List.append_nil]; exact hown) ⟨rfl, rfl, rfl, Nat.le_refl _, fun _ _ _ => rfl⟩
  · cases hv
    refine wpList_append_two w hgd s x 24 ho base 3 i0 _ 1 8 Try.underlying24 hi hz0 hz1 hz2 rfl (by omega) gs n c (inl xs) hs hown g' m d base2 (inl ys) hx hown2 (inl_one _) hn (by omega) hbase ?_
    intro g c' w' h1 h2
    exact h g c' w' (by show World.ownsRow _ _ _ _ _ _ _; unfold inl at h1 ⊢; rw [List.map_append]; exact h1) h2

set_option maxHeartbeats 1000000 in
theorem breaksOf_s (A : Option Addr) (n cap : Nat) (xs : List It) (w : World) (hn : xs.length = n) (hm : n ≤ maxLen) (hr : Row w w.heap.size 6 A n (itc xs)) :
    Calls Try.prog 78 #[.slice A n cap] w (IntsOut w (brksV xs)) := by
  have HN := Lib.hid hn
  have HR := Lib.hid (hr.alloc' (.cells #[] 3))
  obtain ⟨i0, hi, hz0, hz1, hz2⟩ := info_parts int_info
  rcases hok : itemsOk xs with _ | _
  · have e := brksV_no hok
    have HE := Lib.hid e
    have HOK := Lib.hid hok
    clear e hok
    go_enter Try.func78, Try.ntmps78
    go_wp2_with fail
    ((with_reducible refine (validItems_s _ _ _ xs _ HN.out hm ?_).mono ?_); (exact HR.out); rintro e w1 ⟨rfl, hb1⟩)
    rw [HOK.out]
    have hB1 : Below w.heap.size w w1 := below_then (Nat.le_refl _) (by (repeat' (first | (with_reducible exact Below.refl _ _) | (with_reducible assumption) | (with_reducible refine Below.alloc ?_ ?_ _) | (with_reducible refine Below.drew ?_) | (with_reducible refine below_drewN ?_ _) | (with_reducible refine Below.setCell ?_ ?_ _) | (with_reducible refine below_then ?_ ?_ (by with_reducible assumption)) | (with_reducible exact Nat.le_refl _) | go_size | (simp only [*]; done)))) hb1
    go_wp2_with fail
    go_ret
    exact ints_of HE.out rfl (ownI_none _ _) hB1
  have h60 := (itemsOk_len hok hn).2
  have e := brksV_yes hok hn
  have HE := Lib.hid e
  have HOK := Lib.hid hok
  have hE := Lib.hid (Blk.new w 3 #[])
  clear e hok
  go_enter Try.func78, Try.ntmps78
  go_wp2_with fail
  ((with_reducible refine (validItems_s _ _ _ xs _ HN.out hm ?_).mono ?_); (exact HR.out); rintro e w1 ⟨rfl, hb1⟩)
  rw [HOK.out]
  have hB1 : Below w.heap.size w w1 := below_then (Nat.le_refl _) (by (repeat' (first | (with_reducible exact Below.refl _ _) | (with_reducible assumption) | (with_reducible refine Below.alloc ?_ ?_ _) | (with_reducible refine Below.drew ?_) | (with_reducible refine below_drewN ?_ _) | (with_reducible refine Below.setCell ?_ ?_ _) | (with_reducible refine below_then ?_ ?_ (by with_reducible assumption)) | (with_reducible exact Nat.le_refl _) | go_size | (simp only [*]; done)))) hb1
  have hE1 := Lib.hid (hE.out.then_ hb1)
  go_wp2_with fail
  go_loopg [3, 4] n (fun k o i wr => ∃ (j q c g : Nat) (out : List Int), j ≤ n ∧ q ≤ j ∧ k = n - j ∧ i = .int .i64 (j : Int) ∧ o = .slice (some ⟨g, 0, none⟩) q c ∧ Hid (brksP xs j = out) ∧ Hid (OwnI wr w.heap.size (some ⟨g, 0, none⟩) q c out) ∧ Below w.heap.size w wr)
  case atStart => exact ⟨0, 0, 0, w.heap.size, [], Nat.zero_le _, Nat.le_refl _, rfl, rfl, rfl, rfl, owns_nil _ _ _ _ _ _ _ hE1.out (Nat.le_refl _) (by unfold maxLen; omega) rfl, hB1⟩
  case round =>
    obtain ⟨j, q, c, g, out, hj, hq, hk, rfl, rfl, hbx, hown, hbel⟩ := hrel
    have HK := Lib.hid hk; clear hk
    have hsz := hbel.size
    by_cases hlt : j < n
    · have hlt' : (j : Int) < (n : Int) := by omega
      go_wp2_with fail
      ((with_reducible refine (isBreak_s _ _ _ j xs _ HN.out hlt hm ?_).mono ?_); (exact (hr.below hbel).more hsz); rintro e w2 ⟨rfl, hb2⟩)
      have hB2 : Below w.heap.size w w2 := below_then (Nat.le_refl _) hbel hb2
      have hs2 := hB2.size
      rcases hb : brk xs j with _ | _
      · have hnew : brksP xs (j + 1) = out := by rw [brksP_succ, hb, hbx.out]; rfl
        have HNW := Lib.hid hnew
        clear hnew hb
        go_wp2_with fail
        go_roundg (n - (j + 1))
        case measure => have := HK.out; omega
        case rel => exact ⟨j + 1, q, c, g, out, by omega, by omega, rfl, by go_num, rfl, HNW.out, hown.out.then_ hb2, hB2⟩
      · have hnew : brksP xs (j + 1) = out ++ [(j : Int)] := by rw [brksP_succ, hb, hbx.out]; rfl
        have HNW := Lib.hid hnew
        have HO := Lib.hid ((hown.out.then_ hb2).alloc (.cells #[.int .i64 (j : Int)] 3))
        have HB := Lib.hid (Blk.new w2 3 #[.int .i64 (j : Int)])
        have hbase : w.heap.size ≤ (w2.alloc (.cells #[.int .i64 (j : Int)] 3)).heap.size := by simp; omega
        have hB3a := hB2.alloc hs2 (.cells #[.int .i64 (j : Int)] 3)
        clear hnew hb
        go_wp2_with (at_builtin; (refine wpList_append_one _ rfl _ _ 24 rfl w.heap.size 3 i0 _ 1 8 Try.underlying24 hi hz0 hz1 hz2 rfl (by omega) (some ⟨g, 0, none⟩) q c (inl out) rfl HO.out w2.heap.size (inl [(j : Int)]) rfl rfl HB.out (inl_one _) (by omega) (by omega) hbase ?_); intro g4 c4 w4 hown4 hgr4; (have HO4 := Lib.hid hown4); (have hB4 := hB3a.grown hgr4 hB3a.size (fun j hj => (HO.out.lt j hj).1)); clear hown4 hgr4)
        go_roundg (n - (j + 1))
        case measure => have := HK.out; omega
        case rel => exact ⟨j + 1, q + 1, c4, g4, out ++ [(j : Int)], by omega, by omega, rfl, by go_num, rfl, HNW.out, (by show World.ownsRow _ _ _ _ _ _ _; rw [inl_snoc]; exact HO4.out), hB4⟩
    · have ej : j = n := by omega
      go_wp2_with fail
      go_ret
      exact ints_of (by rw [HE.out, ← ej]; exact hbx.out) hown.out.len hown.out hbel
end Go.Proofs.Ytkmipgekmbngcaa
/- The breaks of a paragraph, of the program, are what the plain function says. Conditions: the slice reads as the list. -/
namespace Go.Proofs.Ytkmipgekmbngcaa
open Go.RowKit

set_option maxHeartbeats 1000000 in
theorem breaksOf_i (A : Option Addr) (n cap : Nat) (xs : List It) (w : World) (hn : xs.length = n) (hm : n ≤ maxLen) (hr : Row w w.heap.size 6 A n (itc xs)) :
    Calls Try.prog 80 #[.slice A n cap] w (IntsOut w (brksV xs)) := by
  have HN := Lib.hid hn
  have HR := Lib.hid hr
  obtain ⟨i0, hi, hz0, hz1, hz2⟩ := info_parts int_info
  rcases hok : itemsOk xs with _ | _
  · have e := brksV_no hok
    have HE := Lib.hid e
    have HOK := Lib.hid hok
    clear e hok
    go_enter Try.func80, Try.ntmps80
    go_wp2_with fail
    ((with_reducible refine (validItems_i _ _ _ xs _ HN.out hm ?_).mono ?_); (exact HR.out); rintro e w1 ⟨rfl, hb1⟩)
    rw [HOK.out]
    have hB1 : Below w.heap.size w w1 := hb1
    go_wp2_with fail
    go_ret
    exact ints_of HE.out rfl (ownI_none _ _) hB1
  have h60 := (itemsOk_len hok hn).2
  have e := brksV_yes hok hn
  have HE := Lib.hid e
  have HOK := Lib.hid hok
  clear e hok
  go_enter Try.func80, Try.ntmps80
  go_wp2_with fail
  ((with_reducible refine (validItems_i _ _ _ xs _ HN.out hm ?_).mono ?_); (exact HR.out); rintro e w1 ⟨rfl, hb1⟩)
  rw [HOK.out]
  have hB1 : Below w.heap.size w w1 := hb1
  go_wp2_with fail
  go_loopg [3, 10] n (fun k o i wr => ∃ (j q c : Nat) (B : Option Addr) (out : List Int), j ≤ n ∧ q ≤ j ∧ k = n - j ∧ i = .int .i64 (j : Int) ∧ o = .slice B q c ∧ Hid (brksP xs j = out) ∧ Hid (OwnI wr w.heap.size B q c out) ∧ Below w.heap.size w wr)
  case atStart => exact ⟨0, 0, 0, none, [], Nat.zero_le _, Nat.le_refl _, rfl, rfl, rfl, rfl, ownI_none _ _, hB1⟩
  case round =>
    obtain ⟨j, q, c, B, out, hj, hq, hk, rfl, rfl, hbx, hown, hbel⟩ := hrel
    have HK := Lib.hid hk; clear hk
    have hsz := hbel.size
    by_cases hlt : j < n
    · have hlt' : (j : Int) < (n : Int) := by omega
      go_wp2_with fail
      ((with_reducible refine (isBreak_i _ _ _ j xs _ HN.out hlt h60 ?_).mono ?_); (exact (hr.below hbel).more hsz); rintro e w2 ⟨rfl, hb2⟩)
      have hB2 : Below w.heap.size w w2 := below_then (Nat.le_refl _) hbel hb2
      have hs2 := hB2.size
      rcases hb : brk xs j with _ | _
      · have hnew : brksP xs (j + 1) = out := by rw [brksP_succ, hb, hbx.out]; rfl
        have HNW := Lib.hid hnew
        clear hnew hb
        go_wp2_with fail
        go_roundg (n - (j + 1))
        case measure => have := HK.out; omega
        case rel => exact ⟨j + 1, q, c, B, out, by omega, by omega, rfl, by go_num, rfl, HNW.out, hown.out.then_ hb2, hB2⟩
      · have hnew : brksP xs (j + 1) = out ++ [(j : Int)] := by rw [brksP_succ, hb, hbx.out]; rfl
        have HNW := Lib.hid hnew
        have HO := Lib.hid ((hown.out.then_ hb2).alloc (.cells #[.int .i64 (j : Int)] 3))
        have HB := Lib.hid (Blk.new w2 3 #[.int .i64 (j : Int)])
        have hbase : w.heap.size ≤ (w2.alloc (.cells #[.int .i64 (j : Int)] 3)).heap.size := by simp; omega
        have hB3a := hB2.alloc hs2 (.cells #[.int .i64 (j : Int)] 3)
        clear hnew hb
        go_wp2_with (at_builtin; (refine wpList_append_one _ rfl _ _ 24 rfl w.heap.size 3 i0 _ 1 8 Try.underlying24 hi hz0 hz1 hz2 rfl (by omega) B q c (inl out) rfl HO.out w2.heap.size (inl [(j : Int)]) rfl rfl HB.out (inl_one _) (by omega) (by omega) hbase ?_); intro g4 c4 w4 hown4 hgr4; (have HO4 := Lib.hid hown4); (have hB4 := hB3a.grown hgr4 hB3a.size (fun j hj => (HO.out.lt j hj).1)); clear hown4 hgr4)
        go_roundg (n - (j + 1))
        case measure => have := HK.out; omega
        case rel => exact ⟨j + 1, q + 1, c4, some ⟨g4, 0, none⟩, out ++ [(j : Int)], by omega, by omega, rfl, by go_num, rfl, HNW.out, (by show World.ownsRow _ _ _ _ _ _ _; rw [inl_snoc]; exact HO4.out), hB4⟩
    · have ej : j = n := by omega
      go_wp2_with fail
      go_ret
      exact ints_of (by rw [HE.out, ← ej]; exact hbx.out) hown.out.len hown.out hbel
end Go.Proofs.Ytkmipgekmbngcaa
/- The stops of a paragraph: -1 and the breaks. Conditions: the slice reads as the list. -/
namespace Go.Proofs.Ytkmipgekmbngcaa
open Go.RowKit

def stps (xs : List It) : List Int := [-1] ++ brksV xs
theorem breakStops_i (A : Option Addr) (n cap : Nat) (xs : List It) (w : World) (hn : xs.length = n) (hm : n ≤ 60) (hr : Row w w.heap.size 6 A n (itc xs)) :
    Calls Try.prog 56 #[.slice A n cap] w (IntsOut w (stps xs)) := by
  have hr1 := hr.alloc' (.cells #[.int .i64 (-1)] 3)
  have hB0 : Below w.heap.size w (w.alloc (.cells #[.int .i64 (-1)] 3)) := (Below.refl _ _).alloc (Nat.le_refl _) _
  have hown : OwnI (w.alloc (.cells #[.int .i64 (-1)] 3)) w.heap.size (some ⟨w.heap.size, 0, none⟩) 1 1 [-1] :=
    ⟨rfl, .inr ⟨w.heap.size, 1, #[.int .i64 (-1)], rfl, Nat.le_refl _, heap_alloc_new w _, Nat.le_refl _, by unfold maxLen; omega, rfl, rfl⟩⟩
  have HO0 := Lib.hid hown
  have HR1 := Lib.hid hr1
  have hl := brksV_len xs
  rw [hn] at hl
  obtain ⟨ys, hy⟩ : ∃ ys, brksV xs = ys := ⟨_, rfl⟩
  have hst : stps xs = [-1] ++ ys := by rw [stps, hy]
  have HST := Lib.hid hst
  have HY := Lib.hid hy
  rw [hy] at hl
  clear hown hr1 hy hst
  go_enter Try.func56, Try.ntmps56
  go_wp2_with fail
  ((with_reducible refine (breaksOf_i _ _ _ xs _ hn (by unfold maxLen; omega) ?_).mono ?_); (exact HR1.out); rintro e w1 ⟨D, d, rfl, hD, hb1⟩)
  have hs1 := hb1.size
  rw [HY.out] at hD ⊢
  have HD := Lib.hid hD
  have HO1 := Lib.hid (HO0.out.then_ hb1)
  have hB1 := below_then (Nat.le_refl _) hB0 hb1
  have hz1 := hB1.size
  clear hD
  go_wp2_with (at_builtin; (refine wpList_append_ints _ rfl _ _ rfl w.heap.size (w.alloc (.cells #[.int .i64 (-1)] 3)).heap.size w.heap.size 1 1 ys.length d D [-1] ys rfl HO1.out rfl HD.out (by omega) hz1 ?_); intro g4 c4 w4 hown4 hgr4; (have HO4 := Lib.hid hown4); (have hB4 := hB1.grown hgr4 hz1 (fun j hj => by injection hj with hj; omega)); clear hown4 hgr4)
  go_ret
  refine ints_of HST.out (by simp; omega) HO4.out hB4
end Go.Proofs.Ytkmipgekmbngcaa
/- The cost of a line, of the program and of the reference, is what the plain functions say. Conditions: the slice reads as valid items; the line is one. -/
namespace Go.Proofs.Ytkmipgekmbngcaa
open Go.RowKit

set_option maxHeartbeats 1000000 in
theorem badness_i (n v : Int) (w : World) (n0 : 0 ≤ n) (n1 : n ≤ 20000) (v0 : 0 ≤ v) (v1 : v ≤ 10000) :
    Calls Try.prog 98 #[.int .i64 n, .int .i64 v] w fun e w' => e = .returned (.int .i64 (badP n v)) ∧ w' = w := by
  by_cases e1 : n = 0
  · have hb : badP n v = 0 := by rw [badP, if_pos e1]
    rw [hb]
    go_enter Try.func98, Try.ntmps98
    go_wp2_with fail
    go_ret
    exact ⟨rfl, rfl⟩
  by_cases e2 : v = 0
  · have hb : badP n v = 10000 := by rw [badP, if_neg e1, if_pos e2]
    rw [hb]
    go_enter Try.func98, Try.ntmps98
    go_wp2_with fail
    go_ret
    exact ⟨rfl, rfl⟩
  have hb : badP n v = min 10000 (100 * n * n * n / (v * v * v)) := by rw [badP, if_neg e1, if_neg e2]
  rw [hb]
  obtain ⟨⟨a0, a1⟩, ⟨b0, b1⟩, c0, c1⟩ := cube_b n0 n1
  obtain ⟨⟨d0, d1⟩, f0, f1⟩ := cube_h (show 0 < v by omega) v1
  obtain ⟨q0, q1⟩ := quo_b n0 n1 (show 0 < v by omega) v1
  have m1 : IntKind.i64.wrap (100 * n) = 100 * n := IntWalk.i64_in _ (by omega)
  have m2 : IntKind.i64.wrap (100 * n * n) = 100 * n * n := IntWalk.i64_in _ (by omega)
  have m3 : IntKind.i64.wrap (100 * n * n * n) = 100 * n * n * n := IntWalk.i64_in _ (by omega)
  have m4 : IntKind.i64.wrap (v * v) = v * v := IntWalk.i64_in _ (by omega)
  have m5 : IntKind.i64.wrap (v * v * v) = v * v * v := IntWalk.i64_in _ (by omega)
  go_enter Try.func98, Try.ntmps98
  go_wp2_with fail
  all_goals
    go_ret
    refine ⟨?_, rfl⟩
    show Ending.returned (.int .i64 _) = _
    congr 2
    omega

set_option maxHeartbeats 1000000 in
theorem demerits_i (b p : Int) (fl : Bool) (w : World) (b0 : 0 ≤ b) (b1 : b ≤ 10000) (p0 : -1000 ≤ p) (p1 : p ≤ 1000) :
    Calls Try.prog 82 #[.int .i64 b, .int .i64 p, .bool fl] w fun e w' => e = .returned (.int .i64 (dem b p fl)) ∧ w' = w := by
  have h1 := mul_b (show 0 ≤ 1 + b by omega) (show 1 + b ≤ 10001 by omega) (show 0 ≤ 1 + b by omega) (show 1 + b ≤ 10001 by omega)
  have m0 : IntKind.i64.wrap (1 + b) = 1 + b := IntWalk.i64_in _ (by omega)
  have m1 : IntKind.i64.wrap ((1 + b) * (1 + b)) = (1 + b) * (1 + b) := IntWalk.i64_in _ (by omega)
  by_cases e1 : 0 ≤ p
  · have h2 := mul_b (show 0 ≤ 1 + b + p by omega) (show 1 + b + p ≤ 11001 by omega) (show 0 ≤ 1 + b + p by omega) (show 1 + b + p ≤ 11001 by omega)
    have m2 : IntKind.i64.wrap (1 + b + p) = 1 + b + p := IntWalk.i64_in _ (by omega)
    have m3 : IntKind.i64.wrap ((1 + b + p) * (1 + b + p)) = (1 + b + p) * (1 + b + p) := IntWalk.i64_in _ (by omega)
    have m4 : IntKind.i64.wrap ((1 + b + p) * (1 + b + p) + 3000) = (1 + b + p) * (1 + b + p) + 3000 := IntWalk.i64_in _ (by omega)
    have hb : dem b p fl = (1 + b + p) * (1 + b + p) + (if fl then 3000 else 0) := by rw [dem, if_pos e1]
    rw [hb]
    rcases fl with _ | _
    all_goals
      go_enter Try.func82, Try.ntmps82
      go_wp2_with fail
      go_ret
      refine ⟨?_, rfl⟩
      show Ending.returned (.int .i64 _) = _
      congr 2
  by_cases e2 : -1000 < p
  · have h2 := mul_b (show 0 ≤ -p by omega) (show -p ≤ 1000 by omega) (show 0 ≤ -p by omega) (show -p ≤ 1000 by omega)
    rw [Int.neg_mul_neg] at h2
    have m2 : IntKind.i64.wrap (p * p) = p * p := IntWalk.i64_in _ (by omega)
    have m3 : IntKind.i64.wrap ((1 + b) * (1 + b) - p * p) = (1 + b) * (1 + b) - p * p := IntWalk.i64_in _ (by omega)
    have m4 : IntKind.i64.wrap ((1 + b) * (1 + b) - p * p + 3000) = (1 + b) * (1 + b) - p * p + 3000 := IntWalk.i64_in _ (by omega)
    have hb : dem b p fl = (1 + b) * (1 + b) - p * p + (if fl then 3000 else 0) := by rw [dem, if_neg e1, if_pos e2]
    rw [hb]
    rcases fl with _ | _
    all_goals
      go_enter Try.func82, Try.ntmps82
      go_wp2_with fail
      go_ret
      refine ⟨?_, rfl⟩
      show Ending.returned (.int .i64 _) = _
      congr 2
  · have m4 : IntKind.i64.wrap ((1 + b) * (1 + b) + 3000) = (1 + b) * (1 + b) + 3000 := IntWalk.i64_in _ (by omega)
    have hb : dem b p fl = (1 + b) * (1 + b) + (if fl then 3000 else 0) := by rw [dem, if_neg e1, if_neg e2]
    rw [hb]
    rcases fl with _ | _
    all_goals
      go_enter Try.func82, Try.ntmps82
      go_wp2_with fail
      go_ret
      refine ⟨?_, rfl⟩
      show Ending.returned (.int .i64 _) = _
      congr 2

theorem validGlue_i (a b c : Int) (w : World) (a0 : 0 ≤ a) (a1 : a ≤ 10000) (b0 : 0 ≤ b) (b1 : b ≤ 10000) (c0 : 0 ≤ c) (c1 : c ≤ 10000) :
    Calls Try.prog 97 #[.agg #[.int .i64 a, .int .i64 b, .int .i64 c]] w fun e w' => e = .returned (.bool true) ∧ Below w.heap.size w w' := by
  have ha : inR a (-10000) 10000 = true := inR_iff.2 ⟨by omega, by omega⟩
  have hb : inR b 0 10000 = true := inR_iff.2 ⟨by omega, by omega⟩
  have hc : inR c 0 10000 = true := inR_iff.2 ⟨by omega, by omega⟩
  have g0 := Blk.new w 76 #[.int .i64 a, .int .i64 b, .int .i64 c]
  have plt := g0.lt
  have pc0 := g0.cell 0; have pf0 := g0.frozen 0
  have pc1 := g0.cell 1; have pf1 := g0.frozen 1
  have pc2 := g0.cell 2; have pf2 := g0.frozen 2
  simp only [List.getElem?_toArray, List.getElem?_cons_zero, List.getElem?_cons_succ] at pc0 pc1 pc2
  go_enter Try.func97, Try.ntmps97
  go_wp2_with fail
  ((with_reducible refine (within_any _ _ _ _).mono ?_); rintro e w' ⟨rfl, rfl⟩)
  rw [ha]
  go_wp2_with fail
  ((with_reducible refine (within_any _ _ _ _).mono ?_); rintro e w' ⟨rfl, rfl⟩)
  rw [hb]
  go_wp2_with fail
  ((with_reducible refine (within_any _ _ _ _).mono ?_); rintro e w' ⟨rfl, rfl⟩)
  rw [hc]
  go_wp2_with fail
  go_ret
  exact ⟨rfl, by (repeat' (first | (with_reducible exact Below.refl _ _) | (with_reducible assumption) | (with_reducible refine Below.alloc ?_ ?_ _) | (with_reducible refine Below.drew ?_) | (with_reducible refine below_drewN ?_ _) | (with_reducible refine Below.setCell ?_ ?_ _) | (with_reducible refine below_then ?_ ?_ (by with_reducible assumption)) | (with_reducible exact Nat.le_refl _) | go_size | (simp only [*]; done)))⟩

set_option maxHeartbeats 1000000 in
theorem fitGlue_i (a b c d : Int) (w : World) (a0 : 0 ≤ a) (a1 : a ≤ 10000) (b0 : 0 ≤ b) (b1 : b ≤ 10000) (c0 : 0 ≤ c) (c1 : c ≤ 10000) (d0 : 0 ≤ d) (d1 : d ≤ 10000) :
    Calls Try.prog 91 #[.agg #[.int .i64 a, .int .i64 b, .int .i64 c], .int .i64 d] w fun e w' => e = .returned (.tuple #[.int .i64 (fitK a c d), .int .i64 (fitB a b c d)]) ∧ Below w.heap.size w w' := by
  have hd : inR d 0 10000 = true := inR_iff.2 ⟨by omega, by omega⟩
  have hk1 : d - a = 0 → fitK a c d = 1 ∧ fitB a b c d = 0 := fun h => ⟨by rw [fitK, if_pos h], by rw [fitB, if_pos h]⟩
  have hk2 : ¬ d - a = 0 → 0 < d - a → fitK a c d = 2 ∧ fitB a b c d = badP (d - a) b := fun h h' => ⟨by rw [fitK, if_neg h, if_pos h'], by rw [fitB, if_neg h, if_pos h']⟩
  have hk3 : ¬ d - a = 0 → ¬ 0 < d - a → -(d - a) ≤ c → fitK a c d = 3 ∧ fitB a b c d = badP (-(d - a)) c := fun h h' h3 => ⟨by rw [fitK, if_neg h, if_neg h', if_pos h3], by rw [fitB, if_neg h, if_neg h', if_pos h3]⟩
  have hk4 : ¬ d - a = 0 → ¬ 0 < d - a → ¬ -(d - a) ≤ c → fitK a c d = 4 ∧ fitB a b c d = 10000 := fun h h' h3 => ⟨by rw [fitK, if_neg h, if_neg h', if_neg h3], by rw [fitB, if_neg h, if_neg h', if_neg h3]⟩
  have HK1 := Lib.hid hk1
  have HK2 := Lib.hid hk2
  have HK3 := Lib.hid hk3
  have HK4 := Lib.hid hk4
  clear hk1 hk2 hk3 hk4
  obtain ⟨D, hD⟩ : ∃ D, d - a = D := ⟨_, rfl⟩
  have hDb : -10000 ≤ D ∧ D ≤ 10000 := by omega
  obtain ⟨D0, D1⟩ := hDb
  rw [hD] at HK1 HK2 HK3 HK4
  have mD : IntKind.i64.wrap (d - a) = D := by rw [hD]; exact IntWalk.i64_in _ (by omega)
  have g0 := Blk.new w 76 #[.int .i64 a, .int .i64 b, .int .i64 c]
  have G0 := Lib.hid g0
  clear hD
  go_enter Try.func91, Try.ntmps91
  have plt := g0.lt
  have pc0 := g0.cell 0; have pf0 := g0.frozen 0
  have pc1 := g0.cell 1; have pf1 := g0.frozen 1
  have pc2 := g0.cell 2; have pf2 := g0.frozen 2
  simp only [List.getElem?_toArray, List.getElem?_cons_zero, List.getElem?_cons_succ] at pc0 pc1 pc2
  go_wp2_with fail
  ((with_reducible refine (validGlue_i _ _ _ _ a0 a1 b0 b1 c0 c1).mono ?_); rintro e w1 ⟨rfl, hb1⟩)
  have g1 := G0.out.then_ hb1
  have hB1 : Below w.heap.size w w1 := below_then (Nat.le_refl _) (by (repeat' (first | (with_reducible exact Below.refl _ _) | (with_reducible assumption) | (with_reducible refine Below.alloc ?_ ?_ _) | (with_reducible refine Below.drew ?_) | (with_reducible refine below_drewN ?_ _) | (with_reducible refine Below.setCell ?_ ?_ _) | (with_reducible refine below_then ?_ ?_ (by with_reducible assumption)) | (with_reducible exact Nat.le_refl _) | go_size | (simp only [*]; done)))) hb1
  clear plt pc0 pc1 pc2 pf0 pf1 pf2
  have qlt := g1.lt
  have qc0 := g1.cell 0; have qf0 := g1.frozen 0
  have qc1 := g1.cell 1; have qf1 := g1.frozen 1
  have qc2 := g1.cell 2; have qf2 := g1.frozen 2
  simp only [List.getElem?_toArray, List.getElem?_cons_zero, List.getElem?_cons_succ] at qc0 qc1 qc2
  go_wp2_with fail
  ((with_reducible refine (within_any _ _ _ _).mono ?_); rintro e w' ⟨rfl, rfl⟩)
  rw [hd]
  by_cases e1 : D = 0
  · obtain ⟨k1, k2⟩ := HK1.out e1
    have K1 := Lib.hid k1
    have K2 := Lib.hid k2
    clear k1 k2
    go_wp2_with fail
    (first | go_returns | (refine bodyPost_ret (by simp [results, Try.results91, go_sem, *]; try rfl) rfl ?_))
    exact ⟨by rw [K1.out, K2.out]; rfl, hB1⟩
  by_cases e2 : 0 < D
  · obtain ⟨k1, k2⟩ := HK2.out e1 (by omega)
    have K1 := Lib.hid k1
    have K2 := Lib.hid k2
    clear k1 k2
    go_wp2_with fail
    ((with_reducible refine (badness_i _ _ _ (by omega) (by omega) b0 b1).mono ?_); rintro e w' ⟨rfl, rfl⟩)
    go_wp2_with fail
    (first | go_returns | (refine bodyPost_ret (by simp [results, Try.results91, go_sem, *]; try rfl) rfl ?_))
    exact ⟨by rw [K1.out, K2.out]; rfl, hB1⟩
  have mN : IntKind.i64.wrap (-D) = -D := IntWalk.i64_in _ (by omega)
  by_cases e3 : -D ≤ c
  · obtain ⟨k1, k2⟩ := HK3.out e1 (by omega) (by omega)
    have K1 := Lib.hid k1
    have K2 := Lib.hid k2
    clear k1 k2
    go_wp2_with fail
    ((with_reducible refine (badness_i _ _ _ (by omega) (by omega) c0 c1).mono ?_); rintro e w' ⟨rfl, rfl⟩)
    go_wp2_with fail
    (first | go_returns | (refine bodyPost_ret (by simp [results, Try.results91, go_sem, *]; try rfl) rfl ?_))
    exact ⟨by rw [K1.out, K2.out]; rfl, hB1⟩
  · obtain ⟨k1, k2⟩ := HK4.out e1 (by omega) (by omega)
    have K1 := Lib.hid k1
    have K2 := Lib.hid k2
    clear k1 k2
    go_wp2_with fail
    (first | go_returns | (refine bodyPost_ret (by simp [results, Try.results91, go_sem, *]; try rfl) rfl ?_))
    exact ⟨by rw [K1.out, K2.out]; rfl, hB1⟩

set_option maxHeartbeats 2000000 in
theorem fitLine_i (A : Option Addr) (n cap a t : Nat) (f d : Int) (xs : List It) (w : World) (hok : itemsOk xs = true) (hn : xs.length = n) (hcap : n ≤ cap ∧ cap ≤ maxLen) (hf : f + 1 = (a : Int)) (ha : a ≤ t) (ht : t < n) (hr : Row w w.heap.size 6 A n (itc xs)) (d0 : 1 ≤ d) (d1 : d ≤ 10000) :
    Calls Try.prog 81 #[.slice A n cap, .int .i64 f, .int .i64 (t : Int), .int .i64 d] w fun e w' => e = .returned (.tuple #[.int .i64 (lnK xs a t d), .int .i64 (lnB xs a t d)]) ∧ Below w.heap.size w w' := by
  obtain ⟨⟨x0, x1⟩, ⟨y0, y1⟩, z0, z1⟩ := lg_b (a := a) hok hn ht
  have hK : lnK xs a t d = fitK (cl (lgW xs a t)) (cl (lgH xs a t)) d := rfl
  have hB : lnB xs a t d = fitB (cl (lgW xs a t)) (cl (lgS xs a t)) (cl (lgH xs a t)) d := rfl
  obtain ⟨X, hX⟩ : ∃ X, lgW xs a t = X := ⟨_, rfl⟩
  obtain ⟨Y, hY⟩ : ∃ X, lgS xs a t = X := ⟨_, rfl⟩
  obtain ⟨Z, hZ⟩ : ∃ X, lgH xs a t = X := ⟨_, rfl⟩
  rw [hX] at x0 x1 hK hB
  rw [hY] at y0 y1 hB
  rw [hZ] at z0 z1 hK hB
  rw [hK, hB]
  have HX := Lib.hid hX
  have HY := Lib.hid hY
  have HZ := Lib.hid hZ
  have HOK := Lib.hid hok
  have HN := Lib.hid hn
  clear hX hY hZ hK hB hok hn
  go_enter Try.func81, Try.ntmps81
  go_wp2_with fail
  ((with_reducible refine (lineGlue_i _ _ _ _ _ _ xs _ HOK.out HN.out hcap hf ha ht ?_).mono ?_); (exact hr); rintro e w1 ⟨rfl, hb1⟩)
  rw [HX.out, HY.out, HZ.out]
  go_wp2_with fail
  all_goals
    ((with_reducible refine (fitGlue_i _ _ _ _ _ (by omega) (by omega) (by omega) (by omega) (by omega) (by omega) (by omega) d1).mono ?_); rintro e w2 ⟨rfl, hb2⟩)
    have hB2 := below_then (Nat.le_refl _) (hb1.alloc hb1.size (.cells #[.int .i64 X, .int .i64 Y, .int .i64 Z] 76)) hb2
    go_wp2_with fail
    (first | go_returns | (refine bodyPost_ret (by simp [results, Try.results81, go_sem, *]; try rfl) rfl ?_))
    refine ⟨?_, hB2⟩
    first | rw [show cl X = X by unfold cl; omega] | rw [show cl X = 10000 by unfold cl; omega]
    first | rw [show cl Y = Y by unfold cl; omega] | rw [show cl Y = 10000 by unfold cl; omega]
    first | rw [show cl Z = Z by unfold cl; omega] | rw [show cl Z = 10000 by unfold cl; omega]
    rfl
end Go.Proofs.Ytkmipgekmbngcaa
/- The cost of a line, of the program and of the reference, is what the plain functions say. Conditions: the slice reads as valid items; the line is one. -/
namespace Go.Proofs.Ytkmipgekmbngcaa
open Go.RowKit

set_option maxRecDepth 100000 in
set_option maxHeartbeats 4000000 in
theorem lineCost_i (A : Option Addr) (n cap a t : Nat) (f d tol : Int) (xs : List It) (w : World) (hok : itemsOk xs = true) (hn : xs.length = n) (hcap : n ≤ cap ∧ cap ≤ maxLen) (hf : f + 1 = (a : Int)) (ha : a ≤ t) (ht : t < n) (hr : Row w w.heap.size 6 A n (itc xs)) (d0 : 1 ≤ d) (d1 : d ≤ 10000) :
    Calls Try.prog 58 #[.slice A n cap, .int .i64 f, .int .i64 (t : Int), .int .i64 d, .int .i64 tol] w fun e w' => e = .returned (.tuple #[.int .i64 (costV xs a t d tol), .bool (costOk xs a t d tol)]) ∧ Below w.heap.size w w' := by
  have hmn := (itemsOk_len hok hn).2
  obtain ⟨B0, B1⟩ := lnB_b (a := a) hok hn ht (show 0 ≤ d by omega) d1
  obtain ⟨b, off, rfl, hb, hc⟩ := id hr (by omega)
  obtain ⟨y, hy⟩ : ∃ y, xs.getD t default = y := ⟨_, rfl⟩
  obtain ⟨_, _, _, ⟨p0, p1⟩, _⟩ := itemOk_b (itemsOk_at hok hn ht hy)
  have t4 := hc t 4 ht (by omega)
  have t5 := hc t 5 ht (by omega)
  simp only [itc, itv, hy] at t4 t5
  have hyes : ∀ F, flg xs a t = F → ¬ lnK xs a t d = 4 → ¬ tol < lnB xs a t d → costOk xs a t d tol = true ∧ costV xs a t d tol = dem (lnB xs a t d) y.pen F := fun F hF h1 h2 => by
    have := cost_yes h1 h2
    rwa [hy, hF] at this
  have HYES := Lib.hid hyes
  have HNO1 := Lib.hid (fun h : lnK xs a t d = 4 => cost_no1 (tol := tol) h)
  have HNO2 := Lib.hid (fun h : tol < lnB xs a t d => cost_no2 h)
  have HY := Lib.hid hy
  have HOK := Lib.hid hok
  have HN := Lib.hid hn
  have HR := Lib.hid hr
  have HC := Lib.hid hc
  have T4 := Lib.hid t4
  have T5 := Lib.hid t5
  have hmc : off + n * 6 ≤ off + n * 6 := Nat.le_refl _
  have htn : (t : Int) < (n : Int) := by omega
  clear hyes hok hn hr hy hc t4 t5 hmc
  go_enter Try.func58, Try.ntmps58
  go_wp2_with fail
  ((with_reducible refine (fitLine_i _ _ _ _ _ _ _ xs _ HOK.out HN.out hcap hf ha ht ?_ d0 d1).mono ?_); (exact HR.out); rintro e w1 ⟨rfl, hb1⟩)
  have hB := hb1
  obtain ⟨K, hK⟩ : ∃ K, lnK xs a t d = K := ⟨_, rfl⟩
  obtain ⟨B, hBB⟩ : ∃ B, lnB xs a t d = B := ⟨_, rfl⟩
  rw [hK] at HYES HNO1 ⊢
  rw [hBB] at HYES HNO2 B0 B1 ⊢
  clear hK hBB
  by_cases e1 : K = 4
  · obtain ⟨k1, k2⟩ := HNO1.out e1
    have K1 := Lib.hid k1
    have K2 := Lib.hid k2
    clear k1 k2
    go_wp2_with fail
    (first | go_returns | (refine bodyPost_ret (by simp [results, Try.results58, go_sem, *]; try rfl) rfl ?_))
    exact ⟨by rw [K1.out, K2.out]; rfl, hB⟩
  have hKf : (K == 4) = false := by simpa using e1
  by_cases e2 : tol < B
  · obtain ⟨k1, k2⟩ := HNO2.out e2
    have K1 := Lib.hid k1
    have K2 := Lib.hid k2
    clear k1 k2
    go_wp2_with fail
    (first | go_returns | (refine bodyPost_ret (by simp [results, Try.results58, go_sem, *]; try rfl) rfl ?_))
    exact ⟨by rw [K1.out, K2.out]; rfl, hB⟩
  have hBt : decide (tol < B) = false := decide_eq_false e2
  have c4 : w1.cell? ⟨b, off + t * 6 + 4, none⟩ = _ := (hB.cell (p := ⟨b, off + t * 6 + 4, none⟩) hb).trans T4.out
  have c5 : w1.cell? ⟨b, off + t * 6 + 5, none⟩ = _ := (hB.cell (p := ⟨b, off + t * 6 + 5, none⟩) hb).trans T5.out
  rcases a with _ | k
  · obtain ⟨k1, k2⟩ := HYES.out false (flg_zero _ _) (by omega) (by omega)
    have K1 := Lib.hid k1
    have K2 := Lib.hid k2
    obtain rfl : f = -1 := by omega
    clear k1 k2
    go_wp2_with fail
    ((with_reducible refine (demerits_i _ _ _ _ B0 B1 p0 p1).mono ?_); rintro e w' ⟨rfl, rfl⟩)
    go_wp2_with fail
    (first | go_returns | (refine bodyPost_ret (by simp [results, Try.results58, go_sem, *]; try rfl) rfl ?_))
    exact ⟨by rw [K1.out, K2.out]; rfl, hB⟩
  have hkn : (k : Int) < (n : Int) := by omega
  obtain ⟨x, hx⟩ : ∃ x, xs.getD k default = x := ⟨_, rfl⟩
  have t6 := HC.out k 5 (by omega) (by omega)
  simp only [itc, itv, hx] at t6
  have c6 : w1.cell? ⟨b, off + k * 6 + 5, none⟩ = _ := (hB.cell (p := ⟨b, off + k * 6 + 5, none⟩) hb).trans t6
  obtain rfl : f = (k : Int) := by omega
  have hk0 : decide ((0 : Int) ≤ (k : Int)) = true := decide_eq_true (by omega)
  clear t6
  rcases hu : x.fl with _ | _
  · obtain ⟨k1, k2⟩ := HYES.out (false && y.fl) (flg_succ (by rw [hx, hu]) (by rw [HY.out])) (by omega) (by omega)
    have K1 := Lib.hid k1
    have K2 := Lib.hid k2
    rw [hu] at c6
    clear k1 k2 hx hu
    go_wp2_with fail
    ((with_reducible refine (demerits_i _ _ _ _ B0 B1 p0 p1).mono ?_); rintro e w' ⟨rfl, rfl⟩)
    go_wp2_with fail
    (first | go_returns | (refine bodyPost_ret (by simp [results, Try.results58, go_sem, *]; try rfl) rfl ?_))
    exact ⟨by rw [K1.out, K2.out, Bool.false_and]; rfl, hB⟩
  rcases hv : y.fl with _ | _
  all_goals
    obtain ⟨k1, k2⟩ := HYES.out (true && y.fl) (flg_succ (by rw [hx, hu]) (by rw [HY.out])) (by omega) (by omega)
    rw [hv, Bool.true_and] at k2
    have K1 := Lib.hid k1
    have K2 := Lib.hid k2
    rw [hu] at c6
    rw [hv] at c5
    clear k1 k2 hx hu hv
    go_wp2_with fail
    ((with_reducible refine (demerits_i _ _ _ _ B0 B1 p0 p1).mono ?_); rintro e w' ⟨rfl, rfl⟩)
    go_wp2_with fail
    (first | go_returns | (refine bodyPost_ret (by simp [results, Try.results58, go_sem, *]; try rfl) rfl ?_))
    exact ⟨by rw [K1.out, K2.out]; rfl, hB⟩

end Go.Proofs.Ytkmipgekmbngcaa
/- sumLines of the program returns what the plain function says, with any function value for the widths. Conditions: the slices read as valid items and as a list; the function value tells the widths, in memory of its own. -/
namespace Go.Proofs.Ytkmipgekmbngcaa
open Go.RowKit

set_option maxRecDepth 100000 in
set_option maxHeartbeats 4000000 in
theorem sumLines_i (K : Nat) (caps : Array Value) (A B : Option Addr) (n cap nb capb : Nat) (xs : List It) (bs : List Int) (wd : Nat → Int) (tol : Int) (w : World) (eg : ∀ args w, (callFunc K args).run Try.prog w = .ok (.enter K args) w)
    (hok : itemsOk xs = true) (hn : xs.length = n) (hcap : n ≤ cap ∧ cap ≤ maxLen) (hr : Row w w.heap.size 6 A n (itc xs)) (hbn : bs.length = nb) (hbm : nb ≤ maxLen) (hbr : Row w w.heap.size 1 B nb (inc bs)) (hwd : ∀ k, 1 ≤ wd k ∧ wd k ≤ 10000)
    (hcall : ∀ (k : Nat) W, k < nb → Below w.heap.size w W → Calls Try.prog K (#[.int .i64 (k : Int)] ++ caps) W fun e W' => e = .returned (.int .i64 (wd k)) ∧ Below W.heap.size W W') :
    Calls Try.prog 46 #[.slice A n cap, .slice B nb capb, .int .i64 tol, .func (.func K) #[] caps] w fun e w' => e = .returned (.tuple #[.int .i64 ((chkP xs wd tol bs).getD 0), .bool (chkP xs wd tol bs).isSome]) ∧ Below w.heap.size w w' := by
  have hm60 := (itemsOk_len hok hn).2
  have hm1 := (itemsOk_len hok hn).1
  unfold maxLen at hbm
  have HOK := Lib.hid hok
  have HN := Lib.hid hn
  have HR := Lib.hid hr
  have HBN := Lib.hid hbn
  have HBR := Lib.hid hbr
  have HWD := Lib.hid hwd
  have HCALL := Lib.hid hcall
  by_cases hz : nb = 0
  · subst hz
    have HE := Lib.hid (chk_zero (xs := xs) (wd := wd) (tol := tol) hbn)
    clear hok hn hr hbn hbr hwd hcall
    go_enter Try.func46, Try.ntmps46
    go_wp2_with fail
    (first | go_returns | (refine bodyPost_ret (by simp [results, Try.results46, go_sem, *]; try rfl) rfl ?_))
    exact ⟨by rw [HE.out]; rfl, Below.refl _ _⟩
  have hpos : 0 < nb := by omega
  have hzf : ((nb : Int) == 0) = false := by simpa using hz
  obtain ⟨b, off, rfl, hb, hc⟩ := id hbr hpos
  obtain ⟨L, hL⟩ : ∃ L, bs.getD (nb - 1) default = L := ⟨_, rfl⟩
  have c0 : w.cell? ⟨b, off + (nb - 1), none⟩ = some (.int .i64 L) := by
    have := hc (nb - 1) 0 (by omega) (by omega)
    simpa only [inc, hL, Nat.mul_one, Nat.add_zero] using this
  have hbn' : bs.length = (nb - 1) + 1 := by omega
  by_cases hl : L = (n : Int) - 1
  case neg =>
    have HE := Lib.hid (chk_last (xs := xs) (wd := wd) (tol := tol) hbn' (by rw [hL, hn]; exact hl))
    have hlf : (L == (n : Int) - 1) = false := by simpa using hl
    clear hok hn hr hbn hbn' hbr hwd hcall hc hL hl
    go_enter Try.func46, Try.ntmps46
    go_wp2_with fail
    (first | go_returns | (refine bodyPost_ret (by simp [results, Try.results46, go_sem, *]; try rfl) rfl ?_))
    exact ⟨by rw [HE.out]; rfl, Below.refl _ _⟩
  have hend := chk_end (xs := xs) (wd := wd) (tol := tol) hbn' (by rw [hL, hn]; exact hl)
  rw [show nb - 1 + 1 = nb by omega] at hend
  have HEND := Lib.hid hend
  have HC := Lib.hid hc
  clear hok hn hr hbn hbn' hbr hwd hcall hc hL hend
  subst hl
  go_enter Try.func46, Try.ntmps46
  go_wp2_with fail
  clear c0 hz hzf
  go_loopg [10, 11, 33] nb (fun k sv fv i wr => ∃ (j : Nat) (s f : Int), j ≤ nb ∧ k = nb - j ∧ i = .int .i64 (j : Int) ∧ sv = .int .i64 s ∧ fv = .int .i64 f ∧ Hid (sumJ xs wd tol bs j = some s) ∧ Hid (frm bs j = f) ∧ Below w.heap.size w wr)
  case atStart => exact ⟨0, 0, -1, Nat.zero_le _, rfl, rfl, rfl, rfl, rfl, rfl, Below.refl _ _⟩
  case round =>
    obtain ⟨j, s, f, hj, hk, rfl, rfl, rfl, hs, hf, hbel⟩ := hrel
    have HK := Lib.hid hk; clear hk
    have hsz := hbel.size
    obtain ⟨j0, j1, s0, s1⟩ := sumJ_b HOK.out HN.out HWD.out j s hs.out
    rw [hf.out] at j0 j1
    by_cases hlt : j < nb
    · obtain ⟨t, ht⟩ : ∃ t, bs.getD j default = t := ⟨_, rfl⟩
      have c0 : wr.cell? ⟨b, off + j, none⟩ = some (.int .i64 t) := by
        have := (hbel.cell (p := ⟨b, off + j, none⟩) hb).trans (by have := HC.out j 0 hlt (by omega); simpa only [inc, ht, Nat.mul_one, Nat.add_zero] using this)
        exact this
      have hjn : (j : Int) < (nb : Int) := by omega
      have HT := Lib.hid ht
      clear ht
      go_wp2_with fail
      ((with_reducible refine (isLine_i _ _ _ _ _ xs _ HN.out hm60 hcap ?_).mono ?_); (exact (HR.out.below hbel).more hbel.size); rintro e w1 ⟨rfl, hb1⟩)
      have hB1 := below_then (Nat.le_refl _) hbel hb1
      rcases hl : lnOk xs f t with _ | _
      · have HE := Lib.hid (chk_none HBN.out (sumJ_no1 hs.out (by rw [hf.out, HT.out]; exact lc_line hl)) hlt)
        clear hl
        go_wp2_with fail
        (first | go_returns | (refine bodyPost_ret (by simp [results, Try.results46, go_sem, *]; try rfl) rfl ?_))
        exact ⟨by rw [HE.out]; rfl, hB1⟩
      obtain ⟨a, u, ef, et, hau, hun, _⟩ := ln_iff HN.out hl
      subst ef et
      obtain ⟨d0, d1⟩ := HWD.out j
      have hlc : lc xs (wd j) tol (frm bs j) (bs.getD j default) = if costOk xs a u (wd j) tol then some (costV xs a u (wd j) tol) else none := by rw [hf.out, HT.out]; exact lc_at rfl rfl hl
      have HLC := Lib.hid hlc
      have hfa : (a : Int) - 1 + 1 = (a : Int) := by omega
      have HFA := Lib.hid hfa
      clear hl hlc hfa
      go_wp2_with (go_at_fn K; refine (HCALL.out j _ hlt hB1).mono ?_; rintro e w2 ⟨rfl, hb2⟩)
      have hB2 := below_then (Nat.le_refl _) hB1 hb2
      go_wp2_with fail
      ((with_reducible refine (lineCost_i _ _ _ a u _ _ _ xs _ HOK.out HN.out hcap HFA.out hau hun ?_ d0 d1).mono ?_); (exact (HR.out.below hB2).more hB2.size); rintro e w3 ⟨rfl, hb3⟩)
      have hB3 := below_then (Nat.le_refl _) hB2 hb3
      obtain ⟨v0, v1⟩ := costV_b (a := a) (tol := tol) HOK.out HN.out hun d0 d1
      obtain ⟨V, hV⟩ : ∃ V, costV xs a u (wd j) tol = V := ⟨_, rfl⟩
      rw [hV] at HLC v0 v1 ⊢
      clear hV
      rcases hq : costOk xs a u (wd j) tol with _ | _
      · have hc0 := HLC.out
        rw [hq] at hc0
        have HE := Lib.hid (chk_none HBN.out (sumJ_no1 hs.out hc0) hlt)
        clear hq hc0
        go_wp2_with fail
        (first | go_returns | (refine bodyPost_ret (by simp [results, Try.results46, go_sem, *]; try rfl) rfl ?_))
        exact ⟨by rw [HE.out]; rfl, hB3⟩
      · have hc0 := HLC.out
        rw [hq] at hc0
        have HS := Lib.hid (sumJ_yes hs.out hc0)
        clear hq hc0
        go_wp2_with fail
        go_roundg (nb - (j + 1))
        case measure => have := HK.out; omega
        case rel => exact ⟨j + 1, s + V, _, by omega, rfl, by go_num, rfl, rfl, HS.out, by show _ = _; rw [frm_succ, HT.out], hB3⟩
    · have ej : j = nb := by omega
      subst ej
      have HE := Lib.hid (HEND.out.trans hs.out)
      go_wp2_with fail
      (first | go_returns | (refine bodyPost_ret (by simp [results, Try.results46, go_sem, *]; try rfl) rfl ?_))
      exact ⟨by rw [HE.out]; rfl, hbel⟩
end Go.Proofs.Ytkmipgekmbngcaa
