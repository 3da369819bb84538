/- The cheapest way over all nodes is the cheapest way over the nodes that can be reached. No program. No condition. -/
import Derived.Test.YtpcjoehdbohaoaaDp
namespace Go.Proofs.Ytpcjoehdbohaoaa.Dp

variable {C : Nat → Nat → Option Int} {p : Nat → Bool}
/-- How many stops lie ahead of node N. -/
def rk (p : Nat → Bool) (N : Nat) : Nat := ((List.range N).filter p).length
theorem rk_yes {N : Nat} (h : p N = true) : rk p (N + 1) = rk p N + 1 := by
  rw [rk, List.range_succ, List.filter_append, List.length_append]
  simp [rk, h]
theorem rk_no {N : Nat} (h : p N = false) : rk p (N + 1) = rk p N := by
  rw [rk, List.range_succ, List.filter_append, List.length_append]
  simp [rk, h]
/-- The stops among the first n nodes. -/
def sts (p : Nat → Bool) (n : Nat) : List Nat := (List.range n).filter p
theorem sts_at {n N : Nat} (h : p N = true) (hN : N < n) : (sts p n).getD (rk p N) 0 = N := by
  have e : List.range n = List.range N ++ N :: (List.range n).drop (N + 1) := by
    have h1 : (List.range n).take N = List.range N := by rw [List.take_range, Nat.min_eq_left (by omega)]
    have h2 : (List.range n).drop N = N :: (List.range n).drop (N + 1) := by
      rw [List.drop_eq_getElem_cons (by simp; omega), List.getElem_range]
    rw [← h1, ← h2, List.take_append_drop]
  rw [sts, e, List.filter_append, List.filter_cons_of_pos h, List.getD_eq_getElem?_getD, List.getElem?_append_right (by rw [rk]; exact Nat.le_refl _), rk, Nat.sub_self]
  rfl
def lift (L : Nat → Nat) (r : Option (Int × Nat)) : Option (Int × Nat) := r.map fun q => (q.1, L q.2)
theorem upd_lift {t T : Nat → Option (Int × Nat)} {s S : Nat → Option Int} {L : Nat → Nat} {k N : Nat} (hT : T N = lift L (t k)) (hS : S N = s k) (hL : L k = N) (cur : Option (Int × Nat)) : upd T S (lift L cur) N = lift L (upd t s cur k) := by
  unfold upd
  rw [hT, hS]
  rcases t k with _ | ⟨a, b⟩
  · rfl
  · rcases s k with _ | c
    · rfl
    · rcases cur with _ | ⟨v, q⟩
      · simp [lift, hL]
      · simp only [lift, Option.map_some]
        split <;> simp [hL]
theorem upd_skip {T : Nat → Option (Int × Nat)} {S : Nat → Option Int} {N : Nat} (h : T N = none ∨ S N = none) (cur : Option (Int × Nat)) : upd T S cur N = cur := by
  unfold upd
  rcases h with h | h
  · rw [h]
  · rw [h]
    rcases T N with _ | _ <;> rfl
theorem tbl_stops (n : Nat) (hC : ∀ k i, p k = false → C k i = none) (h0 : p 0 = true) : ∀ N, N < n → p N = true → tbl C N = lift (fun k => (sts p n).getD k 0) (tbl (fun k i => C ((sts p n).getD k 0) ((sts p n).getD i 0)) (rk p N)) := by
  intro N
  induction N using Nat.strongRecOn with
  | _ N ih =>
    intro hN hp
    have hself := sts_at hp hN
    rcases Nat.eq_zero_or_pos N with rfl | hpos
    · have e : rk p 0 = 0 := rfl
      rw [e] at hself ⊢
      rw [tbl_zero, tbl_zero, lift]
      simp only [Option.map_some, hself]
    · have hr : 0 < rk p N := by
        have key : ∀ m, 0 < m → 0 < rk p m := by
          intro m
          induction m with
          | zero => intro h; omega
          | succ m ihm =>
            intro _
            rcases Nat.eq_zero_or_pos m with rfl | hm
            · rw [rk_yes h0]; omega
            · have := ihm hm
              rcases hq : p m with _ | _
              · rw [rk_no hq]; exact this
              · rw [rk_yes hq]; omega
        exact key N hpos
      rw [tbl_pos _ _ hpos, tbl_pos _ _ hr]
      have key : ∀ M, M ≤ N → best (tbl C) (fun k => C k N) M = lift (fun k => (sts p n).getD k 0) (best (tbl (fun k i => C ((sts p n).getD k 0) ((sts p n).getD i 0))) (fun k => C ((sts p n).getD k 0) ((sts p n).getD (rk p N) 0)) (rk p M)) := by
        intro M
        induction M with
        | zero => intro _; rfl
        | succ M ihM =>
          intro hM
          rw [best_succ, ihM (by omega)]
          rcases hq : p M with _ | _
          · rw [rk_no hq]
            exact upd_skip (T := tbl C) (S := fun k => C k N) (N := M) (.inr (hC M N hq)) _
          · rw [rk_yes hq, best_succ]
            refine upd_lift (ih M (by omega) (by omega) hq) ?_ (sts_at hq (by omega)) _
            rw [sts_at hq (by omega), hself]
      exact key N (Nat.le_refl _)
theorem rk_mono {a b : Nat} (h : a ≤ b) : rk p a ≤ rk p b := by
  induction h with
  | refl => exact Nat.le_refl _
  | @step m _ ih =>
    rcases hq : p m with _ | _
    · rw [rk_no hq]; exact ih
    · rw [rk_yes hq]; omega
theorem rk_lt {a b : Nat} (ha : p a = true) (h : a < b) : rk p a < rk p b := by
  have := rk_mono (p := p) (show a + 1 ≤ b by omega)
  rw [rk_yes ha] at this
  omega
theorem rk_inj {a b : Nat} (ha : p a = true) (hb : p b = true) (h : rk p a = rk p b) : a = b := by
  rcases Nat.lt_trichotomy a b with h1 | h1 | h1
  · have := rk_lt ha h1; omega
  · exact h1
  · have := rk_lt hb h1; omega
/-- Each number below the number of stops is the rank of a stop. -/
theorem rk_surj {n k : Nat} (h : k < rk p n) : ∃ N, N < n ∧ p N = true ∧ rk p N = k := by
  induction n with
  | zero => exact absurd h (Nat.not_lt_zero _)
  | succ n ih =>
    rcases hq : p n with _ | _
    · rw [rk_no hq] at h
      obtain ⟨N, h1, h2, h3⟩ := ih h
      exact ⟨N, by omega, h2, h3⟩
    · rw [rk_yes hq] at h
      rcases Nat.lt_or_ge k (rk p n) with h1 | h1
      · obtain ⟨N, h2, h3, h4⟩ := ih h1
        exact ⟨N, by omega, h3, h4⟩
      · exact ⟨n, by omega, hq, by omega⟩
theorem path_stops (n : Nat) (hC : ∀ k i, p k = false → C k i = none) (h0 : p 0 = true) : ∀ N, N < n → p N = true → tbl C N ≠ none → path C N = (path (fun k i => C ((sts p n).getD k 0) ((sts p n).getD i 0)) (rk p N)).map (fun k => (sts p n).getD k 0) := by
  intro N
  induction N using Nat.strongRecOn with
  | _ N ih =>
    intro hN hp ht
    have hself := sts_at hp hN
    have htb := tbl_stops n hC h0 N hN hp
    rcases Nat.eq_zero_or_pos N with rfl | hpos
    · rw [show rk p 0 = 0 from rfl, path_zero, path_zero]
      rfl
    · rcases hs : tbl (fun k i => C ((sts p n).getD k 0) ((sts p n).getD i 0)) (rk p N) with _ | ⟨v, k⟩
      · rw [hs] at htb
        exact absurd htb ht
      · rw [hs] at htb
        have hr : 0 < rk p N := by
          have h1 := rk_lt h0 hpos
          omega
        obtain ⟨hk, u, k', s, h1, h2, _⟩ := tbl_some hr hs
        obtain ⟨K, hK1, hK2, hK3⟩ := rk_surj hk
        have hLK : (sts p n).getD k 0 = K := by rw [← hK3]; exact sts_at hK2 (by omega)
        have hcK : tbl C N = some (v, K) := by rw [htb, lift]; simp only [Option.map_some, hLK]
        have htK : tbl C K ≠ none := by
          rw [tbl_stops n hC h0 K (by omega) hK2, hK3, h1]
          intro e
          cases e
        rw [path_pos hpos hcK, path_pos hr hs, List.map_append, ih K hK1 (by omega) hK2 htK, hK3]
        simp only [List.map_cons, List.map_nil, hself]
end Go.Proofs.Ytpcjoehdbohaoaa.Dp
