/- The cheapest way over all nodes is the cheapest way over the nodes that can be reached. No program. No condition. -/
import Derived.Test.YtkmipgekmbngcaaDp
import Derived.Test.YtkmipgekmbngcaaBase
import Derived.ProofKit
import Derived.OpenShut
import Derived.ShutString
import Derived.ChangeOld
import Derived.Lib.SmallJoins
import Derived.Deep.Slices
import Derived.Deep.Fields
import Derived.Deep.Strs
namespace Go.Proofs.Ytkmipgekmbngcaa.Dp

variable {C : Nat → Nat → Option Int} {p : Nat → Bool}
/-- How many stops lie ahead of node N. -/
def rk (p : Nat → Bool) (N : Nat) : Nat := ((List.range N).filter p).length
theorem rk_yes {N : Nat} (h : p N = true) : rk p (N + 1) = rk p N + 1 := by
  rw [rk, List.range_succ, List.filter_append, List.length_append]
  simp [rk, h]
theorem rk_no {N : Nat} (h : p N = false) : rk p (N + 1) = rk p N := by
  rw [rk, List.range_succ, List.filter_append, List.length_append]
  simp [rk, h]
/-- The stops among the first n nodes. -/
def sts (p : Nat → Bool) (n : Nat) : List Nat := (List.range n).filter p
theorem sts_at {n N : Nat} (h : p N = true) (hN : N < n) : (sts p n).getD (rk p N) 0 = N := by
  have e : List.range n = List.range N ++ N :: (List.range n).drop (N + 1) := by
    have h1 : (List.range n).take N = List.range N := by rw [List.take_range, Nat.min_eq_left (by omega)]
    have h2 : (List.range n).drop N = N :: (List.range n).drop (N + 1) := by
      rw [List.drop_eq_getElem_cons (by simp; omega), List.getElem_range]
    rw [← h1, ← h2, List.take_append_drop]
  rw [sts, e, List.filter_append, List.filter_cons_of_pos h, List.getD_eq_getElem?_getD, List.getElem?_append_right (by rw [rk]; exact Nat.le_refl _), rk, Nat.sub_self]
  rfl
def lift (L : Nat → Nat) (r : Option (Int × Nat)) : Option (Int × Nat) := r.map fun q => (q.1, L q.2)
theorem upd_lift {t T : Nat → Option (Int × Nat)} {s S : Nat → Option Int} {L : Nat → Nat} {k N : Nat} (hT : T N = lift L (t k)) (hS : S N = s k) (hL : L k = N) (cur : Option (Int × Nat)) : upd T S (lift L cur) N = lift L (upd t s cur k) := by
  unfold upd
  rw [hT, hS]
  rcases t k with _ | ⟨a, b⟩
  · rfl
  · rcases s k with _ | c
    · rfl
    · rcases cur with _ | ⟨v, q⟩
      · simp [lift, hL]
      · simp only [lift, Option.map_some]
        split <;> simp [hL]
theorem upd_skip {T : Nat → Option (Int × Nat)} {S : Nat → Option Int} {N : Nat} (h : T N = none ∨ S N = none) (cur : Option (Int × Nat)) : upd T S cur N = cur := by
  unfold upd
  rcases h with h | h
  · rw [h]
  · rw [h]
    rcases T N with _ | _ <;> rfl
theorem tbl_stops (n : Nat) (hC : ∀ k i, p k = false → C k i = none) (h0 : p 0 = true) : ∀ N, N < n → p N = true → tbl C N = lift (fun k => (sts p n).getD k 0) (tbl (fun k i => C ((sts p n).getD k 0) ((sts p n).getD i 0)) (rk p N)) := by
  intro N
  induction N using Nat.strongRecOn with
  | _ N ih =>
    intro hN hp
    have hself := sts_at hp hN
    rcases Nat.eq_zero_or_pos N with rfl | hpos
    · have e : rk p 0 = 0 := rfl
      rw [e] at hself ⊢
      rw [tbl_zero, tbl_zero, lift]
      simp only [Option.map_some, hself]
    · have hr : 0 < rk p N := by
        have key : ∀ m, 0 < m → 0 < rk p m := by
          intro m
          induction m with
          | zero => intro h; omega
          | succ m ihm =>
            intro _
            rcases Nat.eq_zero_or_pos m with rfl | hm
            · rw [rk_yes h0]; omega
            · have := ihm hm
              rcases hq : p m with _ | _
              · rw [rk_no hq]; exact this
              · rw [rk_yes hq]; omega
        exact key N hpos
      rw [tbl_pos _ _ hpos, tbl_pos _ _ hr]
      have key : ∀ M, M ≤ N → best (tbl C) (fun k => C k N) M = lift (fun k => (sts p n).getD k 0) (best (tbl (fun k i => C ((sts p n).getD k 0) ((sts p n).getD i 0))) (fun k => C ((sts p n).getD k 0) ((sts p n).getD (rk p N) 0)) (rk p M)) := by
        intro M
        induction M with
        | zero => intro _; rfl
        | succ M ihM =>
          intro hM
          rw [best_succ, ihM (by omega)]
          rcases hq : p M with _ | _
          · rw [rk_no hq]
            exact upd_skip (T := tbl C) (S := fun k => C k N) (N := M) (.inr (hC M N hq)) _
          · rw [rk_yes hq, best_succ]
            refine upd_lift (ih M (by omega) (by omega) hq) ?_ (sts_at hq (by omega)) _
            rw [sts_at hq (by omega), hself]
      exact key N (Nat.le_refl _)
theorem rk_mono {a b : Nat} (h : a ≤ b) : rk p a ≤ rk p b := by
  induction h with
  | refl => exact Nat.le_refl _
  | @step m _ ih =>
    rcases hq : p m with _ | _
    · rw [rk_no hq]; exact ih
    · rw [rk_yes hq]; omega
theorem rk_lt {a b : Nat} (ha : p a = true) (h : a < b) : rk p a < rk p b := by
  have := rk_mono (p := p) (show a + 1 ≤ b by omega)
  rw [rk_yes ha] at this
  omega
theorem rk_inj {a b : Nat} (ha : p a = true) (hb : p b = true) (h : rk p a = rk p b) : a = b := by
  rcases Nat.lt_trichotomy a b with h1 | h1 | h1
  · have := rk_lt ha h1; omega
  · exact h1
  · have := rk_lt hb h1; omega
/-- Each number below the number of stops is the rank of a stop. -/
theorem rk_surj {n k : Nat} (h : k < rk p n) : ∃ N, N < n ∧ p N = true ∧ rk p N = k := by
  induction n with
  | zero => exact absurd h (Nat.not_lt_zero _)
  | succ n ih =>
    rcases hq : p n with _ | _
    · rw [rk_no hq] at h
      obtain ⟨N, h1, h2, h3⟩ := ih h
      exact ⟨N, by omega, h2, h3⟩
    · rw [rk_yes hq] at h
      rcases Nat.lt_or_ge k (rk p n) with h1 | h1
      · obtain ⟨N, h2, h3, h4⟩ := ih h1
        exact ⟨N, by omega, h3, h4⟩
      · exact ⟨n, by omega, hq, by omega⟩
theorem path_stops (n : Nat) (hC : ∀ k i, p k = false → C k i = none) (h0 : p 0 = true) : ∀ N, N < n → p N = true → tbl C N ≠ none → path C N = (path (fun k i => C ((sts p n).getD k 0) ((sts p n).getD i 0)) (rk p N)).map (fun k => (sts p n).getD k 0) := by
  intro N
  induction N using Nat.strongRecOn with
  | _ N ih =>
    intro hN hp ht
    have hself := sts_at hp hN
    have htb := tbl_stops n hC h0 N hN hp
    rcases Nat.eq_zero_or_pos N with rfl | hpos
    · rw [show rk p 0 = 0 from rfl, path_zero, path_zero]
      rfl
    · rcases hs : tbl (fun k i => C ((sts p n).getD k 0) ((sts p n).getD i 0)) (rk p N) with _ | ⟨v, k⟩
      · rw [hs] at htb
        exact absurd htb ht
      · rw [hs] at htb
        have hr : 0 < rk p N := by
          have h1 := rk_lt h0 hpos
          omega
        obtain ⟨hk, u, k', s, h1, h2, _⟩ := tbl_some hr hs
        obtain ⟨K, hK1, hK2, hK3⟩ := rk_surj hk
        have hLK : (sts p n).getD k 0 = K := by rw [← hK3]; exact sts_at hK2 (by omega)
        have hcK : tbl C N = some (v, K) := by rw [htb, lift]; simp only [Option.map_some, hLK]
        have htK : tbl C K ≠ none := by
          rw [tbl_stops n hC h0 K (by omega) hK2, hK3, h1]
          intro e
          cases e
        rw [path_pos hpos hcK, path_pos hr hs, List.map_append, ih K hK1 (by omega) hK2 htK, hK3]
        simp only [List.map_cons, List.map_nil, hself]
end Go.Proofs.Ytkmipgekmbngcaa.Dp
/- Opening the arguments of a law: numbers, rows of numbers, structs, rows of structs. What stands here speaks of values and cells alone. No condition. -/
namespace Go.Proofs.Ytkmipgekmbngcaa
open Go.ChangeShapes Go.WideShapes Go.ChangeAt Go.RowKit Go.Joins Go.Deep

section
variable {H : Type} {enc : TypeId × Value → H} {P : Program} {w : World} {base : Nat} {spare : Nat → Bool} {held : Bool}

theorem open_struct3 {r : Reach} {b0 : Nat} {t ti : TypeId} {k : IntKind} {f0 f1 f2 : Field} {v : Value} {d : DataW H} {p : List MemPlace} (hs : P.underlying t = some (.struct #[f0, f1, f2]))
    (h0 : f0.type = ti) (h1 : f1.type = ti ∧ f2.type = ti) (hone : oneCellFields P #[f0, f1, f2] = true) (hC : P.cellsOf t = 3) (hi : P.underlying ti = some (.int k))
    (hv : Value.okWide P w r b0 t v) (h : DataW.Trod enc P w base spare held t v d p) : ∃ x0 x1 x2 : Int, v = .agg #[.int k x0, .int k x1, .int k x2] := by
  obtain ⟨c0, c1, c2, y0, y1, y2, m, rfl, _, _, g0, g1, g2⟩ := open_agg3 hs hone hC hv h
  rw [h0] at g0
  rw [h1.1] at g1
  rw [h1.2] at g2
  obtain ⟨x0, e0, _⟩ := DataW.trod_int hi g0
  obtain ⟨x1, e1, _⟩ := DataW.trod_int hi g1
  obtain ⟨x2, e2, _⟩ := DataW.trod_int hi g2
  simp at e0 e1 e2
  subst e0 e1 e2
  exact ⟨x0, x1, x2, rfl⟩

/-- A slice of structs whose fields are all of one integer kind: the cells, in the walk's spelling. -/
theorem open_rowsN {t e ti : TypeId} {k : IntKind} {fs : Array Field} {fuel : Nat} {A : Option Addr} {n cap sz : Nat} {x : DataW H × List MemPlace} (ht : P.underlying t = some (.slice e)) (he : P.underlying e = some (.struct fs))
    (hsz : fs.size = sz) (h0 : 0 < sz) (hone : oneCellFields P fs = true) (hC : P.cellsOf e = sz) (hi : P.underlying ti = some (.int k)) (hf : ∀ (j : Nat) (f : Field), fs[j]? = some f → f.type = ti)
    (h : DataW.trod enc P w base spare held fuel t [.slice A n cap] = some x) :
    n ≤ maxLen ∧ ∃ g : Nat → Nat → Int, Row w w.heap.size sz A n (fun i j => .int k (g i j)) := by
  rcases open_slice ht h with ⟨hcs, _⟩ | ⟨a, len, cap', m, fl, D, Pl, hcs, hb, hl, hm, hmm, hx, hel⟩
  · simp only [List.cons.injEq, Value.slice.injEq, and_true] at hcs
    obtain ⟨rfl, rfl, rfl⟩ := hcs
    exact ⟨Nat.zero_le _, fun _ _ => 0, Row.nil⟩
  simp only [List.cons.injEq, Value.slice.injEq, and_true] at hcs
  obtain ⟨rfl, rfl, rfl⟩ := hcs
  have hnm : n ≤ m := by rw [hmm]; split <;> omega
  refine ⟨by omega, ?_⟩
  have key : ∀ i j, ∃ v : Int, i < n → j < sz → w.cell? (a.add (i * sz + j)) = some (.int k v) := by
    intro i j
    by_cases hi' : i < n
    · by_cases hj : j < sz
      · obtain ⟨cs', hc, ht'⟩ := hel i (by omega)
        rw [hC] at hc
        obtain ⟨ys, n', hn', hy, hlen, hyl, hfl⟩ := DataW.trod_struct he ht'
        obtain ⟨_, hcl, hat⟩ := World.cells?_some hc
        have hfj : fs[j]? = some fs[j] := Array.getElem?_eq_getElem (by omega)
        obtain ⟨ho, hk⟩ := hone_of hone j _ hfj
        have hcell := hat j hj
        have hv : cs'[j]? = some (cs'[j]'(by omega)) := List.getElem?_eq_getElem (by omega)
        have h1 := hfl j _ hfj
        rw [ho, hk] at h1
        have hone' : (cs'.drop j).take 1 = [cs'[j]'(by omega)] := by
          rw [List.drop_eq_getElem_cons (by omega)]
          rfl
        have hys : ys[j]? = some (ys[j]'(by omega)) := List.getElem?_eq_getElem (by omega)
        rw [hone', hf j _ hfj, hys] at h1
        obtain ⟨v, e1, _⟩ := DataW.trod_int hi h1
        refine ⟨v, fun _ _ => ?_⟩
        rw [← Go.Deep.add_add, hcell, hv]
        simp only [List.cons.injEq, and_true] at e1
        rw [e1]
      · exact ⟨0, fun _ h => absurd h hj⟩
    · exact ⟨0, fun h => absurd h hi'⟩
  obtain ⟨gg, hc⟩ : ∃ gg : Nat → Nat → Int, ∀ i j, i < n → j < sz → w.cell? (a.add (i * sz + j)) = some (.int k (gg i j)) :=
    ⟨fun i j => Classical.choose (key i j), fun i j => Classical.choose_spec (key i j)⟩
  refine ⟨gg, fun hn => ?_⟩
  have h00 := hc 0 0 hn h0
  have hsp := World.cell?_spot h00
  have hbl := World.block_lt_of_cell? w _ h00
  rw [Nat.zero_mul, Nat.zero_add] at hsp hbl
  have e0 : a.add 0 = a := rfl
  rw [e0] at hsp hbl
  obtain ⟨b, off, sp⟩ := a
  simp only at hsp
  subst hsp
  refine ⟨b, off, rfl, hbl, fun i j hi hj => ?_⟩
  have := hc i j hi hj
  unfold Addr.add at this
  split at this
  · rename_i hz
    show w.cell? ⟨b, off + i * sz + j, none⟩ = _
    rw [Nat.add_assoc, hz]
    exact this
  · show w.cell? ⟨b, off + i * sz + j, none⟩ = _
    rw [Nat.add_assoc]
    exact this

/-- A slice of numbers. -/
theorem open_nums {t e : TypeId} {k : IntKind} {A : Option Addr} {n cap : Nat} {d : DataW H} {p : List MemPlace} (ht : P.underlying t = some (.slice e)) (he : P.underlying e = some (.int k)) (hC : P.cellsOf e = 1)
    (h : DataW.Trod enc P w base spare held t (.slice A n cap) d p) : ∃ xs : List Int, xs.length = n ∧ n ≤ maxLen ∧ (∀ x ∈ xs, (Lit.int k x).wf = true) ∧ Row w w.heap.size 1 A n (fun i _ => .int k (xs.getD i 0)) := by
  obtain ⟨fuel, hf⟩ := h
  rcases open_ints ht he hC hf with ⟨hcs, _⟩ | ⟨a, l, c, zs, hcs, _, hl, hm, hz, _, hcell, hwz⟩
  · simp [Value.cells] at hcs
    obtain ⟨rfl, rfl, rfl⟩ := hcs
    exact ⟨[], rfl, Nat.zero_le _, by simp, Row.nil⟩
  · simp [Value.cells] at hcs
    obtain ⟨rfl, rfl, rfl⟩ := hcs
    have hzl : n ≤ zs.length := by rw [hz]; split <;> omega
    refine ⟨zs.take n, by simp; omega, by omega, fun x hx => hwz x (List.mem_of_mem_take hx), fun hn => ?_⟩
    have hc0 := hcell 0 (by omega)
    have hsp := World.cell?_spot hc0
    have hbl := World.block_lt_of_cell? w _ hc0
    have e0 : a.add 0 = a := rfl
    rw [e0] at hsp hbl
    obtain ⟨b, off, sp⟩ := a
    simp only at hsp
    subst hsp
    refine ⟨b, off, rfl, hbl, fun i j hi hj => ?_⟩
    obtain rfl : j = 0 := by omega
    have := hcell i (by omega)
    have e1 : (zs.take n).getD i 0 = zs.getD i 0 := by
      rw [List.getD_eq_getElem?_getD, List.getD_eq_getElem?_getD, List.getElem?_take_of_lt hi]
    show w.cell? ⟨b, off + i * 1 + 0, none⟩ = some (.int k ((zs.take n).getD i 0))
    rw [e1, Nat.mul_one, Nat.add_zero, ← this]
    unfold Addr.add
    split
    · rename_i hz0
      subst hz0
      rfl
    · rfl
/-- A slice of bytes. -/
theorem open_code {t e : TypeId} {A : Option Addr} {n cap : Nat} {d : DataW H} {p : List MemPlace} (ht : P.underlying t = some (.slice e)) (he : P.underlying e = some (.int .u8)) (hC : P.cellsOf e = 1)
    (h : DataW.Trod enc P w base spare held t (.slice A n cap) d p) : ∃ xs : List Int, Code w A n cap xs := by
  obtain ⟨xs, hl, hm, hw, hr⟩ := open_nums ht he hC h
  have hcap : n ≤ cap ∧ cap ≤ maxLen := by
    obtain ⟨fuel, hf⟩ := h
    rcases open_ints ht he hC hf with ⟨hcs, _⟩ | ⟨a, l, c, zs, hcs, _, hl', hm', _⟩
    · simp [Value.cells] at hcs
      obtain ⟨rfl, rfl, rfl⟩ := hcs
      exact ⟨Nat.le_refl _, Nat.zero_le _⟩
    · simp [Value.cells] at hcs
      obtain ⟨rfl, rfl, rfl⟩ := hcs
      exact ⟨hl', hm'⟩
  refine ⟨xs, hm, hcap.1, hcap.2, fun x hx => ?_, hr⟩
  have := hw x hx
  simp [Lit.wf, IntKind.min, IntKind.max, IntKind.signed, IntKind.bits] at this
  omega
end
/-- What an int that came in may be. -/
theorem i64_bounds {a : Int} (h : (Lit.int .i64 a).wf = true) : -9223372036854775808 ≤ a ∧ a ≤ 9223372036854775807 := by
  simp [Lit.wf, IntKind.min, IntKind.max, IntKind.signed, IntKind.bits] at h
  omega
end Go.Proofs.Ytkmipgekmbngcaa
