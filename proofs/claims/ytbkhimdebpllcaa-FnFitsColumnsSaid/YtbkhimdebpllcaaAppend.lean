/- append of one element to a slice that the call itself has made, in one form; what such a slice reads as. No condition beyond the sizes. -/
import Derived.Test.YtbkhimdebpllcaaBase
namespace Go.Proofs.Ytbkhimdebpllcaa
open Go.RowKit

/-- append(s, x), s nil or the call's own, x one element: the value is known to be no nil slice. -/
theorem wpList_append_one {P : Program} (w : World) {ops : Array Oper} {rest : List Oper} {o : Oper} {a : Act} {Q : Exit → Act → World → Prop} (hgd : o.guard = none) (s x : Operand) (t : TypeId)
    (ho : o.op = .call { callee := .builtin .append, args := #[s, x], argTypes := #[t, t] })
    (base : Nat) (e : TypeId) (i : TypeInfo) (z : Value) (size bytes : Nat) (ht : P.underlying t = some (.slice e)) (hi : P.info? e = some i) (hz : i.zero = some z)
    (hsize : i.size = size) (hby : i.bytes = bytes) (hzs : z.cells.size = size) (hsz : 0 < size)
    (A : Option Addr) (n c : Nat) (xs : List Value) (hs : a.eval s = .slice A n c) (hown : w.ownsRow base e size (.slice A n c) n xs)
    (gn : Nat) (news : List Value) (hx : a.eval x = .slice (some ⟨gn, 0, none⟩) 1 1) (hl : news.length = size) (hb : Blk w gn e news.toArray) (h1 : ∀ u ∈ news, u.oneCell' = true)
    (hn : n ≤ 1048576) (hbytes : bytes ≤ 1000) (hbase : base ≤ w.heap.size)
    (h : ∀ g c' w', w'.ownsRow base e size (.slice (some ⟨g, 0, none⟩) (n + 1) c') (n + 1) (xs ++ news) → w.grownBy w' (Value.ownBlock (.slice A n c)) → wpList P ops Q rest (a.put o.dst (.slice (some ⟨g, 0, none⟩) (n + 1) c')) w') : wpList P ops Q (o :: rest) a w := by
  refine wpList_append_own w hgd s x t ho base e i z size bytes ht hi hz hsize hby hzs hsz _ n xs hs hown ⟨gn, 0, none⟩ 1 1 news hx (by omega) (fun j u hj => ?_) h1 (by unfold maxLen; omega) ?_ hbase fun v' w' hown' hg' _ => ?_
  · have e1 : (⟨gn, 0, none⟩ : Addr).add j = ⟨gn, j, none⟩ := by unfold Addr.add; split <;> simp_all
    rw [e1, hb.cell j]
    simpa using hj
  · have : (n + 1) * bytes ≤ 1048577 * 1000 := Nat.mul_le_mul (by omega) hbytes
    omega
  · rcases hown'.2 with ⟨_, h0⟩ | ⟨g, cap, cur, rfl, _⟩
    · omega
    · exact h g cap w' hown' hg'

theorem owns_nil (w : World) (base : Nat) (e : TypeId) (size c : Nat) (g : Nat) (cs : Array Value) (h : Blk w g e cs) (hg : base ≤ g) (hc : c ≤ maxLen) (hs : cs.size = c * size) : w.ownsRow base e size (.slice (some ⟨g, 0, none⟩) 0 c) 0 [] :=
  ⟨by simp, .inr ⟨g, c, cs, rfl, hg, h, Nat.zero_le _, hc, hs, by simp⟩⟩

theorem own_cap {w : World} {base sz n : Nat} {e : TypeId} {g c : Nat} {xs : List Value} (h : w.ownsRow base e sz (.slice (some ⟨g, 0, none⟩) n c) n xs) : n ≤ c ∧ c ≤ maxLen ∧ ∃ g', (some ⟨g, 0, none⟩ : Option Addr) = some ⟨g', 0, none⟩ := by
  rcases h.2 with ⟨hv, _⟩ | ⟨g', cap, cur, hv, _, _, hnc, hcm, _⟩
  · cases hv
  · cases hv; exact ⟨hnc, hcm, g, rfl⟩
/-- What the call owns reads as its cells. -/
theorem Row.owned {w : World} {base sz n : Nat} {e : TypeId} {A : Option Addr} {c : Nat} {xs : List Value} (h : w.ownsRow base e sz (.slice A n c) n xs) {f : Nat → Nat → Value} (hf : ∀ i q, i < n → q < sz → xs[i * sz + q]? = some (f i q)) :
    Row w w.heap.size sz A n f := fun hn => by
  rcases h.2 with ⟨_, h0⟩ | ⟨g, cap, cur, hv, _, hh, _, _, _, ht⟩
  · omega
  · injection hv with hA _ _
    subst hA
    refine ⟨g, 0, rfl, (Array.getElem?_eq_some_iff.1 hh).1, fun i q hi hq => ?_⟩
    have hlt : i * sz + q < n * sz := by
      have : (i + 1) * sz ≤ n * sz := Nat.mul_le_mul_right _ hi
      rw [Nat.add_mul] at this
      omega
    rw [Nat.zero_add, cell_of_row w g _ cur e (0, 0) hh, ← hf i q hi hq, ← ht, List.getElem?_take_of_lt hlt]
    simp

/-- The cells of a list whose elements have sz cells each. -/
theorem flat_at {α : Type} [Inhabited α] (f : α → List Value) (sz : Nat) (hf : ∀ x, (f x).length = sz) (l : List α) : ∀ (i q : Nat), i < l.length → q < sz → (l.flatMap f)[i * sz + q]? = (f (l.getD i default))[q]? := by
  induction l with
  | nil => intro i q hi; simp at hi
  | cons x r ih =>
    intro i q hi hq
    cases i with
    | zero =>
      rw [List.flatMap_cons, Nat.zero_mul, Nat.zero_add, List.getElem?_append_left (by rw [hf]; exact hq)]
      rfl
    | succ i =>
      rw [List.flatMap_cons, List.getElem?_append_right (by rw [hf, Nat.add_mul]; omega), hf]
      have e : (i + 1) * sz + q - sz = i * sz + q := by rw [Nat.add_mul]; omega
      rw [e, ih i q (by simp at hi; omega) hq]
      rfl
theorem flat_len {α : Type} (f : α → List Value) (sz : Nat) (hf : ∀ x, (f x).length = sz) (l : List α) : (l.flatMap f).length = l.length * sz := by
  induction l with
  | nil => simp
  | cons x r ih => rw [List.flatMap_cons, List.length_append, hf, ih, List.length_cons, Nat.add_mul]; omega
theorem flat_snoc {α : Type} (f : α → List Value) (l : List α) (x : α) : (l ++ [x]).flatMap f = l.flatMap f ++ f x := by simp
end Go.Proofs.Ytbkhimdebpllcaa
