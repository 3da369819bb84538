/- A row of the call's own, cell by cell: what it holds is told by a function of the element's place and the cell's. No condition. -/
import Derived.Test.YtbkhimdebpllcaaAppend
namespace Go.Proofs.Ytbkhimdebpllcaa
open Go.RowKit

/-- The slice value .slice A n c is nil or starts at the head of a row of the call's own; cell q of element i holds f i q. -/
def OwnP (w : World) (base : Nat) (t : TypeId) (sz : Nat) (A : Option Addr) (n c : Nat) (f : Nat → Nat → Value) : Prop :=
  ∃ L : List Value, w.ownsRow base t sz (.slice A n c) n L ∧ ∀ i q, i < n → q < sz → L[i * sz + q]? = some (f i q)
section
variable {w w' : World} {base sz n c g : Nat} {t : TypeId} {A : Option Addr} {f : Nat → Nat → Value}
theorem OwnP.row (h : OwnP w base t sz A n c f) : Row w w.heap.size sz A n f := by
  obtain ⟨L, h1, h2⟩ := h
  exact Row.owned h1 h2
theorem OwnP.kept {row : Option Nat} (h : OwnP w base t sz A n c f) (hg : w.grownBy w' row) (hne : Value.ownBlock (.slice A n c) = none ∨ Value.ownBlock (.slice A n c) ≠ row) : OwnP w' base t sz A n c f := by
  obtain ⟨L, h1, h2⟩ := h
  exact ⟨L, h1.kept hg hne, h2⟩
theorem OwnP.then_ (h : OwnP w base t sz A n c f) (hb : Below w.heap.size w w') : OwnP w' base t sz A n c f :=
  h.kept (row := none) ⟨hb.os, hb.tape, hb.output, hb.size, fun k hk _ => hb.block k hk⟩ (by cases hv : Value.ownBlock (.slice A n c) <;> simp)
theorem OwnP.drew (h : OwnP w base t sz A n c f) : OwnP w.drew base t sz A n c f := h
theorem OwnP.drewN (h : OwnP w base t sz A n c f) (k : Nat) : OwnP (w.drewN k) base t sz A n c f := h
theorem OwnP.alloc (h : OwnP w base t sz A n c f) (o : Obj) : OwnP (w.alloc o) base t sz A n c f := by
  obtain ⟨L, h1, h2⟩ := h
  exact ⟨L, h1.alloc o, h2⟩
theorem OwnP.apart {B : Option Addr} {m d : Nat} (h : OwnP w base t sz A n c f) (hg : w.grownBy w' (Value.ownBlock (.slice B m d))) (hb : ∀ x, A = some x → ∀ y, B = some y → x.block ≠ y.block) : OwnP w' base t sz A n c f := by
  refine h.kept hg ?_
  cases A with
  | none => exact .inl rfl
  | some x =>
    cases B with
    | none => exact .inr (by simp [Value.ownBlock])
    | some y => exact .inr (by have := hb x rfl y rfl; simpa [Value.ownBlock] using this)
theorem OwnP.far (h : OwnP w base t sz A n c f) {p : Addr} (hp : ∀ x, A = some x → x.block ≠ p.block) (u : Value) : OwnP (w.setCell p u) base t sz A n c f := by
  refine h.kept (row := some p.block) ⟨rfl, rfl, rfl, by simp [World.setCell], fun k _ hne => Below.heap_setCell w p u k (fun e => hne (by rw [e]))⟩ ?_
  cases A with
  | none => exact .inl rfl
  | some x => exact .inr (by have := hp x rfl; simpa [Value.ownBlock] using this)
theorem OwnP.congr (h : OwnP w base t sz A n c f) {f' : Nat → Nat → Value} (e : ∀ i q, i < n → q < sz → f i q = f' i q) : OwnP w base t sz A n c f' := by
  obtain ⟨L, h1, h2⟩ := h
  exact ⟨L, h1, fun i q hi hq => (h2 i q hi hq).trans (by rw [e i q hi hq])⟩
theorem OwnP.cap (h : OwnP w base t sz A n c f) : n ≤ c ∧ c ≤ maxLen := by
  obtain ⟨L, h1, h2⟩ := h
  rcases h1.2 with ⟨hv, h0⟩ | ⟨g, cap, cur, hv, _, _, hnc, hcm, _⟩
  · cases hv; exact ⟨Nat.le_refl _, Nat.zero_le _⟩
  · cases hv; exact ⟨hnc, hcm⟩
theorem OwnP.form (h : OwnP w base t sz A n c f) : (A = none ∧ n = 0 ∧ c = 0) ∨ ∃ g, A = some ⟨g, 0, none⟩ ∧ base ≤ g ∧ g < w.heap.size := by
  obtain ⟨L, h1, h2⟩ := h
  rcases h1.2 with ⟨hv, h0⟩ | ⟨g, cap, cur, hv, hb, hg, _⟩
  · cases hv; exact .inl ⟨rfl, rfl, rfl⟩
  · cases hv; exact .inr ⟨g, rfl, hb, (Array.getElem?_eq_some_iff.1 hg).1⟩
theorem OwnP.block (h : OwnP w base t sz A n c f) : ∀ k, Value.ownBlock (.slice A n c) = some k → base ≤ k ∧ k < w.heap.size := by
  obtain ⟨L, h1, h2⟩ := h
  exact h1.lt
theorem OwnP.blk (h : OwnP w base t sz A n c f) : ∀ x, A = some x → base ≤ x.block ∧ x.block < w.heap.size := by
  intro x hx
  subst hx
  exact h.block x.block rfl
theorem OwnP.lt (h : OwnP w base t sz (some ⟨g, 0, none⟩) n c f) : g < w.heap.size := (h.block g rfl).2
theorem OwnP.cell (h : OwnP w base t sz (some ⟨g, 0, none⟩) n c f) {i q : Nat} (hi : i < n) (hq : q < sz) : w.cell? ⟨g, i * sz + q, none⟩ = some (f i q) := by
  obtain ⟨L, h1, h2⟩ := h
  have hlt : i * sz + q < n * sz := by
    have : (i + 1) * sz ≤ n * sz := Nat.mul_le_mul_right _ hi
    rw [Nat.add_mul] at this
    omega
  rw [World.ownsRow.cellAt h1 _ hlt, h2 i q hi hq]
theorem OwnP.cell1 (h : OwnP w base t 1 (some ⟨g, 0, none⟩) n c f) {i : Nat} (hi : i < n) : w.cell? ⟨g, i, none⟩ = some (f i 0) := by
  have := h.cell hi (q := 0) (by omega)
  rwa [Nat.mul_one, Nat.add_zero] at this
theorem OwnP.frozen (h : OwnP w base t sz (some ⟨g, 0, none⟩) n c f) (k : Nat) : w.frozen? ⟨g, k, none⟩ = false := by
  obtain ⟨L, h1, h2⟩ := h
  exact World.ownsRow.frozenAt h1 k
theorem OwnP.set_ (h : OwnP w base t sz (some ⟨g, 0, none⟩) n c f) {i q : Nat} (hi : i < n) (hq : q < sz) (u : Value) :
    OwnP (w.setCell ⟨g, i * sz + q, none⟩ u) base t sz (some ⟨g, 0, none⟩) n c (fun i' q' => if i' = i ∧ q' = q then u else f i' q') := by
  obtain ⟨L, h1, h2⟩ := h
  have hlt : i * sz + q < L.length := by
    rw [h1.1]
    have : (i + 1) * sz ≤ n * sz := Nat.mul_le_mul_right _ hi
    rw [Nat.add_mul] at this
    omega
  refine ⟨L.set (i * sz + q) u, (World.ownsRow.stored h1 (i * sz + q) u).1, fun i' q' hi' hq' => ?_⟩
  rw [List.getElem?_set]
  by_cases e : i' = i ∧ q' = q
  · obtain ⟨rfl, rfl⟩ := e
    simp [hlt]
  · rw [if_neg (fun he => e (pos_inj hq' hq he.symm))]
    show _ = some (if _ then _ else _)
    rw [if_neg e]
    exact h2 i' q' hi' hq'
theorem OwnP.set_at (h : OwnP w base t sz (some ⟨g, 0, none⟩) n c f) {i q o : Nat} (hi : i < n) (hq : q < sz) (ho : o = i * sz + q) (u : Value) :
    OwnP (w.setCell ⟨g, o, none⟩ u) base t sz (some ⟨g, 0, none⟩) n c (fun i' q' => if i' = i ∧ q' = q then u else f i' q') := by subst ho; exact h.set_ hi hq u
theorem OwnP.set0 (h : OwnP w base t sz (some ⟨g, 0, none⟩) n c f) {i : Nat} (hi : i < n) (hq : 0 < sz) (u : Value) :
    OwnP (w.setCell ⟨g, i * sz, none⟩ u) base t sz (some ⟨g, 0, none⟩) n c (fun i' q' => if i' = i ∧ q' = 0 then u else f i' q') := h.set_ hi hq u
theorem OwnP.set1 (h : OwnP w base t 1 (some ⟨g, 0, none⟩) n c f) {i : Nat} (hi : i < n) (u : Value) :
    OwnP (w.setCell ⟨g, i, none⟩ u) base t 1 (some ⟨g, 0, none⟩) n c (fun i' q' => if i' = i ∧ q' = 0 then u else f i' q') := by
  have := h.set0 hi (by omega) u
  rwa [Nat.mul_one] at this
theorem OwnP.mono {base' : Nat} (h : OwnP w base t sz A n c f) (hb : base' ≤ base) : OwnP w base' t sz A n c f := by
  obtain ⟨L, h1, h2⟩ := h
  exact ⟨L, ⟨h1.1, h1.2.imp id fun ⟨g, cap, cur, k1, k2, k3⟩ => ⟨g, cap, cur, k1, by omega, k3⟩⟩, h2⟩
theorem OwnP.of_list {L : List Value} (h : w.ownsRow base t sz (.slice A n c) n L) (hf : ∀ i q, i < n → q < sz → L[i * sz + q]? = some (f i q)) : OwnP w base t sz A n c f := ⟨L, h, hf⟩
theorem OwnP.made (w : World) (t : TypeId) (z : Array Value) (n : Nat) (_hz : 0 < z.size) (hn : n ≤ maxLen) : OwnP (w.alloc (.cells (madeCells z (n * z.size)) t)) w.heap.size t z.size (some ⟨w.heap.size, 0, none⟩) n n (fun _ q => z[q]!) := by
  refine ⟨(madeCells z (n * z.size)).toList, ⟨by simp [madeCells], .inr ⟨w.heap.size, n, _, rfl, Nat.le_refl _, heap_alloc_new w _, Nat.le_refl _, hn, by simp [madeCells], by rw [List.take_of_length_le]; simp [madeCells]⟩⟩, fun i q hi hq => ?_⟩
  have hlt : i * z.size + q < n * z.size := by
    have : (i + 1) * z.size ≤ n * z.size := Nat.mul_le_mul_right _ hi
    rw [Nat.add_mul] at this
    omega
  simp only [madeCells, Array.getElem?_toList]
  rw [Array.getElem?_map, Array.getElem?_range, if_pos hlt]
  simp only [Option.map_some]
  rw [Nat.mul_comm, Nat.mul_add_mod, Nat.mod_eq_of_lt hq]
end
end Go.Proofs.Ytbkhimdebpllcaa
