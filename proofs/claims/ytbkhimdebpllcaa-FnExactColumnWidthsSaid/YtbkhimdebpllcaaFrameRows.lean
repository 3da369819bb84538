/- Opening a slice of elements of whatever shape: the elements one by one. What stands here speaks of values and cells alone. No condition. -/
import Derived.Test.YtbkhimdebpllcaaFrame
namespace Go.Proofs.Ytbkhimdebpllcaa
open Go.ChangeShapes Go.WideShapes Go.ChangeAt Go.RowKit Go.Joins Go.Deep

section
variable {H : Type} {enc : TypeId × Value → H} {P : Program} {w : World} {base : Nat} {spare : Nat → Bool} {held : Bool}
theorem open_rowsE {α : Type} [Inhabited α] {t e : TypeId} {fuel : Nat} {A : Option Addr} {n cap sz : Nat} {x : DataW H × List MemPlace} (ht : P.underlying t = some (.slice e))
    (h0 : 0 < sz) (hC : P.cellsOf e = sz) (g : α → Nat → Value) (Q : α → Prop)
    (hE : ∀ k cs' y, cs'.length = sz → DataW.trod enc P w base spare held k e cs' = some y → ∃ x : α, Q x ∧ ∀ j, j < sz → cs'[j]? = some (g x j))
    (h : DataW.trod enc P w base spare held fuel t [.slice A n cap] = some x) :
    n ≤ maxLen ∧ ∃ xs : List α, xs.length = n ∧ (∀ i, i < n → Q (xs.getD i default)) ∧ Row w w.heap.size sz A n (fun i j => g (xs.getD i default) j) := by
  rcases open_slice ht h with ⟨hcs, _⟩ | ⟨a, len, cap', m, fl, D, Pl, hcs, hb, hl, hm, hmm, hx, hel⟩
  · simp only [List.cons.injEq, Value.slice.injEq, and_true] at hcs
    obtain ⟨rfl, rfl, rfl⟩ := hcs
    exact ⟨Nat.zero_le _, [], rfl, fun i hi => absurd hi (Nat.not_lt_zero _), Row.nil⟩
  simp only [List.cons.injEq, Value.slice.injEq, and_true] at hcs
  obtain ⟨rfl, rfl, rfl⟩ := hcs
  have hnm : n ≤ m := by rw [hmm]; split <;> omega
  refine ⟨by omega, ?_⟩
  obtain ⟨xs, hlen, hxs⟩ := list_of n (fun i (x : α) => Q x ∧ ∀ j, j < sz → w.cell? (a.add (i * sz + j)) = some (g x j)) (fun i hi => by
    obtain ⟨cs', hc, ht'⟩ := hel i (by omega)
    rw [hC] at hc
    obtain ⟨_, hcl, hat⟩ := World.cells?_some hc
    obtain ⟨x, hq, hx⟩ := hE _ cs' _ hcl ht'
    refine ⟨x, hq, fun j hj => ?_⟩
    rw [← Go.Deep.add_add, hat j hj, hx j hj])
  refine ⟨xs, hlen, fun i hi => (hxs i hi).1, fun hn => ?_⟩
  have h00 := (hxs 0 hn).2 0 h0
  have hsp := World.cell?_spot h00
  have hbl := World.block_lt_of_cell? w _ h00
  rw [Nat.zero_mul, Nat.zero_add] at hsp hbl
  have e0 : a.add 0 = a := rfl
  rw [e0] at hsp hbl
  obtain ⟨b, off, sp⟩ := a
  simp only at hsp
  subst hsp
  refine ⟨b, off, rfl, hbl, fun i j hi hj => ?_⟩
  have := (hxs i hi).2 j hj
  unfold Addr.add at this
  split at this
  · rename_i hz
    show w.cell? ⟨b, off + i * sz + j, none⟩ = _
    rw [Nat.add_assoc, hz]
    exact this
  · show w.cell? ⟨b, off + i * sz + j, none⟩ = _
    rw [Nat.add_assoc]
    exact this
end
end Go.Proofs.Ytbkhimdebpllcaa
