/- What a call leaves that returns numbers of its own. No condition. -/
import Derived.Test.YtpcjoehdbohaoaaInts
namespace Go.Proofs.Ytpcjoehdbohaoaa
open Go.RowKit

/-- What a call leaves that returns numbers of its own. -/
def IntsOut (w : World) (xs : List Int) (e : Ending) (w' : World) : Prop :=
  ∃ (A : Option Addr) (c : Nat), e = .returned (.slice A xs.length c) ∧ OwnI w' w.heap.size A xs.length c xs ∧ Below w.heap.size w w'
theorem ownI_none (w : World) (base : Nat) : OwnI w base none 0 0 [] := ⟨rfl, .inl ⟨rfl, rfl⟩⟩
theorem ownI_c {w : World} {base n c : Nat} {A : Option Addr} {xs : List Int} (h : OwnI w base A n c xs) : c ≤ maxLen := by
  rcases h.2 with ⟨hv, _⟩ | ⟨g', cap, cur, hv, _, _, hnc, hcm, _⟩
  · cases hv; exact Nat.zero_le _
  · cases hv; exact hcm
theorem ints_of {w : World} {ys zs : List Int} (h : zs = ys) {n c : Nat} {A : Option Addr} (hl : ys.length = n) {w' : World} (ho : OwnI w' w.heap.size A n c ys) (hb : Below w.heap.size w w') : IntsOut w zs (.returned (.slice A n c)) w' := by
  subst h
  refine ⟨A, c, by rw [hl], ?_, hb⟩
  rw [hl]
  exact ho
end Go.Proofs.Ytpcjoehdbohaoaa
