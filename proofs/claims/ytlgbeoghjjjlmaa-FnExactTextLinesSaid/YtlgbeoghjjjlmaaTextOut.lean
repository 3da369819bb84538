/- What both functions TextLines leave, in one form. Conditions: the slice reads as the list. -/
import Derived.Test.YtlgbeoghjjjlmaaTextI
import Derived.Test.YtlgbeoghjjjlmaaTextPlain3
namespace Go.Proofs.Ytlgbeoghjjjlmaa
open Go.RowKit

def OwnOut (w : World) (ys : List Ln) (m : Nat) (e : Ending) (w' : World) : Prop := ∃ (A : Option Addr) (d : Nat), e = .returned (.slice A m d) ∧ OwnP w' w.heap.size 36 3 A m d (lnc ys) ∧ Below w.heap.size w w'
theorem out_of {w : World} {ys r : List Ln} {m : Nat} (hr : r = ys) (hm : ys.length = m) {e : Ending} {w' : World} (h : LinesOut w r e w') : OwnOut w ys m e w' := by
  subst hr
  obtain ⟨A, d, h1, h2, h3⟩ := h
  rw [hm] at h1 h2
  exact ⟨A, d, h1, OwnP.of_list h2 (fun i q hi hq => lnl_at i q (by omega) hq), h3⟩

end Go.Proofs.Ytlgbeoghjjjlmaa
