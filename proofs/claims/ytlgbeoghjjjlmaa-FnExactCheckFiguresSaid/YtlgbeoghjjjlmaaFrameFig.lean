/- A slice of figures that came in reads as a list of figures. -/
import Derived.Test.YtlgbeoghjjjlmaaFrame
import Derived.Test.YtlgbeoghjjjlmaaFigS
namespace Go.Proofs.Ytlgbeoghjjjlmaa
open Go.ChangeShapes Go.WideShapes Go.ChangeAt Go.RowKit Go.Joins Go.Deep

section
variable {H : Type} {enc : TypeId × Value → H} {w : World} {spare : Nat → Bool} {held : Bool}
theorem open_figures {A : Option Addr} {n cap : Nat} {d : DataW H} {p : List MemPlace} (h : DataW.Trod enc Try.prog w 0 spare held 43 (.slice A n cap) d p) :
    ∃ xs : List Fg, xs.length = n ∧ n ≤ maxLen ∧ Row w w.heap.size 2 A n (fgc xs) := by
  obtain ⟨fuel, hf⟩ := h
  obtain ⟨hn, g, hr⟩ := open_rowsN (sz := 2) Try.underlying43 Try.underlying70 rfl (by omega) (by kernel_rfl) (by kernel_rfl) Try.underlying3 (by intro j f hj; match j, hj with | 0, hj => (cases hj; rfl) | 1, hj => (cases hj; rfl) | _ + 2, hj => cases hj) hf
  refine ⟨(List.range n).map fun i => ⟨g i 0, g i 1⟩, by simp, hn, hr.congr fun i j hi hj => ?_⟩
  have e : ((List.range n).map fun i => (⟨g i 0, g i 1⟩ : Fg)).getD i default = ⟨g i 0, g i 1⟩ := by
    rw [List.getD_eq_getElem?_getD, List.getElem?_map, List.getElem?_range hi]; rfl
  simp only [fgc, e]
  match j, hj with
  | 0, _ => rfl
  | 1, _ => rfl
end
end Go.Proofs.Ytlgbeoghjjjlmaa
