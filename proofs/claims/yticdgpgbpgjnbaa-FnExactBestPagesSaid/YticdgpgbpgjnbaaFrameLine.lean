/- A slice of lines that came in reads as a list of lines. -/
import Derived.Test.YticdgpgbpgjnbaaFrame
import Derived.Test.YticdgpgbpgjnbaaLineS
namespace Go.Proofs.Yticdgpgbpgjnbaa
open Go.ChangeShapes Go.WideShapes Go.ChangeAt Go.RowKit Go.Joins Go.Deep

section
variable {H : Type} {enc : TypeId × Value → H} {w : World} {spare : Nat → Bool} {held : Bool}
theorem open_lines {A : Option Addr} {n cap : Nat} {d : DataW H} {p : List MemPlace} (h : DataW.Trod enc Try.prog w 0 spare held 22 (.slice A n cap) d p) :
    ∃ xs : List Ln, xs.length = n ∧ n ≤ maxLen ∧ Row w w.heap.size 3 A n (lnc xs) := by
  obtain ⟨fuel, hf⟩ := h
  obtain ⟨hn, g, hr⟩ := open_rowsN (sz := 3) Try.underlying22 Try.underlying56 rfl (by omega) (by kernel_rfl) (by kernel_rfl) Try.underlying3 (by intro j f hj; match j, hj with | 0, hj => (cases hj; rfl) | 1, hj => (cases hj; rfl) | 2, hj => (cases hj; rfl) | _ + 3, hj => cases hj) hf
  refine ⟨(List.range n).map fun i => ⟨g i 0, g i 1, g i 2⟩, by simp, hn, hr.congr fun i j hi hj => ?_⟩
  have e : ((List.range n).map fun i => (⟨g i 0, g i 1, g i 2⟩ : Ln)).getD i default = ⟨g i 0, g i 1, g i 2⟩ := by
    rw [List.getD_eq_getElem?_getD, List.getElem?_map, List.getElem?_range hi]; rfl
  simp only [lnc, e]
  match j, hj with
  | 0, _ => rfl
  | 1, _ => rfl
  | 2, _ => rfl
end
end Go.Proofs.Yticdgpgbpgjnbaa
