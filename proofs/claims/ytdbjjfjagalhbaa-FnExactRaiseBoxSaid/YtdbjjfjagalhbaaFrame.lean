/- Opening the arguments of a law: numbers, rows of numbers, structs, rows of structs. What stands here speaks of values and cells alone. No condition. -/
import Derived.Test.YtdbjjfjagalhbaaBase
import Derived.ProofKit
import Derived.OpenShut
import Derived.ShutString
import Derived.ChangeOld
import Derived.Lib.SmallJoins
import Derived.Deep.Slices
import Derived.Deep.Fields
import Derived.Deep.Strs
namespace Go.Proofs.Ytdbjjfjagalhbaa
open Go.ChangeShapes Go.WideShapes Go.ChangeAt Go.RowKit Go.Joins Go.Deep

section
variable {H : Type} {enc : TypeId × Value → H} {P : Program} {w : World} {base : Nat} {spare : Nat → Bool} {held : Bool}

theorem open_struct3 {r : Reach} {b0 : Nat} {t ti : TypeId} {k : IntKind} {f0 f1 f2 : Field} {v : Value} {d : DataW H} {p : List MemPlace} (hs : P.underlying t = some (.struct #[f0, f1, f2]))
    (h0 : f0.type = ti) (h1 : f1.type = ti ∧ f2.type = ti) (hone : oneCellFields P #[f0, f1, f2] = true) (hC : P.cellsOf t = 3) (hi : P.underlying ti = some (.int k))
    (hv : Value.okWide P w r b0 t v) (h : DataW.Trod enc P w base spare held t v d p) : ∃ x0 x1 x2 : Int, v = .agg #[.int k x0, .int k x1, .int k x2] := by
  obtain ⟨c0, c1, c2, y0, y1, y2, m, rfl, _, _, g0, g1, g2⟩ := open_agg3 hs hone hC hv h
  rw [h0] at g0
  rw [h1.1] at g1
  rw [h1.2] at g2
  obtain ⟨x0, e0, _⟩ := DataW.trod_int hi g0
  obtain ⟨x1, e1, _⟩ := DataW.trod_int hi g1
  obtain ⟨x2, e2, _⟩ := DataW.trod_int hi g2
  simp at e0 e1 e2
  subst e0 e1 e2
  exact ⟨x0, x1, x2, rfl⟩
end
end Go.Proofs.Ytdbjjfjagalhbaa
