/- A slice of items that came in reads as a list of items. -/
import Derived.Test.YtpcjoehdbohaoaaFrameRows
import Derived.Test.YtpcjoehdbohaoaaItemS
namespace Go.Proofs.Ytpcjoehdbohaoaa
open Go.ChangeShapes Go.WideShapes Go.ChangeAt Go.RowKit Go.Joins Go.Deep

section
variable {H : Type} {enc : TypeId × Value → H} {w : World} {spare : Nat → Bool} {held : Bool}
set_option maxRecDepth 100000 in
theorem open_items {A : Option Addr} {n cap : Nat} {d : DataW H} {p : List MemPlace} (h : DataW.Trod enc Try.prog w 0 spare held 22 (.slice A n cap) d p) :
    ∃ xs : List It, xs.length = n ∧ n ≤ maxLen ∧ Row w w.heap.size 6 A n (itc xs) := by
  obtain ⟨fuel, hf⟩ := h
  have k1 : Try.prog.cellsOf 3 = 1 := by kernel_rfl
  have k3 : Try.prog.cellsOf 59 = 3 := by kernel_rfl
  have k4 : Try.prog.cellsOf 4 = 1 := by kernel_rfl
  obtain ⟨hn, xs, hl, _, hr⟩ := open_rowsE (sz := 6) Try.underlying22 (by omega) (by kernel_rfl) itv (fun _ => True) (fun k cs' y hcl ht => by
    obtain ⟨y0, y1, y2, y3, m1, _, _, t0, t1, t2, t3⟩ := trod_struct4 Try.underlying61 ht
    obtain ⟨z0, z1, z2, m2, _, _, u0, u1, u2⟩ := trod_struct3 Try.underlying59 t1
    match cs', hcl with
    | [c0, c1, c2, c3, c4, c5], _ =>
      obtain ⟨x0, e0, _⟩ := DataW.trod_int Try.underlying3 t0
      obtain ⟨x1, e1, _⟩ := DataW.trod_int Try.underlying3 u0
      obtain ⟨x2, e2, _⟩ := DataW.trod_int Try.underlying3 u1
      obtain ⟨x3, e3, _⟩ := DataW.trod_int Try.underlying3 u2
      obtain ⟨x4, e4, _⟩ := DataW.trod_int Try.underlying3 t2
      obtain ⟨x5, e5, _⟩ := DataW.trod_bool Try.underlying4 t3
      refine ⟨⟨x0, x1, x2, x3, x4, x5⟩, trivial, fun j hj => ?_⟩
      have f0 : c0 = .int .i64 x0 := by simpa [k1, k3, k4] using e0
      have f1 : c1 = .int .i64 x1 := by simpa [k1, k3, k4] using e1
      have f2 : c2 = .int .i64 x2 := by simpa [k1, k3, k4] using e2
      have f3 : c3 = .int .i64 x3 := by simpa [k1, k3, k4] using e3
      have f4 : c4 = .int .i64 x4 := by simpa [k1, k3, k4] using e4
      have f5 : c5 = .bool x5 := by simpa [k1, k3, k4] using e5
      subst f0 f1 f2 f3 f4 f5
      match j, hj with
      | 0, _ => rfl
      | 1, _ => rfl
      | 2, _ => rfl
      | 3, _ => rfl
      | 4, _ => rfl
      | 5, _ => rfl) hf
  exact ⟨xs, hl, hn, hr⟩
end
end Go.Proofs.Ytpcjoehdbohaoaa
