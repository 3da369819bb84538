/- A slice of slices of cells that came in reads as a table. -/
import Derived.Test.YtbkhimdebpllcaaFrameRows
import Derived.Test.YtbkhimdebpllcaaTab
namespace Go.Proofs.Ytbkhimdebpllcaa
open Go.ChangeShapes Go.WideShapes Go.ChangeAt Go.RowKit Go.Joins Go.Deep

section
variable {H : Type} {enc : TypeId × Value → H} {w : World} {spare : Nat → Bool} {held : Bool}
set_option maxRecDepth 100000 in
theorem open_row {fuel : Nat} {A : Option Addr} {n cap : Nat} {x : DataW H × List MemPlace} (h : DataW.trod enc Try.prog w 0 spare held fuel 55 [.slice A n cap] = some x) :
    n ≤ maxLen ∧ ∃ xs : List Cl, xs.length = n ∧ Row w w.heap.size 2 A n (clc xs) := by
  have k1 : Try.prog.cellsOf 3 = 1 := by kernel_rfl
  obtain ⟨hn, xs, hl, _, hr⟩ := open_rowsE (sz := 2) Try.underlying55 (by omega) (by kernel_rfl) (fun (x : Cl) j => match j with | 0 => .int .i64 x.s | _ => .int .i64 x.w) (fun _ => True) (fun k cs' y hcl ht => by
    obtain ⟨y0, y1, m1, _, _, t0, t1⟩ := trod_struct2 Try.underlying70 ht
    match cs', hcl with
    | [c0, c1], _ =>
      obtain ⟨x0, e0, _⟩ := DataW.trod_int Try.underlying3 t0
      obtain ⟨x1, e1, _⟩ := DataW.trod_int Try.underlying3 t1
      refine ⟨⟨x0, x1⟩, trivial, fun j hj => ?_⟩
      have f0 : c0 = .int .i64 x0 := by simpa [k1] using e0
      have f1 : c1 = .int .i64 x1 := by simpa [k1] using e1
      subst f0 f1
      match j, hj with
      | 0, _ => rfl
      | 1, _ => rfl) h
  refine ⟨hn, xs, hl, hr.congr fun i j _ hj => ?_⟩
  match j, hj with
  | 0, _ => rfl
  | 1, _ => rfl
structure SlR where
  A : Option Addr
  c : Nat
  l : List Cl
deriving Inhabited
set_option maxRecDepth 100000 in
theorem open_cells {A : Option Addr} {n cap : Nat} {d : DataW H} {p : List MemPlace} (h : DataW.Trod enc Try.prog w 0 spare held 28 (.slice A n cap) d p) :
    ∃ rs : List (List Cl), rs.length = n ∧ n ≤ maxLen ∧ Tab w w.heap.size A n rs := by
  obtain ⟨fuel, hf⟩ := h
  obtain ⟨hn, xs, hl, hq, hr⟩ := open_rowsE (sz := 1) Try.underlying28 (by omega) (by kernel_rfl) (fun (x : SlR) _ => .slice x.A x.l.length x.c) (fun x => x.l.length ≤ maxLen ∧ Row w w.heap.size 2 x.A x.l.length (clc x.l)) (fun k cs' y hcl ht => by
    have ht' := ht
    rcases open_slice Try.underlying55 ht with ⟨rfl, _⟩ | ⟨a, len, cap', m, fl, D, Pl, rfl, _⟩
    · refine ⟨⟨none, 0, []⟩, ⟨Nat.zero_le _, Row.nil⟩, fun j hj => ?_⟩
      match j, hj with
      | 0, _ => rfl
    · obtain ⟨h1, l, h2, h3⟩ := open_row ht'
      subst h2
      refine ⟨⟨some a, cap', l⟩, ⟨h1, h3⟩, fun j hj => ?_⟩
      match j, hj with
      | 0, _ => rfl) hf
  refine ⟨xs.map SlR.l, by simp [hl], hn, by simp [hl], fun i => (xs.getD i default).A, fun i => (xs.getD i default).c, hr.congr fun i j hi _ => ?_, fun i hi => ?_⟩
  · have e : rl (xs.map SlR.l) i = (xs.getD i default).l := by
      rw [rl, List.getD_eq_getElem?_getD, List.getD_eq_getElem?_getD, List.getElem?_map, List.getElem?_eq_getElem (by omega)]
      rfl
    rw [e]
  · have e : rl (xs.map SlR.l) i = (xs.getD i default).l := by
      rw [rl, List.getD_eq_getElem?_getD, List.getD_eq_getElem?_getD, List.getElem?_map, List.getElem?_eq_getElem (by omega)]
      rfl
    rw [e]
    exact hq i hi
end
end Go.Proofs.Ytbkhimdebpllcaa
