/- Items of a paragraph: the plain type, copies, comparisons and marks of slices of items. Conditions: the slice reads as the list; at most 2^20 items where a row is made. -/
import Derived.Test.YtpcjoehdbohaoaaLists
import Derived.Test.YtpcjoehdbohaoaaOwnP
import Derived.Deep.RegionHeld3
namespace Go.Proofs.Ytpcjoehdbohaoaa
open Go.RowKit

structure It where
  k : Int
  w : Int
  st : Int
  sh : Int
  pen : Int
  fl : Bool
deriving Inhabited
/-- The cells of an item. -/
def itv (x : It) (j : Nat) : Value := match j with
  | 0 => .int .i64 x.k
  | 1 => .int .i64 x.w
  | 2 => .int .i64 x.st
  | 3 => .int .i64 x.sh
  | 4 => .int .i64 x.pen
  | _ => .bool x.fl
/-- The cells of a list of items. -/
def itc (xs : List It) (i j : Nat) : Value := itv (xs.getD i default) j

theorem toGlue_any (a b c : Int) (w : World) :
    Calls Try.prog 61 #[.agg #[.int .i64 a, .int .i64 b, .int .i64 c]] w fun e w' => e = .returned (.agg #[.int .i64 a, .int .i64 b, .int .i64 c]) ∧ Below w.heap.size w w' := by
  go_enter Try.func61, Try.ntmps61
  go_wp2
  go_returns
  exact ⟨rfl, by (repeat' (first | (with_reducible exact Below.refl _ _) | (with_reducible assumption) | (with_reducible refine Below.alloc ?_ ?_ _) | (with_reducible refine Below.drew ?_) | (with_reducible refine below_drewN ?_ _) | (with_reducible refine Below.setCell ?_ ?_ _) | (with_reducible refine below_then ?_ ?_ (by with_reducible assumption)) | (with_reducible exact Nat.le_refl _) | go_size | (simp only [*]; done)))⟩
theorem eqGlue_same (a b c : Int) (w : World) :
    Calls Try.prog 66 #[.agg #[.int .i64 a, .int .i64 b, .int .i64 c], .agg #[.int .i64 a, .int .i64 b, .int .i64 c]] w fun e w' => e = .returned (.bool true) ∧ Below w.heap.size w w' := by
  go_enter Try.func66, Try.ntmps66
  go_wp2
  go_returns
  exact ⟨rfl, by (repeat' (first | (with_reducible exact Below.refl _ _) | (with_reducible assumption) | (with_reducible refine Below.alloc ?_ ?_ _) | (with_reducible refine Below.drew ?_) | (with_reducible refine below_drewN ?_ _) | (with_reducible refine Below.setCell ?_ ?_ _) | (with_reducible refine below_then ?_ ?_ (by with_reducible assumption)) | (with_reducible exact Nat.le_refl _) | go_size | (simp only [*]; done)))⟩
theorem item_info : (Try.prog.info? 41).map (fun i => (i.zero, i.size, i.bytes)) = some (some (.agg #[.int .i64 0, .int .i64 0, .int .i64 0, .int .i64 0, .int .i64 0, .bool false]), 6, 48) := by kernel_rfl
set_option maxHeartbeats 400000 in
theorem toItem_any (k a b c p : Int) (f : Bool) (w : World) :
    Calls Try.prog 39 #[.agg #[.int .i64 k, .int .i64 a, .int .i64 b, .int .i64 c, .int .i64 p, .bool f]] w fun e w' => e = .returned (.agg #[.int .i64 k, .int .i64 a, .int .i64 b, .int .i64 c, .int .i64 p, .bool f]) ∧ Below w.heap.size w w' := by
  have B1 := Lib.hid (Blk.new w 61 #[.int .i64 k, .int .i64 a, .int .i64 b, .int .i64 c, .int .i64 p, .bool f])
  go_enter Try.func39, Try.ntmps39
  go_wp2_with go_in
  go_returns
  exact ⟨rfl, by (repeat' (first | (with_reducible exact Below.refl _ _) | (with_reducible assumption) | (with_reducible refine Below.alloc ?_ ?_ _) | (with_reducible refine Below.drew ?_) | (with_reducible refine below_drewN ?_ _) | (with_reducible refine Below.setCell ?_ ?_ _) | (with_reducible refine below_then ?_ ?_ (by with_reducible assumption)) | (with_reducible exact Nat.le_refl _) | go_size | (simp only [*]; done)))⟩
theorem eqItem_same (k a b c p : Int) (f : Bool) (w : World) :
    Calls Try.prog 42 #[.agg #[.int .i64 k, .int .i64 a, .int .i64 b, .int .i64 c, .int .i64 p, .bool f], .agg #[.int .i64 k, .int .i64 a, .int .i64 b, .int .i64 c, .int .i64 p, .bool f]] w fun e w' => e = .returned (.bool true) ∧ Below w.heap.size w w' := by
  go_enter Try.func42, Try.ntmps42
  go_wp2_with fail
  ((with_reducible refine (eqGlue_same _ _ _ _).mono ?_); rintro e w1 ⟨rfl, hb1⟩)
  have hz1 := hb1.size
  simp at hz1
  have g1 := ((Blk.new w 41 #[.int .i64 k, .int .i64 a, .int .i64 b, .int .i64 c, .int .i64 p, .bool f]).alloc (.cells #[.int .i64 k, .int .i64 a, .int .i64 b, .int .i64 c, .int .i64 p, .bool f] 41)).then_ hb1
  have g2 := (Blk.new_at (w.alloc (.cells #[.int .i64 k, .int .i64 a, .int .i64 b, .int .i64 c, .int .i64 p, .bool f] 41)) 41 #[.int .i64 k, .int .i64 a, .int .i64 b, .int .i64 c, .int .i64 p, .bool f] (w.heap.size + 1) (by simp)).then_ hb1
  have plt := g1.lt
  have pc0 := g1.cell 0; have pf0 := g1.frozen 0
  have pc1 := g1.cell 1; have pf1 := g1.frozen 1
  have pc2 := g1.cell 2; have pf2 := g1.frozen 2
  have pc3 := g1.cell 3; have pf3 := g1.frozen 3
  have pc4 := g1.cell 4; have pf4 := g1.frozen 4
  have pc5 := g1.cell 5; have pf5 := g1.frozen 5
  simp only [List.getElem?_toArray, List.getElem?_cons_zero, List.getElem?_cons_succ] at pc0 pc1 pc2 pc3 pc4 pc5
  have qlt := g2.lt
  have qc0 := g2.cell 0; have qf0 := g2.frozen 0
  have qc1 := g2.cell 1; have qf1 := g2.frozen 1
  have qc2 := g2.cell 2; have qf2 := g2.frozen 2
  have qc3 := g2.cell 3; have qf3 := g2.frozen 3
  have qc4 := g2.cell 4; have qf4 := g2.frozen 4
  have qc5 := g2.cell 5; have qf5 := g2.frozen 5
  simp only [List.getElem?_toArray, List.getElem?_cons_zero, List.getElem?_cons_succ] at qc0 qc1 qc2 qc3 qc4 qc5
  have hbW : Below w.heap.size w w1 := below_then (Nat.le_refl _) (((Below.refl w.heap.size w).alloc (Nat.le_refl _) _).alloc (by simp) _) hb1
  clear g1 g2
  go_wp2
  go_returns
  exact ⟨rfl, hbW⟩
end Go.Proofs.Ytpcjoehdbohaoaa
