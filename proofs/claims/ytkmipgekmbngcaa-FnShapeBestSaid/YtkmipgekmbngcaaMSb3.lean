/- Items of a paragraph: the plain type, copies, comparisons and marks of slices of items. Conditions: the slice reads as the list; at most 2^20 items where a row is made. -/
import Derived.Test.YtkmipgekmbngcaaMSb1
import Derived.Test.YtkmipgekmbngcaaMSb2
import Derived.Deep.RegionHeld3
import Derived.Test.YtkmipgekmbngcaaInts
namespace Go.Proofs.Ytkmipgekmbngcaa
open Go.RowKit

structure It where
  k : Int
  w : Int
  st : Int
  sh : Int
  pen : Int
  fl : Bool
deriving Inhabited
/-- The cells of an item. -/
def itv (x : It) (j : Nat) : Value := match j with
  | 0 => .int .i64 x.k
  | 1 => .int .i64 x.w
  | 2 => .int .i64 x.st
  | 3 => .int .i64 x.sh
  | 4 => .int .i64 x.pen
  | _ => .bool x.fl
/-- The cells of a list of items. -/
def itc (xs : List It) (i j : Nat) : Value := itv (xs.getD i default) j

theorem toGlue_any (a b c : Int) (w : World) :
    Calls Try.prog 87 #[.agg #[.int .i64 a, .int .i64 b, .int .i64 c]] w fun e w' => e = .returned (.agg #[.int .i64 a, .int .i64 b, .int .i64 c]) ∧ Below w.heap.size w w' := by
  go_enter Try.func87, Try.ntmps87
  go_wp2
  go_returns
  exact ⟨rfl, by (repeat' (first | (with_reducible exact Below.refl _ _) | (with_reducible assumption) | (with_reducible refine Below.alloc ?_ ?_ _) | (with_reducible refine Below.drew ?_) | (with_reducible refine below_drewN ?_ _) | (with_reducible refine Below.setCell ?_ ?_ _) | (with_reducible refine below_then ?_ ?_ (by with_reducible assumption)) | (with_reducible exact Nat.le_refl _) | go_size | (simp only [*]; done)))⟩
theorem eqGlue_same (a b c : Int) (w : World) :
    Calls Try.prog 88 #[.agg #[.int .i64 a, .int .i64 b, .int .i64 c], .agg #[.int .i64 a, .int .i64 b, .int .i64 c]] w fun e w' => e = .returned (.bool true) ∧ Below w.heap.size w w' := by
  go_enter Try.func88, Try.ntmps88
  go_wp2
  go_returns
  exact ⟨rfl, by (repeat' (first | (with_reducible exact Below.refl _ _) | (with_reducible assumption) | (with_reducible refine Below.alloc ?_ ?_ _) | (with_reducible refine Below.drew ?_) | (with_reducible refine below_drewN ?_ _) | (with_reducible refine Below.setCell ?_ ?_ _) | (with_reducible refine below_then ?_ ?_ (by with_reducible assumption)) | (with_reducible exact Nat.le_refl _) | go_size | (simp only [*]; done)))⟩
theorem item_info : (Try.prog.info? 78).map (fun i => (i.zero, i.size, i.bytes)) = some (some (.agg #[.int .i64 0, .int .i64 0, .int .i64 0, .int .i64 0, .int .i64 0, .bool false]), 6, 48) := by kernel_rfl
set_option maxHeartbeats 400000 in
theorem toItem_any (k a b c p : Int) (f : Bool) (w : World) :
    Calls Try.prog 66 #[.agg #[.int .i64 k, .int .i64 a, .int .i64 b, .int .i64 c, .int .i64 p, .bool f]] w fun e w' => e = .returned (.agg #[.int .i64 k, .int .i64 a, .int .i64 b, .int .i64 c, .int .i64 p, .bool f]) ∧ Below w.heap.size w w' := by
  have B1 := Lib.hid (Blk.new w 82 #[.int .i64 k, .int .i64 a, .int .i64 b, .int .i64 c, .int .i64 p, .bool f])
  go_enter Try.func66, Try.ntmps66
  go_wp2_with go_in
  go_returns
  exact ⟨rfl, by (repeat' (first | (with_reducible exact Below.refl _ _) | (with_reducible assumption) | (with_reducible refine Below.alloc ?_ ?_ _) | (with_reducible refine Below.drew ?_) | (with_reducible refine below_drewN ?_ _) | (with_reducible refine Below.setCell ?_ ?_ _) | (with_reducible refine below_then ?_ ?_ (by with_reducible assumption)) | (with_reducible exact Nat.le_refl _) | go_size | (simp only [*]; done)))⟩
theorem eqItem_same (k a b c p : Int) (f : Bool) (w : World) :
    Calls Try.prog 67 #[.agg #[.int .i64 k, .int .i64 a, .int .i64 b, .int .i64 c, .int .i64 p, .bool f], .agg #[.int .i64 k, .int .i64 a, .int .i64 b, .int .i64 c, .int .i64 p, .bool f]] w fun e w' => e = .returned (.bool true) ∧ Below w.heap.size w w' := by
  go_enter Try.func67, Try.ntmps67
  go_wp2_with fail
  ((with_reducible refine (eqGlue_same _ _ _ _).mono ?_); rintro e w1 ⟨rfl, hb1⟩)
  have hz1 := hb1.size
  simp at hz1
  have g1 := ((Blk.new w 78 #[.int .i64 k, .int .i64 a, .int .i64 b, .int .i64 c, .int .i64 p, .bool f]).alloc (.cells #[.int .i64 k, .int .i64 a, .int .i64 b, .int .i64 c, .int .i64 p, .bool f] 78)).then_ hb1
  have g2 := (Blk.new_at (w.alloc (.cells #[.int .i64 k, .int .i64 a, .int .i64 b, .int .i64 c, .int .i64 p, .bool f] 78)) 78 #[.int .i64 k, .int .i64 a, .int .i64 b, .int .i64 c, .int .i64 p, .bool f] (w.heap.size + 1) (by simp)).then_ hb1
  have plt := g1.lt
  have pc0 := g1.cell 0; have pf0 := g1.frozen 0
  have pc1 := g1.cell 1; have pf1 := g1.frozen 1
  have pc2 := g1.cell 2; have pf2 := g1.frozen 2
  have pc3 := g1.cell 3; have pf3 := g1.frozen 3
  have pc4 := g1.cell 4; have pf4 := g1.frozen 4
  have pc5 := g1.cell 5; have pf5 := g1.frozen 5
  simp only [List.getElem?_toArray, List.getElem?_cons_zero, List.getElem?_cons_succ] at pc0 pc1 pc2 pc3 pc4 pc5
  have qlt := g2.lt
  have qc0 := g2.cell 0; have qf0 := g2.frozen 0
  have qc1 := g2.cell 1; have qf1 := g2.frozen 1
  have qc2 := g2.cell 2; have qf2 := g2.frozen 2
  have qc3 := g2.cell 3; have qf3 := g2.frozen 3
  have qc4 := g2.cell 4; have qf4 := g2.frozen 4
  have qc5 := g2.cell 5; have qf5 := g2.frozen 5
  simp only [List.getElem?_toArray, List.getElem?_cons_zero, List.getElem?_cons_succ] at qc0 qc1 qc2 qc3 qc4 qc5
  have hbW : Below w.heap.size w w1 := below_then (Nat.le_refl _) (((Below.refl w.heap.size w).alloc (Nat.le_refl _) _).alloc (by simp) _) hb1
  clear g1 g2
  go_wp2
  go_returns
  exact ⟨rfl, hbW⟩
end Go.Proofs.Ytkmipgekmbngcaa
/- A slice of numbers of the call's own is marked 1, 2, ... Conditions: at most 2^21 numbers. -/
namespace Go.Proofs.Ytkmipgekmbngcaa
open Go.RowKit

/-- The marks 1, 2, .. -/
def marks (n : Nat) : List Int := (List.range n).map fun (i : Nat) => (i : Int) + 1
theorem marks_len (n : Nat) : (marks n).length = n := by simp [marks]
theorem marks_at {n i : Nat} (h : i < n) : (marks n).getD i default = (i : Int) + 1 := by
  rw [List.getD_eq_getElem?_getD, marks, List.getElem?_map, List.getElem?_range h]; rfl
/-- A row that is being marked. -/
def markT (xs : List Int) (j : Nat) : List Int := marks j ++ xs.drop j
theorem markT_set {xs : List Int} {n j : Nat} (h : xs.length = n) (hj : j < n) : (markT xs j).set j ((j : Int) + 1) = markT xs (j + 1) := by
  unfold markT
  rw [List.set_append_right _ _ (by rw [marks_len]; omega), marks_len, Nat.sub_self]
  have e : marks (j + 1) = marks j ++ [(j : Int) + 1] := by simp [marks, List.range_succ]
  rw [e, List.drop_eq_getElem_cons (by omega), List.append_assoc]
  rfl
theorem markT_full {xs : List Int} {n : Nat} (h : xs.length = n) : markT xs n = marks n := by
  unfold markT
  rw [List.drop_of_length_le (by omega), List.append_nil]

theorem markIntS_any (A : Option Addr) (n c base : Nat) (xs : List Int) (w : World) (hm : n ≤ 2097152) (h : OwnI w base A n c xs) :
    Calls Try.prog 32 #[.slice A n c, .int .i64 1] w fun e w' => e = .returned (.int .i64 (n + 1)) ∧ OwnI w' base A n c (marks n) ∧ w.grownBy w' (Value.ownBlock (.slice A n c)) := by
  have hn := h.len
  rcases h.2 with ⟨hv, h0⟩ | ⟨g, cap, cur, hv, hbg, hgg, hnc, hcm, _⟩
  · cases hv
    clear hn
    go_enter Try.func32, Try.ntmps32
    go_wp2_with fail
    go_loopg [1, 5] 0 (fun k r i wr => i = .int .i64 0 ∧ r = .int .i64 1 ∧ w.grownBy wr (Value.ownBlock (.slice none 0 0)))
    case atStart => exact ⟨rfl, rfl, rfl, rfl, rfl, Nat.le_refl _, fun _ _ _ => rfl⟩
    case round =>
      obtain ⟨rfl, rfl, hg⟩ := hrel
      go_wp2_with fail
      go_ret
      exact ⟨rfl, OwnI.eq (h.kept hg (.inl rfl)) (List.eq_nil_of_length_eq_zero h.len), hg⟩
  · cases hv
    unfold maxLen at hcm
    have HN := Lib.hid hn; clear hn hgg
    go_enter Try.func32, Try.ntmps32
    go_wp2_with fail
    go_loopg [1, 5] n (fun k r i wr => ∃ j : Nat, j ≤ n ∧ k = n - j ∧ i = .int .i64 j ∧ r = .int .i64 ((j : Int) + 1) ∧ Hid (OwnI wr base (some ⟨g, 0, none⟩) n c (markT xs j)) ∧ w.grownBy wr (some g))
    case atStart => exact ⟨0, Nat.zero_le _, rfl, rfl, by go_num, h, rfl, rfl, rfl, Nat.le_refl _, fun _ _ _ => rfl⟩
    case round =>
      obtain ⟨j, hj, hk, rfl, rfl, hown, hbel⟩ := hrel
      have HK := Lib.hid hk; clear hk
      have hsz := hbel.size
      by_cases hlt : j < n
      · have o0 := hown.out.cellI hlt
        have of0 := hown.out.frozenAt j
        go_wp2_with fail
        go_roundg (n - (j + 1))
        case measure => have := HK.out; omega
        case rel => exact ⟨j + 1, by omega, rfl, by go_num, by go_num, (hown.out.stored _).eq (markT_set HN.out hlt), hbel.os, hbel.tape, hbel.output, by simpa [World.setCell] using hbel.size, fun i hi hne => (Below.heap_setCell _ _ _ i (fun e => hne (by rw [e]))).trans (hbel.block i hi hne)⟩
      · go_wp2_with fail
        go_ret
        have ej : j = n := by omega
        subst ej
        exact ⟨rfl, hown.out.eq (markT_full HN.out), hbel⟩

end Go.Proofs.Ytkmipgekmbngcaa
/- slices.Reverse turns a slice of numbers of the call's own round. Conditions: at most 2^20 numbers. -/
namespace Go.Proofs.Ytkmipgekmbngcaa
open Go.RowKit

/-- A list that is being turned round: j elements from each side are in place. -/
def revT (xs : List Int) (j : Nat) : List Int := (List.range xs.length).map fun k => if k < j ∨ xs.length ≤ k + j then xs.getD (xs.length - 1 - k) default else xs.getD k default
theorem revT_len (xs : List Int) (j : Nat) : (revT xs j).length = xs.length := by simp [revT]
theorem revT_at {xs : List Int} {j k : Nat} (hk : k < xs.length) : (revT xs j).getD k default = if k < j ∨ xs.length ≤ k + j then xs.getD (xs.length - 1 - k) default else xs.getD k default := by
  rw [List.getD_eq_getElem?_getD, revT, List.getElem?_map, List.getElem?_range hk]; rfl
theorem ext_getD {xs ys : List Int} (h : xs.length = ys.length) (e : ∀ k, k < xs.length → xs.getD k default = ys.getD k default) : xs = ys := by
  apply List.ext_getElem h
  intro i h1 h2
  have := e i h1
  rw [List.getD_eq_getElem?_getD, List.getD_eq_getElem?_getD, List.getElem?_eq_getElem h1, List.getElem?_eq_getElem h2] at this
  exact this
theorem revT_zero (xs : List Int) : revT xs 0 = xs := ext_getD (revT_len _ _) fun k hk => by
  rw [revT_len] at hk
  rw [revT_at hk, if_neg (by omega)]
theorem revT_end {xs : List Int} {j : Nat} (h : xs.length ≤ 2 * j + 1) : revT xs j = xs.reverse := ext_getD (by simp [revT]) fun k hk => by
  rw [revT_len] at hk
  rw [revT_at hk]
  have e : xs.reverse.getD k default = xs.getD (xs.length - 1 - k) default := by
    rw [List.getD_eq_getElem?_getD, List.getD_eq_getElem?_getD, List.getElem?_reverse hk]
  rw [e]
  by_cases h1 : k < j ∨ xs.length ≤ k + j
  · rw [if_pos h1]
  · rw [if_neg h1, show xs.length - 1 - k = k by omega]
theorem getD_set (xs : List Int) (i k : Nat) (v : Int) (hk : k < xs.length) : (xs.set i v).getD k default = if i = k then v else xs.getD k default := by
  rw [List.getD_eq_getElem?_getD, List.getD_eq_getElem?_getD, List.getElem?_set]
  by_cases e : i = k
  · subst e; rw [if_pos rfl, if_pos rfl, if_pos hk]; rfl
  · rw [if_neg e, if_neg e]
theorem revT_step {xs : List Int} {n j u : Nat} {x y : Int} (hn : xs.length = n) (hu : u + j + 1 = n) (hj : j < u) (hx : xs.getD j default = x) (hy : xs.getD u default = y) :
    ((revT xs j).set j y).set u x = revT xs (j + 1) ∧ ((revT xs j).set u x).set j y = revT xs (j + 1) := by
  have e1 : ((revT xs j).set j y).set u x = revT xs (j + 1) := ext_getD (by simp [revT]) fun k hk => by
    simp only [List.length_set, revT_len] at hk
    rw [getD_set _ _ _ _ (by simp [revT_len]; omega), getD_set _ _ _ _ (by simp [revT_len]; omega), revT_at hk, revT_at hk]
    by_cases a : u = k
    · subst a
      rw [if_pos rfl, if_pos (by omega), show xs.length - 1 - u = j by omega, hx]
    · rw [if_neg a]
      by_cases b : j = k
      · subst b
        rw [if_pos rfl, if_pos (by omega), show xs.length - 1 - j = u by omega, hy]
      · rw [if_neg b]
        by_cases h : k < j ∨ xs.length ≤ k + j
        · rw [if_pos h, if_pos (by omega)]
        · rw [if_neg h, if_neg (by omega)]
  exact ⟨e1, by rw [List.set_comm _ _ (by omega)]; exact e1⟩

set_option maxHeartbeats 1000000 in
theorem reverse_any (A : Option Addr) (n c base : Nat) (xs : List Int) (w : World) (hm : n ≤ 1048576) (h : OwnI w base A n c xs) :
    Calls Try.prog 79 #[.slice A n c] w fun e w' => e = .returned (.tuple #[]) ∧ OwnI w' base A n c xs.reverse ∧ w.grownBy w' (Value.ownBlock (.slice A n c)) := by
  have hn := h.len
  rcases h.2 with ⟨hv, h0⟩ | ⟨g, cap, cur, hv, hbg, hgg, hnc, hcm, _⟩
  · cases hv
    have he : xs = [] := List.eq_nil_of_length_eq_zero hn
    subst he
    have HO := Lib.hid h
    clear hn h
    go_enter Try.func79, Try.ntmps79
    go_wp2_with fail
    go_loopg [2, 3] 0 (fun k i j wr => i = .int .i64 0 ∧ j = .int .i64 (-1) ∧ wr = w)
    case atStart => exact ⟨by go_num, by go_num, rfl⟩
    case round =>
      obtain ⟨rfl, rfl, rfl⟩ := hrel
      go_wp2_with fail
      go_end0
      exact ⟨rfl, HO.out, rfl, rfl, rfl, Nat.le_refl _, fun _ _ _ => rfl⟩
  · cases hv
    unfold maxLen at hcm
    have HN := Lib.hid hn
    have HO := Lib.hid h
    clear hn hgg h
    go_enter Try.func79, Try.ntmps79
    go_wp2_with fail
    go_loopg [2, 3] n (fun k i jv wr => ∃ (j : Nat) (z : Int), j ≤ n ∧ k = n - j ∧ i = .int .i64 j ∧ jv = .int .i64 z ∧ Hid (z = (n : Int) - 1 - j) ∧ -2 ≤ z + j ∧ z ≤ n ∧ Hid (OwnI wr base (some ⟨g, 0, none⟩) n c (revT xs j)) ∧ w.grownBy wr (some g))
    case atStart => exact ⟨0, (n : Int) - 1, Nat.zero_le _, rfl, by go_num, by go_num, by simp [Hid], by omega, by omega, HO.out.eq (revT_zero xs).symm, rfl, rfl, rfl, Nat.le_refl _, fun _ _ _ => rfl⟩
    case round =>
      obtain ⟨j, z, hj, hk, rfl, rfl, hz, hz1, hz2, hown, hbel⟩ := hrel
      have HK := Lib.hid hk; clear hk
      have hsz := hbel.size
      by_cases hlt : 2 * j + 1 < n
      · obtain ⟨u, rfl⟩ := Int.eq_ofNat_of_zero_le (show 0 ≤ z by have := hz.out; omega)
        have hju : j < u := by have := hz.out; omega
        have hun : u < n := by have := hz.out; omega
        have o0 := hown.out.cellI (j := j) (by omega)
        have o1 := hown.out.cellI (j := u) hun
        have of0 := hown.out.frozenAt j
        have of1 := hown.out.frozenAt u
        obtain ⟨x, hx⟩ : ∃ x, xs.getD j default = x := ⟨_, rfl⟩
        obtain ⟨y, hy⟩ : ∃ y, xs.getD u default = y := ⟨_, rfl⟩
        rw [revT_at (by rw [HN.out]; omega), if_neg (by rw [HN.out]; omega), hx] at o0
        rw [revT_at (by rw [HN.out]; omega), if_neg (by rw [HN.out]; have := hz.out; omega), hy] at o1
        have hstep := revT_step HN.out (by have := hz.out; omega) hju hx hy
        have HST := Lib.hid hstep
        have hju' : (j : Int) < (u : Int) := by omega
        have hjn' : (j : Int) < (n : Int) := by omega
        have hun' : (u : Int) < (n : Int) := by omega
        have hne : ¬ j = u := by omega
        have hne' : ¬ u = j := by omega
        clear hx hy hstep
        go_wp2_with fail
        go_region
        all_goals
          go_wp2_with fail
          go_roundg (n - (j + 1))
          case measure => have := HK.out; omega
          case rel =>
            refine ⟨j + 1, (u : Int) - 1, by omega, rfl, by go_num, by go_num, (by have := hz.out; show _ = _; omega), by omega, by omega, ?_, ?_⟩
            · first
              | exact (((hown.out.stored (j := j) y).stored (j := u) x).eq HST.out.1)
              | exact (((hown.out.stored (j := u) x).stored (j := j) y).eq HST.out.2)
            · exact ⟨hbel.os, hbel.tape, hbel.output, by simpa [World.setCell] using hbel.size, fun i hi hne => (Below.heap_setCell _ _ _ i (fun e => hne (by rw [e]))).trans ((Below.heap_setCell _ _ _ i (fun e => hne (by rw [e]))).trans (hbel.block i hi hne))⟩
      · have hzj : z ≤ (j : Int) := by have := hz.out; omega
        have hfin := hown.out.eq (revT_end (by rw [HN.out]; omega))
        have HF := Lib.hid hfin
        clear hfin
        go_wp2_with fail
        go_end0
        exact ⟨rfl, HF.out, hbel⟩
end Go.Proofs.Ytkmipgekmbngcaa
