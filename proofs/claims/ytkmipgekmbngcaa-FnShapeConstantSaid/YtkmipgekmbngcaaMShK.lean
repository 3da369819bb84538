/- ShapeBreaks of the program returns the cheapest breaks for a shape. Conditions: the slices read as lists. -/
import Derived.Test.YtkmipgekmbngcaaMShJ
import Derived.ProofKit
import Derived.OpenShut
import Derived.ShutString
import Derived.ChangeOld
import Derived.Lib.SmallJoins
import Derived.Deep.Slices
import Derived.Deep.Fields
import Derived.Deep.Strs
namespace Go.Proofs.Ytkmipgekmbngcaa
open Go.RowKit

set_option maxRecDepth 100000 in
set_option maxHeartbeats 4000000 in
theorem shapeBreaks_i (A S : Option Addr) (n cap ns capn : Nat) (tol : Int) (xs : List It) (sh : List Int) (w : World) (hn : xs.length = n) (hm : n ≤ maxLen) (hcap : n ≤ cap ∧ cap ≤ maxLen) (hr : Row w w.heap.size 6 A n (itc xs)) (hns : sh.length = ns) (hms : ns ≤ maxLen) (hrs : Row w w.heap.size 1 S ns (inc sh)) :
    Calls Try.prog 11 #[.slice A n cap, .slice S ns capn, .int .i64 tol] w (PathOut w (shV xs sh tol)) := by
  have HR := Lib.hid hr
  have HRS := Lib.hid hrs
  have HN := Lib.hid hn
  have HNS := Lib.hid hns
  rcases hok : itemsOk xs with _ | _
  · have E := Lib.hid (show shV xs sh tol = ([], 0, false) from shV_no (by rw [hok]; rfl))
    have HV := Lib.hid hok
    clear hr hok hn hns hrs
    go_enter Try.func11, Try.ntmps11
    go_wp2_with fail
    ((with_reducible refine (validItems_i _ _ _ xs _ HN.out hm ?_).mono ?_); (exact HR.out); rintro e w1 ⟨rfl, hb⟩)
    rw [HV.out]
    go_wp2_with fail
    (first | go_returns | (refine bodyPost_ret (by simp [results, Try.results11, go_sem, *]; try rfl) rfl ?_))
    rw [E.out]
    exact ⟨none, 0, rfl, ownI_none _ _, hb⟩
  rcases hwo : shapeOk sh with _ | _
  · have E := Lib.hid (show shV xs sh tol = ([], 0, false) from shV_no (by rw [hok, hwo]; rfl))
    have HV := Lib.hid hok
    have HW := Lib.hid hwo
    clear hr hok hn hwo hns hrs
    go_enter Try.func11, Try.ntmps11
    go_wp2_with fail
    ((with_reducible refine (validItems_i _ _ _ xs _ HN.out hm ?_).mono ?_); (exact HR.out); rintro e w1 ⟨rfl, hb⟩)
    rw [HV.out]
    go_wp2_with fail
    ((with_reducible refine (validShape_i _ _ _ sh _ HNS.out hms ?_).mono ?_); (exact HRS.out.then_ hb); rintro e w2 ⟨rfl, hb2⟩)
    rw [HW.out]
    go_wp2_with fail
    (first | go_returns | (refine bodyPost_ret (by simp [results, Try.results11, go_sem, *]; try rfl) rfl ?_))
    rw [E.out]
    exact ⟨none, 0, rfl, ownI_none _ _, below_then (Nat.le_refl _) hb hb2⟩
  rcases hto : inR tol 0 10000 with _ | _
  · have E := Lib.hid (show shV xs sh tol = ([], 0, false) from shV_no (by rw [hok, hwo, hto]; rfl))
    have HV := Lib.hid hok
    have HW := Lib.hid hwo
    have HT := Lib.hid hto
    clear hr hok hn hwo hto hns hrs
    go_enter Try.func11, Try.ntmps11
    go_wp2_with fail
    ((with_reducible refine (validItems_i _ _ _ xs _ HN.out hm ?_).mono ?_); (exact HR.out); rintro e w1 ⟨rfl, hb⟩)
    rw [HV.out]
    go_wp2_with fail
    ((with_reducible refine (validShape_i _ _ _ sh _ HNS.out hms ?_).mono ?_); (exact HRS.out.then_ hb); rintro e w2 ⟨rfl, hb2⟩)
    rw [HW.out]
    go_wp2_with fail
    ((with_reducible refine (within_any _ _ _ _).mono ?_); rintro e w' ⟨rfl, rfl⟩)
    rw [HT.out]
    go_wp2_with fail
    (first | go_returns | (refine bodyPost_ret (by simp [results, Try.results11, go_sem, *]; try rfl) rfl ?_))
    rw [E.out]
    exact ⟨none, 0, rfl, ownI_none _ _, below_then (Nat.le_refl _) hb hb2⟩
  have E := Lib.hid ((shV_yes hn (by rw [hok, hwo, hto]; rfl) : shV xs sh tol = _).trans (sh_stops (sh := sh) (tol := tol) hok hn).symm)
  have HV := Lib.hid hok
  have HW := Lib.hid hwo
  have HT := Lib.hid hto
  clear hr hok hn hwo hto hns hrs
  go_enter Try.func11, Try.ntmps11
  go_wp2_with fail
  ((with_reducible refine (validItems_i _ _ _ xs _ HN.out hm ?_).mono ?_); (exact HR.out); rintro e w1 ⟨rfl, hb⟩)
  rw [HV.out]
  go_wp2_with fail
  ((with_reducible refine (validShape_i _ _ _ sh _ HNS.out hms ?_).mono ?_); (exact HRS.out.then_ hb); rintro e w2 ⟨rfl, hb2⟩)
  rw [HW.out]
  have hB2 := below_then (Nat.le_refl _) hb hb2
  go_wp2_with fail
  ((with_reducible refine (within_any _ _ _ _).mono ?_); rintro e w' ⟨rfl, rfl⟩)
  rw [HT.out]
  go_wp2_with fail
  ((with_reducible refine (shapePath_i _ _ _ _ _ _ tol xs sh _ HV.out HW.out HN.out hcap ?_ HNS.out ?_).mono ?_); (exact (HR.out.then_ hb).then_ hb2); (exact (HRS.out.then_ hb).then_ hb2); rintro e w3 ⟨A3, d3, rfl, hown3, hb3⟩)
  go_wp2_with fail
  (first | go_returns | (refine bodyPost_ret (by simp [results, Try.results11, go_sem, *]; try rfl) rfl ?_))
  rw [E.out]
  exact ⟨A3, d3, rfl, hown3.mono hB2.size, below_then (Nat.le_refl _) hB2 hb3⟩
end Go.Proofs.Ytkmipgekmbngcaa
/- DrawBestBreaks of the reference, and the law on a shape of one width: FnShapeConstant answers true. Conditions: the code is a slice of bytes. -/
namespace Go.Proofs.Ytkmipgekmbngcaa
open Go.RowKit

/-- What a call leaves that draws items, a width and a tolerance, out of a code. -/
def BestOut (w : World) (e : Ending) (w' : World) : Prop :=
  ∃ (g n c : Nat) (xs : List It) (d tol : Int), e = .returned (.tuple #[.slice (some ⟨g, 0, none⟩) n c, .int .i64 d, .int .i64 tol]) ∧ xs.length = n ∧ n ≤ 23 ∧ (n ≤ c ∧ c ≤ maxLen) ∧ Row w' w'.heap.size 6 (some ⟨g, 0, none⟩) n (itc xs) ∧ Below w.heap.size w w'

set_option maxHeartbeats 1000000 in
theorem DrawBestBreaks_any (A : Option Addr) (n cap : Nat) (cs : List Int) (w : World) (hc : Code w A n cap cs) :
    Calls Try.prog 29 #[.slice A n cap] w (BestOut w) := by
  obtain ⟨h1, h2, h3, h4, h5⟩ := hc
  have HH := Lib.hid h4; clear h4
  go_enter Try.func29, Try.ntmps29
  go_wp2_with fail
  ((with_reducible refine (newReader_any _ _ _ cs _ h1 h2 h3 HH.out h5).mono ?_); rintro e w1 ⟨rfl, hr1, hb1⟩)
  have hs1 := hb1.size
  have hl1 := hr1.lt
  go_wp2_with fail
  ((with_reducible refine (anyItems_any _ _ _ hr1 (by omega)).mono ?_); rintro e w2 ⟨g, m, c, xs, p', rfl, hx, hm, hcp, hrow, hg, hp, hr2, ho2⟩)
  have HX := Lib.hid hx; clear hx
  have hb2 : Below w.heap.size w w2 := hb1.trans (below_of_only ho2 (Nat.le_refl _) hs1)
  have hs2 := hb2.size
  go_wp2_with fail
  ((with_reducible refine (someWidth_any _ _ _ hr2 (by omega)).mono ?_); rintro e w3 ⟨x, p3, rfl, hx0, hx1, hp3, hr3, ho3⟩)
  have hb3 : Below w.heap.size w w3 := hb2.trans (below_of_only ho3 (Nat.le_refl _) hs2)
  have hs3 := hb3.size
  have hrow3 := (Row.only hrow ho3 (by intro x hx; cases hx; simp; omega) (Nat.le_refl _)).more ho3.size
  go_wp2_with fail
  ((with_reducible refine (someTolerance_any _ _ _ hr3 (by omega)).mono ?_); rintro e w4 ⟨y, p4, rfl, hy0, hy1, hp4, hr4, ho4⟩)
  have hb4 : Below w.heap.size w w4 := hb3.trans (below_of_only ho4 (Nat.le_refl _) hs3)
  have hrow4 := (Row.only hrow3 ho4 (by intro x hx; cases hx; simp; omega) (Nat.le_refl _)).more ho4.size
  go_wp2_with fail
  (first | go_returns | (refine bodyPost_ret (by simp [results, Try.results29, go_sem, *]; try rfl) rfl ?_))
  exact ⟨g, m, c, xs, x, y, rfl, HX.out, hm, hcp, hrow4, hb4⟩
theorem bb_same (xs : List It) (d tol : Int) : bbS xs d tol = bbV xs d tol := by
  rcases hv : (itemsOk xs && widthOk d && inR tol 0 10000) with _ | _
  · rw [bbS, bbV, hv]; rfl
  · have e : bbS xs d tol = bbN xs xs.length d tol := by rw [bbS, hv]; rfl
    simp only [Bool.and_eq_true] at hv
    rw [e, bbV_nodes hv.1.1 rfl hv.1.2 hv.2]
    rfl
theorem row_cell1 (w : World) (t : TypeId) (d : Int) : Row (w.alloc (.cells #[.int .i64 d] t)) (w.heap.size + 1) 1 (some ⟨w.heap.size, 0, none⟩) 1 (inc [d]) := fun _ => by
  refine ⟨w.heap.size, 0, rfl, by omega, fun i j hi hj => ?_⟩
  obtain rfl : i = 0 := by omega
  obtain rfl : j = 0 := by omega
  exact (Blk.new w t #[.int .i64 d]).cell 0
/-- What a call leaves that returns numbers of its own, a number and a bool that are named. -/
def PathOut3 (w : World) (R2 : Int) (R3 : Bool) (e : Ending) (w' : World) : Prop :=
  ∃ (A : Option Addr) (n c : Nat), e = .returned (.tuple #[.slice A n c, .int .i64 R2, .bool R3]) ∧ Below w.heap.size w w'
theorem path_form {w w' : World} {r : List Int × Int × Bool} {R2 : Int} {R3 : Bool} {e : Ending} (h2 : r.2.1 = R2) (h3 : r.2.2 = R3) (h : PathOut w r e w') : PathOut3 w R2 R3 e w' := by
  subst h2 h3
  obtain ⟨A, c, he, _, hb⟩ := h
  exact ⟨A, _, c, he, hb⟩

set_option maxRecDepth 100000 in
set_option maxHeartbeats 4000000 in
theorem law_ShapeConstant (A : Option Addr) (n cap : Nat) (cs : List Int) (w : World) (hc : Code w A n cap cs) :
    Calls Try.prog 8 #[.slice A n cap] w fun e w' => e = .returned (.bool true) ∧ Below w.heap.size w w' := by
  have hn := hc.1
  unfold maxLen at hn
  by_cases hbig : 1048576 < n
  · go_enter Try.func8, Try.ntmps8
    go_wp2
    go_returns
    exact ⟨rfl, Below.refl _ _⟩
  go_enter Try.func8, Try.ntmps8
  go_wp2_with fail
  ((with_reducible refine (DrawBestBreaks_any _ _ _ cs _ hc).mono ?_); rintro e w1 ⟨g, m, c, xs, d, tol, rfl, hx, hm, hcp, hr1, hb1⟩)
  have HX := Lib.hid hx; clear hx
  have HCP := Lib.hid hcp; clear hcp
  have hmx : m ≤ maxLen := by unfold maxLen; omega
  have h1x : 1 ≤ maxLen := by unfold maxLen; omega
  obtain ⟨R2, hR2⟩ : ∃ R2, (bbV xs d tol).2.1 = R2 := ⟨_, rfl⟩
  obtain ⟨R3, hR3⟩ : ∃ R3, (bbV xs d tol).2.2 = R3 := ⟨_, rfl⟩
  obtain ⟨s1, s2⟩ := sh_const (xs := xs) (tol := tol) (shape_one d) (wof_one d)
  have HS2 := Lib.hid (s2.trans hR2)
  have HS3 := Lib.hid (s1.trans hR3)
  have HB2 := Lib.hid (show (bbS xs d tol).2.1 = R2 by rw [bb_same, hR2])
  have HB3 := Lib.hid (show (bbS xs d tol).2.2 = R3 by rw [bb_same, hR3])
  have H2 := Lib.hid hR2
  have H3 := Lib.hid hR3
  clear hR2 hR3 s1 s2
  go_wp2_with fail
  ((with_reducible refine ((bestBreaks_i _ _ _ d tol xs _ HX.out hmx HCP.out ?_).mono fun _ _ h => path_form H2.out H3.out h).mono ?_); (exact hr1); rintro e w2 ⟨A2, n2, c2, rfl, hb2⟩)
  have hr2 := hr1.then_ hb2
  have hB2 := below_then (Nat.le_refl _) hb1 hb2
  go_wp2_with fail
  ((with_reducible refine ((bestBreaks_S _ _ _ d tol xs _ HX.out hmx ?_).mono fun _ _ h => path_form HB2.out HB3.out h).mono ?_); (exact hr2); rintro e w3 ⟨A3, n3, c3, rfl, hb3⟩)
  have hr3 := Lib.hid ((hr2.then_ hb3).alloc' (.cells #[.int .i64 d] 3))
  have hB3 := below_then (Nat.le_refl _) hB2 hb3
  have hB3a := hB3.alloc hB3.size (.cells #[.int .i64 d] 3)
  have hd3 := Lib.hid (row_cell1 w3 3 d)
  clear hr1 hr2
  go_wp2_with fail
  ((with_reducible refine ((shapeBreaks_i _ _ _ _ _ _ tol xs [d] _ HX.out hmx HCP.out ?_ (show [d].length = 1 from rfl) h1x ?_).mono fun _ _ h => path_form HS2.out HS3.out h).mono ?_); (exact hr3.out); (exact hd3.out.more (by simp)); rintro e w4 ⟨A4, n4, c4, rfl, hb4⟩)
  have hvv : (R2 == R2) = true := by simp
  have hoo : (R3 == R3) = true := by simp
  go_wp2_with fail
  go_returns
  exact ⟨by simp, below_then (Nat.le_refl _) hB3a hb4⟩
end Go.Proofs.Ytkmipgekmbngcaa
/- Opening the arguments of a law: numbers, rows of numbers, structs, rows of structs. What stands here speaks of values and cells alone. No condition. -/
namespace Go.Proofs.Ytkmipgekmbngcaa
open Go.ChangeShapes Go.WideShapes Go.ChangeAt Go.RowKit Go.Joins Go.Deep

section
variable {H : Type} {enc : TypeId × Value → H} {P : Program} {w : World} {base : Nat} {spare : Nat → Bool} {held : Bool}

theorem open_struct3 {r : Reach} {b0 : Nat} {t ti : TypeId} {k : IntKind} {f0 f1 f2 : Field} {v : Value} {d : DataW H} {p : List MemPlace} (hs : P.underlying t = some (.struct #[f0, f1, f2]))
    (h0 : f0.type = ti) (h1 : f1.type = ti ∧ f2.type = ti) (hone : oneCellFields P #[f0, f1, f2] = true) (hC : P.cellsOf t = 3) (hi : P.underlying ti = some (.int k))
    (hv : Value.okWide P w r b0 t v) (h : DataW.Trod enc P w base spare held t v d p) : ∃ x0 x1 x2 : Int, v = .agg #[.int k x0, .int k x1, .int k x2] := by
  obtain ⟨c0, c1, c2, y0, y1, y2, m, rfl, _, _, g0, g1, g2⟩ := open_agg3 hs hone hC hv h
  rw [h0] at g0
  rw [h1.1] at g1
  rw [h1.2] at g2
  obtain ⟨x0, e0, _⟩ := DataW.trod_int hi g0
  obtain ⟨x1, e1, _⟩ := DataW.trod_int hi g1
  obtain ⟨x2, e2, _⟩ := DataW.trod_int hi g2
  simp at e0 e1 e2
  subst e0 e1 e2
  exact ⟨x0, x1, x2, rfl⟩

/-- A slice of structs whose fields are all of one integer kind: the cells, in the walk's spelling. -/
theorem open_rowsN {t e ti : TypeId} {k : IntKind} {fs : Array Field} {fuel : Nat} {A : Option Addr} {n cap sz : Nat} {x : DataW H × List MemPlace} (ht : P.underlying t = some (.slice e)) (he : P.underlying e = some (.struct fs))
    (hsz : fs.size = sz) (h0 : 0 < sz) (hone : oneCellFields P fs = true) (hC : P.cellsOf e = sz) (hi : P.underlying ti = some (.int k)) (hf : ∀ (j : Nat) (f : Field), fs[j]? = some f → f.type = ti)
    (h : DataW.trod enc P w base spare held fuel t [.slice A n cap] = some x) :
    n ≤ maxLen ∧ ∃ g : Nat → Nat → Int, Row w w.heap.size sz A n (fun i j => .int k (g i j)) := by
  rcases open_slice ht h with ⟨hcs, _⟩ | ⟨a, len, cap', m, fl, D, Pl, hcs, hb, hl, hm, hmm, hx, hel⟩
  · simp only [List.cons.injEq, Value.slice.injEq, and_true] at hcs
    obtain ⟨rfl, rfl, rfl⟩ := hcs
    exact ⟨Nat.zero_le _, fun _ _ => 0, Row.nil⟩
  simp only [List.cons.injEq, Value.slice.injEq, and_true] at hcs
  obtain ⟨rfl, rfl, rfl⟩ := hcs
  have hnm : n ≤ m := by rw [hmm]; split <;> omega
  refine ⟨by omega, ?_⟩
  have key : ∀ i j, ∃ v : Int, i < n → j < sz → w.cell? (a.add (i * sz + j)) = some (.int k v) := by
    intro i j
    by_cases hi' : i < n
    · by_cases hj : j < sz
      · obtain ⟨cs', hc, ht'⟩ := hel i (by omega)
        rw [hC] at hc
        obtain ⟨ys, n', hn', hy, hlen, hyl, hfl⟩ := DataW.trod_struct he ht'
        obtain ⟨_, hcl, hat⟩ := World.cells?_some hc
        have hfj : fs[j]? = some fs[j] := Array.getElem?_eq_getElem (by omega)
        obtain ⟨ho, hk⟩ := hone_of hone j _ hfj
        have hcell := hat j hj
        have hv : cs'[j]? = some (cs'[j]'(by omega)) := List.getElem?_eq_getElem (by omega)
        have h1 := hfl j _ hfj
        rw [ho, hk] at h1
        have hone' : (cs'.drop j).take 1 = [cs'[j]'(by omega)] := by
          rw [List.drop_eq_getElem_cons (by omega)]
          rfl
        have hys : ys[j]? = some (ys[j]'(by omega)) := List.getElem?_eq_getElem (by omega)
        rw [hone', hf j _ hfj, hys] at h1
        obtain ⟨v, e1, _⟩ := DataW.trod_int hi h1
        refine ⟨v, fun _ _ => ?_⟩
        rw [← Go.Deep.add_add, hcell, hv]
        simp only [List.cons.injEq, and_true] at e1
        rw [e1]
      · exact ⟨0, fun _ h => absurd h hj⟩
    · exact ⟨0, fun h => absurd h hi'⟩
  obtain ⟨gg, hc⟩ : ∃ gg : Nat → Nat → Int, ∀ i j, i < n → j < sz → w.cell? (a.add (i * sz + j)) = some (.int k (gg i j)) :=
    ⟨fun i j => Classical.choose (key i j), fun i j => Classical.choose_spec (key i j)⟩
  refine ⟨gg, fun hn => ?_⟩
  have h00 := hc 0 0 hn h0
  have hsp := World.cell?_spot h00
  have hbl := World.block_lt_of_cell? w _ h00
  rw [Nat.zero_mul, Nat.zero_add] at hsp hbl
  have e0 : a.add 0 = a := rfl
  rw [e0] at hsp hbl
  obtain ⟨b, off, sp⟩ := a
  simp only at hsp
  subst hsp
  refine ⟨b, off, rfl, hbl, fun i j hi hj => ?_⟩
  have := hc i j hi hj
  unfold Addr.add at this
  split at this
  · rename_i hz
    show w.cell? ⟨b, off + i * sz + j, none⟩ = _
    rw [Nat.add_assoc, hz]
    exact this
  · show w.cell? ⟨b, off + i * sz + j, none⟩ = _
    rw [Nat.add_assoc]
    exact this

/-- A slice of numbers. -/
theorem open_nums {t e : TypeId} {k : IntKind} {A : Option Addr} {n cap : Nat} {d : DataW H} {p : List MemPlace} (ht : P.underlying t = some (.slice e)) (he : P.underlying e = some (.int k)) (hC : P.cellsOf e = 1)
    (h : DataW.Trod enc P w base spare held t (.slice A n cap) d p) : ∃ xs : List Int, xs.length = n ∧ n ≤ maxLen ∧ (∀ x ∈ xs, (Lit.int k x).wf = true) ∧ Row w w.heap.size 1 A n (fun i _ => .int k (xs.getD i 0)) := by
  obtain ⟨fuel, hf⟩ := h
  rcases open_ints ht he hC hf with ⟨hcs, _⟩ | ⟨a, l, c, zs, hcs, _, hl, hm, hz, _, hcell, hwz⟩
  · simp [Value.cells] at hcs
    obtain ⟨rfl, rfl, rfl⟩ := hcs
    exact ⟨[], rfl, Nat.zero_le _, by simp, Row.nil⟩
  · simp [Value.cells] at hcs
    obtain ⟨rfl, rfl, rfl⟩ := hcs
    have hzl : n ≤ zs.length := by rw [hz]; split <;> omega
    refine ⟨zs.take n, by simp; omega, by omega, fun x hx => hwz x (List.mem_of_mem_take hx), fun hn => ?_⟩
    have hc0 := hcell 0 (by omega)
    have hsp := World.cell?_spot hc0
    have hbl := World.block_lt_of_cell? w _ hc0
    have e0 : a.add 0 = a := rfl
    rw [e0] at hsp hbl
    obtain ⟨b, off, sp⟩ := a
    simp only at hsp
    subst hsp
    refine ⟨b, off, rfl, hbl, fun i j hi hj => ?_⟩
    obtain rfl : j = 0 := by omega
    have := hcell i (by omega)
    have e1 : (zs.take n).getD i 0 = zs.getD i 0 := by
      rw [List.getD_eq_getElem?_getD, List.getD_eq_getElem?_getD, List.getElem?_take_of_lt hi]
    show w.cell? ⟨b, off + i * 1 + 0, none⟩ = some (.int k ((zs.take n).getD i 0))
    rw [e1, Nat.mul_one, Nat.add_zero, ← this]
    unfold Addr.add
    split
    · rename_i hz0
      subst hz0
      rfl
    · rfl
/-- A slice of bytes. -/
theorem open_code {t e : TypeId} {A : Option Addr} {n cap : Nat} {d : DataW H} {p : List MemPlace} (ht : P.underlying t = some (.slice e)) (he : P.underlying e = some (.int .u8)) (hC : P.cellsOf e = 1)
    (h : DataW.Trod enc P w base spare held t (.slice A n cap) d p) : ∃ xs : List Int, Code w A n cap xs := by
  obtain ⟨xs, hl, hm, hw, hr⟩ := open_nums ht he hC h
  have hcap : n ≤ cap ∧ cap ≤ maxLen := by
    obtain ⟨fuel, hf⟩ := h
    rcases open_ints ht he hC hf with ⟨hcs, _⟩ | ⟨a, l, c, zs, hcs, _, hl', hm', _⟩
    · simp [Value.cells] at hcs
      obtain ⟨rfl, rfl, rfl⟩ := hcs
      exact ⟨Nat.le_refl _, Nat.zero_le _⟩
    · simp [Value.cells] at hcs
      obtain ⟨rfl, rfl, rfl⟩ := hcs
      exact ⟨hl', hm'⟩
  refine ⟨xs, hm, hcap.1, hcap.2, fun x hx => ?_, hr⟩
  have := hw x hx
  simp [Lit.wf, IntKind.min, IntKind.max, IntKind.signed, IntKind.bits] at this
  omega
end
/-- What an int that came in may be. -/
theorem i64_bounds {a : Int} (h : (Lit.int .i64 a).wf = true) : -9223372036854775808 ≤ a ∧ a ≤ 9223372036854775807 := by
  simp [Lit.wf, IntKind.min, IntKind.max, IntKind.signed, IntKind.bits] at h
  omega
end Go.Proofs.Ytkmipgekmbngcaa
