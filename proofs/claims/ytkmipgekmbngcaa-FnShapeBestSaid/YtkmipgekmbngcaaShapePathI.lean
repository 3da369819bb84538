/- shapePath of the program returns the cheapest breaks for a shape, over the stops. Conditions: the slices read as lists; valid items and shape. -/
import Derived.Test.YtkmipgekmbngcaaShapeStep
import Derived.Test.YtkmipgekmbngcaaMSb8
import Derived.Test.YtkmipgekmbngcaaCheckBreaks
import Derived.Test.YtkmipgekmbngcaaBestTable
import Derived.Test.YtkmipgekmbngcaaQuietTail
namespace Go.Proofs.Ytkmipgekmbngcaa
open Go.RowKit

theorem rows_info : (Try.prog.info? 91).map (fun i => (i.zero, i.size, i.bytes)) = some (some (.slice none 0 0), 1, 24) := by kernel_rfl
theorem sstate_info : (Try.prog.info? 93).map (fun i => (i.zero, i.size, i.bytes)) = some (some (.agg #[.int .i64 0, .int .i64 0, .bool false]), 3, 24) := by kernel_rfl

/-- The rows of states: the first o are there, the first n of them are whole. -/
def RWS (w : World) (g N o n : Nat) (G : Nat → Nat) (C : Nat → Nat → Nat → Option Int) : Prop :=
  OwnP w g 91 1 (some ⟨g, 0, none⟩) N N (fun x _ => if x < o then .slice (some ⟨G x, 0, none⟩) N N else .slice none 0 0) ∧ (∀ x, x < n → OwnP w g 93 3 (some ⟨G x, 0, none⟩) N N (fun k q => enc (Dp.T2 C x k) q)) ∧ ∀ x, x < o → g < G x
section
variable {w w' : World} {g N o n : Nat} {G : Nat → Nat} {C : Nat → Nat → Nat → Option Int}
theorem RWS.then_ (h : RWS w g N o n G C) (hb : Below w.heap.size w w') : RWS w' g N o n G C := ⟨h.1.then_ hb, fun x hx => (h.2.1 x hx).then_ hb, h.2.2⟩
theorem RWS.alloc (h : RWS w g N o n G C) (b : Obj) : RWS (w.alloc b) g N o n G C := ⟨h.1.alloc b, fun x hx => (h.2.1 x hx).alloc b, h.2.2⟩
theorem RWS.drewN (h : RWS w g N o n G C) (k : Nat) : RWS (w.drewN k) g N o n G C := h
theorem RWS.far (h : RWS w g N o n G C) {p : Addr} (hg : g ≠ p.block) (hG : ∀ x, x < n → G x ≠ p.block) (u : Value) : RWS (w.setCell p u) g N o n G C :=
  ⟨h.1.far (by intro x hx; cases hx; exact hg) u, fun x hx => (h.2.1 x hx).far (by intro y hy; cases hy; exact hG x hx) u, h.2.2⟩
theorem RWS.outer (h : RWS w g N o n G C) {x : Nat} (hx : x < o) (hN : x < N) : w.cell? ⟨g, x, none⟩ = some (.slice (some ⟨G x, 0, none⟩) N N) := by
  have := h.1.cell1 hN
  rwa [if_pos hx] at this
theorem RWS.row (h : RWS w g N o n G C) {x : Nat} (hx : x < n) : OwnP w g 93 3 (some ⟨G x, 0, none⟩) N N (fun k q => enc (Dp.T2 C x k) q) := h.2.1 x hx
/-- One row more, not whole yet. -/
theorem RWS.add (h : RWS w g N n n G C) (hn : n < N) (gn : Nat) (hg : g < gn) : RWS (w.setCell ⟨g, n, none⟩ (.slice (some ⟨gn, 0, none⟩) N N)) g N (n + 1) n (fun x => if x = n then gn else G x) C := by
  refine ⟨(h.1.set1 hn _).congr fun x q _ hq => ?_, fun x hx => ?_, fun x hx => ?_⟩
  · by_cases e : x = n
    · subst e
      have : q = 0 := by omega
      subst this
      simp
    · simp only [e, false_and, if_false]
      by_cases hlt : x < n
      · rw [if_pos hlt, if_pos (by omega)]
      · rw [if_neg hlt, if_neg (by omega)]
  · simp only [show x ≠ n by omega, if_false]
    exact (h.2.1 x hx).far (by intro y hy; cases hy; have := h.2.2 x hx; show G x ≠ g; omega) _
  · show g < if x = n then gn else G x
    by_cases e : x = n
    · rw [if_pos e]; exact hg
    · rw [if_neg e]; exact h.2.2 x (by omega)
/-- The row that is filled is whole now. -/
theorem RWS.done (h : RWS w g N (n + 1) n G C) (hr : OwnP w g 93 3 (some ⟨G n, 0, none⟩) N N (fun k q => enc (Dp.T2 C n k) q)) : RWS w g N (n + 1) (n + 1) G C :=
  ⟨h.1, fun x hx => by
    by_cases e : x = n
    · subst e; exact hr
    · exact h.2.1 x (by omega), h.2.2⟩
end
/-- The row for n steps while it is filled. -/
def rowU (C : Nat → Nat → Nat → Option Int) (n i k : Nat) : Option (Int × Nat) := if k < i then Dp.T2 C n k else none
def bI (o : Option (Int × Nat)) : Int := match o with
  | none => -1
  | some p => (p.2 : Int) + 1

theorem rowU_set {C : Nat → Nat → Nat → Option Int} {n i N : Nat} {X : Option (Int × Nat)} (h : Dp.T2 C n i = X) : ∀ k q, k < N → q < 3 →
    (if k = i ∧ q = 2 then .bool X.isSome else if k = i ∧ q = 1 then .int .i64 ((X.getD (0, 0)).2 : Int) else if k = i ∧ q = 0 then .int .i64 (X.getD (0, 0)).1 else enc (rowU C n i k) q) = enc (rowU C n (i + 1) k) q := by
  intro k q _ hq
  unfold rowU
  by_cases e : k = i
  · subst e
    rw [if_pos (Nat.lt_succ_self _), h]
    match q, hq with
    | 0, _ => simp [enc]
    | 1, _ => simp [enc]
    | 2, _ => simp [enc]
  · simp only [e, false_and, if_false]
    by_cases hlt : k < i
    · rw [if_pos hlt, if_pos (by omega)]
    · rw [if_neg hlt, if_neg (by omega)]
theorem step_form {Y X : Option (Int × Nat)} (h : Y = X) {e : Ending} {w w' : World} {B : Nat} (he : e = .returned (encV Y) ∧ Below B w w') : e = .returned (.agg #[.int .i64 (X.getD (0, 0)).1, .int .i64 ((X.getD (0, 0)).2 : Int), .bool X.isSome]) ∧ Below B w w' := by
  subst h
  exact he
theorem OwnP.toI {w : World} {base n c : Nat} {A : Option Addr} {P : List Int} (h : OwnP w base 3 1 A n c (fun i _ => .int .i64 (P.getD i default))) (hn : P.length = n) : OwnI w base A n c P := by
  obtain ⟨L, h1, h2⟩ := h
  have e : L = inl P := by
    apply List.ext_getElem?
    intro i
    rcases Nat.lt_or_ge i n with hi | hi
    · have a := h2 i 0 hi (by omega)
      have b := inl_at P i 0 (by omega) (by omega)
      rw [Nat.mul_one, Nat.add_zero] at a b
      rw [a, b]
      rfl
    · have l1 := h1.1
      have l2 := inl_len P
      rw [List.getElem?_eq_none (by omega), List.getElem?_eq_none (by omega)]
  subst e
  exact h1
/-- The list while it is filled from behind. -/
def fromB (P : List Int) (p i _q : Nat) : Value := .int .i64 (if p ≤ i then P.getD i default else 0)
theorem fromB_set {P : List Int} {p N : Nat} {x : Int} (h : P.getD p default = x) : ∀ i q, i < N → q < 1 → (if i = p ∧ q = 0 then .int .i64 x else fromB P (p + 1) i q) = fromB P p i q := by
  intro i q _ hq
  have hq0 : q = 0 := by omega
  subst hq0
  unfold fromB
  by_cases e : i = p
  · subst e; simp only [and_self, if_true]; rw [if_pos (Nat.le_refl _), h]
  · simp only [e, false_and, if_false]
    by_cases hlt : p ≤ i
    · rw [if_pos hlt, if_pos (by omega)]
    · rw [if_neg hlt, if_neg (by omega)]

theorem take_snoc {L P : List Int} {x : Int} {p : Nat} (h : L ++ [x] = P.take (p + 1)) (hL : L.length = p) : L = P.take p ∧ P.getD p default = x := by
  constructor
  · have h1 : (L ++ [x]).take p = (P.take (p + 1)).take p := by rw [h]
    rw [List.take_take, Nat.min_eq_left (Nat.le_succ _), List.take_append_of_le_length (by omega), List.take_of_length_le (by omega)] at h1
    exact h1
  · have h1 : (L ++ [x]).getD p default = (P.take (p + 1)).getD p default := by rw [h]
    rw [getD_snoc2 hL.symm] at h1
    rw [h1, List.getD_eq_getElem?_getD, List.getD_eq_getElem?_getD, List.getElem?_take_of_lt (Nat.lt_succ_self _)]
theorem RWS.drewN' {w : World} {g N o n : Nat} {G : Nat → Nat} {C : Nat → Nat → Nat → Option Int} (h : RWS w g N o n G C) (k : Nat) : RWS (w.drewN k) g N o n G C := h

set_option maxRecDepth 100000 in
set_option maxHeartbeats 8000000 in
theorem shapePath_i (A S : Option Addr) (n cap ns capn : Nat) (tol : Int) (xs : List It) (sh : List Int) (w : World) (hok : itemsOk xs = true) (hsh : shapeOk sh = true) (hn : xs.length = n) (hcap : n ≤ cap ∧ cap ≤ maxLen) (hr : Row w w.heap.size 6 A n (itc xs)) (hns : sh.length = ns) (hrs : Row w w.heap.size 1 S ns (inc sh)) :
    Calls Try.prog 41 #[.slice A n cap, .slice S ns capn, .int .i64 tol] w (PathOut w (pathS (stS xs sh tol) (fun i => (stps xs).getD i default) (brksV xs).length)) := by
  have h60 := (itemsOk_len hok hn).2
  have HOK := Lib.hid hok
  have HN := Lib.hid hn
  have HR := Lib.hid hr
  have HRS := Lib.hid hrs
  have HNS := Lib.hid hns
  obtain ⟨nb, hnb⟩ : ∃ nb, (brksV xs).length = nb := ⟨_, rfl⟩
  have hnb60 : nb ≤ 60 := by have := brksV_len xs; omega
  obtain ⟨N, hN⟩ : ∃ N, N = nb + 1 := ⟨_, rfl⟩
  have hsl : (stps xs).length = N := by rw [stps_len, hnb, hN]
  rw [hnb]
  have HSL := Lib.hid hsl
  have HNN := Lib.hid hN
  have hN61 : N ≤ 61 := by omega
  have hN1 : 1 ≤ N := by omega
  obtain ⟨i0, hi, hz0, hz1, hz2⟩ := info_parts rows_info
  obtain ⟨k0, ki, kz0, kz1, kz2⟩ := info_parts sstate_info
  obtain ⟨j0, ji, jz0, jz1, jz2⟩ := info_parts int_info
  have hmo := make_n (P := Try.prog) 90 91 i0 _ Try.underlying90 hi hz0 N (by rw [hz2]; omega) (by omega)
  rw [hz1] at hmo
  have hmr := make_n (P := Try.prog) 91 93 k0 _ Try.underlying91 ki kz0 N (by rw [kz2]; omega) (by omega)
  rw [kz1] at hmr
  have hNI0 : (0 : Int) < (N : Int) := by omega
  obtain ⟨C, hC⟩ : ∃ C, stS xs sh tol = C := ⟨_, rfl⟩
  have HC := Lib.hid hC
  rw [hC]
  have hnN : (N : Int) - 1 = (nb : Int) := by omega
  have HTB : Hid (∀ n i v k, n ≤ 61 → Dp.T2 C n i = some (v, k) → -20000000000 ≤ v ∧ v ≤ 20000000000) := fun n i v k hn61 h => by
    have h1 := Dp.T2_bound (C := C) (M := 200000000) (by omega) (fun l k i s hs => by
      rw [← hC] at hs
      have hw := wof_bound hsh l
      exact (lc_some hok hn hw.1 hw.2 hs).2.2.2) n i v k h
    have h2 : (n : Int) * 200000000 ≤ 61 * 200000000 := Int.mul_le_mul_of_nonneg_right (by omega) (by omega)
    omega
  have HSH := Lib.hid hsh
  have HWB : Hid (∀ m, 1 ≤ wof sh m ∧ wof sh m ≤ 10000) := wof_bound hsh
  have hnsm : ns ≤ maxLen := by have := shapeOk_len hsh; rw [hns] at this; unfold maxLen; omega
  clear hok hn hr hrs hns hnb hsl hN hC hsh
  go_enter Try.func41, Try.ntmps41
  go_wp2_with fail
  ((with_reducible refine (breakStops_i _ _ _ xs _ HN.out h60 ?_).mono ?_); (exact HR.out); rintro e w1 ⟨D, dd, rfl, hst, hb1⟩)
  rw [HSL.out] at hst ⊢
  have HST := Lib.hid hst
  clear hst
  have hNm : N ≤ maxLen := by unfold maxLen; omega
  have o0 := made1 w1 91 (.slice none 0 0) N hNm
  have m0 : (madeCells #[Value.slice none 0 0] N)[0]? = some (.slice none 0 0) := by
    have h1 := o0.cell1 (i := 0) hN1
    rwa [World.cell?_alloc_at _ _ _ _ rfl] at h1
  have lt0 : 0 < (madeCells #[Value.slice none 0 0] N).size := (Array.getElem?_eq_some_iff.1 m0).1
  have m1 : ((madeCells #[Value.slice none 0 0] N).setIfInBounds 0 (.slice (some ⟨w1.heap.size + 1, 0, none⟩) N N))[0]? = some (.slice (some ⟨w1.heap.size + 1, 0, none⟩) N N) := by
    simp [lt0]
  have o1 := o0.set1 (i := 0) hN1 (.slice (some ⟨w1.heap.size + 1, 0, none⟩) N N)
  rw [World.setCell_alloc_at _ _ _ _ _ rfl] at o1
  have r0 := OwnP.made (w1.alloc (.cells ((madeCells #[Value.slice none 0 0] N).setIfInBounds 0 (.slice (some ⟨w1.heap.size + 1, 0, none⟩) N N)) 91)) 93 #[.int .i64 0, .int .i64 0, .bool false] N (by simp) hNm
  have m2 : (madeCells #[Value.int .i64 0, .int .i64 0, .bool false] (N * 3))[2]? = some (.bool false) := by
    have h1 := r0.cell (i := 0) (q := 2) hN1 (by simp)
    simp only [Nat.zero_mul, Nat.zero_add] at h1
    rwa [World.cell?_alloc_at _ _ _ _ rfl] at h1
  have r1 := r0.set_ (i := 0) (q := 2) hN1 (by simp) (.bool true)
  simp only [Nat.zero_mul, Nat.zero_add] at r1
  rw [World.setCell_alloc_at _ _ _ _ _ rfl] at r1
  have O2 := Lib.hid (o1.alloc (.cells ((madeCells #[Value.int .i64 0, .int .i64 0, .bool false] (N * 3)).setIfInBounds 2 (.bool true)) 93))
  have R2 := Lib.hid r1
  clear o0 r0 o1 r1 lt0
  have HRW : Hid (RWS ((w1.alloc (.cells ((madeCells #[Value.slice none 0 0] N).setIfInBounds 0 (.slice (some ⟨w1.heap.size + 1, 0, none⟩) N N)) 91)).alloc (.cells ((madeCells #[Value.int .i64 0, .int .i64 0, .bool false] (N * 3)).setIfInBounds 2 (.bool true)) 93)) w1.heap.size N 1 1 (fun _ => w1.heap.size + 1) C) := by
    refine ⟨O2.out.congr fun x q _ hq => ?_, fun x hx => ?_, fun x hx => ?_⟩
    · have hq0 : q = 0 := by omega
      subst hq0
      by_cases e : x = 0
      · subst e; simp
      · simp only [e, false_and, if_false]
        rw [if_neg (by omega)]
    · obtain rfl : x = 0 := by omega
      have h := R2.out
      simp only [World.size_alloc] at h
      refine (h.mono (base' := w1.heap.size) (by omega)).congr fun k q _ hq => ?_
      rcases Nat.eq_zero_or_pos k with rfl | hk
      · rw [Dp.T2_zero]
        match q, hq with
        | 0, _ => rfl
        | 1, _ => rfl
        | 2, _ => rfl
      · rw [Dp.T2_zero' hk]
        have hk0 : ¬ k = 0 := by omega
        simp only [hk0, false_and, if_false]
        match q, hq with
        | 0, _ => rfl
        | 1, _ => rfl
        | 2, _ => rfl
    · show w1.heap.size < w1.heap.size + 1
      omega
  have hbA : Below w.heap.size w ((w1.alloc (.cells ((madeCells #[Value.slice none 0 0] N).setIfInBounds 0 (.slice (some ⟨w1.heap.size + 1, 0, none⟩) N N)) 91)).alloc (.cells ((madeCells #[Value.int .i64 0, .int .i64 0, .bool false] (N * 3)).setIfInBounds 2 (.bool true)) 93)) := (hb1.alloc hb1.size _).alloc (by simp; have := hb1.size; omega) _
  have HSW := Lib.hid hb1.size
  have hb1b : Below w1.heap.size w1 ((w1.alloc (.cells ((madeCells #[Value.slice none 0 0] N).setIfInBounds 0 (.slice (some ⟨w1.heap.size + 1, 0, none⟩) N N)) 91)).alloc (.cells ((madeCells #[Value.int .i64 0, .int .i64 0, .bool false] (N * 3)).setIfInBounds 2 (.bool true)) 93)) := ((Below.refl _ _).alloc (Nat.le_refl _) _).alloc (by simp) _
  go_wp2_with fail
  go_loopg [12, 13] (N - 1) (fun k bv nv wr => ∃ (m : Nat) (b : Int) (G : Nat → Nat), m + 1 ≤ N ∧ k = N - 1 - m ∧ nv = .int .i64 ((m : Int) + 1) ∧ bv = .int .i64 b ∧ Hid (bI (Dp.bestL (fun l => (Dp.T2 C (l + 1) nb).map Prod.fst) m) = b) ∧ Hid (RWS wr w1.heap.size N (m + 1) (m + 1) G C) ∧ Below w1.heap.size w1 wr)
  case atStart => exact ⟨0, -1, fun _ => w1.heap.size + 1, hN1, rfl, rfl, rfl, rfl, HRW.out, hb1b⟩
  case round =>
    obtain ⟨m, b, G, hmN, hk, rfl, rfl, hb, hrw, hbel⟩ := hrel
    have HK := Lib.hid hk; clear hk
    have hsz := hbel.size
    obtain ⟨wo, hwo⟩ : ∃ wo : World, wo = wr := ⟨_, rfl⟩
    subst hwo
    by_cases hlt : m + 1 < N
    · have hltI : (m : Int) + 1 < (N : Int) := by omega
      have e0 := (hrw.out.1.alloc (.cells (madeCells #[Value.int .i64 0, .int .i64 0, .bool false] (N * 3)) 93)).cell1 (i := m + 1) hlt
      have f0 := (hrw.out.1.alloc (.cells (madeCells #[Value.int .i64 0, .int .i64 0, .bool false] (N * 3)) 93)).frozen (m + 1)
      have w1' : ((m : Int) + 1).toNat = m + 1 := by omega
      simp only [Nat.lt_irrefl, if_false] at e0
      obtain ⟨W2, hW2⟩ : ∃ W2, (wo.alloc (.cells (madeCells #[Value.int .i64 0, .int .i64 0, .bool false] (N * 3)) 93)).setCell ⟨w1.heap.size, m + 1, none⟩ (.slice (some ⟨wo.heap.size, 0, none⟩) N N) = W2 := ⟨_, rfl⟩
      have hgwo := hrw.out.1.lt
      have hRW2 := (hrw.out.alloc (.cells (madeCells #[Value.int .i64 0, .int .i64 0, .bool false] (N * 3)) 93)).add hlt wo.heap.size hgwo
      have hrow := OwnP.made wo 93 #[.int .i64 0, .int .i64 0, .bool false] N (by simp) hNm
      have hrow2 := hrow.far (p := ⟨w1.heap.size, m + 1, none⟩) (by intro x hx; cases hx; show wo.heap.size ≠ w1.heap.size; omega) (.slice (some ⟨wo.heap.size, 0, none⟩) N N)
      have hB2 : Below w1.heap.size w1 W2 := by rw [← hW2]; exact (hbel.alloc hsz _).setCell (by simp) _
      have hGsep : ∀ x, x < m + 1 → G x < wo.heap.size := fun x hx => (hrw.out.row hx).lt
      obtain ⟨G', hG'⟩ : ∃ G' : Nat → Nat, (fun x => if x = m + 1 then wo.heap.size else G x) = G' := ⟨_, rfl⟩
      rw [hG'] at hRW2
      have hGn : G' (m + 1) = wo.heap.size := by rw [← hG']; exact if_pos rfl
      have hGl : ∀ x, x < m + 1 → G' x ≠ wo.heap.size := fun x hx => by
        rw [← hG']
        show (if x = m + 1 then _ else _) ≠ _
        rw [if_neg (by omega)]
        have := hGsep x hx
        omega
      change RWS ((wo.alloc (.cells (madeCells #[Value.int .i64 0, .int .i64 0, .bool false] (N * 3)) 93)).setCell ⟨w1.heap.size, m + 1, none⟩ (.slice (some ⟨wo.heap.size, 0, none⟩) N N)) _ _ _ _ _ _ at hRW2
      change OwnP ((wo.alloc (.cells (madeCells #[Value.int .i64 0, .int .i64 0, .bool false] (N * 3)) 93)).setCell ⟨w1.heap.size, m + 1, none⟩ (.slice (some ⟨wo.heap.size, 0, none⟩) N N)) _ _ _ _ _ _ _ at hrow2
      rw [hW2] at hRW2 hrow2
      have HRW2 := Lib.hid hRW2
      have HROW : Hid (OwnP W2 w1.heap.size 93 3 (some ⟨wo.heap.size, 0, none⟩) N N (fun k q => enc (rowU C (m + 1) (m + 1) k) q)) :=
        (hrow2.mono (base' := w1.heap.size) hsz).congr fun k q _ hq => by
          have e : rowU C (m + 1) (m + 1) k = none := by
            unfold rowU
            by_cases h : k < m + 1
            · rw [if_pos h]; exact Dp.T2_low h
            · rw [if_neg h]
          rw [e]
          match q, hq with
          | 0, _ => rfl
          | 1, _ => rfl
          | 2, _ => rfl
      have HGN := Lib.hid hGn
      have HGL := Lib.hid hGl
      clear hG' hRW2 hrow hrow2 hGn hGl hGsep hrw
      go_wp2_with fail
      try rw [hW2]
      clear hW2 e0 f0
      go_loopg [14] (N - (m + 1)) (fun kk iv wi => ∃ i : Nat, m + 1 ≤ i ∧ i ≤ N ∧ kk = N - i ∧ iv = .int .i64 (i : Int) ∧ Hid (RWS wi w1.heap.size N (m + 1 + 1) (m + 1) G' C) ∧ Hid (OwnP wi w1.heap.size 93 3 (some ⟨wo.heap.size, 0, none⟩) N N (fun k q => enc (rowU C (m + 1) i k) q)) ∧ Below w1.heap.size w1 wi)
      case atStart => exact ⟨m + 1, Nat.le_refl _, by omega, rfl, by first | rfl | go_num, HRW2.out, HROW.out, hB2⟩
      case round =>
        obtain ⟨i, hi0, hiN, hk2, rfl, ir, ig, hbi⟩ := hrel
        have HK2 := Lib.hid hk2; clear hk2
        obtain ⟨wi, hwi⟩ : ∃ wi : World, wi = wr := ⟨_, rfl⟩
        subst hwi
        have hszi := hbi.size
        by_cases hil : i < N
        · have hiI : (i : Int) < (N : Int) := by omega
          have o1 : wi.cell? ⟨w1.heap.size, m + 1, none⟩ = some (.slice (some ⟨wo.heap.size, 0, none⟩) N N) := by
            have := ir.out.outer (x := m + 1) (by omega) hlt
            rwa [HGN.out] at this
          have o0 := ir.out.outer (x := m) (by omega) (by omega)
          have hg1 := ir.out.1.lt
          obtain ⟨X, hX⟩ : ∃ X, Dp.T2 C (m + 1) i = X := ⟨_, rfl⟩
          have HX := Lib.hid hX
          have hstep : Dp.best (Dp.T2 C m) (fun k => lc xs (wof sh m) tol ((stps xs).getD k default) ((stps xs).getD i default)) i = X := by
            rw [← hX, Dp.T2_succ, ← HC.out]
            rfl
          have HSTEP := Lib.hid hstep
          have HWOL := Lib.hid (wol_yes (k := m) HSH.out)
          have wm : IntKind.i64.wrap (m : Int) = (m : Int) := IntWalk.i64_in _ (by omega)
          have hmI : (m : Int) < (N : Int) := by omega
          have hm0I : (0 : Int) ≤ (m : Int) + 1 := by omega
          have hrI := (HR.out.then_ hb1)
          have HRI := Lib.hid (Row.below hrI hbi)
          have HSI := Lib.hid (Row.below (HRS.out.then_ hb1) hbi)
          have HDI := Lib.hid (Row.below HST.out.row hbi)
          have hrowm := Lib.hid (ir.out.row (x := m) (by omega)).row
          clear hX hstep hrI
          go_wp2_with fail
          obtain ⟨Cw, hCw⟩ : ∃ Cw : World → Prop, ∀ w', Cw w' ↔ Below wi.heap.size wi w' := ⟨_, fun _ => Iff.rfl⟩
          have HCC := Lib.hid hCw; clear hCw
          refine region_quiet_tail Cw 20 (by kernel_rfl) (by kernel_rfl) ?_ ?_
          · exact (HCC.out _).2 (Below.refl _ _).drew
          simp only [List.take_succ_cons, List.take_zero, List.drop_succ_cons, List.drop_zero]
          generalize (List.toArray _ : Array Oper) = OPS
          iterate 20
            refine wpQuiet_step (fun K hK => ?_)
            rw [if_pos (by simp [Region.wanted])]
            apply Exists.intro
            refine ⟨fun w' hw' => ?_, hK _ ?_⟩
            · have z0 := (HCC.out _).1 hw'
              have k1 : w'.cell? ⟨w1.heap.size, m + 1, none⟩ = _ := (z0.cell (p := ⟨w1.heap.size, m + 1, none⟩) hg1).trans o1
              have k0 : w'.cell? ⟨w1.heap.size, m, none⟩ = _ := (z0.cell (p := ⟨w1.heap.size, m, none⟩) hg1).trans o0
              go_simp
              first | (with_reducible rfl) | (go_at_call 48; (with_reducible refine (widthOfLine_i _ _ _ (m : Int) sh _ HNS.out hnsm (by omega) ((HSI.out.more hszi).then_ z0)).mono ?_); rintro e w2 ⟨rfl, hb2⟩; rw [HWOL.out]; exact ⟨rfl, (HCC.out _).2 (below_then (Nat.le_refl _) z0 hb2)⟩) | (go_at_call 73; (with_reducible refine ((shapeStep_i _ _ _ n _ N _ _ i (wof sh m) tol xs (stps xs) (Dp.T2 C m) _ HOK.out HN.out hcap (HWB.out m) ((HRI.out.more hszi).then_ z0) HSL.out (by omega) hil ((HDI.out.more hszi).then_ z0) (hrowm.out.then_ z0) (fun k v f h => HTB.out m k v f (by omega) h)).mono fun _ _ h => step_form HSTEP.out h).mono ?_); rintro e w2 ⟨rfl, hb2⟩; exact ⟨rfl, (HCC.out _).2 (below_then (Nat.le_refl _) z0 hb2)⟩)
            clear hK K
            conv => arg 6; simp only [Act.put, List.setIfInBounds_toArray, List.set_cons_succ, List.set_cons_zero]
          refine wpQuiet_nil ?_
          intro w2 hw2
          have hB3 := (HCC.out _).1 hw2
          have hb3 := below_then (Nat.le_refl _) hbi hB3
          have ig2 := ig.out.then_ hB3
          have ir2 := Lib.hid (ir.out.then_ hB3)
          have z0 := ig2.cell (i := i) (q := 0) hil (by omega)
          have z1 := ig2.cell (i := i) (q := 1) hil (by omega)
          have z2 := ig2.cell (i := i) (q := 2) hil (by omega)
          have g0 := ig2.frozen (i * 3)
          have g1 := ig2.frozen (i * 3 + 1)
          have g2 := ig2.frozen (i * 3 + 2)
          simp only [Nat.add_zero] at z0
          have hszw := hb3.size
          have IG2 := Lib.hid ig2
          clear ig2 ig ir
          go_wp2_with fail
          go_roundg (N - (i + 1))
          case measure => have := HK2.out; omega
          case rel =>
            refine ⟨i + 1, by omega, by omega, rfl, by go_num, ?_, ?_, ?_⟩
            · show RWS _ _ _ _ _ _ _
              exact ((ir2.out.far (p := ⟨wo.heap.size, i * 3, none⟩) (by show w1.heap.size ≠ wo.heap.size; omega) (fun x hx => HGL.out x hx) _).far (p := ⟨wo.heap.size, i * 3 + 1, none⟩) (by show w1.heap.size ≠ wo.heap.size; omega) (fun x hx => HGL.out x hx) _).far (p := ⟨wo.heap.size, i * 3 + 2, none⟩) (by show w1.heap.size ≠ wo.heap.size; omega) (fun x hx => HGL.out x hx) _
            · show OwnP _ _ _ _ _ _ _ _
              exact (((IG2.out.set0 (i := i) hil (by omega) _).set_ (i := i) (q := 1) hil (by omega) _).set_ (i := i) (q := 2) hil (by omega) _).congr (rowU_set HX.out)
            · exact ((hb3.setCell (by simp; omega) _).setCell (by simp; omega) _).setCell (by simp; omega) _
        · have eN : i = N := by omega
          have ig' : OwnP wi w1.heap.size 93 3 (some ⟨wo.heap.size, 0, none⟩) N N (fun k q => enc (Dp.T2 C (m + 1) k) q) := ig.out.congr fun k q hk _ => by
            unfold rowU
            rw [if_pos (by omega)]
          have hD := ir.out.done (by rw [HGN.out]; exact ig')
          have hilI : decide ((i : Int) < (N : Int)) = false := decide_eq_false (by omega)
          have hnbN : nb < N := by have := HNN.out; omega
          have hnbI : (nb : Int) < (N : Int) := by omega
          have o1 : wi.cell? ⟨w1.heap.size, m + 1, none⟩ = some (.slice (some ⟨wo.heap.size, 0, none⟩) N N) := by
            have := ir.out.outer (x := m + 1) (by omega) hlt
            rwa [HGN.out] at this
          have y0 := ig'.cell (i := nb) (q := 0) hnbN (by omega)
          have y2 := ig'.cell (i := nb) (q := 2) hnbN (by omega)
          have hm0I : (0 : Int) ≤ (m : Int) + 1 := by omega
          obtain ⟨BL, hBL⟩ : ∃ BL, Dp.bestL (fun l => (Dp.T2 C (l + 1) nb).map Prod.fst) m = BL := ⟨_, rfl⟩
          have hbb := hb.out
          rw [hBL] at hbb
          have hBB : Below w1.heap.size w1 wi := hbi
          rcases hX : Dp.T2 C (m + 1) nb with _ | ⟨v, f⟩
          · rw [hX] at y0 y2
            simp only [enc, Option.getD_none, Option.isSome_none, Nat.add_zero] at y0 y2
            have E := Lib.hid (show bI (Dp.bestL (fun l => (Dp.T2 C (l + 1) nb).map Prod.fst) (m + 1)) = b by rw [Dp.bestL_no (by simp only [hX]; rfl), hBL]; exact hbb)
            have HD := Lib.hid hD
            clear hX hBL hD ig' hbb eN
            go_wp2_with fail
            go_quiet (fail)
            go_wp2_with fail
            go_roundg (N - 1 - (m + 1))
            case measure => have := HK.out; omega
            case rel => exact ⟨m + 1, b, G', by omega, rfl, by go_num, rfl, E.out, (by show RWS _ _ _ _ _ _ _; first | exact HD.out | exact HD.out.drewN _), by (repeat' (first | (with_reducible exact Below.refl _ _) | (with_reducible assumption) | (with_reducible refine Below.alloc ?_ ?_ _) | (with_reducible refine Below.drew ?_) | (with_reducible refine below_drewN ?_ _) | (with_reducible refine Below.setCell ?_ ?_ _) | (with_reducible refine below_then ?_ ?_ (by with_reducible assumption)) | (with_reducible exact Nat.le_refl _) | go_size | (simp only [*]; done)))⟩
          rw [hX] at y0 y2
          simp only [enc, Option.getD_some, Option.isSome_some, Nat.add_zero] at y0 y2
          rcases BL with _ | ⟨bv, l⟩
          · have hb1 : b = -1 := hbb.symm
            subst hb1
            have E := Lib.hid (show bI (Dp.bestL (fun l => (Dp.T2 C (l + 1) nb).map Prod.fst) (m + 1)) = (m : Int) + 1 by rw [Dp.bestL_first (by simp only [hX]; rfl) hBL]; rfl)
            have HD := Lib.hid hD
            clear hX hBL hD ig' hbb eN
            go_wp2_with fail
            go_quiet (fail)
            go_wp2_with fail
            go_roundg (N - 1 - (m + 1))
            case measure => have := HK.out; omega
            case rel => exact ⟨m + 1, (m : Int) + 1, G', by omega, rfl, by go_num, rfl, E.out, (by show RWS _ _ _ _ _ _ _; first | exact HD.out | exact HD.out.drewN _), by (repeat' (first | (with_reducible exact Below.refl _ _) | (with_reducible assumption) | (with_reducible refine Below.alloc ?_ ?_ _) | (with_reducible refine Below.drew ?_) | (with_reducible refine below_drewN ?_ _) | (with_reducible refine Below.setCell ?_ ?_ _) | (with_reducible refine below_then ?_ ?_ (by with_reducible assumption)) | (with_reducible exact Nat.le_refl _) | go_size | (simp only [*]; done)))⟩
          · have hb1 : b = (l : Int) + 1 := hbb.symm
            subst hb1
            obtain ⟨hlm, hl1, _⟩ := Dp.bestL_some _ _ _ hBL
            obtain ⟨kl, hl2⟩ := fst_some hl1
            have oB := ir.out.outer (x := l + 1) (by omega) (by omega)
            have yB := (ir.out.row (x := l + 1) (by omega)).cell (i := nb) (q := 0) hnbN (by omega)
            rw [hl2] at yB
            simp only [enc, Option.getD_some, Nat.add_zero] at yB
            have hlI : decide ((l : Int) + 1 < 0) = false := decide_eq_false (by omega)
            have hl0I : (0 : Int) ≤ (l : Int) + 1 := by omega
            have hlNI : (l : Int) + 1 < (N : Int) := by omega
            have hlN : ((l : Int) + 1).toNat = l + 1 := by omega
            by_cases hless : v < bv
            · have hd := decide_eq_true hless
              have E := Lib.hid (show bI (Dp.bestL (fun l => (Dp.T2 C (l + 1) nb).map Prod.fst) (m + 1)) = (m : Int) + 1 by rw [Dp.bestL_less (by simp only [hX]; rfl) hBL hless]; rfl)
              have HD := Lib.hid hD
              clear hX hBL hD ig' hbb eN hl1 hl2 hless
              go_wp2_with fail
              go_quiet (fail)
              go_wp2_with fail
              go_roundg (N - 1 - (m + 1))
              case measure => have := HK.out; omega
              case rel => exact ⟨m + 1, (m : Int) + 1, G', by omega, rfl, by go_num, rfl, E.out, (by show RWS _ _ _ _ _ _ _; first | exact HD.out | exact HD.out.drewN _), by (repeat' (first | (with_reducible exact Below.refl _ _) | (with_reducible assumption) | (with_reducible refine Below.alloc ?_ ?_ _) | (with_reducible refine Below.drew ?_) | (with_reducible refine below_drewN ?_ _) | (with_reducible refine Below.setCell ?_ ?_ _) | (with_reducible refine below_then ?_ ?_ (by with_reducible assumption)) | (with_reducible exact Nat.le_refl _) | go_size | (simp only [*]; done)))⟩
            · have hd := decide_eq_false hless
              have E := Lib.hid (show bI (Dp.bestL (fun l => (Dp.T2 C (l + 1) nb).map Prod.fst) (m + 1)) = (l : Int) + 1 by rw [Dp.bestL_keep (by simp only [hX]; rfl) hBL hless]; rfl)
              have HD := Lib.hid hD
              clear hX hBL hD ig' hbb eN hl1 hl2 hless
              go_wp2_with fail
              go_quiet (fail)
              go_wp2_with fail
              go_roundg (N - 1 - (m + 1))
              case measure => have := HK.out; omega
              case rel => exact ⟨m + 1, (l : Int) + 1, G', by omega, rfl, by go_num, rfl, E.out, (by show RWS _ _ _ _ _ _ _; first | exact HD.out | exact HD.out.drewN _), by (repeat' (first | (with_reducible exact Below.refl _ _) | (with_reducible assumption) | (with_reducible refine Below.alloc ?_ ?_ _) | (with_reducible refine Below.drew ?_) | (with_reducible refine below_drewN ?_ _) | (with_reducible refine Below.setCell ?_ ?_ _) | (with_reducible refine below_then ?_ ?_ (by with_reducible assumption)) | (with_reducible exact Nat.le_refl _) | go_size | (simp only [*]; done)))⟩
    · have em : m = nb := by have := HNN.out; omega
      have hrN : RWS wo w1.heap.size N N N G C := by
        have h := hrw.out
        rw [show m + 1 = N by omega] at h
        exact h
      have hltI : decide ((m : Int) + 1 < (N : Int)) = false := decide_eq_false (by omega)
      obtain ⟨BL, hBL⟩ : ∃ BL, Dp.bestL (fun l => (Dp.T2 C (l + 1) nb).map Prod.fst) nb = BL := ⟨_, rfl⟩
      have hbb := hb.out
      rw [em, hBL] at hbb
      have hB3 : Below w.heap.size w wo := below_then (Nat.le_refl _) hb1 hbel
      rcases BL with _ | ⟨v, l⟩
      · have hb1' : b = -1 := hbb.symm
        subst hb1'
        have E := Lib.hid (pathS_none (f := fun i => (stps xs).getD i default) hBL)
        clear hBL hbb hrN em
        go_wp2_with fail
        (first | go_returns | (refine bodyPost_ret (by simp [results, Try.results41, go_sem, *]; try rfl) rfl ?_))
        rw [E.out]
        exact ⟨none, 0, rfl, ownI_none _ _, hB3⟩
      · have hb1' : b = (l : Int) + 1 := hbb.symm
        subst hb1'
        obtain ⟨P, hP⟩ : ∃ P, (Dp.path2 C (l + 1) nb).map (fun i => (stps xs).getD i default) = P := ⟨_, rfl⟩
        have E := Lib.hid ((pathS_some (f := fun i => (stps xs).getD i default) hBL).trans (by rw [hP]))
        obtain ⟨hlm, hl1, _⟩ := Dp.bestL_some _ _ _ hBL
        obtain ⟨kl, hl2⟩ := fst_some hl1
        have hPl : P.length = l + 1 := by rw [← hP, List.length_map]; exact Dp.path2_len _ _ (by rw [hl2]; intro e; cases e)
        have hlI : decide ((l : Int) + 1 < 0) = false := decide_eq_false (by omega)
        have hl0I : (0 : Int) ≤ (l : Int) + 1 := by omega
        have hlN1 : l + 1 < N := by omega
        have hlNI : (l : Int) + 1 < (N : Int) := by omega
        have hlN : ((l : Int) + 1).toNat = l + 1 := by omega
        have hnbN : nb < N := by omega
        have hnbI : (nb : Int) < (N : Int) := by omega
        have hmk := make_n (P := Try.prog) 24 3 j0 _ Try.underlying24 ji jz0 (l + 1) (by rw [jz2]; omega) (by omega)
        rw [jz1] at hmk
        simp only [Int.natCast_add, Int.cast_ofNat_Int, Nat.mul_one] at hmk
        have hown : OwnP (wo.alloc (.cells (madeCells #[.int .i64 0] (l + 1)) 3)) wo.heap.size 3 1 (some ⟨wo.heap.size, 0, none⟩) (l + 1) (l + 1) (fromB P (l + 1)) :=
          (made1 wo 3 (.int .i64 0) (l + 1) (by unfold maxLen; omega)).congr fun i q hi' _ => by
            unfold fromB
            rw [if_neg (by omega)]
        have HO := Lib.hid hown
        have HRN := Lib.hid (hrN.alloc (.cells (madeCells #[.int .i64 0] (l + 1)) 3))
        have HSEP : Hid (∀ x, x < N → G x < wo.heap.size) := fun x hx => (hrN.row hx).lt
        have hgo := hrN.1.lt
        have hB4 : Below w1.heap.size w1 (wo.alloc (.cells (madeCells #[.int .i64 0] (l + 1)) 3)) := hbel.alloc hsz _
        have HPP : Hid ((Dp.path2 C (l + 1) nb).map (fun i => (stps xs).getD i default) = P.take (l + 1)) := by show _ = _; rw [hP, List.take_of_length_le (by omega)]
        have HT := Lib.hid hl2
        have HPL := Lib.hid hPl
        clear hBL hbb hrN em hl1 hl2 hP hPl hown
        go_wp2_with fail
        go_loopg [16, 17] (l + 1) (fun k nv iv wi => ∃ (p q : Nat), k = p ∧ p ≤ l + 1 ∧ nv = .int .i64 (p : Int) ∧ iv = .int .i64 (q : Int) ∧ q ≤ nb ∧ Hid (∃ u f, Dp.T2 C p q = some (u, f)) ∧ Hid ((Dp.path2 C p q).map (fun i => (stps xs).getD i default) = P.take p) ∧ Hid (OwnP wi wo.heap.size 3 1 (some ⟨wo.heap.size, 0, none⟩) (l + 1) (l + 1) (fromB P p)) ∧ Hid (RWS wi w1.heap.size N N N G C) ∧ Below w1.heap.size w1 wi)
        case atStart => exact ⟨l + 1, nb, rfl, Nat.le_refl _, by go_num, rfl, Nat.le_refl _, ⟨v, kl, HT.out⟩, HPP.out, HO.out, HRN.out, hB4⟩
        case round =>
          obtain ⟨p, q, hk2, hp, rfl, rfl, hq, htb, hpath, hown, hrN, hbi⟩ := hrel
          have HK2 := Lib.hid hk2; clear hk2
          have hszi := hbi.size
          rcases p with _ | p
          · have hfin := (hown.out.congr (f' := fun i _ => .int .i64 (P.getD i default)) fun i q _ _ => by
              unfold fromB
              rw [if_pos (Nat.zero_le _)]).toI HPL.out
            have HF := Lib.hid hfin
            have oB := hrN.out.outer (x := l + 1) (by omega) (by omega)
            have yB := (hrN.out.row (x := l + 1) (by omega)).cell (i := nb) (q := 0) hnbN (by omega)
            rw [HT.out] at yB
            simp only [enc, Option.getD_some, Nat.add_zero] at yB
            have hB5 : Below w.heap.size w wr := below_then (Nat.le_refl _) hb1 hbi
            clear hfin htb hpath hown hrN
            go_wp2_with fail
            go_quiet (fail)
            go_wp2_with fail
            (first | go_returns | (refine bodyPost_ret (by simp [results, Try.results41, go_sem, *]; try rfl) rfl ?_))
            refine ⟨some ⟨wo.heap.size, 0, none⟩, l + 1, by rw [E.out]; show _ = Ending.returned (.tuple #[.slice (some ⟨wo.heap.size, 0, none⟩) P.length (l + 1), .int .i64 v, .bool true]); rw [HPL.out]; rfl, ?_, by (repeat' (first | (with_reducible exact Below.refl _ _) | (with_reducible assumption) | (with_reducible refine Below.alloc ?_ ?_ _) | (with_reducible refine Below.drew ?_) | (with_reducible refine below_drewN ?_ _) | (with_reducible refine Below.setCell ?_ ?_ _) | (with_reducible refine below_then ?_ ?_ (by with_reducible assumption)) | (with_reducible exact Nat.le_refl _) | go_size | (simp only [*]; done)))⟩
            rw [E.out]
            show OwnI _ w.heap.size _ P.length _ P
            rw [HPL.out]
            have hm := OwnI.mono HF.out hB3.size
            first | exact hm | exact OwnI.drewN hm _
          · obtain ⟨u, f, hug⟩ := htb.out
            obtain ⟨hkq, u', f', s, hug2, _, _⟩ := Dp.T2_some hug
            have hpp := hpath.out
            rw [Dp.path2_succ hug, List.map_append] at hpp
            obtain ⟨hp1, hp2⟩ := take_snoc hpp (by rw [List.length_map]; exact Dp.path2_len _ _ (by rw [hug2]; intro e; cases e))
            obtain ⟨x, hx⟩ : ∃ x, (stps xs).getD q default = x := ⟨_, rfl⟩
            have hp2' : P.getD p default = x := by rw [hp2]; exact hx
            obtain ⟨bD, oD, hD0, hbD, hcD⟩ := HST.out.row.at1 (by omega)
            have c0 : wr.cell? ⟨bD, oD + q, none⟩ = _ := (hbi.cell (p := ⟨bD, oD + q, none⟩) hbD).trans (hcD q (by omega))
            subst hD0
            simp only [inc, hx] at c0
            have hqI : (q : Int) < (N : Int) := by omega
            have hp0I : (0 : Int) < (p : Int) + 1 := by omega
            have hp0I' : (0 : Int) ≤ (p : Int) + 1 := by omega
            have hpNI : (p : Int) + 1 < (N : Int) := by omega
            have hplI : (p : Int) < (l : Int) + 1 := by omega
            have hpT : ((p : Int) + 1).toNat = p + 1 := by omega
            have wp : IntKind.i64.wrap (p : Int) = (p : Int) := IntWalk.i64_in _ (by omega)
            have z0 := hown.out.cell1 (i := p) (by omega)
            have z1 := hown.out.frozen p
            have hrN2 := hrN.out.far (p := ⟨wo.heap.size, p, none⟩) (by show w1.heap.size ≠ wo.heap.size; omega) (fun y hy => by have := HSEP.out y hy; show G y ≠ wo.heap.size; omega) (.int .i64 x)
            have hgo2 := hown.out.lt
            have k1 := hrN2.outer (x := p + 1) (by omega) (by omega)
            have k2 := (hrN2.row (x := p + 1) (by omega)).cell (i := q) (q := 1) (by omega) (by omega)
            rw [hug] at k2
            simp only [enc, Option.getD_some] at k2
            have HRN2 := Lib.hid hrN2
            have HOW := Lib.hid ((hown.out.set1 (i := p) (by omega) (.int .i64 x)).congr (fromB_set hp2'))
            have HP1 := Lib.hid hp1
            have HUG := Lib.hid hug2
            clear hx hcD hug hug2 hpp hp1 hp2 hp2' htb hpath hown hrN hrN2
            go_wp2_with fail
            go_roundg p
            case measure => have := HK2.out; omega
            case rel =>
              refine ⟨p, f, rfl, by omega, by go_num, rfl, by omega, ⟨u', f', HUG.out⟩, HP1.out, ?_, ?_, ?_⟩
              · show OwnP _ _ _ _ _ _ _ _
                exact HOW.out
              · show RWS _ _ _ _ _ _ _
                exact HRN2.out
              · exact hbi.setCell (by simp; omega) _
end Go.Proofs.Ytkmipgekmbngcaa
