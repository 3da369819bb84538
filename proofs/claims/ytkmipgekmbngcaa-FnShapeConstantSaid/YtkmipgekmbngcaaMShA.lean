/- Words that all proofs of this seat share: a range test; rows of cells in memory; the two range functions of the program and of the reference return what the test says. No condition. -/
import Derived.Test.YtkmipgekmbngcaaRows
import Derived.WalkKit
import Derived.WalkSpells
import Derived.WalkLawsBesides
import Derived.Handy
import Derived.Lib.Hide
import Derived.Deep.LoopGhost
import Derived.Deep.OwnRows
import Derived.Deep.RegionHeld3
namespace Go.Proofs.Ytkmipgekmbngcaa
open Go.RowKit

theorem own : ownKnob Try.prog.godebug = none := by kernel_rfl
theorem laidOut : laidOutB Try.prog = true := by kernel_rfl

/-- A number lies in a range. -/
def inR (a l h : Int) : Bool := decide (l ≤ a) && decide (a ≤ h)
theorem inR_iff {a l h : Int} : inR a l h = true ↔ l ≤ a ∧ a ≤ h := by simp [inR]
theorem inR_no {a l h : Int} : inR a l h = false ↔ (a < l ∨ h < a) := by
  simp only [inR, Bool.and_eq_false_iff, decide_eq_false_iff_not]; omega
theorem inR_mk {a l h : Int} (h1 : l ≤ a) (h2 : a ≤ h) : inR a l h = true := inR_iff.2 ⟨h1, h2⟩

theorem ret_int {k : IntKind} {a b : Int} (h : a = b) : Ending.returned (.int k a) = .returned (.int k b) := by rw [h]
theorem ret_bool {a b : Bool} (h : a = b) : Ending.returned (.bool a) = .returned (.bool b) := by rw [h]

theorem bcell {W w1 : World} {B : Nat} (hb : Below B W w1) : (∀ b o, b < B → w1.cell? ⟨b, o, none⟩ = W.cell? ⟨b, o, none⟩) ∧ (∀ b o, b < B → w1.frozen? ⟨b, o, none⟩ = W.frozen? ⟨b, o, none⟩) :=
  ⟨fun b o h => hb.cell (p := ⟨b, o, none⟩) h, fun b o h => hb.frozen (p := ⟨b, o, none⟩) h⟩
theorem below_then {B : Nat} {w w1 w2 : World} (hB : B ≤ w.heap.size) (h1 : Below B w w1) (h2 : Below w1.heap.size w1 w2) : Below B w w2 := h1.trans (h2.mono (Nat.le_trans hB h1.size))
theorem below_drewN {B : Nat} {a w : World} (h : Below B a w) (n : Nat) : Below B a (w.drewN n) := ⟨h.os, h.tape, h.output, h.size, h.block⟩

/-- Block g is known whole: the cells cs of type t, none frozen. -/
def Blk (w : World) (g : Nat) (t : TypeId) (cs : Array Value) : Prop := w.heap[g]? = some (.cells cs t (0, 0))
section
variable {w w' : World} {g : Nat} {t : TypeId} {cs : Array Value}
theorem Blk.lt (h : Blk w g t cs) : g < w.heap.size := (Array.getElem?_eq_some_iff.1 h).1
theorem Blk.cell (h : Blk w g t cs) (i : Nat) : w.cell? ⟨g, i, none⟩ = cs[i]? := cell_of_row w g i cs t (0, 0) h
theorem Blk.frozen (h : Blk w g t cs) (i : Nat) : w.frozen? ⟨g, i, none⟩ = false := by
  unfold Blk at h
  simp [World.frozen?, h]
theorem Blk.new (w : World) (t : TypeId) (cs : Array Value) : Blk (w.alloc (.cells cs t)) w.heap.size t cs := heap_alloc_new w _
theorem Blk.new_at (w : World) (t : TypeId) (cs : Array Value) (g : Nat) (h : g = w.heap.size) : Blk (w.alloc (.cells cs t)) g t cs := h ▸ heap_alloc_new w _
theorem Blk.drew (h : Blk w g t cs) : Blk w.drew g t cs := h
theorem Blk.drewN (h : Blk w g t cs) (n : Nat) : Blk (w.drewN n) g t cs := h
theorem Blk.alloc (h : Blk w g t cs) (o : Obj) : Blk (w.alloc o) g t cs := (Below.heap_alloc w o g h.lt).trans h
theorem Blk.set_ (h : Blk w g t cs) (i : Nat) (u : Value) : Blk (w.setCell ⟨g, i, none⟩ u) g t (cs.setIfInBounds i u) := by
  unfold Blk at h ⊢
  simp [World.setCell, Array.getElem?_modify, h]
theorem Blk.far (h : Blk w g t cs) {p : Addr} (hp : g ≠ p.block) (u : Value) : Blk (w.setCell p u) g t cs := (Below.heap_setCell w p u g hp).trans h
theorem Blk.below {B : Nat} (h : Blk w g t cs) (hb : Below B w w') (hg : g < B) : Blk w' g t cs := (hb.block g hg).trans h
theorem Blk.then_ (h : Blk w g t cs) (hb : Below w.heap.size w w') : Blk w' g t cs := h.below hb h.lt
theorem Blk.grown {row : Option Nat} (h : Blk w g t cs) (hb : w.grownBy w' row) (hg : some g ≠ row) : Blk w' g t cs := (hb.block g h.lt hg).trans h
theorem Blk.eq (h : Blk w g t cs) {cs' : Array Value} (e : cs = cs') : Blk w g t cs' := e ▸ h
end

/-- A slice of n elements, sz cells each, that lies below block B: cell j of element i holds 'f i j'. -/
def Row (w : World) (B sz : Nat) (A : Option Addr) (n : Nat) (f : Nat → Nat → Value) : Prop :=
  0 < n → ∃ b off, A = some ⟨b, off, none⟩ ∧ b < B ∧ ∀ i j, i < n → j < sz → w.cell? ⟨b, off + i * sz + j, none⟩ = some (f i j)

section
variable {w w' : World} {B B' sz n : Nat} {A : Option Addr} {f : Nat → Nat → Value}
theorem Row.nil : Row w B sz A 0 f := fun h => absurd h (by omega)
theorem Row.keep (h : Row w B sz A n f) (hk : ∀ p : Addr, p.block < B → w'.cell? p = w.cell? p) : Row w' B sz A n f := fun hn => by
  obtain ⟨b, off, e, hb, hc⟩ := h hn
  exact ⟨b, off, e, hb, fun i j hi hj => (hk _ hb).trans (hc i j hi hj)⟩
theorem Row.more (h : Row w B sz A n f) (hB : B ≤ B') : Row w B' sz A n f := fun hn => by
  obtain ⟨b, off, e, hb, hc⟩ := h hn
  exact ⟨b, off, e, by omega, hc⟩
theorem Row.below (h : Row w B sz A n f) (hb : Below B w w') : Row w' B sz A n f := h.keep fun _ hp => hb.cell hp
theorem Row.grown (h : Row w B sz A n f) {row : Option Nat} (hg : w.grownBy w' row) (hB : B ≤ w.heap.size) (hr : ∀ g, row = some g → B ≤ g) : Row w' B sz A n f :=
  h.keep fun p hp => World.cell?_of_block (hg.block p.block (by omega) (fun e => by have := hr _ e.symm; omega))
theorem Row.congr (h : Row w B sz A n f) {g : Nat → Nat → Value} (e : ∀ i j, i < n → j < sz → f i j = g i j) : Row w B sz A n g := fun hn => by
  obtain ⟨b, off, ea, hb, hc⟩ := h hn
  exact ⟨b, off, ea, hb, fun i j hi hj => (hc i j hi hj).trans (by rw [e i j hi hj])⟩
theorem Row.then_ (h : Row w w.heap.size sz A n f) (hb : Below w.heap.size w w') : Row w' w'.heap.size sz A n f := (h.below hb).more hb.size
theorem Row.alloc' (h : Row w w.heap.size sz A n f) (o : Obj) : Row (w.alloc o) (w.alloc o).heap.size sz A n f := h.then_ ((Below.refl _ _).alloc (Nat.le_refl _) o)
/-- The first k elements. -/
theorem Row.init (h : Row w B sz A n f) {k : Nat} (hk : k ≤ n) : Row w B sz A k f := fun hn => by
  obtain ⟨b, off, e, hb, hc⟩ := h (by omega)
  exact ⟨b, off, e, hb, fun i j hi hj => hc i j (by omega) hj⟩
end

/-- Block g is a row of the call's own: at least n elements of sz cells each, of element type t, none frozen; cell q of element i holds 'f i q'. -/
def Own (w : World) (g : Nat) (t : TypeId) (sz n : Nat) (f : Nat → Nat → Value) : Prop :=
  ∃ cs : Array Value, w.heap[g]? = some (.cells cs t (0, 0)) ∧ n * sz ≤ cs.size ∧ ∀ i q, i < n → q < sz → cs[i * sz + q]? = some (f i q)
theorem pos_inj {sz i q i' q' : Nat} (hq : q < sz) (hq' : q' < sz) (h : i * sz + q = i' * sz + q') : i = i' ∧ q = q' := by
  have h1 : i = i' := by
    have e : (i * sz + q) / sz = (i' * sz + q') / sz := by rw [h]
    rw [Nat.mul_comm, Nat.mul_comm i', Nat.mul_add_div (by omega), Nat.mul_add_div (by omega), Nat.div_eq_of_lt hq, Nat.div_eq_of_lt hq'] at e
    omega
  subst h1
  exact ⟨rfl, by omega⟩
section
variable {w w' : World} {g sz n : Nat} {t : TypeId} {f : Nat → Nat → Value}
theorem Own.lt (h : Own w g t sz n f) : g < w.heap.size := by
  obtain ⟨cs, hc, _⟩ := h
  exact (Array.getElem?_eq_some_iff.1 hc).1
theorem Own.keep (h : Own w g t sz n f) (hk : w'.heap[g]? = w.heap[g]?) : Own w' g t sz n f := by
  obtain ⟨cs, hc, hr⟩ := h
  exact ⟨cs, hk.trans hc, hr⟩
theorem Own.cell (h : Own w g t sz n f) {i q : Nat} (hi : i < n) (hq : q < sz) : w.cell? ⟨g, i * sz + q, none⟩ = some (f i q) := by
  obtain ⟨cs, hc, _, hr⟩ := h
  rw [cell_of_row w g _ cs t (0, 0) hc, hr i q hi hq]
theorem Own.cell1 (h : Own w g t 1 n f) {i : Nat} (hi : i < n) : w.cell? ⟨g, i, none⟩ = some (f i 0) := by
  have := h.cell hi (q := 0) (by omega)
  rwa [Nat.mul_one, Nat.add_zero] at this
theorem Own.frozen (h : Own w g t sz n f) (k : Nat) : w.frozen? ⟨g, k, none⟩ = false := by
  obtain ⟨cs, hc, _⟩ := h
  simp [World.frozen?, hc]
theorem Own.row (h : Own w g t sz n f) : Row w w.heap.size sz (some ⟨g, 0, none⟩) n f := fun _ =>
  ⟨g, 0, rfl, h.lt, fun i q hi hq => by rw [Nat.zero_add]; exact h.cell hi hq⟩
theorem Own.alloc (h : Own w g t sz n f) (o : Obj) : Own (w.alloc o) g t sz n f := h.keep (Below.heap_alloc w o g h.lt)
theorem Own.drew (h : Own w g t sz n f) : Own w.drew g t sz n f := h
theorem Own.drewN (h : Own w g t sz n f) (k : Nat) : Own (w.drewN k) g t sz n f := h
theorem Own.far (h : Own w g t sz n f) {p : Addr} (hp : g ≠ p.block) (u : Value) : Own (w.setCell p u) g t sz n f := h.keep (Below.heap_setCell w p u g hp)
theorem Own.below {B : Nat} (h : Own w g t sz n f) (hb : Below B w w') (hg : g < B) : Own w' g t sz n f := h.keep (hb.block g hg)
theorem Own.then_ (h : Own w g t sz n f) (hb : Below w.heap.size w w') : Own w' g t sz n f := h.below hb h.lt
theorem Own.grown {row : Option Nat} (h : Own w g t sz n f) (hb : w.grownBy w' row) (hg : some g ≠ row) : Own w' g t sz n f := h.keep (hb.block g h.lt hg)
theorem Own.congr (h : Own w g t sz n f) {f' : Nat → Nat → Value} (e : ∀ i q, i < n → q < sz → f i q = f' i q) : Own w g t sz n f' := by
  obtain ⟨cs, hc, hs, hr⟩ := h
  exact ⟨cs, hc, hs, fun i q hi hq => (hr i q hi hq).trans (by rw [e i q hi hq])⟩
theorem Own.set_ (h : Own w g t sz n f) {i q : Nat} (hi : i < n) (hq : q < sz) (u : Value) :
    Own (w.setCell ⟨g, i * sz + q, none⟩ u) g t sz n (fun i' q' => if i' = i ∧ q' = q then u else f i' q') := by
  obtain ⟨cs, hc, hs, hr⟩ := h
  have hlt : i * sz + q < cs.size := by
    have : (i + 1) * sz ≤ n * sz := Nat.mul_le_mul_right _ hi
    rw [Nat.add_mul] at this
    omega
  refine ⟨cs.setIfInBounds (i * sz + q) u, by simp [World.setCell, Array.getElem?_modify, hc], by simpa using hs, fun i' q' hi' hq' => ?_⟩
  rw [Array.getElem?_setIfInBounds]
  by_cases e : i' = i ∧ q' = q
  · obtain ⟨rfl, rfl⟩ := e
    simp [hlt]
  · rw [if_neg (fun he => e (pos_inj hq' hq he.symm))]
    show _ = some (if _ then _ else _)
    rw [if_neg e]
    exact hr i' q' hi' hq'
theorem Own.set0 (h : Own w g t sz n f) {i : Nat} (hi : i < n) (hq : 0 < sz) (u : Value) :
    Own (w.setCell ⟨g, i * sz, none⟩ u) g t sz n (fun i' q' => if i' = i ∧ q' = 0 then u else f i' q') := h.set_ hi hq u
theorem Own.set1 (h : Own w g t 1 n f) {i : Nat} (hi : i < n) (u : Value) :
    Own (w.setCell ⟨g, i, none⟩ u) g t 1 n (fun i' q' => if i' = i ∧ q' = 0 then u else f i' q') := by
  have := h.set0 hi (by omega) u
  rwa [Nat.mul_one] at this
theorem Own.made (w : World) (t : TypeId) (z : Array Value) (n : Nat) (_hz : 0 < z.size) : Own (w.alloc (.cells (madeCells z (n * z.size)) t)) w.heap.size t z.size n (fun _ q => z[q]!) := by
  refine ⟨_, heap_alloc_new w _, by simp [madeCells], fun i q hi hq => ?_⟩
  have hlt : i * z.size + q < n * z.size := by
    have : (i + 1) * z.size ≤ n * z.size := Nat.mul_le_mul_right _ hi
    rw [Nat.add_mul] at this
    omega
  simp only [madeCells]
  rw [Array.getElem?_map, Array.getElem?_range, if_pos hlt]
  simp only [Option.map_some]
  rw [Nat.mul_comm, Nat.mul_add_mod, Nat.mod_eq_of_lt hq]
end
/-- make([]T, n). -/
theorem make_n {P : Program} (t e : TypeId) (i : TypeInfo) (z : Value) (ht : P.underlying t = some (.slice e)) (hi : P.info? e = some i) (hz : i.zero = some z) (n : Nat) (hb : i.bytes * n ≤ 281474976710656) (hn : n ≤ 9223372036854775807) (w : World) :
    (Instr.makeSlice t (.int .i64 (n : Int)) (.int .i64 (n : Int))).run P w = .ok (.slice (some ⟨w.heap.size, 0, none⟩) n n) (w.alloc (.cells (madeCells z.cells (n * i.size)) e)) := by
  have h : (i.bytes : Int) * (n : Int) ≤ 281474976710656 := by
    have h : ((i.bytes * n : Nat) : Int) ≤ 281474976710656 := by omega
    rwa [Int.natCast_mul] at h
  have hr := run_make (P := P) w t e i z ht hi hz .i64 .i64 n n (by omega) (Int.le_refl _) h (by omega)
  simpa only [Int.toNat_natCast] using hr

/-- A row of one-cell elements, in the walk's spelling. -/
theorem Row.at1 {w : World} {B n : Nat} {A : Option Addr} {f : Nat → Nat → Value} (h : Row w B 1 A n f) (hn : 0 < n) : ∃ b off, A = some ⟨b, off, none⟩ ∧ b < B ∧ ∀ i, i < n → w.cell? ⟨b, off + i, none⟩ = some (f i 0) := by
  obtain ⟨b, off, e, hb, hc⟩ := h hn
  refine ⟨b, off, e, hb, fun i hi => ?_⟩
  have := hc i 0 hi (by omega)
  rwa [Nat.mul_one, Nat.add_zero] at this

/-- From 'for every i < n there is one' to one list. -/
theorem list_of {α : Type} [Inhabited α] (n : Nat) (P : Nat → α → Prop) (h : ∀ i, i < n → ∃ x, P i x) : ∃ xs : List α, xs.length = n ∧ ∀ i, i < n → P i (xs.getD i default) := by
  induction n with
  | zero => exact ⟨[], rfl, fun i hi => by omega⟩
  | succ n ih =>
    obtain ⟨xs, hl, hx⟩ := ih fun i hi => h i (by omega)
    obtain ⟨x, hp⟩ := h n (by omega)
    refine ⟨xs ++ [x], by simp [hl], fun i hi => ?_⟩
    rcases Nat.lt_or_ge i n with hlt | hge
    · have := hx i hlt
      rw [List.getD_eq_getElem?_getD] at this ⊢
      rwa [List.getElem?_append_left (by omega)]
    · obtain rfl : i = n := by omega
      rw [List.getD_eq_getElem?_getD, List.getElem?_append_right (by omega), hl]
      simpa using hp

/-- A slice of bytes that came in. -/
def Code (w : World) (A : Option Addr) (n cap : Nat) (xs : List Int) : Prop :=
  n ≤ maxLen ∧ n ≤ cap ∧ cap ≤ maxLen ∧ (∀ x ∈ xs, 0 ≤ x ∧ x ≤ 255) ∧ Row w w.heap.size 1 A n (fun i _ => .int .u8 (xs.getD i 0))
theorem Code.then_ {w w' : World} {A : Option Addr} {n cap : Nat} {xs : List Int} (h : Code w A n cap xs) (hb : Below w.heap.size w w') : Code w' A n cap xs :=
  ⟨h.1, h.2.1, h.2.2.1, h.2.2.2.1, h.2.2.2.2.then_ hb⟩

theorem within_any (a l h : Int) (w : World) :
    Calls Try.prog 40 #[.int .i64 a, .int .i64 l, .int .i64 h] w fun e w' => e = .returned (.bool (inR a l h)) ∧ w = w' := by
  by_cases hl : l ≤ a <;> by_cases hh : a ≤ h
  all_goals
    have e : inR a l h = (decide (l ≤ a) && decide (a ≤ h)) := rfl
    simp only [hl, hh, decide_true, decide_false, Bool.true_and, Bool.false_and, Bool.and_true] at e
    rw [e]; clear e
    go_enter Try.func40, Try.ntmps40
    go_wp2
    go_ret
    exact ⟨rfl, rfl⟩
theorem inRange_any (a l h : Int) (w : World) :
    Calls Try.prog 44 #[.int .i64 a, .int .i64 l, .int .i64 h] w fun e w' => e = .returned (.bool (inR a l h)) ∧ w = w' := by
  by_cases hl : l ≤ a <;> by_cases hh : a ≤ h
  all_goals
    have e : inR a l h = (decide (l ≤ a) && decide (a ≤ h)) := rfl
    simp only [hl, hh, decide_true, decide_false, Bool.true_and, Bool.false_and, Bool.and_true] at e
    rw [e]; clear e
    go_enter Try.func44, Try.ntmps44
    go_wp2
    go_ret
    exact ⟨rfl, rfl⟩
end Go.Proofs.Ytkmipgekmbngcaa
/- Plain lemmas on lists that all proofs of this seat share: a list that grows by one element, a test of all elements. No program. No condition. -/
namespace Go.Proofs.Ytkmipgekmbngcaa

theorem all_end {α : Type} {p : α → Bool} {xs : List α} {n j : Nat} (hn : xs.length = n) (hj : n ≤ j) (h : (xs.take j).all p = true) : xs.all p = true := by
  rwa [List.take_of_length_le (by omega)] at h
section
variable {α : Type} [Inhabited α] {p : α → Bool} {xs : List α} {n j : Nat} {x : α}
theorem tk_snoc (l : List α) (k : Nat) (h : k < l.length) : l.take (k + 1) = l.take k ++ [l.getD k default] := by
  rw [List.take_succ_eq_append_getElem h, List.getD_eq_getElem?_getD, List.getElem?_eq_getElem h]; rfl
theorem tk_snoc' (hn : xs.length = n) (hj : j < n) (hx : xs.getD j default = x) : xs.take (j + 1) = xs.take j ++ [x] := by
  rw [tk_snoc xs j (by omega), hx]
theorem mem_of_getD (hn : xs.length = n) (hj : j < n) (hx : xs.getD j default = x) : x ∈ xs := by
  rw [← hx, List.getD_eq_getElem?_getD, List.getElem?_eq_getElem (by omega)]
  exact List.getElem_mem _
theorem all_more (hn : xs.length = n) (hj : j < n) (hx : xs.getD j default = x) (h : (xs.take j).all p = true) (hv : p x = true) : (xs.take (j + 1)).all p = true := by
  rw [tk_snoc' hn hj hx, List.all_append, h]
  simp [hv]
theorem all_bad (hn : xs.length = n) (hj : j < n) (hx : xs.getD j default = x) (hv : p x = false) : xs.all p = false := by
  rw [List.all_eq_false]
  exact ⟨x, mem_of_getD hn hj hx, by simp [hv]⟩
theorem all_at (h : xs.all p = true) (hn : xs.length = n) (hj : j < n) (hx : xs.getD j default = x) : p x = true :=
  List.all_eq_true.1 h x (mem_of_getD hn hj hx)
end
theorem sum_snoc (l : List Int) (x : Int) : (l ++ [x]).sum = l.sum + x := by simp
theorem getD_int (xs : List Int) (j : Nat) : xs.getD j default = xs.getD j 0 := rfl
theorem sum_bound {l : List Int} {a b : Int} (h : ∀ x ∈ l, a ≤ x ∧ x ≤ b) : a * l.length ≤ l.sum ∧ l.sum ≤ b * l.length := by
  induction l with
  | nil => simp
  | cons x r ih =>
    obtain ⟨h1, h2⟩ := ih fun y hy => h y (List.mem_cons_of_mem _ hy)
    obtain ⟨h3, h4⟩ := h x (List.mem_cons_self ..)
    simp only [List.sum_cons, List.length_cons, Int.natCast_add, Int.natCast_one, Int.mul_add, Int.mul_one]
    omega
def has (xs : List Int) (x : Int) : Bool := xs.any fun y => y == x
theorem has_iff {xs : List Int} {x : Int} : has xs x = true ↔ x ∈ xs := by simp [has]
end Go.Proofs.Ytkmipgekmbngcaa
/- append of one element to a slice that the call itself has made, in one form; what such a slice reads as. No condition beyond the sizes. -/
namespace Go.Proofs.Ytkmipgekmbngcaa
open Go.RowKit

/-- append(s, x), s nil or the call's own, x one element: the value is known to be no nil slice. -/
theorem wpList_append_one {P : Program} (w : World) {ops : Array Oper} {rest : List Oper} {o : Oper} {a : Act} {Q : Exit → Act → World → Prop} (hgd : o.guard = none) (s x : Operand) (t : TypeId)
    (ho : o.op = .call { callee := .builtin .append, args := #[s, x], argTypes := #[t, t] })
    (base : Nat) (e : TypeId) (i : TypeInfo) (z : Value) (size bytes : Nat) (ht : P.underlying t = some (.slice e)) (hi : P.info? e = some i) (hz : i.zero = some z)
    (hsize : i.size = size) (hby : i.bytes = bytes) (hzs : z.cells.size = size) (hsz : 0 < size)
    (A : Option Addr) (n c : Nat) (xs : List Value) (hs : a.eval s = .slice A n c) (hown : w.ownsRow base e size (.slice A n c) n xs)
    (gn : Nat) (news : List Value) (hx : a.eval x = .slice (some ⟨gn, 0, none⟩) 1 1) (hl : news.length = size) (hb : Blk w gn e news.toArray) (h1 : ∀ u ∈ news, u.oneCell' = true)
    (hn : n ≤ 1048576) (hbytes : bytes ≤ 1000) (hbase : base ≤ w.heap.size)
    (h : ∀ g c' w', w'.ownsRow base e size (.slice (some ⟨g, 0, none⟩) (n + 1) c') (n + 1) (xs ++ news) → w.grownBy w' (Value.ownBlock (.slice A n c)) → wpList P ops Q rest (a.put o.dst (.slice (some ⟨g, 0, none⟩) (n + 1) c')) w') : wpList P ops Q (o :: rest) a w := by
  refine wpList_append_own w hgd s x t ho base e i z size bytes ht hi hz hsize hby hzs hsz _ n xs hs hown ⟨gn, 0, none⟩ 1 1 news hx (by omega) (fun j u hj => ?_) h1 (by unfold maxLen; omega) ?_ hbase fun v' w' hown' hg' _ => ?_
  · have e1 : (⟨gn, 0, none⟩ : Addr).add j = ⟨gn, j, none⟩ := by unfold Addr.add; split <;> simp_all
    rw [e1, hb.cell j]
    simpa using hj
  · have : (n + 1) * bytes ≤ 1048577 * 1000 := Nat.mul_le_mul (by omega) hbytes
    omega
  · rcases hown'.2 with ⟨_, h0⟩ | ⟨g, cap, cur, rfl, _⟩
    · omega
    · exact h g cap w' hown' hg'

theorem owns_nil (w : World) (base : Nat) (e : TypeId) (size c : Nat) (g : Nat) (cs : Array Value) (h : Blk w g e cs) (hg : base ≤ g) (hc : c ≤ maxLen) (hs : cs.size = c * size) : w.ownsRow base e size (.slice (some ⟨g, 0, none⟩) 0 c) 0 [] :=
  ⟨by simp, .inr ⟨g, c, cs, rfl, hg, h, Nat.zero_le _, hc, hs, by simp⟩⟩

theorem own_cap {w : World} {base sz n : Nat} {e : TypeId} {g c : Nat} {xs : List Value} (h : w.ownsRow base e sz (.slice (some ⟨g, 0, none⟩) n c) n xs) : n ≤ c ∧ c ≤ maxLen ∧ ∃ g', (some ⟨g, 0, none⟩ : Option Addr) = some ⟨g', 0, none⟩ := by
  rcases h.2 with ⟨hv, _⟩ | ⟨g', cap, cur, hv, _, _, hnc, hcm, _⟩
  · cases hv
  · cases hv; exact ⟨hnc, hcm, g, rfl⟩
/-- What the call owns reads as its cells. -/
theorem Row.owned {w : World} {base sz n : Nat} {e : TypeId} {A : Option Addr} {c : Nat} {xs : List Value} (h : w.ownsRow base e sz (.slice A n c) n xs) {f : Nat → Nat → Value} (hf : ∀ i q, i < n → q < sz → xs[i * sz + q]? = some (f i q)) :
    Row w w.heap.size sz A n f := fun hn => by
  rcases h.2 with ⟨_, h0⟩ | ⟨g, cap, cur, hv, _, hh, _, _, _, ht⟩
  · omega
  · injection hv with hA _ _
    subst hA
    refine ⟨g, 0, rfl, (Array.getElem?_eq_some_iff.1 hh).1, fun i q hi hq => ?_⟩
    have hlt : i * sz + q < n * sz := by
      have : (i + 1) * sz ≤ n * sz := Nat.mul_le_mul_right _ hi
      rw [Nat.add_mul] at this
      omega
    rw [Nat.zero_add, cell_of_row w g _ cur e (0, 0) hh, ← hf i q hi hq, ← ht, List.getElem?_take_of_lt hlt]
    simp

/-- The cells of a list whose elements have sz cells each. -/
theorem flat_at {α : Type} [Inhabited α] (f : α → List Value) (sz : Nat) (hf : ∀ x, (f x).length = sz) (l : List α) : ∀ (i q : Nat), i < l.length → q < sz → (l.flatMap f)[i * sz + q]? = (f (l.getD i default))[q]? := by
  induction l with
  | nil => intro i q hi; simp at hi
  | cons x r ih =>
    intro i q hi hq
    cases i with
    | zero =>
      rw [List.flatMap_cons, Nat.zero_mul, Nat.zero_add, List.getElem?_append_left (by rw [hf]; exact hq)]
      rfl
    | succ i =>
      rw [List.flatMap_cons, List.getElem?_append_right (by rw [hf, Nat.add_mul]; omega), hf]
      have e : (i + 1) * sz + q - sz = i * sz + q := by rw [Nat.add_mul]; omega
      rw [e, ih i q (by simp at hi; omega) hq]
      rfl
theorem flat_len {α : Type} (f : α → List Value) (sz : Nat) (hf : ∀ x, (f x).length = sz) (l : List α) : (l.flatMap f).length = l.length * sz := by
  induction l with
  | nil => simp
  | cons x r ih => rw [List.flatMap_cons, List.length_append, hf, ih, List.length_cons, Nat.add_mul]; omega
theorem flat_snoc {α : Type} (f : α → List Value) (l : List α) (x : α) : (l ++ [x]).flatMap f = l.flatMap f ++ f x := by simp
end Go.Proofs.Ytkmipgekmbngcaa
/- A row of the call's own, cell by cell: what it holds is told by a function of the element's place and the cell's. No condition. -/
namespace Go.Proofs.Ytkmipgekmbngcaa
open Go.RowKit

/-- The slice value .slice A n c is nil or starts at the head of a row of the call's own; cell q of element i holds f i q. -/
def OwnP (w : World) (base : Nat) (t : TypeId) (sz : Nat) (A : Option Addr) (n c : Nat) (f : Nat → Nat → Value) : Prop :=
  ∃ L : List Value, w.ownsRow base t sz (.slice A n c) n L ∧ ∀ i q, i < n → q < sz → L[i * sz + q]? = some (f i q)
section
variable {w w' : World} {base sz n c g : Nat} {t : TypeId} {A : Option Addr} {f : Nat → Nat → Value}
theorem OwnP.row (h : OwnP w base t sz A n c f) : Row w w.heap.size sz A n f := by
  obtain ⟨L, h1, h2⟩ := h
  exact Row.owned h1 h2
theorem OwnP.kept {row : Option Nat} (h : OwnP w base t sz A n c f) (hg : w.grownBy w' row) (hne : Value.ownBlock (.slice A n c) = none ∨ Value.ownBlock (.slice A n c) ≠ row) : OwnP w' base t sz A n c f := by
  obtain ⟨L, h1, h2⟩ := h
  exact ⟨L, h1.kept hg hne, h2⟩
theorem OwnP.then_ (h : OwnP w base t sz A n c f) (hb : Below w.heap.size w w') : OwnP w' base t sz A n c f :=
  h.kept (row := none) ⟨hb.os, hb.tape, hb.output, hb.size, fun k hk _ => hb.block k hk⟩ (by cases hv : Value.ownBlock (.slice A n c) <;> simp)
theorem OwnP.drew (h : OwnP w base t sz A n c f) : OwnP w.drew base t sz A n c f := h
theorem OwnP.drewN (h : OwnP w base t sz A n c f) (k : Nat) : OwnP (w.drewN k) base t sz A n c f := h
theorem OwnP.alloc (h : OwnP w base t sz A n c f) (o : Obj) : OwnP (w.alloc o) base t sz A n c f := by
  obtain ⟨L, h1, h2⟩ := h
  exact ⟨L, h1.alloc o, h2⟩
theorem OwnP.apart {B : Option Addr} {m d : Nat} (h : OwnP w base t sz A n c f) (hg : w.grownBy w' (Value.ownBlock (.slice B m d))) (hb : ∀ x, A = some x → ∀ y, B = some y → x.block ≠ y.block) : OwnP w' base t sz A n c f := by
  refine h.kept hg ?_
  cases A with
  | none => exact .inl rfl
  | some x =>
    cases B with
    | none => exact .inr (by simp [Value.ownBlock])
    | some y => exact .inr (by have := hb x rfl y rfl; simpa [Value.ownBlock] using this)
theorem OwnP.far (h : OwnP w base t sz A n c f) {p : Addr} (hp : ∀ x, A = some x → x.block ≠ p.block) (u : Value) : OwnP (w.setCell p u) base t sz A n c f := by
  refine h.kept (row := some p.block) ⟨rfl, rfl, rfl, by simp [World.setCell], fun k _ hne => Below.heap_setCell w p u k (fun e => hne (by rw [e]))⟩ ?_
  cases A with
  | none => exact .inl rfl
  | some x => exact .inr (by have := hp x rfl; simpa [Value.ownBlock] using this)
theorem OwnP.congr (h : OwnP w base t sz A n c f) {f' : Nat → Nat → Value} (e : ∀ i q, i < n → q < sz → f i q = f' i q) : OwnP w base t sz A n c f' := by
  obtain ⟨L, h1, h2⟩ := h
  exact ⟨L, h1, fun i q hi hq => (h2 i q hi hq).trans (by rw [e i q hi hq])⟩
theorem OwnP.cap (h : OwnP w base t sz A n c f) : n ≤ c ∧ c ≤ maxLen := by
  obtain ⟨L, h1, h2⟩ := h
  rcases h1.2 with ⟨hv, h0⟩ | ⟨g, cap, cur, hv, _, _, hnc, hcm, _⟩
  · cases hv; exact ⟨Nat.le_refl _, Nat.zero_le _⟩
  · cases hv; exact ⟨hnc, hcm⟩
theorem OwnP.form (h : OwnP w base t sz A n c f) : (A = none ∧ n = 0 ∧ c = 0) ∨ ∃ g, A = some ⟨g, 0, none⟩ ∧ base ≤ g ∧ g < w.heap.size := by
  obtain ⟨L, h1, h2⟩ := h
  rcases h1.2 with ⟨hv, h0⟩ | ⟨g, cap, cur, hv, hb, hg, _⟩
  · cases hv; exact .inl ⟨rfl, rfl, rfl⟩
  · cases hv; exact .inr ⟨g, rfl, hb, (Array.getElem?_eq_some_iff.1 hg).1⟩
theorem OwnP.block (h : OwnP w base t sz A n c f) : ∀ k, Value.ownBlock (.slice A n c) = some k → base ≤ k ∧ k < w.heap.size := by
  obtain ⟨L, h1, h2⟩ := h
  exact h1.lt
theorem OwnP.blk (h : OwnP w base t sz A n c f) : ∀ x, A = some x → base ≤ x.block ∧ x.block < w.heap.size := by
  intro x hx
  subst hx
  exact h.block x.block rfl
theorem OwnP.lt (h : OwnP w base t sz (some ⟨g, 0, none⟩) n c f) : g < w.heap.size := (h.block g rfl).2
theorem OwnP.cell (h : OwnP w base t sz (some ⟨g, 0, none⟩) n c f) {i q : Nat} (hi : i < n) (hq : q < sz) : w.cell? ⟨g, i * sz + q, none⟩ = some (f i q) := by
  obtain ⟨L, h1, h2⟩ := h
  have hlt : i * sz + q < n * sz := by
    have : (i + 1) * sz ≤ n * sz := Nat.mul_le_mul_right _ hi
    rw [Nat.add_mul] at this
    omega
  rw [World.ownsRow.cellAt h1 _ hlt, h2 i q hi hq]
theorem OwnP.cell1 (h : OwnP w base t 1 (some ⟨g, 0, none⟩) n c f) {i : Nat} (hi : i < n) : w.cell? ⟨g, i, none⟩ = some (f i 0) := by
  have := h.cell hi (q := 0) (by omega)
  rwa [Nat.mul_one, Nat.add_zero] at this
theorem OwnP.frozen (h : OwnP w base t sz (some ⟨g, 0, none⟩) n c f) (k : Nat) : w.frozen? ⟨g, k, none⟩ = false := by
  obtain ⟨L, h1, h2⟩ := h
  exact World.ownsRow.frozenAt h1 k
theorem OwnP.set_ (h : OwnP w base t sz (some ⟨g, 0, none⟩) n c f) {i q : Nat} (hi : i < n) (hq : q < sz) (u : Value) :
    OwnP (w.setCell ⟨g, i * sz + q, none⟩ u) base t sz (some ⟨g, 0, none⟩) n c (fun i' q' => if i' = i ∧ q' = q then u else f i' q') := by
  obtain ⟨L, h1, h2⟩ := h
  have hlt : i * sz + q < L.length := by
    rw [h1.1]
    have : (i + 1) * sz ≤ n * sz := Nat.mul_le_mul_right _ hi
    rw [Nat.add_mul] at this
    omega
  refine ⟨L.set (i * sz + q) u, (World.ownsRow.stored h1 (i * sz + q) u).1, fun i' q' hi' hq' => ?_⟩
  rw [List.getElem?_set]
  by_cases e : i' = i ∧ q' = q
  · obtain ⟨rfl, rfl⟩ := e
    simp [hlt]
  · rw [if_neg (fun he => e (pos_inj hq' hq he.symm))]
    show _ = some (if _ then _ else _)
    rw [if_neg e]
    exact h2 i' q' hi' hq'
theorem OwnP.set_at (h : OwnP w base t sz (some ⟨g, 0, none⟩) n c f) {i q o : Nat} (hi : i < n) (hq : q < sz) (ho : o = i * sz + q) (u : Value) :
    OwnP (w.setCell ⟨g, o, none⟩ u) base t sz (some ⟨g, 0, none⟩) n c (fun i' q' => if i' = i ∧ q' = q then u else f i' q') := by subst ho; exact h.set_ hi hq u
theorem OwnP.set0 (h : OwnP w base t sz (some ⟨g, 0, none⟩) n c f) {i : Nat} (hi : i < n) (hq : 0 < sz) (u : Value) :
    OwnP (w.setCell ⟨g, i * sz, none⟩ u) base t sz (some ⟨g, 0, none⟩) n c (fun i' q' => if i' = i ∧ q' = 0 then u else f i' q') := h.set_ hi hq u
theorem OwnP.set1 (h : OwnP w base t 1 (some ⟨g, 0, none⟩) n c f) {i : Nat} (hi : i < n) (u : Value) :
    OwnP (w.setCell ⟨g, i, none⟩ u) base t 1 (some ⟨g, 0, none⟩) n c (fun i' q' => if i' = i ∧ q' = 0 then u else f i' q') := by
  have := h.set0 hi (by omega) u
  rwa [Nat.mul_one] at this
theorem OwnP.mono {base' : Nat} (h : OwnP w base t sz A n c f) (hb : base' ≤ base) : OwnP w base' t sz A n c f := by
  obtain ⟨L, h1, h2⟩ := h
  exact ⟨L, ⟨h1.1, h1.2.imp id fun ⟨g, cap, cur, k1, k2, k3⟩ => ⟨g, cap, cur, k1, by omega, k3⟩⟩, h2⟩
theorem OwnP.of_list {L : List Value} (h : w.ownsRow base t sz (.slice A n c) n L) (hf : ∀ i q, i < n → q < sz → L[i * sz + q]? = some (f i q)) : OwnP w base t sz A n c f := ⟨L, h, hf⟩
theorem OwnP.made (w : World) (t : TypeId) (z : Array Value) (n : Nat) (_hz : 0 < z.size) (hn : n ≤ maxLen) : OwnP (w.alloc (.cells (madeCells z (n * z.size)) t)) w.heap.size t z.size (some ⟨w.heap.size, 0, none⟩) n n (fun _ q => z[q]!) := by
  refine ⟨(madeCells z (n * z.size)).toList, ⟨by simp [madeCells], .inr ⟨w.heap.size, n, _, rfl, Nat.le_refl _, heap_alloc_new w _, Nat.le_refl _, hn, by simp [madeCells], by rw [List.take_of_length_le]; simp [madeCells]⟩⟩, fun i q hi hq => ?_⟩
  have hlt : i * z.size + q < n * z.size := by
    have : (i + 1) * z.size ≤ n * z.size := Nat.mul_le_mul_right _ hi
    rw [Nat.add_mul] at this
    omega
  simp only [madeCells, Array.getElem?_toList]
  rw [Array.getElem?_map, Array.getElem?_range, if_pos hlt]
  simp only [Option.map_some]
  rw [Nat.mul_comm, Nat.mul_add_mod, Nat.mod_eq_of_lt hq]
end
end Go.Proofs.Ytkmipgekmbngcaa
/- Items of a paragraph: the plain type, copies, comparisons and marks of slices of items. Conditions: the slice reads as the list; at most 2^20 items where a row is made. -/
namespace Go.Proofs.Ytkmipgekmbngcaa
open Go.RowKit

structure It where
  k : Int
  w : Int
  st : Int
  sh : Int
  pen : Int
  fl : Bool
deriving Inhabited
/-- The cells of an item. -/
def itv (x : It) (j : Nat) : Value := match j with
  | 0 => .int .i64 x.k
  | 1 => .int .i64 x.w
  | 2 => .int .i64 x.st
  | 3 => .int .i64 x.sh
  | 4 => .int .i64 x.pen
  | _ => .bool x.fl
/-- The cells of a list of items. -/
def itc (xs : List It) (i j : Nat) : Value := itv (xs.getD i default) j

theorem toGlue_any (a b c : Int) (w : World) :
    Calls Try.prog 87 #[.agg #[.int .i64 a, .int .i64 b, .int .i64 c]] w fun e w' => e = .returned (.agg #[.int .i64 a, .int .i64 b, .int .i64 c]) ∧ Below w.heap.size w w' := by
  go_enter Try.func87, Try.ntmps87
  go_wp2
  go_returns
  exact ⟨rfl, by (repeat' (first | (with_reducible exact Below.refl _ _) | (with_reducible assumption) | (with_reducible refine Below.alloc ?_ ?_ _) | (with_reducible refine Below.drew ?_) | (with_reducible refine below_drewN ?_ _) | (with_reducible refine Below.setCell ?_ ?_ _) | (with_reducible refine below_then ?_ ?_ (by with_reducible assumption)) | (with_reducible exact Nat.le_refl _) | go_size | (simp only [*]; done)))⟩
theorem eqGlue_same (a b c : Int) (w : World) :
    Calls Try.prog 88 #[.agg #[.int .i64 a, .int .i64 b, .int .i64 c], .agg #[.int .i64 a, .int .i64 b, .int .i64 c]] w fun e w' => e = .returned (.bool true) ∧ Below w.heap.size w w' := by
  go_enter Try.func88, Try.ntmps88
  go_wp2
  go_returns
  exact ⟨rfl, by (repeat' (first | (with_reducible exact Below.refl _ _) | (with_reducible assumption) | (with_reducible refine Below.alloc ?_ ?_ _) | (with_reducible refine Below.drew ?_) | (with_reducible refine below_drewN ?_ _) | (with_reducible refine Below.setCell ?_ ?_ _) | (with_reducible refine below_then ?_ ?_ (by with_reducible assumption)) | (with_reducible exact Nat.le_refl _) | go_size | (simp only [*]; done)))⟩
theorem item_info : (Try.prog.info? 78).map (fun i => (i.zero, i.size, i.bytes)) = some (some (.agg #[.int .i64 0, .int .i64 0, .int .i64 0, .int .i64 0, .int .i64 0, .bool false]), 6, 48) := by kernel_rfl
set_option maxHeartbeats 400000 in
theorem toItem_any (k a b c p : Int) (f : Bool) (w : World) :
    Calls Try.prog 66 #[.agg #[.int .i64 k, .int .i64 a, .int .i64 b, .int .i64 c, .int .i64 p, .bool f]] w fun e w' => e = .returned (.agg #[.int .i64 k, .int .i64 a, .int .i64 b, .int .i64 c, .int .i64 p, .bool f]) ∧ Below w.heap.size w w' := by
  have B1 := Lib.hid (Blk.new w 82 #[.int .i64 k, .int .i64 a, .int .i64 b, .int .i64 c, .int .i64 p, .bool f])
  go_enter Try.func66, Try.ntmps66
  go_wp2_with go_in
  go_returns
  exact ⟨rfl, by (repeat' (first | (with_reducible exact Below.refl _ _) | (with_reducible assumption) | (with_reducible refine Below.alloc ?_ ?_ _) | (with_reducible refine Below.drew ?_) | (with_reducible refine below_drewN ?_ _) | (with_reducible refine Below.setCell ?_ ?_ _) | (with_reducible refine below_then ?_ ?_ (by with_reducible assumption)) | (with_reducible exact Nat.le_refl _) | go_size | (simp only [*]; done)))⟩
theorem eqItem_same (k a b c p : Int) (f : Bool) (w : World) :
    Calls Try.prog 67 #[.agg #[.int .i64 k, .int .i64 a, .int .i64 b, .int .i64 c, .int .i64 p, .bool f], .agg #[.int .i64 k, .int .i64 a, .int .i64 b, .int .i64 c, .int .i64 p, .bool f]] w fun e w' => e = .returned (.bool true) ∧ Below w.heap.size w w' := by
  go_enter Try.func67, Try.ntmps67
  go_wp2_with fail
  ((with_reducible refine (eqGlue_same _ _ _ _).mono ?_); rintro e w1 ⟨rfl, hb1⟩)
  have hz1 := hb1.size
  simp at hz1
  have g1 := ((Blk.new w 78 #[.int .i64 k, .int .i64 a, .int .i64 b, .int .i64 c, .int .i64 p, .bool f]).alloc (.cells #[.int .i64 k, .int .i64 a, .int .i64 b, .int .i64 c, .int .i64 p, .bool f] 78)).then_ hb1
  have g2 := (Blk.new_at (w.alloc (.cells #[.int .i64 k, .int .i64 a, .int .i64 b, .int .i64 c, .int .i64 p, .bool f] 78)) 78 #[.int .i64 k, .int .i64 a, .int .i64 b, .int .i64 c, .int .i64 p, .bool f] (w.heap.size + 1) (by simp)).then_ hb1
  have plt := g1.lt
  have pc0 := g1.cell 0; have pf0 := g1.frozen 0
  have pc1 := g1.cell 1; have pf1 := g1.frozen 1
  have pc2 := g1.cell 2; have pf2 := g1.frozen 2
  have pc3 := g1.cell 3; have pf3 := g1.frozen 3
  have pc4 := g1.cell 4; have pf4 := g1.frozen 4
  have pc5 := g1.cell 5; have pf5 := g1.frozen 5
  simp only [List.getElem?_toArray, List.getElem?_cons_zero, List.getElem?_cons_succ] at pc0 pc1 pc2 pc3 pc4 pc5
  have qlt := g2.lt
  have qc0 := g2.cell 0; have qf0 := g2.frozen 0
  have qc1 := g2.cell 1; have qf1 := g2.frozen 1
  have qc2 := g2.cell 2; have qf2 := g2.frozen 2
  have qc3 := g2.cell 3; have qf3 := g2.frozen 3
  have qc4 := g2.cell 4; have qf4 := g2.frozen 4
  have qc5 := g2.cell 5; have qf5 := g2.frozen 5
  simp only [List.getElem?_toArray, List.getElem?_cons_zero, List.getElem?_cons_succ] at qc0 qc1 qc2 qc3 qc4 qc5
  have hbW : Below w.heap.size w w1 := below_then (Nat.le_refl _) (((Below.refl w.heap.size w).alloc (Nat.le_refl _) _).alloc (by simp) _) hb1
  clear g1 g2
  go_wp2
  go_returns
  exact ⟨rfl, hbW⟩
end Go.Proofs.Ytkmipgekmbngcaa
/- Lines of a paragraph, in plain terms: valid items, breaks, lines, their glue and their boxes. No program. No condition. -/
namespace Go.Proofs.Ytkmipgekmbngcaa

def itemOk (x : It) : Bool :=
  if x.k = 1 then inR x.w 0 1000 && (x.st == 0) && (x.sh == 0) && (x.pen == 0) && !x.fl
  else if x.k = 2 then inR x.w 0 1000 && inR x.st 0 1000 && inR x.sh 0 x.w && (x.pen == 0) && !x.fl
  else if x.k = 3 then inR x.w 0 1000 && (x.st == 0) && (x.sh == 0) && inR x.pen (-1000) 1000
  else false
def forced (x : It) : Bool := (x.k == 3) && (x.pen == -1000)
def itemsOk (l : List It) : Bool := l.all itemOk && inR l.length 1 60 && forced (l.getD (l.length - 1) default)
theorem itemOk_b {x : It} (h : itemOk x = true) : (0 ≤ x.w ∧ x.w ≤ 1000) ∧ (0 ≤ x.st ∧ x.st ≤ 1000) ∧ (0 ≤ x.sh ∧ x.sh ≤ 1000) ∧ (-1000 ≤ x.pen ∧ x.pen ≤ 1000) ∧ (x.k = 1 ∨ x.k = 2 ∨ x.k = 3) ∧ (x.k = 1 → x.st = 0 ∧ x.sh = 0 ∧ x.pen = 0 ∧ x.fl = false) ∧ (x.k = 2 → x.pen = 0 ∧ x.fl = false ∧ x.sh ≤ x.w) ∧ (x.k = 3 → x.st = 0 ∧ x.sh = 0) := by
  unfold itemOk at h
  split at h
  · rename_i hk
    simp only [Bool.and_eq_true, inR_iff, beq_iff_eq, Bool.not_eq_true'] at h
    obtain ⟨⟨⟨⟨⟨h1, h2⟩, h3⟩, h4⟩, h5⟩, h6⟩ := h
    exact ⟨⟨h1, h2⟩, by omega, by omega, by omega, by omega, fun _ => ⟨h3, h4, h5, h6⟩, by omega, by omega⟩
  · split at h
    · rename_i hk
      simp only [Bool.and_eq_true, inR_iff, beq_iff_eq, Bool.not_eq_true'] at h
      obtain ⟨⟨⟨⟨⟨h1, h2⟩, h3, h3'⟩, h4, h4'⟩, h5⟩, h6⟩ := h
      exact ⟨⟨h1, h2⟩, by omega, by omega, by omega, by omega, by omega, fun _ => ⟨h5, h6, h4'⟩, by omega⟩
    · split at h
      · rename_i hk
        simp only [Bool.and_eq_true, inR_iff, beq_iff_eq] at h
        obtain ⟨⟨⟨⟨h1, h2⟩, h3⟩, h4⟩, h5, h6⟩ := h
        exact ⟨⟨h1, h2⟩, by omega, by omega, by omega, by omega, by omega, by omega, fun _ => ⟨h3, h4⟩⟩
      · cases h
theorem items_bad {xs : List It} {n j : Nat} {x : It} (hn : xs.length = n) (hj : j < n) (hx : xs.getD j default = x) (hv : itemOk x = false) : itemsOk xs = false := by
  simp [itemsOk, all_bad hn hj hx hv]
theorem items_len {xs : List It} {n : Nat} (hn : xs.length = n) (h : inR n 1 60 = false) : itemsOk xs = false := by
  simp [itemsOk, hn, h]
theorem items_end {xs : List It} {n j : Nat} {y : It} (hn : xs.length = n) (hj : n ≤ j) (h : (xs.take j).all itemOk = true) (hl : inR n 1 60 = true) (hy : xs.getD (n - 1) default = y) : itemsOk xs = forced y := by
  rw [itemsOk, all_end hn hj h, hn, hl, hy]; rfl
theorem itemsOk_len {xs : List It} {n : Nat} (h : itemsOk xs = true) (hn : xs.length = n) : 1 ≤ n ∧ n ≤ 60 := by
  simp only [itemsOk, Bool.and_eq_true, inR_iff] at h
  omega
theorem itemsOk_at {xs : List It} {n k : Nat} {x : It} (h : itemsOk xs = true) (hn : xs.length = n) (hk : k < n) (hx : xs.getD k default = x) : itemOk x = true := by
  simp only [itemsOk, Bool.and_eq_true] at h
  exact all_at h.1.1 hn hk hx
theorem itemsOk_last {xs : List It} {n : Nat} (h : itemsOk xs = true) (hn : xs.length = n) : forced (xs.getD (n - 1) default) = true := by
  simp only [itemsOk, Bool.and_eq_true, hn] at h
  exact h.2
def kd (l : List It) (i : Nat) : Int := (l.getD i default).k
/-- A line may end at item i. -/
def brk (l : List It) (i : Nat) : Bool :=
  if kd l i = 3 then decide ((l.getD i default).pen < 1000) else (kd l i == 2) && decide (0 < i) && (kd l (i - 1) == 1)
/-- The items from one index on and before another one. -/
def sg (xs : List It) (f t : Nat) : List It := (xs.take t).drop f
theorem sg_len {xs : List It} {n f t : Nat} (hn : xs.length = n) (ht : t ≤ n) : (sg xs f t).length = t - f := by simp [sg]; omega
theorem sg_at {xs : List It} {n f t i : Nat} (_hn : xs.length = n) (_ht : t ≤ n) (hi : i < t - f) : (sg xs f t).getD i default = xs.getD (f + i) default := by
  rw [List.getD_eq_getElem?_getD, List.getD_eq_getElem?_getD, sg, List.getElem?_drop, List.getElem?_take_of_lt (by omega)]
theorem sg_none (xs : List It) {f t : Nat} (h : t ≤ f) : sg xs f t = [] := by
  apply List.eq_nil_of_length_eq_zero
  simp [sg]; omega
theorem sg_snoc {xs : List It} {n f t : Nat} {x : It} (hn : xs.length = n) (ht : t < n) (hf : f ≤ t) (hx : xs.getD t default = x) : sg xs f (t + 1) = sg xs f t ++ [x] := by
  unfold sg
  rw [tk_snoc' hn ht hx, List.drop_append_of_le_length (by simp; omega)]
theorem sg_cons {xs : List It} {n f t : Nat} {x : It} (hn : xs.length = n) (ht : t ≤ n) (hf : f < t) (hx : xs.getD f default = x) : sg xs f t = x :: sg xs (f + 1) t := by
  unfold sg
  have hlt : f < (xs.take t).length := by simp; omega
  rw [List.drop_eq_getElem_cons hlt]
  congr 1
  rw [List.getElem_take, ← hx, List.getD_eq_getElem?_getD, List.getElem?_eq_getElem (by omega)]
  rfl
theorem sg_mem {xs : List It} {n f t : Nat} {x : It} (hn : xs.length = n) (ht : t ≤ n) (hx : x ∈ sg xs f t) : ∃ i, f ≤ i ∧ i < t ∧ xs.getD i default = x := by
  obtain ⟨i, hi, rfl⟩ := List.getElem_of_mem hx
  have hl := sg_len (f := f) hn ht
  rw [hl] at hi
  refine ⟨f + i, by omega, by omega, ?_⟩
  rw [← sg_at hn ht hi, List.getD_eq_getElem?_getD, List.getElem?_eq_getElem]
  rfl
theorem sg_has {xs : List It} {n f t i : Nat} {x : It} (hn : xs.length = n) (ht : t ≤ n) (hi : f ≤ i) (hit : i < t) (hx : xs.getD i default = x) : x ∈ sg xs f t := by
  have hl := sg_len (f := f) hn ht
  have h1 := sg_at (f := f) (t := t) (i := i - f) hn ht (by omega)
  rw [show f + (i - f) = i by omega, hx] at h1
  exact mem_of_getD hl (by omega) h1
theorem sg_ok {xs : List It} (h : itemsOk xs = true) (f t : Nat) : ∀ x ∈ sg xs f t, itemOk x = true := by
  intro x hx
  simp only [itemsOk, Bool.and_eq_true] at h
  exact List.all_eq_true.1 h.1.1 x (List.mem_of_mem_take (List.mem_of_mem_drop hx))
/-- Items from a to before t hold no forced break. -/
def noF (l : List It) (a t : Nat) : Bool := (sg l a t).all fun x => !forced x
theorem noF_iff {xs : List It} {n a t : Nat} (hn : xs.length = n) (ht : t ≤ n) : noF xs a t = true ↔ ∀ i, a ≤ i → i < t → forced (xs.getD i default) = false := by
  simp only [noF, List.all_eq_true, Bool.not_eq_true']
  exact ⟨fun h i h1 h2 => h _ (sg_has hn ht h1 h2 rfl), fun h x hx => by obtain ⟨i, h1, h2, rfl⟩ := sg_mem hn ht hx; exact h i h1 h2⟩
/-- A line lies between the breaks f (-1: the beginning) and t. -/
def lnOk (l : List It) (f t : Int) : Bool := decide (-1 ≤ f) && decide (f < t) && decide (t < l.length) && brk l t.toNat && (decide (f < 0) || brk l f.toNat) && noF l (f + 1).toNat t.toNat
def lineV (l : List It) (f t : Int) : Bool := itemsOk l && lnOk l f t
/-- The index of the first box from a on, or t. -/
def lst (l : List It) (a t : Nat) : Nat := a + ((sg l a t).takeWhile fun x => x.k != 1).length
theorem lst_eq {xs : List It} {n t : Nat} (hn : xs.length = n) (ht : t ≤ n) : ∀ (d a j : Nat), j = a + d → j ≤ t → (∀ i, a ≤ i → i < j → kd xs i ≠ 1) → (j < t → kd xs j = 1) → lst xs a t = j := by
  intro d
  induction d with
  | zero =>
    intro a j hj hjt _ h1
    unfold lst
    rcases Nat.lt_or_ge a t with hlt | hge
    · have := h1 (by omega)
      rw [show j = a by omega, kd] at this
      rw [sg_cons hn ht hlt rfl, List.takeWhile_cons, if_neg (by show ¬ ((xs.getD a default).k != 1) = true; rw [this]; decide)]
      simp; omega
    · rw [sg_none _ hge]; simp; omega
  | succ d ih =>
    intro a j hj hjt h2 h1
    have h3 := ih (a + 1) j (by omega) hjt (fun i hi hij => h2 i (by omega) hij) h1
    have h4 := h2 a (Nat.le_refl _) (by omega)
    unfold lst at h3 ⊢
    rw [kd] at h4
    rw [sg_cons hn ht (by omega) rfl, List.takeWhile_cons, if_pos (by show ((xs.getD a default).k != 1) = true; simpa using h4), List.length_cons]
    omega
theorem lst_spec {xs : List It} {n a t : Nat} (hn : xs.length = n) (ht : t ≤ n) (ha : a ≤ t) : a ≤ lst xs a t ∧ lst xs a t ≤ t ∧ (∀ i, a ≤ i → i < lst xs a t → kd xs i ≠ 1) ∧ (lst xs a t < t → kd xs (lst xs a t) = 1) := by
  have key : ∀ (d a : Nat), a + d = t → a ≤ t → ∃ j, a ≤ j ∧ j ≤ t ∧ (∀ i, a ≤ i → i < j → kd xs i ≠ 1) ∧ (j < t → kd xs j = 1) := by
    intro d
    induction d with
    | zero => intro a h _; exact ⟨a, Nat.le_refl _, by omega, by omega, by omega⟩
    | succ d ih =>
      intro a h _
      by_cases e : kd xs a = 1
      · exact ⟨a, Nat.le_refl _, by omega, by omega, fun _ => e⟩
      · obtain ⟨j, h1, h2, h3, h4⟩ := ih (a + 1) (by omega) (by omega)
        refine ⟨j, by omega, h2, fun i hi hij => ?_, h4⟩
        rcases Nat.eq_or_lt_of_le hi with rfl | hlt
        · exact e
        · exact h3 i (by omega) hij
  obtain ⟨j, h1, h2, h3, h4⟩ := key (t - a) a (by omega) ha
  have := lst_eq hn ht (j - a) a j (by omega) h2 h3 h4
  rw [this]
  exact ⟨h1, h2, h3, h4⟩

def gw (x : It) : Int := if x.k = 3 then 0 else x.w
def gs (x : It) : Int := if x.k = 3 then 0 else x.st
def gh (x : It) : Int := if x.k = 3 then 0 else x.sh
def sW (l : List It) : Int := (l.map gw).sum
def sS (l : List It) : Int := (l.map gs).sum
def sH (l : List It) : Int := (l.map gh).sum
theorem sW_snoc (l : List It) (x : It) : sW (l ++ [x]) = sW l + gw x := by simp [sW]
theorem sS_snoc (l : List It) (x : It) : sS (l ++ [x]) = sS l + gs x := by simp [sS]
theorem sH_snoc (l : List It) (x : It) : sH (l ++ [x]) = sH l + gh x := by simp [sH]
theorem g_b {x : It} (h : itemOk x = true) : (0 ≤ gw x ∧ gw x ≤ 1000) ∧ (0 ≤ gs x ∧ gs x ≤ 1000) ∧ (0 ≤ gh x ∧ gh x ≤ 1000) := by
  obtain ⟨h1, h2, h3, _⟩ := itemOk_b h
  unfold gw gs gh
  split <;> omega
theorem sums_b {l : List It} (h : ∀ x ∈ l, itemOk x = true) : (0 ≤ sW l ∧ sW l ≤ 1000 * l.length) ∧ (0 ≤ sS l ∧ sS l ≤ 1000 * l.length) ∧ (0 ≤ sH l ∧ sH l ≤ 1000 * l.length) := by
  induction l with
  | nil => simp [sW, sS, sH]
  | cons x r ih =>
    obtain ⟨h1, h2, h3⟩ := g_b (h x (List.mem_cons_self ..))
    obtain ⟨i1, i2, i3⟩ := ih fun y hy => h y (List.mem_cons_of_mem _ hy)
    simp only [sW, sS, sH, List.map_cons, List.sum_cons, List.length_cons, Int.natCast_add, Int.natCast_one] at i1 i2 i3 ⊢
    omega
theorem sg_b {xs : List It} {n f t : Nat} (h : itemsOk xs = true) (hn : xs.length = n) (ht : t ≤ n) {a b c : Int} (ha : sW (sg xs f t) = a) (hb : sS (sg xs f t) = b) (hc : sH (sg xs f t) = c) :
    (0 ≤ a ∧ a ≤ 60000) ∧ (0 ≤ b ∧ b ≤ 60000) ∧ (0 ≤ c ∧ c ≤ 60000) := by
  obtain ⟨h1, h2, h3⟩ := sums_b (sg_ok h f t)
  have h4 := (itemsOk_len h hn).2
  rw [sg_len hn ht, ha] at h1
  rw [sg_len hn ht, hb] at h2
  rw [sg_len hn ht, hc] at h3
  omega
/-- The glue of the line whose first item is a and that ends at t. -/
def lgW (l : List It) (a t : Nat) : Int := sW (sg l (lst l a t) t) + (if kd l t = 3 then (l.getD t default).w else 0)
def lgS (l : List It) (a t : Nat) : Int := sS (sg l (lst l a t) t)
def lgH (l : List It) (a t : Nat) : Int := sH (sg l (lst l a t) t)
theorem lg_b {xs : List It} {n a t : Nat} (h : itemsOk xs = true) (hn : xs.length = n) (ht : t < n) : (0 ≤ lgW xs a t ∧ lgW xs a t ≤ 61000) ∧ (0 ≤ lgS xs a t ∧ lgS xs a t ≤ 60000) ∧ (0 ≤ lgH xs a t ∧ lgH xs a t ≤ 60000) := by
  obtain ⟨h1, h2, h3⟩ := sg_b (f := lst xs a t) h hn (show t ≤ n by omega) rfl rfl rfl
  obtain ⟨h4, _⟩ := itemOk_b (itemsOk_at h hn ht rfl)
  unfold lgW lgS lgH
  split <;> omega
/-- The boxes from item a to before item t. -/
def boxesP (l : List It) (a t : Nat) : List Int := ((List.range' a (t - a)).filter fun i => kd l i == 1).map fun (i : Nat) => (i : Int)
def boxesV (l : List It) (f t : Int) : List Int := if lineV l f t then boxesP l (f + 1).toNat t.toNat else []
theorem boxesP_nil (l : List It) (a : Nat) : boxesP l a a = [] := by simp [boxesP]
theorem boxesP_snoc (l : List It) {a j : Nat} (h : a ≤ j) : boxesP l a (j + 1) = if kd l j = 1 then boxesP l a j ++ [(j : Int)] else boxesP l a j := by
  unfold boxesP
  rw [show j + 1 - a = (j - a) + 1 by omega, List.range'_concat, List.filter_append, List.map_append]
  have e : a + 1 * (j - a) = j := by omega
  rw [e]
  by_cases hk : kd l j = 1
  · simp [hk]
  · simp [hk]
theorem boxesP_len (l : List It) (a t : Nat) : (boxesP l a t).length ≤ t - a := by
  unfold boxesP
  rw [List.length_map]
  refine Nat.le_trans (List.length_filter_le _ _) ?_
  simp
end Go.Proofs.Ytkmipgekmbngcaa
/- What a line costs, in plain terms. No program. No condition. -/
namespace Go.Proofs.Ytkmipgekmbngcaa

def badP (n h : Int) : Int := if n = 0 then 0 else if h = 0 then 10000 else min 10000 (100 * n * n * n / (h * h * h))
/-- How a glue fits a width: 1 exactly, 2 loose, 3 tight, 4 not at all. -/
def fitK (W H d : Int) : Int := if d - W = 0 then 1 else if 0 < d - W then 2 else if -(d - W) ≤ H then 3 else 4
def fitB (W S H d : Int) : Int := if d - W = 0 then 0 else if 0 < d - W then badP (d - W) S else if -(d - W) ≤ H then badP (-(d - W)) H else 10000
def dem (bad pen : Int) (fl : Bool) : Int :=
  (if 0 ≤ pen then (1 + bad + pen) * (1 + bad + pen) else if -1000 < pen then (1 + bad) * (1 + bad) - pen * pen else (1 + bad) * (1 + bad)) + (if fl then 3000 else 0)
def cl (x : Int) : Int := min x 10000
def flg (xs : List It) (a t : Nat) : Bool := decide (0 < a) && (xs.getD (a - 1) default).fl && (xs.getD t default).fl
def lnK (xs : List It) (a t : Nat) (d : Int) : Int := fitK (cl (lgW xs a t)) (cl (lgH xs a t)) d
def lnB (xs : List It) (a t : Nat) (d : Int) : Int := fitB (cl (lgW xs a t)) (cl (lgS xs a t)) (cl (lgH xs a t)) d
/-- Whether the line whose first item is a and that ends at t may be set in the width d, and what it costs. -/
def costOk (xs : List It) (a t : Nat) (d tol : Int) : Bool := !(lnK xs a t d == 4) && decide (lnB xs a t d ≤ tol)
def costV (xs : List It) (a t : Nat) (d tol : Int) : Int := if costOk xs a t d tol then dem (lnB xs a t d) (xs.getD t default).pen (flg xs a t) else 0

theorem mul_b {a b A B : Int} (h1 : 0 ≤ a) (h2 : a ≤ A) (h3 : 0 ≤ b) (h4 : b ≤ B) : 0 ≤ a * b ∧ a * b ≤ A * B :=
  ⟨Int.mul_nonneg h1 h3, Int.mul_le_mul h2 h4 h3 (by omega)⟩
theorem cl_b {x : Int} (h : 0 ≤ x) : 0 ≤ cl x ∧ cl x ≤ 10000 := by unfold cl; omega
theorem cube_b {n : Int} (h0 : 0 ≤ n) (h1 : n ≤ 20000) : (0 ≤ 100 * n ∧ 100 * n ≤ 2000000) ∧ (0 ≤ 100 * n * n ∧ 100 * n * n ≤ 40000000000) ∧ (0 ≤ 100 * n * n * n ∧ 100 * n * n * n ≤ 800000000000000) := by
  obtain ⟨a0, a1⟩ : 0 ≤ 100 * n ∧ 100 * n ≤ 2000000 := by omega
  obtain ⟨b0, b1⟩ := mul_b a0 a1 h0 h1
  obtain ⟨c0, c1⟩ := mul_b b0 b1 h0 h1
  exact ⟨⟨a0, a1⟩, ⟨b0, by omega⟩, c0, by omega⟩
theorem cube_h {h : Int} (h0 : 0 < h) (h1 : h ≤ 10000) : (0 ≤ h * h ∧ h * h ≤ 100000000) ∧ (0 < h * h * h ∧ h * h * h ≤ 1000000000000) := by
  obtain ⟨b0, b1⟩ := mul_b (show 0 ≤ h by omega) h1 (show 0 ≤ h by omega) h1
  obtain ⟨c0, c1⟩ := mul_b b0 b1 (show 0 ≤ h by omega) h1
  exact ⟨⟨b0, by omega⟩, Int.mul_pos (Int.mul_pos h0 h0) h0, by omega⟩
theorem quo_b {n h : Int} (n0 : 0 ≤ n) (n1 : n ≤ 20000) (h0 : 0 < h) (h1 : h ≤ 10000) : 0 ≤ 100 * n * n * n / (h * h * h) ∧ 100 * n * n * n / (h * h * h) ≤ 800000000000000 := by
  obtain ⟨_, _, c0, c1⟩ := cube_b n0 n1
  obtain ⟨_, d0, d1⟩ := cube_h h0 h1
  exact ⟨Int.ediv_nonneg c0 (by omega), Int.le_trans (Int.ediv_le_self _ c0) c1⟩
theorem bad_b (n h : Int) (n0 : 0 ≤ n) (n1 : n ≤ 20000) (h0 : 0 ≤ h) (h1 : h ≤ 10000) : 0 ≤ badP n h ∧ badP n h ≤ 10000 := by
  unfold badP
  split
  · omega
  · split
    · omega
    · have := quo_b n0 n1 (show 0 < h by omega) h1
      omega
/-- Beyond five times what one has, the badness is the greatest. -/
theorem bad_big {n h : Int} (h0 : 0 < h) (h1 : h ≤ 10000) (hn : 5 * h < n) (_n1 : n ≤ 20000) : badP n h = 10000 := by
  have a : 0 ≤ n := by omega
  have h5 : 0 ≤ 5 * h := by omega
  have e1 : (5 * h) * (5 * h) ≤ n * n := Int.mul_le_mul (by omega) (by omega) h5 a
  have e0 : 0 ≤ (5 * h) * (5 * h) := Int.mul_nonneg h5 h5
  have e2 : (5 * h) * (5 * h) * (5 * h) ≤ n * n * n := Int.mul_le_mul e1 (by omega) h5 (Int.mul_nonneg a a)
  have hh : 0 < h * h * h := (cube_h h0 h1).2.1
  have e3 : (5 * h) * (5 * h) * (5 * h) = 125 * (h * h * h) := by
    simp only [Int.mul_assoc, Int.mul_left_comm h 5]
    omega
  have e4 : 100 * n * n * n = 100 * (n * n * n) := by simp only [Int.mul_assoc]
  have e5 : 10000 ≤ 100 * n * n * n / (h * h * h) := by
    rw [Int.le_ediv_iff_mul_le hh, e4]
    omega
  rw [badP, if_neg (by omega), if_neg (by omega)]
  omega
theorem fitB_b {W S H d : Int} (w0 : 0 ≤ W) (w1 : W ≤ 10000) (s0 : 0 ≤ S) (s1 : S ≤ 10000) (h0 : 0 ≤ H) (h1 : H ≤ 10000) (d0 : 0 ≤ d) (d1 : d ≤ 10000) : 0 ≤ fitB W S H d ∧ fitB W S H d ≤ 10000 := by
  unfold fitB
  split
  · omega
  · split
    · exact bad_b _ _ (by omega) (by omega) s0 s1
    · split
      · exact bad_b _ _ (by omega) (by omega) h0 h1
      · omega
theorem lnB_b {xs : List It} {n a t : Nat} {d : Int} (hok : itemsOk xs = true) (hn : xs.length = n) (ht : t < n) (d0 : 0 ≤ d) (d1 : d ≤ 10000) : 0 ≤ lnB xs a t d ∧ lnB xs a t d ≤ 10000 := by
  obtain ⟨⟨a0, _⟩, ⟨b0, _⟩, c0, _⟩ := lg_b (a := a) hok hn ht
  obtain ⟨a1, a2⟩ := cl_b a0
  obtain ⟨b1, b2⟩ := cl_b b0
  obtain ⟨c1, c2⟩ := cl_b c0
  exact fitB_b a1 a2 b1 b2 c1 c2 d0 d1
theorem dem_b {bad pen : Int} (fl : Bool) (b0 : 0 ≤ bad) (b1 : bad ≤ 10000) (p0 : -1000 ≤ pen) (p1 : pen ≤ 1000) : -1000000 ≤ dem bad pen fl ∧ dem bad pen fl ≤ 200000000 := by
  have h1 := mul_b (show 0 ≤ 1 + bad by omega) (show 1 + bad ≤ 10001 by omega) (show 0 ≤ 1 + bad by omega) (show 1 + bad ≤ 10001 by omega)
  unfold dem
  have h3 : (0 : Int) ≤ (if fl then 3000 else 0) ∧ (if fl then 3000 else 0 : Int) ≤ 3000 := by split <;> omega
  split
  · have h2 := mul_b (show 0 ≤ 1 + bad + pen by omega) (show 1 + bad + pen ≤ 11001 by omega) (show 0 ≤ 1 + bad + pen by omega) (show 1 + bad + pen ≤ 11001 by omega)
    omega
  · split
    · have h2 := mul_b (show 0 ≤ -pen by omega) (show -pen ≤ 1000 by omega) (show 0 ≤ -pen by omega) (show -pen ≤ 1000 by omega)
      rw [Int.neg_mul_neg] at h2
      omega
    · omega
end Go.Proofs.Ytkmipgekmbngcaa
