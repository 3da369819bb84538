/- Words that all proofs of this seat share: a range test; rows of cells in memory; the two range functions of the program and of the reference return what the test says. No condition. -/
import Derived.Test.YtbkhimdebpllcaaRows
import Derived.WalkKit
import Derived.WalkSpells
import Derived.WalkLawsBesides
import Derived.Handy
import Derived.Lib.Hide
import Derived.Deep.LoopGhost
import Derived.Deep.OwnRows
namespace Go.Proofs.Ytbkhimdebpllcaa
open Go.RowKit

theorem own : ownKnob Try.prog.godebug = none := by kernel_rfl
theorem laidOut : laidOutB Try.prog = true := by kernel_rfl

/-- A number lies in a range. -/
def inR (a l h : Int) : Bool := decide (l ≤ a) && decide (a ≤ h)
theorem inR_iff {a l h : Int} : inR a l h = true ↔ l ≤ a ∧ a ≤ h := by simp [inR]
theorem inR_no {a l h : Int} : inR a l h = false ↔ (a < l ∨ h < a) := by
  simp only [inR, Bool.and_eq_false_iff, decide_eq_false_iff_not]; omega
theorem inR_mk {a l h : Int} (h1 : l ≤ a) (h2 : a ≤ h) : inR a l h = true := inR_iff.2 ⟨h1, h2⟩

theorem ret_int {k : IntKind} {a b : Int} (h : a = b) : Ending.returned (.int k a) = .returned (.int k b) := by rw [h]
theorem ret_bool {a b : Bool} (h : a = b) : Ending.returned (.bool a) = .returned (.bool b) := by rw [h]

theorem bcell {W w1 : World} {B : Nat} (hb : Below B W w1) : (∀ b o, b < B → w1.cell? ⟨b, o, none⟩ = W.cell? ⟨b, o, none⟩) ∧ (∀ b o, b < B → w1.frozen? ⟨b, o, none⟩ = W.frozen? ⟨b, o, none⟩) :=
  ⟨fun b o h => hb.cell (p := ⟨b, o, none⟩) h, fun b o h => hb.frozen (p := ⟨b, o, none⟩) h⟩
theorem below_then {B : Nat} {w w1 w2 : World} (hB : B ≤ w.heap.size) (h1 : Below B w w1) (h2 : Below w1.heap.size w1 w2) : Below B w w2 := h1.trans (h2.mono (Nat.le_trans hB h1.size))
theorem below_drewN {B : Nat} {a w : World} (h : Below B a w) (n : Nat) : Below B a (w.drewN n) := ⟨h.os, h.tape, h.output, h.size, h.block⟩

/-- Block g is known whole: the cells cs of type t, none frozen. -/
def Blk (w : World) (g : Nat) (t : TypeId) (cs : Array Value) : Prop := w.heap[g]? = some (.cells cs t (0, 0))
section
variable {w w' : World} {g : Nat} {t : TypeId} {cs : Array Value}
theorem Blk.lt (h : Blk w g t cs) : g < w.heap.size := (Array.getElem?_eq_some_iff.1 h).1
theorem Blk.cell (h : Blk w g t cs) (i : Nat) : w.cell? ⟨g, i, none⟩ = cs[i]? := cell_of_row w g i cs t (0, 0) h
theorem Blk.frozen (h : Blk w g t cs) (i : Nat) : w.frozen? ⟨g, i, none⟩ = false := by
  unfold Blk at h
  simp [World.frozen?, h]
theorem Blk.new (w : World) (t : TypeId) (cs : Array Value) : Blk (w.alloc (.cells cs t)) w.heap.size t cs := heap_alloc_new w _
theorem Blk.new_at (w : World) (t : TypeId) (cs : Array Value) (g : Nat) (h : g = w.heap.size) : Blk (w.alloc (.cells cs t)) g t cs := h ▸ heap_alloc_new w _
theorem Blk.drew (h : Blk w g t cs) : Blk w.drew g t cs := h
theorem Blk.drewN (h : Blk w g t cs) (n : Nat) : Blk (w.drewN n) g t cs := h
theorem Blk.alloc (h : Blk w g t cs) (o : Obj) : Blk (w.alloc o) g t cs := (Below.heap_alloc w o g h.lt).trans h
theorem Blk.set_ (h : Blk w g t cs) (i : Nat) (u : Value) : Blk (w.setCell ⟨g, i, none⟩ u) g t (cs.setIfInBounds i u) := by
  unfold Blk at h ⊢
  simp [World.setCell, Array.getElem?_modify, h]
theorem Blk.far (h : Blk w g t cs) {p : Addr} (hp : g ≠ p.block) (u : Value) : Blk (w.setCell p u) g t cs := (Below.heap_setCell w p u g hp).trans h
theorem Blk.below {B : Nat} (h : Blk w g t cs) (hb : Below B w w') (hg : g < B) : Blk w' g t cs := (hb.block g hg).trans h
theorem Blk.then_ (h : Blk w g t cs) (hb : Below w.heap.size w w') : Blk w' g t cs := h.below hb h.lt
theorem Blk.grown {row : Option Nat} (h : Blk w g t cs) (hb : w.grownBy w' row) (hg : some g ≠ row) : Blk w' g t cs := (hb.block g h.lt hg).trans h
theorem Blk.eq (h : Blk w g t cs) {cs' : Array Value} (e : cs = cs') : Blk w g t cs' := e ▸ h
end

/-- A slice of n elements, sz cells each, that lies below block B: cell j of element i holds 'f i j'. -/
def Row (w : World) (B sz : Nat) (A : Option Addr) (n : Nat) (f : Nat → Nat → Value) : Prop :=
  0 < n → ∃ b off, A = some ⟨b, off, none⟩ ∧ b < B ∧ ∀ i j, i < n → j < sz → w.cell? ⟨b, off + i * sz + j, none⟩ = some (f i j)

section
variable {w w' : World} {B B' sz n : Nat} {A : Option Addr} {f : Nat → Nat → Value}
theorem Row.nil : Row w B sz A 0 f := fun h => absurd h (by omega)
theorem Row.keep (h : Row w B sz A n f) (hk : ∀ p : Addr, p.block < B → w'.cell? p = w.cell? p) : Row w' B sz A n f := fun hn => by
  obtain ⟨b, off, e, hb, hc⟩ := h hn
  exact ⟨b, off, e, hb, fun i j hi hj => (hk _ hb).trans (hc i j hi hj)⟩
theorem Row.more (h : Row w B sz A n f) (hB : B ≤ B') : Row w B' sz A n f := fun hn => by
  obtain ⟨b, off, e, hb, hc⟩ := h hn
  exact ⟨b, off, e, by omega, hc⟩
theorem Row.below (h : Row w B sz A n f) (hb : Below B w w') : Row w' B sz A n f := h.keep fun _ hp => hb.cell hp
theorem Row.grown (h : Row w B sz A n f) {row : Option Nat} (hg : w.grownBy w' row) (hB : B ≤ w.heap.size) (hr : ∀ g, row = some g → B ≤ g) : Row w' B sz A n f :=
  h.keep fun p hp => World.cell?_of_block (hg.block p.block (by omega) (fun e => by have := hr _ e.symm; omega))
theorem Row.congr (h : Row w B sz A n f) {g : Nat → Nat → Value} (e : ∀ i j, i < n → j < sz → f i j = g i j) : Row w B sz A n g := fun hn => by
  obtain ⟨b, off, ea, hb, hc⟩ := h hn
  exact ⟨b, off, ea, hb, fun i j hi hj => (hc i j hi hj).trans (by rw [e i j hi hj])⟩
theorem Row.then_ (h : Row w w.heap.size sz A n f) (hb : Below w.heap.size w w') : Row w' w'.heap.size sz A n f := (h.below hb).more hb.size
theorem Row.alloc' (h : Row w w.heap.size sz A n f) (o : Obj) : Row (w.alloc o) (w.alloc o).heap.size sz A n f := h.then_ ((Below.refl _ _).alloc (Nat.le_refl _) o)
/-- The first k elements. -/
theorem Row.init (h : Row w B sz A n f) {k : Nat} (hk : k ≤ n) : Row w B sz A k f := fun hn => by
  obtain ⟨b, off, e, hb, hc⟩ := h (by omega)
  exact ⟨b, off, e, hb, fun i j hi hj => hc i j (by omega) hj⟩
end

/-- Block g is a row of the call's own: at least n elements of sz cells each, of element type t, none frozen; cell q of element i holds 'f i q'. -/
def Own (w : World) (g : Nat) (t : TypeId) (sz n : Nat) (f : Nat → Nat → Value) : Prop :=
  ∃ cs : Array Value, w.heap[g]? = some (.cells cs t (0, 0)) ∧ n * sz ≤ cs.size ∧ ∀ i q, i < n → q < sz → cs[i * sz + q]? = some (f i q)
theorem pos_inj {sz i q i' q' : Nat} (hq : q < sz) (hq' : q' < sz) (h : i * sz + q = i' * sz + q') : i = i' ∧ q = q' := by
  have h1 : i = i' := by
    have e : (i * sz + q) / sz = (i' * sz + q') / sz := by rw [h]
    rw [Nat.mul_comm, Nat.mul_comm i', Nat.mul_add_div (by omega), Nat.mul_add_div (by omega), Nat.div_eq_of_lt hq, Nat.div_eq_of_lt hq'] at e
    omega
  subst h1
  exact ⟨rfl, by omega⟩
section
variable {w w' : World} {g sz n : Nat} {t : TypeId} {f : Nat → Nat → Value}
theorem Own.lt (h : Own w g t sz n f) : g < w.heap.size := by
  obtain ⟨cs, hc, _⟩ := h
  exact (Array.getElem?_eq_some_iff.1 hc).1
theorem Own.keep (h : Own w g t sz n f) (hk : w'.heap[g]? = w.heap[g]?) : Own w' g t sz n f := by
  obtain ⟨cs, hc, hr⟩ := h
  exact ⟨cs, hk.trans hc, hr⟩
theorem Own.cell (h : Own w g t sz n f) {i q : Nat} (hi : i < n) (hq : q < sz) : w.cell? ⟨g, i * sz + q, none⟩ = some (f i q) := by
  obtain ⟨cs, hc, _, hr⟩ := h
  rw [cell_of_row w g _ cs t (0, 0) hc, hr i q hi hq]
theorem Own.cell1 (h : Own w g t 1 n f) {i : Nat} (hi : i < n) : w.cell? ⟨g, i, none⟩ = some (f i 0) := by
  have := h.cell hi (q := 0) (by omega)
  rwa [Nat.mul_one, Nat.add_zero] at this
theorem Own.frozen (h : Own w g t sz n f) (k : Nat) : w.frozen? ⟨g, k, none⟩ = false := by
  obtain ⟨cs, hc, _⟩ := h
  simp [World.frozen?, hc]
theorem Own.row (h : Own w g t sz n f) : Row w w.heap.size sz (some ⟨g, 0, none⟩) n f := fun _ =>
  ⟨g, 0, rfl, h.lt, fun i q hi hq => by rw [Nat.zero_add]; exact h.cell hi hq⟩
theorem Own.alloc (h : Own w g t sz n f) (o : Obj) : Own (w.alloc o) g t sz n f := h.keep (Below.heap_alloc w o g h.lt)
theorem Own.drew (h : Own w g t sz n f) : Own w.drew g t sz n f := h
theorem Own.drewN (h : Own w g t sz n f) (k : Nat) : Own (w.drewN k) g t sz n f := h
theorem Own.far (h : Own w g t sz n f) {p : Addr} (hp : g ≠ p.block) (u : Value) : Own (w.setCell p u) g t sz n f := h.keep (Below.heap_setCell w p u g hp)
theorem Own.below {B : Nat} (h : Own w g t sz n f) (hb : Below B w w') (hg : g < B) : Own w' g t sz n f := h.keep (hb.block g hg)
theorem Own.then_ (h : Own w g t sz n f) (hb : Below w.heap.size w w') : Own w' g t sz n f := h.below hb h.lt
theorem Own.grown {row : Option Nat} (h : Own w g t sz n f) (hb : w.grownBy w' row) (hg : some g ≠ row) : Own w' g t sz n f := h.keep (hb.block g h.lt hg)
theorem Own.congr (h : Own w g t sz n f) {f' : Nat → Nat → Value} (e : ∀ i q, i < n → q < sz → f i q = f' i q) : Own w g t sz n f' := by
  obtain ⟨cs, hc, hs, hr⟩ := h
  exact ⟨cs, hc, hs, fun i q hi hq => (hr i q hi hq).trans (by rw [e i q hi hq])⟩
theorem Own.set_ (h : Own w g t sz n f) {i q : Nat} (hi : i < n) (hq : q < sz) (u : Value) :
    Own (w.setCell ⟨g, i * sz + q, none⟩ u) g t sz n (fun i' q' => if i' = i ∧ q' = q then u else f i' q') := by
  obtain ⟨cs, hc, hs, hr⟩ := h
  have hlt : i * sz + q < cs.size := by
    have : (i + 1) * sz ≤ n * sz := Nat.mul_le_mul_right _ hi
    rw [Nat.add_mul] at this
    omega
  refine ⟨cs.setIfInBounds (i * sz + q) u, by simp [World.setCell, Array.getElem?_modify, hc], by simpa using hs, fun i' q' hi' hq' => ?_⟩
  rw [Array.getElem?_setIfInBounds]
  by_cases e : i' = i ∧ q' = q
  · obtain ⟨rfl, rfl⟩ := e
    simp [hlt]
  · rw [if_neg (fun he => e (pos_inj hq' hq he.symm))]
    show _ = some (if _ then _ else _)
    rw [if_neg e]
    exact hr i' q' hi' hq'
theorem Own.set0 (h : Own w g t sz n f) {i : Nat} (hi : i < n) (hq : 0 < sz) (u : Value) :
    Own (w.setCell ⟨g, i * sz, none⟩ u) g t sz n (fun i' q' => if i' = i ∧ q' = 0 then u else f i' q') := h.set_ hi hq u
theorem Own.set1 (h : Own w g t 1 n f) {i : Nat} (hi : i < n) (u : Value) :
    Own (w.setCell ⟨g, i, none⟩ u) g t 1 n (fun i' q' => if i' = i ∧ q' = 0 then u else f i' q') := by
  have := h.set0 hi (by omega) u
  rwa [Nat.mul_one] at this
theorem Own.made (w : World) (t : TypeId) (z : Array Value) (n : Nat) (_hz : 0 < z.size) : Own (w.alloc (.cells (madeCells z (n * z.size)) t)) w.heap.size t z.size n (fun _ q => z[q]!) := by
  refine ⟨_, heap_alloc_new w _, by simp [madeCells], fun i q hi hq => ?_⟩
  have hlt : i * z.size + q < n * z.size := by
    have : (i + 1) * z.size ≤ n * z.size := Nat.mul_le_mul_right _ hi
    rw [Nat.add_mul] at this
    omega
  simp only [madeCells]
  rw [Array.getElem?_map, Array.getElem?_range, if_pos hlt]
  simp only [Option.map_some]
  rw [Nat.mul_comm, Nat.mul_add_mod, Nat.mod_eq_of_lt hq]
end
/-- make([]T, n). -/
theorem make_n {P : Program} (t e : TypeId) (i : TypeInfo) (z : Value) (ht : P.underlying t = some (.slice e)) (hi : P.info? e = some i) (hz : i.zero = some z) (n : Nat) (hb : i.bytes * n ≤ 281474976710656) (hn : n ≤ 9223372036854775807) (w : World) :
    (Instr.makeSlice t (.int .i64 (n : Int)) (.int .i64 (n : Int))).run P w = .ok (.slice (some ⟨w.heap.size, 0, none⟩) n n) (w.alloc (.cells (madeCells z.cells (n * i.size)) e)) := by
  have h : (i.bytes : Int) * (n : Int) ≤ 281474976710656 := by
    have h : ((i.bytes * n : Nat) : Int) ≤ 281474976710656 := by omega
    rwa [Int.natCast_mul] at h
  have hr := run_make (P := P) w t e i z ht hi hz .i64 .i64 n n (by omega) (Int.le_refl _) h (by omega)
  simpa only [Int.toNat_natCast] using hr

/-- A row of one-cell elements, in the walk's spelling. -/
theorem Row.at1 {w : World} {B n : Nat} {A : Option Addr} {f : Nat → Nat → Value} (h : Row w B 1 A n f) (hn : 0 < n) : ∃ b off, A = some ⟨b, off, none⟩ ∧ b < B ∧ ∀ i, i < n → w.cell? ⟨b, off + i, none⟩ = some (f i 0) := by
  obtain ⟨b, off, e, hb, hc⟩ := h hn
  refine ⟨b, off, e, hb, fun i hi => ?_⟩
  have := hc i 0 hi (by omega)
  rwa [Nat.mul_one, Nat.add_zero] at this

/-- From 'for every i < n there is one' to one list. -/
theorem list_of {α : Type} [Inhabited α] (n : Nat) (P : Nat → α → Prop) (h : ∀ i, i < n → ∃ x, P i x) : ∃ xs : List α, xs.length = n ∧ ∀ i, i < n → P i (xs.getD i default) := by
  induction n with
  | zero => exact ⟨[], rfl, fun i hi => by omega⟩
  | succ n ih =>
    obtain ⟨xs, hl, hx⟩ := ih fun i hi => h i (by omega)
    obtain ⟨x, hp⟩ := h n (by omega)
    refine ⟨xs ++ [x], by simp [hl], fun i hi => ?_⟩
    rcases Nat.lt_or_ge i n with hlt | hge
    · have := hx i hlt
      rw [List.getD_eq_getElem?_getD] at this ⊢
      rwa [List.getElem?_append_left (by omega)]
    · obtain rfl : i = n := by omega
      rw [List.getD_eq_getElem?_getD, List.getElem?_append_right (by omega), hl]
      simpa using hp

/-- A slice of bytes that came in. -/
def Code (w : World) (A : Option Addr) (n cap : Nat) (xs : List Int) : Prop :=
  n ≤ maxLen ∧ n ≤ cap ∧ cap ≤ maxLen ∧ (∀ x ∈ xs, 0 ≤ x ∧ x ≤ 255) ∧ Row w w.heap.size 1 A n (fun i _ => .int .u8 (xs.getD i 0))
theorem Code.then_ {w w' : World} {A : Option Addr} {n cap : Nat} {xs : List Int} (h : Code w A n cap xs) (hb : Below w.heap.size w w') : Code w' A n cap xs :=
  ⟨h.1, h.2.1, h.2.2.1, h.2.2.2.1, h.2.2.2.2.then_ hb⟩

theorem within_any (a l h : Int) (w : World) :
    Calls Try.prog 36 #[.int .i64 a, .int .i64 l, .int .i64 h] w fun e w' => e = .returned (.bool (inR a l h)) ∧ w = w' := by
  by_cases hl : l ≤ a <;> by_cases hh : a ≤ h
  all_goals
    have e : inR a l h = (decide (l ≤ a) && decide (a ≤ h)) := rfl
    simp only [hl, hh, decide_true, decide_false, Bool.true_and, Bool.false_and, Bool.and_true] at e
    rw [e]; clear e
    go_enter Try.func36, Try.ntmps36
    go_wp2
    go_ret
    exact ⟨rfl, rfl⟩
theorem inRange_any (a l h : Int) (w : World) :
    Calls Try.prog 34 #[.int .i64 a, .int .i64 l, .int .i64 h] w fun e w' => e = .returned (.bool (inR a l h)) ∧ w = w' := by
  by_cases hl : l ≤ a <;> by_cases hh : a ≤ h
  all_goals
    have e : inR a l h = (decide (l ≤ a) && decide (a ≤ h)) := rfl
    simp only [hl, hh, decide_true, decide_false, Bool.true_and, Bool.false_and, Bool.and_true] at e
    rw [e]; clear e
    go_enter Try.func34, Try.ntmps34
    go_wp2
    go_ret
    exact ⟨rfl, rfl⟩
end Go.Proofs.Ytbkhimdebpllcaa
