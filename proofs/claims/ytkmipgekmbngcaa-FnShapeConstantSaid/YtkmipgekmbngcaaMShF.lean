/- The generator's reader: newReader, pick and one. A reader stays a reader: a call of pick writes into the reader's own block alone, and returns a number in 0..n-1. Conditions: the reader has yielded fewer than 2^50 numbers. -/
import Derived.Test.YtkmipgekmbngcaaMShE
import Derived.Deep.QuietTactic
import Derived.BigQuiet
import Derived.Laws.BitsAllLaws
import Derived.Laws.BitsLemmas
import Derived.OneCell
namespace Go.Proofs.Ytkmipgekmbngcaa
open Go.RowKit

section
variable {a b c w w' : World} {rb : Nat}
theorem only_refl (w : World) (rb : Nat) : w.grownBy w (some rb) := ⟨rfl, rfl, rfl, Nat.le_refl _, fun _ _ _ => rfl⟩
theorem only_trans {row : Option Nat} (h : a.grownBy b row) (k : b.grownBy c row) : a.grownBy c row :=
  ⟨k.os.trans h.os, k.tape.trans h.tape, k.output.trans h.output, Nat.le_trans h.size k.size, fun i hi hn => (k.block i (Nat.lt_of_lt_of_le hi h.size) hn).trans (h.block i hi hn)⟩
theorem only_drewN {row : Option Nat} (h : a.grownBy w row) (n : Nat) : a.grownBy (w.drewN n) row := ⟨h.os, h.tape, h.output, h.size, h.block⟩
theorem only_drew {row : Option Nat} (h : a.grownBy w row) : a.grownBy w.drew row := ⟨h.os, h.tape, h.output, h.size, h.block⟩
theorem only_alloc {row : Option Nat} (h : a.grownBy w row) (o : Obj) : a.grownBy (w.alloc o) row :=
  ⟨h.os, h.tape, h.output, Nat.le_trans h.size (by simp), fun i hi hne => (Below.heap_alloc w o i (Nat.lt_of_lt_of_le hi h.size)).trans (h.block i hi hne)⟩
theorem only_setCell {g : Nat} (h : a.grownBy w (some g)) {p : Addr} (hp : p.block = g ∨ a.heap.size ≤ p.block) (u : Value) : a.grownBy (w.setCell p u) (some g) :=
  ⟨h.os, h.tape, h.output, by simpa [World.setCell] using h.size, fun i hi hne => (Below.heap_setCell w p u i (by
    rintro rfl
    rcases hp with hp | hp
    · exact hne (by rw [hp])
    · omega)).trans (h.block i hi hne)⟩
/-- A write into a row of the call's own. -/
theorem only_own {A : Option Addr} {n m : Nat} (h : a.grownBy b (some rb)) (k : b.grownBy c (Value.ownBlock (.slice A n m))) (hg : ∀ x, A = some x → a.heap.size ≤ x.block) : a.grownBy c (some rb) :=
  ⟨k.os.trans h.os, k.tape.trans h.tape, k.output.trans h.output, Nat.le_trans h.size k.size, fun i hi hn => (k.block i (Nat.lt_of_lt_of_le hi h.size) (fun e => by
    cases A with
    | none => simp [Value.ownBlock] at e
    | some x => have := hg x rfl; simp [Value.ownBlock] at e; omega)).trans (h.block i hi hn)⟩
theorem only_of_below {a w : World} (h : Below a.heap.size a w) (row : Option Nat) : a.grownBy w row := ⟨h.os, h.tape, h.output, h.size, fun i hi _ => h.block i hi⟩
theorem below_of_only {B : Nat} (h : w.grownBy w' (some rb)) (h1 : B ≤ rb) (h2 : B ≤ w.heap.size) : Below B w w' :=
  ⟨h.os, h.tape, h.output, h.size, fun i hi => h.block i (by omega) (fun e => by injection e; omega)⟩
end

/-- A row that lies in another block than the reader stays. -/
theorem Row.only {w w' : World} {B sz n rb : Nat} {A : Option Addr} {f : Nat → Nat → Value} (h : Row w B sz A n f) (k : w.grownBy w' (some rb)) (hA : ∀ x, A = some x → rb < x.block) (hB : B ≤ w.heap.size) : Row w' B sz A n f := fun hn => by
  obtain ⟨b, off, e, hb, hc⟩ := h hn
  have hlt := hA _ e
  exact ⟨b, off, e, hb, fun i j hi hj => (World.cell?_of_block (k.block b (by omega) (fun e' => by injection e' with e'; simp at hlt; omega))).trans (hc i j hi hj)⟩
/-- Block rb is a reader that has yielded p numbers. -/
def Rd (w : World) (rb p : Nat) : Prop :=
  ∃ (A : Option Addr) (n c : Nat) (bs : Nat → Int), w.heap[rb]? = some (.cells #[.slice A n c, .int .i64 (p : Int)] 87 (0, 0)) ∧ n ≤ 2000 ∧
    Row w rb 1 A n (fun i _ => .int .u8 (bs i)) ∧ ∀ i, 0 ≤ bs i ∧ bs i ≤ 255
theorem Rd.lt {w : World} {rb p : Nat} (h : Rd w rb p) : rb < w.heap.size := by
  obtain ⟨A, n, c, bs, hh, _⟩ := h
  exact (Array.getElem?_eq_some_iff.1 hh).1
theorem Rd.keep {w w' : World} {rb p : Nat} (h : Rd w rb p) (hk : ∀ k, k ≤ rb → w'.heap[k]? = w.heap[k]?) : Rd w' rb p := by
  obtain ⟨A, n, c, bs, hh, hn, hr, hb⟩ := h
  exact ⟨A, n, c, bs, (hk rb (Nat.le_refl _)).trans hh, hn, hr.keep (fun q hq => World.cell?_of_block (hk _ (by omega))), hb⟩
theorem Rd.own {w w' : World} {rb p : Nat} {A : Option Addr} {n m : Nat} (h : Rd w rb p) (k : w.grownBy w' (Value.ownBlock (.slice A n m))) (hg : ∀ x, A = some x → rb < x.block) : Rd w' rb p := h.keep fun i hi => k.block i (by have := h.lt; omega) (fun e => by
  cases A with
  | none => simp [Value.ownBlock] at e
  | some x => have := hg x rfl; simp [Value.ownBlock] at e; omega)
theorem Rd.alloc {w : World} {rb p : Nat} (h : Rd w rb p) (o : Obj) : Rd (w.alloc o) rb p := h.keep fun k hk => Below.heap_alloc w o k (by have := h.lt; omega)
theorem Rd.setCell {w : World} {rb p : Nat} (h : Rd w rb p) {q : Addr} (hq : rb < q.block) (u : Value) : Rd (w.setCell q u) rb p := h.keep fun k hk => Below.heap_setCell w q u k (by omega)
theorem Rd.drew {w : World} {rb p : Nat} (h : Rd w rb p) : Rd w.drew rb p := h
theorem Rd.drewN {w : World} {rb p : Nat} (h : Rd w rb p) (n : Nat) : Rd (w.drewN n) rb p := h
theorem Rd.below {w w' : World} {rb p B : Nat} (h : Rd w rb p) (hb : Below B w w') (hB : rb < B) : Rd w' rb p := h.keep fun k hk => hb.block k (by omega)

theorem ofInt_i64 (a : Nat) (ha : a < 9223372036854775808) : (BitVec.ofInt 64 (a : Int)).toNat = a := by
  rw [BitVec.ofInt_natCast, BitVec.toNat_ofNat]; exact Nat.mod_eq_of_lt (by omega)
theorem xor_pos (x y : Int) (hx : 0 ≤ x) (hx' : x < 9223372036854775808) (hy : 0 ≤ y) (hy' : y < 9223372036854775808) : 0 ≤ bits .xor .i64 x y ∧ bits .xor .i64 x y < 9223372036854775808 := by
  obtain ⟨a, rfl⟩ := Int.eq_ofNat_of_zero_le hx
  obtain ⟨b, rfl⟩ := Int.eq_ofNat_of_zero_le hy
  have hx : a ^^^ b < 2 ^ 63 := Nat.xor_lt_two_pow (by omega) (by omega)
  have e : bits .xor .i64 (a : Int) (b : Int) = ((a ^^^ b : Nat) : Int) := by
    show IntKind.i64.wrap ((BitVec.ofInt 64 (a : Int) ^^^ BitVec.ofInt 64 (b : Int)).toNat : Int) = _
    rw [BitVec.toNat_xor, ofInt_i64 a (by omega), ofInt_i64 b (by omega), IntKind.wrap_i64]
    omega
  rw [e]
  omega

/-- What a call leaves that draws a number below m from the reader. -/
def Picked (w : World) (rb p : Nat) (m : Int) (e : Ending) (w' : World) : Prop :=
  ∃ x : Int, e = .returned (.int .i64 x) ∧ 0 ≤ x ∧ (1 ≤ m → x < m) ∧ Rd w' rb (p + 1) ∧ w.grownBy w' (some rb)

theorem Rd.step {w : World} {rb p : Nat} {A : Option Addr} {n c : Nat} {bs : Nat → Int} (hh : w.heap[rb]? = some (.cells #[.slice A n c, .int .i64 (p : Int)] 87 (0, 0))) (hn : n ≤ 2000)
    (hr : Row w rb 1 A n (fun i _ => .int .u8 (bs i))) (hb : ∀ i, 0 ≤ bs i ∧ bs i ≤ 255) {v : Value} (hv : v = .int .i64 ((p + 1 : Nat) : Int)) : Rd (w.setCell ⟨rb, 1, none⟩ v) rb (p + 1) := by
  subst hv
  refine ⟨A, n, c, bs, ?_, hn, hr.keep (fun q hq => World.cell?_of_block (Below.heap_setCell w ⟨rb, 1, none⟩ _ q.block (by simp; omega))), hb⟩
  simp [World.setCell, Array.getElem?_modify, hh]

set_option maxHeartbeats 1000000 in
theorem pick_any (rb p : Nat) (m : Int) (w : World) (h : Rd w rb p) (hp : p ≤ 1125899906842624) :
    Calls Try.prog 64 #[.pointer (some ⟨rb, 0, none⟩), .int .i64 m] w (Picked w rb p m) := by
  obtain ⟨A, n, c, bs, hh, hn, hr, hb⟩ := h
  have HH := Lib.hid hh
  have c0 : w.cell? ⟨rb, 0, none⟩ = _ := cell_of_row w rb 0 _ _ (0, 0) hh
  have c1 : w.cell? ⟨rb, 1, none⟩ = _ := cell_of_row w rb 1 _ _ (0, 0) hh
  have f1 : w.frozen? ⟨rb, 1, none⟩ = false := by simp [World.frozen?, hh]
  have hlt := (Array.getElem?_eq_some_iff.1 hh).1
  simp only [List.getElem?_toArray, List.getElem?_cons_zero, List.getElem?_cons_succ] at c0 c1
  clear hh
  have HB := Lib.hid hb
  have HRR := Lib.hid hr
  by_cases hm : m < 1
  · clear hb hr
    go_enter Try.func64, Try.ntmps64
    go_wp2
    go_ret
    exact ⟨0, rfl, by omega, by omega, Rd.step HH.out hn HRR.out HB.out (by go_num), by (repeat' (first | (with_reducible exact only_refl _ _) | (with_reducible assumption) | (with_reducible refine only_alloc ?_ _) | (with_reducible refine only_drew ?_) | (with_reducible refine only_drewN ?_ _) | (with_reducible refine only_setCell ?_ ?_ _) | (with_reducible refine only_trans ?_ (by with_reducible assumption)) | (with_reducible exact Or.inl rfl) | (refine Or.inr ?_; first | (simp; done) | omega | (simp; omega)) | omega))⟩
  by_cases hn0 : n = 0
  · subst hn0
    clear hb hr
    go_enter Try.func64, Try.ntmps64
    go_wp2
    go_ret
    exact ⟨0, rfl, by omega, by omega, Rd.step HH.out hn HRR.out HB.out (by go_num), by (repeat' (first | (with_reducible exact only_refl _ _) | (with_reducible assumption) | (with_reducible refine only_alloc ?_ _) | (with_reducible refine only_drew ?_) | (with_reducible refine only_drewN ?_ _) | (with_reducible refine only_setCell ?_ ?_ _) | (with_reducible refine only_trans ?_ (by with_reducible assumption)) | (with_reducible exact Or.inl rfl) | (refine Or.inr ?_; first | (simp; done) | omega | (simp; omega)) | omega))⟩
  have hn1 : 0 < n := by omega
  have hne : ((n : Int) == 0) = false := by simp; omega
  obtain ⟨b, off, rfl, hbr, hc⟩ := hr.at1 hn1
  have hbne : ¬ b = rb := by omega
  by_cases hpn : p < n
  · have e0 := hc p hpn
    have hbp := hb p
    obtain ⟨g1, g2⟩ := hbp
    obtain ⟨x, hx⟩ : ∃ x, bs p = x := ⟨_, rfl⟩
    rw [hx] at e0 g1 g2
    clear hb hr hc hn0 hx
    have hpn' : (p : Int) < (n : Int) := by omega
    go_enter Try.func64, Try.ntmps64
    go_wp2
    go_ret
    exact ⟨x % m, rfl, Int.emod_nonneg _ (by omega), fun _ => Int.emod_lt_of_pos _ (by omega), Rd.step HH.out hn HRR.out HB.out (by go_num), by (repeat' (first | (with_reducible exact only_refl _ _) | (with_reducible assumption) | (with_reducible refine only_alloc ?_ _) | (with_reducible refine only_drew ?_) | (with_reducible refine only_drewN ?_ _) | (with_reducible refine only_setCell ?_ ?_ _) | (with_reducible refine only_trans ?_ (by with_reducible assumption)) | (with_reducible exact Or.inl rfl) | (refine Or.inr ?_; first | (simp; done) | omega | (simp; omega)) | omega))⟩
  · obtain ⟨q, hq⟩ : ∃ q, p % n = q := ⟨_, rfl⟩
    obtain ⟨r, hr'⟩ : ∃ r, (p * 7 + 3) % n = r := ⟨_, rfl⟩
    obtain ⟨k, hk⟩ : ∃ k, p / n = k := ⟨_, rfl⟩
    have hqn : q < n := hq ▸ Nat.mod_lt _ hn1
    have hrn : r < n := hr' ▸ Nat.mod_lt _ hn1
    have hkp : k ≤ p := hk ▸ Nat.div_le_self _ _
    have t1 : (p : Int).tmod (n : Int) = (q : Int) := by rw [← hq, ← Int.ofNat_tmod]
    have t2 : ((p : Int) * 7 + 3).tmod (n : Int) = (r : Int) := by
      have e : (p : Int) * 7 + 3 = ((p * 7 + 3 : Nat) : Int) := by omega
      rw [e, ← hr', ← Int.ofNat_tmod]
    have t3 : (p : Int).tdiv (n : Int) = (k : Int) := by rw [← hk, Int.ofNat_tdiv]
    have e0 := hc q hqn
    have e1 := hc r hrn
    obtain ⟨g1, g2⟩ := hb q
    obtain ⟨g3, g4⟩ := hb r
    obtain ⟨x, hx⟩ : ∃ x, bs q = x := ⟨_, rfl⟩
    obtain ⟨y, hy⟩ : ∃ y, bs r = y := ⟨_, rfl⟩
    rw [hx] at e0 g1 g2
    rw [hy] at e1 g3 g4
    clear hb hr hc hx hy hq hr' hk
    have hpn' : (n : Int) ≤ (p : Int) := by omega
    have hqn' : (q : Int) < (n : Int) := by omega
    have hrn' : (r : Int) < (n : Int) := by omega
    have v1 : IntKind.i64.wrap (q : Int) = q := IntWalk.i64_in _ (by omega)
    have v2 : IntKind.i64.wrap (r : Int) = r := IntWalk.i64_in _ (by omega)
    have v3 : IntKind.i64.wrap (k : Int) = k := IntWalk.i64_in _ (by omega)
    have v4 : IntKind.i64.wrap x = x := IntWalk.i64_in _ (by omega)
    have v5 : IntKind.i64.wrap y = y := IntWalk.i64_in _ (by omega)
    have v6 : IntKind.i64.wrap (x * 131) = x * 131 := IntWalk.i64_in _ (by omega)
    have v7 : IntKind.i64.wrap (y * 1117) = y * 1117 := IntWalk.i64_in _ (by omega)
    have v8 : IntKind.i64.wrap ((p : Int) * 7) = (p : Int) * 7 := IntWalk.i64_in _ (by omega)
    have v9 : IntKind.i64.wrap ((p : Int) * 7 + 3) = (p : Int) * 7 + 3 := IntWalk.i64_in _ (by omega)
    have v10 : IntKind.i64.wrap (x * 131 + y * 1117) = x * 131 + y * 1117 := IntWalk.i64_in _ (by omega)
    have v11 : IntKind.i64.wrap ((p : Int) * 29) = (p : Int) * 29 := IntWalk.i64_in _ (by omega)
    have v12 : IntKind.i64.wrap (x * 131 + y * 1117 + (p : Int) * 29) = x * 131 + y * 1117 + (p : Int) * 29 := IntWalk.i64_in _ (by omega)
    have v13 : IntKind.i64.wrap ((k : Int) * 53) = (k : Int) * 53 := IntWalk.i64_in _ (by omega)
    have v14 : IntKind.i64.wrap (x * 131 + y * 1117 + (p : Int) * 29 + (k : Int) * 53) = x * 131 + y * 1117 + (p : Int) * 29 + (k : Int) * 53 := IntWalk.i64_in _ (by omega)
    go_enter Try.func64, Try.ntmps64
    go_wp2
    go_quiet (fail)
    generalize hz : x * 131 + y * 1117 + (p : Int) * 29 + (k : Int) * 53 = z
    have hz1 : 0 ≤ z := by omega
    have hz2 : z < 9223372036854775808 := by omega
    clear hz
    obtain ⟨hy1, hy2⟩ := xor_pos z (z / 64) hz1 hz2 (by omega) (by omega)
    go_wp2
    go_ret
    exact ⟨_, rfl, Int.emod_nonneg _ (by omega), fun _ => Int.emod_lt_of_pos _ (by omega), (Rd.step HH.out hn HRR.out HB.out (by go_num)).drewN _, by (repeat' (first | (with_reducible exact only_refl _ _) | (with_reducible assumption) | (with_reducible refine only_alloc ?_ _) | (with_reducible refine only_drew ?_) | (with_reducible refine only_drewN ?_ _) | (with_reducible refine only_setCell ?_ ?_ _) | (with_reducible refine only_trans ?_ (by with_reducible assumption)) | (with_reducible exact Or.inl rfl) | (refine Or.inr ?_; first | (simp; done) | omega | (simp; omega)) | omega))⟩

/-- What a call leaves that draws one of the numbers f 0 .. f (k - 1). -/
def OneOf (w : World) (rb p k : Nat) (f : Nat → Int) (e : Ending) (w' : World) : Prop :=
  ∃ v : Int, (∃ i : Nat, i < k ∧ v = f i) ∧ e = .returned (.int .i64 v) ∧ Rd w' rb (p + 1) ∧ w.grownBy w' (some rb)

theorem one_any (rb p g k c : Nat) (f : Nat → Int) (w : World) (h : Rd w rb p) (hp : p ≤ 1125899906842624) (hg : rb < g) (hk : 0 < k) (hk2 : k ≤ 1000) (hc : ∀ i, i < k → w.cell? ⟨g, i, none⟩ = some (.int .i64 (f i))) :
    Calls Try.prog 70 #[.pointer (some ⟨rb, 0, none⟩), .slice (some ⟨g, 0, none⟩) k c] w (OneOf w rb p k f) := by
  have HC := Lib.hid hc; clear hc
  go_enter Try.func70, Try.ntmps70
  go_wp2_with fail
  ((with_reducible refine (pick_any _ _ _ _ h hp).mono ?_); rintro e w1 ⟨x, rfl, hx0, hx1, hr1, ho1⟩)
  have hx2 := hx1 (by omega)
  obtain ⟨i, rfl⟩ := Int.eq_ofNat_of_zero_le hx0
  have hi : i < k := by omega
  have hz0 := HC.out 0 hk
  have hz := World.block_lt_of_cell? w _ hz0
  have e0 : w1.cell? ⟨g, i, none⟩ = some (.int .i64 (f i)) := ho1.cell (HC.out i hi) (by simp; omega)
  clear hz0 hx1
  go_wp2
  go_ret
  exact ⟨f i, ⟨i, hi, rfl⟩, rfl, hr1, ho1⟩

theorem lit_bound (l : List Int) (lo hi : Int) (h : ∀ x ∈ l, lo ≤ x ∧ x ≤ hi) {v : Int} {k : Nat} (hk : k ≤ l.length) (hv : ∃ i, i < k ∧ v = l.getD i 0) : lo ≤ v ∧ v ≤ hi := by
  obtain ⟨i, hi', rfl⟩ := hv
  rw [List.getD_eq_getElem?_getD, List.getElem?_eq_getElem (by omega)]
  exact h _ (List.getElem_mem _)
/-- The numbers of a written list. -/
theorem lit_cells {w : World} {g : Nat} {t : TypeId} {cs : Array Value} (l : List Int) (h : Blk w g t cs) (e : cs = (l.map (Value.int .i64)).toArray) : ∀ i, i < l.length → w.cell? ⟨g, i, none⟩ = some (.int .i64 (l.getD i 0)) := by
  intro i hi
  rw [h.cell i, e]
  simp [List.getD_eq_getElem?_getD, List.getElem?_eq_getElem hi]

theorem newReader_any (A : Option Addr) (n cap : Nat) (xs : List Int) (w : World) (hn : n ≤ maxLen) (hcap : n ≤ cap) (hcm : cap ≤ maxLen) (hw : ∀ x ∈ xs, 0 ≤ x ∧ x ≤ 255) (hr : Row w w.heap.size 1 A n (fun i _ => .int .u8 (xs.getD i 0))) :
    Calls Try.prog 34 #[.slice A n cap] w fun e w' => e = .returned (.pointer (some ⟨w.heap.size, 0, none⟩)) ∧ Rd w' w.heap.size 0 ∧ Below w.heap.size w w' := by
  have hbs : ∀ i, 0 ≤ xs.getD i 0 ∧ xs.getD i 0 ≤ 255 := by
    intro i
    rw [List.getD_eq_getElem?_getD]
    rcases Nat.lt_or_ge i xs.length with h | h
    · rw [List.getElem?_eq_getElem h]
      exact hw _ (List.getElem_mem h)
    · rw [List.getElem?_eq_none h]
      simp
  unfold maxLen at hn hcm
  by_cases hbig : 2000 < n
  · obtain ⟨b, off, rfl, hb, hc⟩ := hr (by omega)
    clear hc
    have h1 : (2000 : Int) ≤ (cap : Int) := by omega
    go_enter Try.func34, Try.ntmps34
    go_wp2
    go_ret
    refine ⟨rfl, ⟨_, 2000, _, fun i => xs.getD i 0, heap_alloc_new w _, by omega, ?_, hbs⟩, by (repeat' (first | (with_reducible exact Below.refl _ _) | (with_reducible assumption) | (with_reducible refine Below.alloc ?_ ?_ _) | (with_reducible refine Below.drew ?_) | (with_reducible refine below_drewN ?_ _) | (with_reducible refine Below.setCell ?_ ?_ _) | (with_reducible refine below_then ?_ ?_ (by with_reducible assumption)) | (with_reducible exact Nat.le_refl _) | go_size | (simp only [*]; done)))⟩
    exact (hr.init (by omega)).keep fun p hp => World.cell?_alloc_lt w _ p (by omega)
  · have HR := Lib.hid hr; clear hr
    go_enter Try.func34, Try.ntmps34
    go_wp2
    go_ret
    refine ⟨rfl, ⟨_, n, _, fun i => xs.getD i 0, heap_alloc_new w _, by omega, ?_, hbs⟩, by (repeat' (first | (with_reducible exact Below.refl _ _) | (with_reducible assumption) | (with_reducible refine Below.alloc ?_ ?_ _) | (with_reducible refine Below.drew ?_) | (with_reducible refine below_drewN ?_ _) | (with_reducible refine Below.setCell ?_ ?_ _) | (with_reducible refine below_then ?_ ?_ (by with_reducible assumption)) | (with_reducible exact Nat.le_refl _) | go_size | (simp only [*]; done)))⟩
    exact HR.out.keep fun p hp => World.cell?_alloc_lt w _ p (by omega)
end Go.Proofs.Ytkmipgekmbngcaa
/- What the generators of numbers leave; small functions of the laws on slices of numbers: isIn, last, equalInts. Conditions: the slices read as lists. -/
namespace Go.Proofs.Ytkmipgekmbngcaa
open Go.RowKit

/-- What a call leaves that draws a slice of at most M numbers in lo..hi, by at most K numbers of the reader. -/
def DrawnInts (w : World) (rb p K M : Nat) (lo hi : Int) (e : Ending) (w' : World) : Prop :=
  ∃ (A : Option Addr) (n c : Nat) (xs : List Int) (p' : Nat), e = .returned (.slice A n c) ∧ xs.length = n ∧ n ≤ M ∧ (∀ x ∈ xs, lo ≤ x ∧ x ≤ hi) ∧ Row w' w'.heap.size 1 A n (inc xs) ∧ (∀ x, A = some x → rb < x.block) ∧ p' ≤ p + K ∧ Rd w' rb p' ∧ w.grownBy w' (some rb)

/-- What a call leaves that draws a number in lo..hi. -/
def DrawnInt (w : World) (rb p K : Nat) (lo hi : Int) (e : Ending) (w' : World) : Prop :=
  ∃ (x : Int) (p' : Nat), e = .returned (.int .i64 x) ∧ lo ≤ x ∧ x ≤ hi ∧ p' ≤ p + K ∧ Rd w' rb p' ∧ w.grownBy w' (some rb)

theorem mem_set {xs : List Int} {lo hi v : Int} {i : Nat} (h : ∀ x ∈ xs, lo ≤ x ∧ x ≤ hi) (hv : lo ≤ v ∧ v ≤ hi) : ∀ x ∈ xs.set i v, lo ≤ x ∧ x ≤ hi := by
  intro x hx
  rcases List.mem_or_eq_of_mem_set hx with h1 | h1
  · exact h x h1
  · subst h1; exact hv
theorem mem_snoc {xs : List Int} {lo hi v : Int} (h : ∀ x ∈ xs, lo ≤ x ∧ x ≤ hi) (hv : lo ≤ v ∧ v ≤ hi) : ∀ x ∈ xs ++ [v], lo ≤ x ∧ x ≤ hi := by
  intro x hx
  rcases List.mem_append.1 hx with h1 | h1
  · exact h x h1
  · obtain rfl := List.mem_singleton.1 h1
    exact hv
theorem own_nil (w : World) (base g : Nat) (h : Blk w g 3 #[]) (hg : base ≤ g) : OwnI w base (some ⟨g, 0, none⟩) 0 0 [] :=
  owns_nil w base 3 1 0 g _ h hg (Nat.zero_le _) rfl
end Go.Proofs.Ytkmipgekmbngcaa
/- The generators of items of a paragraph return some items, in memory of their own. Conditions: the reader has yielded fewer than 2^48 numbers. -/
namespace Go.Proofs.Ytkmipgekmbngcaa
open Go.RowKit

def itl (b : It) : List Value := [.int .i64 b.k, .int .i64 b.w, .int .i64 b.st, .int .i64 b.sh, .int .i64 b.pen, .bool b.fl]
theorem itl_one (b : It) : ∀ u ∈ itl b, u.oneCell' = true := by intro u hu; simp [itl] at hu; rcases hu with rfl | rfl | rfl | rfl | rfl | rfl <;> rfl
theorem itl_two (a b : It) : ∀ u ∈ itl a ++ itl b, u.oneCell' = true := by
  intro u hu
  rcases List.mem_append.1 hu with h | h
  · exact itl_one a u h
  · exact itl_one b u h
theorem itl_len (b : It) : (itl b).length = 6 := rfl
theorem itl_at {xs : List It} : ∀ i q, i < xs.length → q < 6 → (xs.flatMap itl)[i * 6 + q]? = some (itc xs i q) := by
  intro i q hi hq
  rw [flat_at itl 6 itl_len xs i q hi hq]
  match q, hq with
  | 0, _ => rfl
  | 1, _ => rfl
  | 2, _ => rfl
  | 3, _ => rfl
  | 4, _ => rfl
  | 5, _ => rfl
abbrev OwT (w : World) (base g n c : Nat) (xs : List It) : Prop := w.ownsRow base 78 6 (.slice (some ⟨g, 0, none⟩) n c) n (xs.flatMap itl)
theorem OwT.snoc {w : World} {base g n c : Nat} {xs : List It} {x : It} (h : w.ownsRow base 78 6 (.slice (some ⟨g, 0, none⟩) n c) n (xs.flatMap itl ++ itl x)) : OwT w base g n c (xs ++ [x]) := by
  show World.ownsRow _ _ _ _ _ _ _
  rw [flat_snoc]; exact h
theorem OwT.snoc2 {w : World} {base g n c : Nat} {xs : List It} {x y : It} (h : w.ownsRow base 78 6 (.slice (some ⟨g, 0, none⟩) n c) n (xs.flatMap itl ++ (itl x ++ itl y))) : OwT w base g n c (xs ++ [x, y]) := by
  show World.ownsRow _ _ _ _ _ _ _
  rw [List.flatMap_append]
  simpa using h

/-- What a call leaves that draws a slice of items. -/
def DrawnItems (w : World) (rb p K lo : Nat) (e : Ending) (w' : World) : Prop :=
  ∃ (g n c : Nat) (xs : List It) (p' : Nat), e = .returned (.slice (some ⟨g, 0, none⟩) n c) ∧ xs.length = n ∧ (lo ≤ n ∧ n ≤ 23) ∧ OwT w' w.heap.size g n c xs ∧ p' ≤ p + K ∧ Rd w' rb p' ∧ w.grownBy w' (some rb)

set_option maxRecDepth 100000 in
set_option maxHeartbeats 4000000 in
theorem randomItems_any (rb p : Nat) (w : World) (h : Rd w rb p) (hp : p ≤ 140737488355328) : Calls Try.prog 69 #[.pointer (some ⟨rb, 0, none⟩)] w (fun e w' => DrawnItems w rb p 80 1 e w') := by
  obtain ⟨j0, ji, jz0, jz1, jz2⟩ := info_parts item_info
  have hlt := h.lt
  go_enter Try.func69, Try.ntmps69
  go_wp2_with fail
  ((with_reducible refine (pick_any rb _ _ _ (h.alloc _) (by omega)).mono ?_); rintro e w1 ⟨v, rfl, hv1, hv2, hr1, ho1⟩)
  have hv3 := hv2 (by omega)
  clear hv2
  obtain ⟨m0, rfl⟩ := Int.eq_ofNat_of_zero_le hv1
  have hown1 := Lib.hid (owns_nil w1 w.heap.size 78 6 0 _ _ ((Blk.new w 78 #[]).grown ho1 (by simp; omega)) (Nat.le_refl _) (by unfold maxLen; omega) rfl)
  have hO1 : w.grownBy w1 (some rb) := by (repeat' (first | (with_reducible exact only_refl _ _) | (with_reducible assumption) | (with_reducible refine only_alloc ?_ _) | (with_reducible refine only_drew ?_) | (with_reducible refine only_drewN ?_ _) | (with_reducible refine only_setCell ?_ ?_ _) | (with_reducible refine only_trans ?_ (by with_reducible assumption)) | (with_reducible exact Or.inl rfl) | (refine Or.inr ?_; first | (simp; done) | omega | (simp; omega)) | omega))
  have hs1 := hO1.size
  clear ho1
  go_wp2_with fail
  go_loopg [3, 4] m0 (fun k o cnt wr => ∃ (m g c q p' : Nat) (xs : List It), o = .slice (some ⟨g, 0, none⟩) q c ∧ cnt = .int .i64 (m : Int) ∧ k = m ∧ 2 * m + q ≤ 20 ∧ Hid (xs.length = q) ∧ Hid (OwT wr w.heap.size g q c xs) ∧ p' + 6 * m ≤ p + 70 ∧ Rd wr rb p' ∧ w.grownBy wr (some rb))
  case atStart => exact ⟨m0, w.heap.size, 0, 0, p + 1, [], rfl, by go_num, rfl, by omega, rfl, hown1.out, by omega, hr1, hO1⟩
  case round =>
    obtain ⟨m, g, c', q, p', xs, rfl, rfl, hk, hmq, hxl, hown, hp', hrd, hO⟩ := hrel
    have HK := Lib.hid hk; clear hk
    have hgb := (hown.out.lt g rfl).1
    have hs0 := hO.size
    by_cases hm : 0 < m
    · have hownr := hown.out
      go_wp2_with fail
      ((with_reducible refine (pick_any _ _ _ _ hrd (by omega)).mono ?_); rintro e w2 ⟨x, rfl, hx0, hx1, r2, ho⟩)
      have hx2 := hx1 (by omega)
      clear hx1
      have o2 := (hownr).kept ho (.inr (by simp [Value.ownBlock]; omega))
      have O2 := only_trans (hO) ho
      have hsw2 := (O2).size
      clear ho
      have HO := Lib.hid ((o2).alloc (.cells #[.int .i64 (1), .int .i64 (2 + x), .int .i64 (0), .int .i64 (0), .int .i64 (0), .bool false] 78))
      have HB := Lib.hid (Blk.new w2 78 #[.int .i64 (1), .int .i64 (2 + x), .int .i64 (0), .int .i64 (0), .int .i64 (0), .bool false])
      have hbase : w.heap.size ≤ (w2.alloc (.cells #[.int .i64 (1), .int .i64 (2 + x), .int .i64 (0), .int .i64 (0), .int .i64 (0), .bool false] 78)).heap.size := by have := (O2).size; simp; omega
      have hgW := (HO.out.lt g rfl).1
      have HRD := Lib.hid (r2)
      go_wp2_with (at_builtin; (refine wpList_append_one _ rfl _ _ 23 rfl w.heap.size 78 j0 _ 6 48 Try.underlying23 ji jz0 jz1 jz2 rfl (by omega) (some ⟨g, 0, none⟩) (q) c' ((xs).flatMap itl) rfl HO.out w2.heap.size (itl (⟨1, 2 + x, 0, 0, 0, false⟩ : It)) rfl rfl HB.out (itl_one _) (by omega) (by omega) hbase ?_); intro g3 c3 w3 hown9 hgr9; (have HO9 := Lib.hid hown9); (have HG9 := Lib.hid hgr9); clear hown9 hgr9)
      have o3 := OwT.snoc HO9.out
      have r3 := (HRD.out.alloc (.cells #[.int .i64 (1), .int .i64 (2 + x), .int .i64 (0), .int .i64 (0), .int .i64 (0), .bool false] 78)).own HG9.out (by intro x hx; cases hx; simp; omega)
      have O3 := only_own (only_alloc (O2) (.cells #[.int .i64 (1), .int .i64 (2 + x), .int .i64 (0), .int .i64 (0), .int .i64 (0), .bool false] 78)) HG9.out (by intro x hx; cases hx; simp; omega)
      clear HO HB hbase HRD HO9 HG9
      have hg3 := (o3.lt g3 rfl).1
      have hs3 := O3.size
      go_wp2_with fail
      ((with_reducible refine (pick_any _ _ _ _ r3 (by omega)).mono ?_); rintro e w4 ⟨y, rfl, hy0, hy1, r4, ho⟩)
      have hy2 := hy1 (by omega)
      clear hy1
      have o4 := (o3).kept ho (.inr (by simp [Value.ownBlock]; omega))
      have O4 := only_trans (O3) ho
      have hsw4 := (O4).size
      clear ho
      by_cases y0 : y = 0
      · subst y0
        go_wp2_with fail
        ((with_reducible refine (pick_any _ _ _ _ r4 (by omega)).mono ?_); rintro e w5 ⟨a, rfl, ha0, ha1, r5, ho⟩)
        have ha2 := ha1 (by omega)
        clear ha1
        have o5 := (o4).kept ho (.inr (by simp [Value.ownBlock]; omega))
        have O5 := only_trans (O4) ho
        have hsw5 := (O5).size
        clear ho
        go_wp2_with fail
        ((with_reducible refine (one_any rb _ w5.heap.size 5 5 (fun i => [50, 0, -50, 1000, 200].getD i 0) _ (r5.alloc _) (by omega) (by omega) (by omega) (by omega) (lit_cells [50, 0, -50, 1000, 200] (Blk.new _ _ _) rfl)).mono ?_); rintro e w6 ⟨b, _, rfl, r6, ho⟩)
        have o6 := ((o5).alloc (.cells #[.int .i64 50, .int .i64 0, .int .i64 (-50), .int .i64 1000, .int .i64 200] 3)).kept ho (.inr (by simp [Value.ownBlock]; omega))
        have O6 := only_trans (only_alloc (O5) (.cells #[.int .i64 50, .int .i64 0, .int .i64 (-50), .int .i64 1000, .int .i64 200] 3)) ho
        have hsw6 := (O6).size
        clear ho
        go_wp2_with fail
        ((with_reducible refine (pick_any _ _ _ _ r6 (by omega)).mono ?_); rintro e w7 ⟨z, rfl, hz0, hz1, r7, ho⟩)
        have hz2 := hz1 (by omega)
        clear hz1
        have o7 := (o6).kept ho (.inr (by simp [Value.ownBlock]; omega))
        have O7 := only_trans (O6) ho
        have hsw7 := (O7).size
        clear ho
        clear o2 o4 o5 o6
        rcases hz : (z == 0) with _ | _
        · skip
          have HO := Lib.hid ((o7).alloc (.cells #[.int .i64 (3), .int .i64 (a), .int .i64 (0), .int .i64 (0), .int .i64 (b), .bool false] 78))
          have HB := Lib.hid (Blk.new w7 78 #[.int .i64 (3), .int .i64 (a), .int .i64 (0), .int .i64 (0), .int .i64 (b), .bool false])
          have hbase : w.heap.size ≤ (w7.alloc (.cells #[.int .i64 (3), .int .i64 (a), .int .i64 (0), .int .i64 (0), .int .i64 (b), .bool false] 78)).heap.size := by have := (O7).size; simp; omega
          have hgW := (HO.out.lt g3 rfl).1
          have HRD := Lib.hid (r7)
          go_wp2_with (at_builtin; (refine wpList_append_one _ rfl _ _ 23 rfl w.heap.size 78 j0 _ 6 48 Try.underlying23 ji jz0 jz1 jz2 rfl (by omega) (some ⟨g3, 0, none⟩) (q + 1) c3 ((xs ++ [(⟨1, 2 + x, 0, 0, 0, false⟩ : It)]).flatMap itl) rfl HO.out w7.heap.size (itl (⟨3, a, 0, 0, b, false⟩ : It)) rfl rfl HB.out (itl_one _) (by omega) (by omega) hbase ?_); intro g8 c8 w8 hown9 hgr9; (have HO9 := Lib.hid hown9); (have HG9 := Lib.hid hgr9); clear hown9 hgr9)
          have o8 := OwT.snoc HO9.out
          have r8 := (HRD.out.alloc (.cells #[.int .i64 (3), .int .i64 (a), .int .i64 (0), .int .i64 (0), .int .i64 (b), .bool false] 78)).own HG9.out (by intro x hx; cases hx; simp; omega)
          have O8 := only_own (only_alloc (O7) (.cells #[.int .i64 (3), .int .i64 (a), .int .i64 (0), .int .i64 (0), .int .i64 (b), .bool false] 78)) HG9.out (by intro x hx; cases hx; simp; omega)
          clear HO HB hbase HRD HO9 HG9
          go_wp2_with fail
          go_roundg (m - 1)
          case measure => have := HK.out; omega
          case rel => exact ⟨m - 1, g8, c8, q + 1 + 1, _, xs ++ [(⟨1, 2 + x, 0, 0, 0, false⟩ : It)] ++ [(⟨3, a, 0, 0, b, false⟩ : It)], rfl, by go_num, rfl, by omega, by show List.length _ = _; rw [List.length_append, List.length_append, hxl.out]; rfl, o8, by omega, r8, O8⟩
        · skip
          have HO := Lib.hid ((o7).alloc (.cells #[.int .i64 (3), .int .i64 (a), .int .i64 (0), .int .i64 (0), .int .i64 (b), .bool true] 78))
          have HB := Lib.hid (Blk.new w7 78 #[.int .i64 (3), .int .i64 (a), .int .i64 (0), .int .i64 (0), .int .i64 (b), .bool true])
          have hbase : w.heap.size ≤ (w7.alloc (.cells #[.int .i64 (3), .int .i64 (a), .int .i64 (0), .int .i64 (0), .int .i64 (b), .bool true] 78)).heap.size := by have := (O7).size; simp; omega
          have hgW := (HO.out.lt g3 rfl).1
          have HRD := Lib.hid (r7)
          go_wp2_with (at_builtin; (refine wpList_append_one _ rfl _ _ 23 rfl w.heap.size 78 j0 _ 6 48 Try.underlying23 ji jz0 jz1 jz2 rfl (by omega) (some ⟨g3, 0, none⟩) (q + 1) c3 ((xs ++ [(⟨1, 2 + x, 0, 0, 0, false⟩ : It)]).flatMap itl) rfl HO.out w7.heap.size (itl (⟨3, a, 0, 0, b, true⟩ : It)) rfl rfl HB.out (itl_one _) (by omega) (by omega) hbase ?_); intro g8 c8 w8 hown9 hgr9; (have HO9 := Lib.hid hown9); (have HG9 := Lib.hid hgr9); clear hown9 hgr9)
          have o8 := OwT.snoc HO9.out
          have r8 := (HRD.out.alloc (.cells #[.int .i64 (3), .int .i64 (a), .int .i64 (0), .int .i64 (0), .int .i64 (b), .bool true] 78)).own HG9.out (by intro x hx; cases hx; simp; omega)
          have O8 := only_own (only_alloc (O7) (.cells #[.int .i64 (3), .int .i64 (a), .int .i64 (0), .int .i64 (0), .int .i64 (b), .bool true] 78)) HG9.out (by intro x hx; cases hx; simp; omega)
          clear HO HB hbase HRD HO9 HG9
          go_wp2_with fail
          go_roundg (m - 1)
          case measure => have := HK.out; omega
          case rel => exact ⟨m - 1, g8, c8, q + 1 + 1, _, xs ++ [(⟨1, 2 + x, 0, 0, 0, false⟩ : It)] ++ [(⟨3, a, 0, 0, b, true⟩ : It)], rfl, by go_num, rfl, by omega, by show List.length _ = _; rw [List.length_append, List.length_append, hxl.out]; rfl, o8, by omega, r8, O8⟩
      by_cases y1 : y = 1
      · subst y1
        go_wp2_with fail
        ((with_reducible refine (one_any rb _ w4.heap.size 3 3 (fun i => [-1000, 1000, 10].getD i 0) _ (r4.alloc _) (by omega) (by omega) (by omega) (by omega) (lit_cells [-1000, 1000, 10] (Blk.new _ _ _) rfl)).mono ?_); rintro e w6 ⟨b, _, rfl, r6, ho⟩)
        have o6 := ((o4).alloc (.cells #[.int .i64 (-1000), .int .i64 1000, .int .i64 10] 3)).kept ho (.inr (by simp [Value.ownBlock]; omega))
        have O6 := only_trans (only_alloc (O4) (.cells #[.int .i64 (-1000), .int .i64 1000, .int .i64 10] 3)) ho
        have hsw6 := (O6).size
        clear ho
        clear o2 o4
        have HO := Lib.hid ((o6).alloc (.cells #[.int .i64 (3), .int .i64 (0), .int .i64 (0), .int .i64 (0), .int .i64 (b), .bool false] 78))
        have HB := Lib.hid (Blk.new w6 78 #[.int .i64 (3), .int .i64 (0), .int .i64 (0), .int .i64 (0), .int .i64 (b), .bool false])
        have hbase : w.heap.size ≤ (w6.alloc (.cells #[.int .i64 (3), .int .i64 (0), .int .i64 (0), .int .i64 (0), .int .i64 (b), .bool false] 78)).heap.size := by have := (O6).size; simp; omega
        have hgW := (HO.out.lt g3 rfl).1
        have HRD := Lib.hid (r6)
        go_wp2_with (at_builtin; (refine wpList_append_one _ rfl _ _ 23 rfl w.heap.size 78 j0 _ 6 48 Try.underlying23 ji jz0 jz1 jz2 rfl (by omega) (some ⟨g3, 0, none⟩) (q + 1) c3 ((xs ++ [(⟨1, 2 + x, 0, 0, 0, false⟩ : It)]).flatMap itl) rfl HO.out w6.heap.size (itl (⟨3, 0, 0, 0, b, false⟩ : It)) rfl rfl HB.out (itl_one _) (by omega) (by omega) hbase ?_); intro g8 c8 w8 hown9 hgr9; (have HO9 := Lib.hid hown9); (have HG9 := Lib.hid hgr9); clear hown9 hgr9)
        have o8 := OwT.snoc HO9.out
        have r8 := (HRD.out.alloc (.cells #[.int .i64 (3), .int .i64 (0), .int .i64 (0), .int .i64 (0), .int .i64 (b), .bool false] 78)).own HG9.out (by intro x hx; cases hx; simp; omega)
        have O8 := only_own (only_alloc (O6) (.cells #[.int .i64 (3), .int .i64 (0), .int .i64 (0), .int .i64 (0), .int .i64 (b), .bool false] 78)) HG9.out (by intro x hx; cases hx; simp; omega)
        clear HO HB hbase HRD HO9 HG9
        go_wp2_with fail
        go_roundg (m - 1)
        case measure => have := HK.out; omega
        case rel => exact ⟨m - 1, g8, c8, q + 1 + 1, _, xs ++ [(⟨1, 2 + x, 0, 0, 0, false⟩ : It)] ++ [(⟨3, 0, 0, 0, b, false⟩ : It)], rfl, by go_num, rfl, by omega, by show List.length _ = _; rw [List.length_append, List.length_append, hxl.out]; rfl, o8, by omega, r8, O8⟩
      · have y0' : (y == 0) = false := by simp; omega
        have y1' : (y == 1) = false := by simp; omega
        go_wp2_with fail
        ((with_reducible refine (pick_any _ _ _ _ r4 (by omega)).mono ?_); rintro e w5 ⟨a, rfl, ha0, ha1, r5, ho⟩)
        have ha2 := ha1 (by omega)
        clear ha1
        have o5 := (o4).kept ho (.inr (by simp [Value.ownBlock]; omega))
        have O5 := only_trans (O4) ho
        have hsw5 := (O5).size
        clear ho
        go_wp2_with fail
        ((with_reducible refine (pick_any _ _ _ _ r5 (by omega)).mono ?_); rintro e w6 ⟨b, rfl, hb0, hb1, r6, ho⟩)
        have hb2 := hb1 (by omega)
        clear hb1
        have o6 := (o5).kept ho (.inr (by simp [Value.ownBlock]; omega))
        have O6 := only_trans (O5) ho
        have hsw6 := (O6).size
        clear ho
        go_wp2_with fail
        ((with_reducible refine (pick_any _ _ _ _ r6 (by omega)).mono ?_); rintro e w7 ⟨z, rfl, hz0, hz1, r7, ho⟩)
        have hz2 := hz1 (by omega)
        clear hz1
        have o7 := (o6).kept ho (.inr (by simp [Value.ownBlock]; omega))
        have O7 := only_trans (O6) ho
        have hsw7 := (O7).size
        clear ho
        clear o2 o4 o5 o6
        have HO := Lib.hid ((o7).alloc (.cells #[.int .i64 (2), .int .i64 (2 + a), .int .i64 (b), .int .i64 (z), .int .i64 (0), .bool false] 78))
        have HB := Lib.hid (Blk.new w7 78 #[.int .i64 (2), .int .i64 (2 + a), .int .i64 (b), .int .i64 (z), .int .i64 (0), .bool false])
        have hbase : w.heap.size ≤ (w7.alloc (.cells #[.int .i64 (2), .int .i64 (2 + a), .int .i64 (b), .int .i64 (z), .int .i64 (0), .bool false] 78)).heap.size := by have := (O7).size; simp; omega
        have hgW := (HO.out.lt g3 rfl).1
        have HRD := Lib.hid (r7)
        go_wp2_with (at_builtin; (refine wpList_append_one _ rfl _ _ 23 rfl w.heap.size 78 j0 _ 6 48 Try.underlying23 ji jz0 jz1 jz2 rfl (by omega) (some ⟨g3, 0, none⟩) (q + 1) c3 ((xs ++ [(⟨1, 2 + x, 0, 0, 0, false⟩ : It)]).flatMap itl) rfl HO.out w7.heap.size (itl (⟨2, 2 + a, b, z, 0, false⟩ : It)) rfl rfl HB.out (itl_one _) (by omega) (by omega) hbase ?_); intro g8 c8 w8 hown9 hgr9; (have HO9 := Lib.hid hown9); (have HG9 := Lib.hid hgr9); clear hown9 hgr9)
        have o8 := OwT.snoc HO9.out
        have r8 := (HRD.out.alloc (.cells #[.int .i64 (2), .int .i64 (2 + a), .int .i64 (b), .int .i64 (z), .int .i64 (0), .bool false] 78)).own HG9.out (by intro x hx; cases hx; simp; omega)
        have O8 := only_own (only_alloc (O7) (.cells #[.int .i64 (2), .int .i64 (2 + a), .int .i64 (b), .int .i64 (z), .int .i64 (0), .bool false] 78)) HG9.out (by intro x hx; cases hx; simp; omega)
        clear HO HB hbase HRD HO9 HG9
        go_wp2_with fail
        go_roundg (m - 1)
        case measure => have := HK.out; omega
        case rel => exact ⟨m - 1, g8, c8, q + 1 + 1, _, xs ++ [(⟨1, 2 + x, 0, 0, 0, false⟩ : It)] ++ [(⟨2, 2 + a, b, z, 0, false⟩ : It)], rfl, by go_num, rfl, by omega, by show List.length _ = _; rw [List.length_append, List.length_append, hxl.out]; rfl, o8, by omega, r8, O8⟩
    · have hownr := hown.out
      clear hown
      go_wp2_with fail
      ((with_reducible refine (pick_any _ _ _ _ hrd (by omega)).mono ?_); rintro e w2 ⟨x, rfl, hx0, hx1, r2, ho⟩)
      have hx2 := hx1 (by omega)
      clear hx1
      have o2 := (hownr).kept ho (.inr (by simp [Value.ownBlock]; omega))
      have O2 := only_trans (hO) ho
      have hsw2 := (O2).size
      clear ho
      by_cases hx : 0 < x
      · have HO := Lib.hid (o2.alloc (.cells #[.int .i64 3, .int .i64 0, .int .i64 0, .int .i64 0, .int .i64 1000, .bool false, .int .i64 2, .int .i64 0, .int .i64 1000, .int .i64 0, .int .i64 0, .bool false] 78))
        have HB := Lib.hid (Blk.new w2 78 #[.int .i64 3, .int .i64 0, .int .i64 0, .int .i64 0, .int .i64 1000, .bool false, .int .i64 2, .int .i64 0, .int .i64 1000, .int .i64 0, .int .i64 0, .bool false])
        have HB2 : Hid ((w2.alloc (.cells #[.int .i64 3, .int .i64 0, .int .i64 0, .int .i64 0, .int .i64 1000, .bool false, .int .i64 2, .int .i64 0, .int .i64 1000, .int .i64 0, .int .i64 0, .bool false] 78)).ownsRow w2.heap.size 78 6 (.slice (some ⟨w2.heap.size, 0, none⟩) 2 2) 2 (itl (⟨3, 0, 0, 0, 1000, false⟩ : It) ++ itl (⟨2, 0, 1000, 0, 0, false⟩ : It))) := ⟨rfl, .inr ⟨w2.heap.size, 2, _, rfl, Nat.le_refl _, HB.out, Nat.le_refl _, by unfold maxLen; omega, rfl, rfl⟩⟩
        have hbase : w.heap.size ≤ (w2.alloc (.cells #[.int .i64 3, .int .i64 0, .int .i64 0, .int .i64 0, .int .i64 1000, .bool false, .int .i64 2, .int .i64 0, .int .i64 1000, .int .i64 0, .int .i64 0, .bool false] 78)).heap.size := by have := O2.size; simp; omega
        have hgW := (HO.out.lt g rfl).1
        have HRD := Lib.hid r2
        go_wp2_with (first | (at_builtin; (refine wpList_append_two _ rfl _ _ 23 rfl w.heap.size 78 j0 _ 6 48 Try.underlying23 ji jz0 jz1 jz2 rfl (by omega) g q c' (xs.flatMap itl) rfl HO.out w2.heap.size 2 2 w2.heap.size (itl (⟨3, 0, 0, 0, 1000, false⟩ : It) ++ itl (⟨2, 0, 1000, 0, 0, false⟩ : It)) rfl HB2.out (itl_two _ _) (by omega) (by omega) hbase ?_); intro g3 c3 w3 hown9 hgr9; (have HO9 := Lib.hid hown9); (have HG9 := Lib.hid hgr9); (have o3 := OwT.snoc2 hown9); (have O3 := only_own (A := some ⟨g, 0, none⟩) (n := q) (m := c') (only_alloc O2 (.cells #[.int .i64 3, .int .i64 0, .int .i64 0, .int .i64 0, .int .i64 1000, .bool false, .int .i64 2, .int .i64 0, .int .i64 1000, .int .i64 0, .int .i64 0, .bool false] 78)) hgr9 (by intro x hx; cases hx; simp; omega)); (have HOL := Lib.hid (o3.alloc (.cells #[.int .i64 (3), .int .i64 (0), .int .i64 (0), .int .i64 (0), .int .i64 (-1000), .bool false] 78))); (have HBL := Lib.hid (Blk.new w3 78 #[.int .i64 (3), .int .i64 (0), .int .i64 (0), .int .i64 (0), .int .i64 (-1000), .bool false])); (have hbl : w.heap.size ≤ (w3.alloc (.cells #[.int .i64 (3), .int .i64 (0), .int .i64 (0), .int .i64 (0), .int .i64 (-1000), .bool false] 78)).heap.size := by have := O3.size; simp; omega); clear hown9 hgr9 o3) | (at_builtin; (refine wpList_append_one _ rfl _ _ 23 rfl w.heap.size 78 j0 _ 6 48 Try.underlying23 ji jz0 jz1 jz2 rfl (by omega) (some ⟨g3, 0, none⟩) (q + 2) c3 ((xs ++ [(⟨3, 0, 0, 0, 1000, false⟩ : It), (⟨2, 0, 1000, 0, 0, false⟩ : It)]).flatMap itl) rfl HOL.out w3.heap.size (itl (⟨3, 0, 0, 0, -1000, false⟩ : It)) rfl rfl HBL.out (itl_one _) (by omega) (by omega) hbl ?_); intro g4 c4 w4 hown4 hgr4; (have HO4 := Lib.hid hown4); (have HG4 := Lib.hid hgr4); clear hown4 hgr4))
        go_ret
        have r3 := (HRD.out.alloc (.cells #[.int .i64 3, .int .i64 0, .int .i64 0, .int .i64 0, .int .i64 1000, .bool false, .int .i64 2, .int .i64 0, .int .i64 1000, .int .i64 0, .int .i64 0, .bool false] 78)).own (A := some ⟨g, 0, none⟩) (n := q) (m := c') HG9.out (by intro x hx; cases hx; simp; omega)
        have hg3 := (HOL.out.lt g3 rfl).1
        exact ⟨g4, q + 2 + 1, c4, xs ++ [(⟨3, 0, 0, 0, 1000, false⟩ : It), (⟨2, 0, 1000, 0, 0, false⟩ : It)] ++ [(⟨3, 0, 0, 0, -1000, false⟩ : It)], _, rfl, by rw [List.length_append, List.length_append, hxl.out]; rfl, ⟨by omega, by omega⟩, OwT.snoc HO4.out, by omega, (r3.alloc _).own HG4.out (by intro x hx; cases hx; simp; omega), only_own (only_alloc O3 _) HG4.out (by intro x hx; cases hx; simp; omega)⟩
      · have hx0' : x ≤ 0 := by omega
        have HO := Lib.hid ((o2).alloc (.cells #[.int .i64 (3), .int .i64 (0), .int .i64 (0), .int .i64 (0), .int .i64 (-1000), .bool false] 78))
        have HB := Lib.hid (Blk.new w2 78 #[.int .i64 (3), .int .i64 (0), .int .i64 (0), .int .i64 (0), .int .i64 (-1000), .bool false])
        have hbase : w.heap.size ≤ (w2.alloc (.cells #[.int .i64 (3), .int .i64 (0), .int .i64 (0), .int .i64 (0), .int .i64 (-1000), .bool false] 78)).heap.size := by have := (O2).size; simp; omega
        have hgW := (HO.out.lt g rfl).1
        have HRD := Lib.hid (r2)
        go_wp2_with (at_builtin; (refine wpList_append_one _ rfl _ _ 23 rfl w.heap.size 78 j0 _ 6 48 Try.underlying23 ji jz0 jz1 jz2 rfl (by omega) (some ⟨g, 0, none⟩) (q) c' ((xs).flatMap itl) rfl HO.out w2.heap.size (itl (⟨3, 0, 0, 0, -1000, false⟩ : It)) rfl rfl HB.out (itl_one _) (by omega) (by omega) hbase ?_); intro g3 c3 w3 hown9 hgr9; (have HO9 := Lib.hid hown9); (have HG9 := Lib.hid hgr9); clear hown9 hgr9)
        have o3 := OwT.snoc HO9.out
        have r3 := (HRD.out.alloc (.cells #[.int .i64 (3), .int .i64 (0), .int .i64 (0), .int .i64 (0), .int .i64 (-1000), .bool false] 78)).own HG9.out (by intro x hx; cases hx; simp; omega)
        have O3 := only_own (only_alloc (O2) (.cells #[.int .i64 (3), .int .i64 (0), .int .i64 (0), .int .i64 (0), .int .i64 (-1000), .bool false] 78)) HG9.out (by intro x hx; cases hx; simp; omega)
        clear HO HB hbase HRD HO9 HG9
        go_ret
        exact ⟨g3, q + 1, c3, xs ++ [(⟨3, 0, 0, 0, -1000, false⟩ : It)], _, rfl, by rw [List.length_append, hxl.out]; rfl, ⟨by omega, by omega⟩, o3, by omega, r3, O3⟩
end Go.Proofs.Ytkmipgekmbngcaa
/- The generator anyItems returns some items, in memory of their own; the widths and tolerances are some numbers. Conditions: the reader has yielded fewer than 2^47 numbers. -/
namespace Go.Proofs.Ytkmipgekmbngcaa
open Go.RowKit

/-- What a call leaves that draws a slice of items that may be no paragraph. -/
def AnyItems (w : World) (rb p K : Nat) (e : Ending) (w' : World) : Prop :=
  ∃ (g n c : Nat) (xs : List It) (p' : Nat), e = .returned (.slice (some ⟨g, 0, none⟩) n c) ∧ xs.length = n ∧ n ≤ 23 ∧ (n ≤ c ∧ c ≤ maxLen) ∧ Row w' w'.heap.size 6 (some ⟨g, 0, none⟩) n (itc xs) ∧ w.heap.size ≤ g ∧ p' ≤ p + K ∧ Rd w' rb p' ∧ w.grownBy w' (some rb)
theorem OwT.ownP {w : World} {base g n c : Nat} {xs : List It} (h : OwT w base g n c xs) (hl : xs.length = n) : OwnP w base 78 6 (some ⟨g, 0, none⟩) n c (itc xs) :=
  OwnP.of_list h fun i q hi hq => itl_at i q (by omega) hq
theorem itc_set {xs : List It} {n k : Nat} {x : It} (hn : xs.length = n) (hk : k < n) (i q : Nat) : itc (xs.set k x) i q = if i = k then itv x q else itc xs i q := by
  unfold itc
  by_cases e : i = k
  · subst e
    rw [if_pos rfl, List.getD_eq_getElem?_getD, List.getElem?_set_self (by omega)]
    rfl
  · rw [if_neg e, List.getD_eq_getElem?_getD, List.getElem?_set_ne (fun h => e h.symm), ← List.getD_eq_getElem?_getD]
theorem set_k {xs : List It} {n k : Nat} {x : It} (hn : xs.length = n) (hk : k < n) (hx : xs.getD k default = x) (v : Int) : ∀ i q, i < n → q < 6 → (if i = k ∧ q = 0 then .int .i64 v else itc xs i q) = itc (xs.set k { x with k := v }) i q := by
  intro i q _ hq
  rw [itc_set hn hk]
  by_cases e : i = k
  · subst e
    match q, hq with
    | 0, _ => simp [itv]
    | 1, _ => simp [itv, itc, ← hx]
    | 2, _ => simp [itv, itc, ← hx]
    | 3, _ => simp [itv, itc, ← hx]
    | 4, _ => simp [itv, itc, ← hx]
    | 5, _ => simp [itv, itc, ← hx]
  · simp [e]
theorem set_w {xs : List It} {n k : Nat} {x : It} (hn : xs.length = n) (hk : k < n) (hx : xs.getD k default = x) (v : Int) : ∀ i q, i < n → q < 6 → (if i = k ∧ q = 1 then .int .i64 v else itc xs i q) = itc (xs.set k { x with w := v }) i q := by
  intro i q _ hq
  rw [itc_set hn hk]
  by_cases e : i = k
  · subst e
    match q, hq with
    | 0, _ => simp [itv, itc, ← hx]
    | 1, _ => simp [itv]
    | 2, _ => simp [itv, itc, ← hx]
    | 3, _ => simp [itv, itc, ← hx]
    | 4, _ => simp [itv, itc, ← hx]
    | 5, _ => simp [itv, itc, ← hx]
  · simp [e]
theorem set_p {xs : List It} {n k : Nat} {x : It} (hn : xs.length = n) (hk : k < n) (hx : xs.getD k default = x) (v : Int) : ∀ i q, i < n → q < 6 → (if i = k ∧ q = 4 then .int .i64 v else itc xs i q) = itc (xs.set k { x with pen := v }) i q := by
  intro i q _ hq
  rw [itc_set hn hk]
  by_cases e : i = k
  · subst e
    match q, hq with
    | 0, _ => simp [itv, itc, ← hx]
    | 1, _ => simp [itv, itc, ← hx]
    | 2, _ => simp [itv, itc, ← hx]
    | 3, _ => simp [itv, itc, ← hx]
    | 4, _ => simp [itv]
    | 5, _ => simp [itv, itc, ← hx]
  · simp [e]

set_option maxRecDepth 100000 in
set_option maxHeartbeats 4000000 in
theorem anyItems_any (rb p : Nat) (w : World) (h : Rd w rb p) (hp : p ≤ 70368744177664) : Calls Try.prog 35 #[.pointer (some ⟨rb, 0, none⟩)] w (fun e w' => AnyItems w rb p 84 e w') := by
  have hlt := h.lt
  go_enter Try.func35, Try.ntmps35
  go_wp2_with fail
  ((with_reducible refine (randomItems_any rb p _ h (by omega)).mono ?_); rintro e w1 ⟨g, n, c, xs, p1, rfl, hxl, ⟨hn0, hn⟩, hown1, hp1, hr1, hO1⟩)
  have HXL := Lib.hid hxl; clear hxl
  have hgb := (hown1.lt g rfl).1
  have hs1 := hO1.size
  go_wp2_with fail
  ((with_reducible refine (pick_any _ _ _ _ hr1 (by omega)).mono ?_); rintro e w2 ⟨x, rfl, hx0, hx1, hr2, ho2⟩)
  have hx2 := hx1 (by omega)
  clear hx1
  obtain ⟨k, rfl⟩ := Int.eq_ofNat_of_zero_le hx0
  have hkn : k < n := by omega
  have hown2 := hown1.kept ho2 (.inr (by simp [Value.ownBlock]; omega))
  have hO2 := only_trans hO1 ho2
  have hs2 := hO2.size
  clear hown1
  go_wp2_with fail
  ((with_reducible refine (pick_any _ _ _ _ hr2 (by omega)).mono ?_); rintro e w3 ⟨y, rfl, hy0, hy1, hr3, ho3⟩)
  clear hy1
  have hown3 := hown2.kept ho3 (.inr (by simp [Value.ownBlock]; omega))
  have hO3 := only_trans hO2 ho3
  have hs3 := hO3.size
  clear hown2
  obtain ⟨z, hz⟩ : ∃ z, xs.getD k default = z := ⟨_, rfl⟩
  have HZ := Lib.hid hz
  clear hz
  have hcap := own_cap hown3
  by_cases y0 : y = 0
  · subst y0
    go_wp2_with fail
    ((with_reducible refine (one_any rb _ w3.heap.size 4 4 (fun i => [0, 4, 1, 2].getD i 0) _ (hr3.alloc _) (by omega) (by omega) (by omega) (by omega) (lit_cells [0, 4, 1, 2] (Blk.new _ _ _) rfl)).mono ?_); rintro e w4 ⟨v, _, rfl, hr4, ho4⟩)
    have hown4 := OwT.ownP ((hown3.alloc (.cells #[.int .i64 0, .int .i64 4, .int .i64 1, .int .i64 2] 3)).kept ho4 (.inr (by simp [Value.ownBlock]; omega))) HXL.out
    have hO4 := only_trans (only_alloc hO3 _) ho4
    have k0 := hown4.cell (i := k) (q := 0) hkn (by omega)
    have l0 := hown4.frozen (k * 6)
    simp only [Nat.add_zero] at k0
    have HO4 := Lib.hid hown4
    have hkn' : (k : Int) < (n : Int) := by omega
    clear hown3 hown4
    go_wp2_with fail
    go_ret
    have hst := (HO4.out.set_at (o := k * 6) hkn (show 0 < 6 by omega) (by omega) (.int .i64 v)).congr (set_k HXL.out hkn HZ.out v)
    exact ⟨g, n, c, _, _, rfl, by rw [List.length_set]; exact HXL.out, hn, ⟨hcap.1, hcap.2.1⟩, hst.row, hgb, by omega, hr4.setCell (by simp; omega) _, only_setCell hO4 (by right; simpa using hgb) _⟩
  by_cases y1 : y = 1
  · subst y1
    go_wp2_with fail
    ((with_reducible refine (one_any rb _ w3.heap.size 3 3 (fun i => [-1, 1001, 1000].getD i 0) _ (hr3.alloc _) (by omega) (by omega) (by omega) (by omega) (lit_cells [-1, 1001, 1000] (Blk.new _ _ _) rfl)).mono ?_); rintro e w4 ⟨v, _, rfl, hr4, ho4⟩)
    have hown4 := OwT.ownP ((hown3.alloc (.cells #[.int .i64 (-1), .int .i64 1001, .int .i64 1000] 3)).kept ho4 (.inr (by simp [Value.ownBlock]; omega))) HXL.out
    have hO4 := only_trans (only_alloc hO3 _) ho4
    have k0 := hown4.cell (i := k) (q := 1) hkn (by omega)
    have l0 := hown4.frozen (k * 6 + 1)
    have HO4 := Lib.hid hown4
    have hkn' : (k : Int) < (n : Int) := by omega
    clear hown3 hown4
    go_wp2_with fail
    go_ret
    have hst := (HO4.out.set_at (o := k * 6 + 1) hkn (show 1 < 6 by omega) rfl (.int .i64 v)).congr (set_w HXL.out hkn HZ.out v)
    exact ⟨g, n, c, _, _, rfl, by rw [List.length_set]; exact HXL.out, hn, ⟨hcap.1, hcap.2.1⟩, hst.row, hgb, by omega, hr4.setCell (by simp; omega) _, only_setCell hO4 (by right; simpa using hgb) _⟩
  by_cases y2 : y = 2
  · subst y2
    go_wp2_with fail
    ((with_reducible refine (one_any rb _ w3.heap.size 3 3 (fun i => [1001, -1001, 5].getD i 0) _ (hr3.alloc _) (by omega) (by omega) (by omega) (by omega) (lit_cells [1001, -1001, 5] (Blk.new _ _ _) rfl)).mono ?_); rintro e w4 ⟨v, _, rfl, hr4, ho4⟩)
    have hown4 := OwT.ownP ((hown3.alloc (.cells #[.int .i64 1001, .int .i64 (-1001), .int .i64 5] 3)).kept ho4 (.inr (by simp [Value.ownBlock]; omega))) HXL.out
    have hO4 := only_trans (only_alloc hO3 _) ho4
    have k0 := hown4.cell (i := k) (q := 4) hkn (by omega)
    have l0 := hown4.frozen (k * 6 + 4)
    have HO4 := Lib.hid hown4
    have hkn' : (k : Int) < (n : Int) := by omega
    clear hown3 hown4
    go_wp2_with fail
    go_ret
    have hst := (HO4.out.set_at (o := k * 6 + 4) hkn (show 4 < 6 by omega) rfl (.int .i64 v)).congr (set_p HXL.out hkn HZ.out v)
    exact ⟨g, n, c, _, _, rfl, by rw [List.length_set]; exact HXL.out, hn, ⟨hcap.1, hcap.2.1⟩, hst.row, hgb, by omega, hr4.setCell (by simp; omega) _, only_setCell hO4 (by right; simpa using hgb) _⟩
  have hrow := (OwT.ownP hown3 HXL.out).row
  have HROW := Lib.hid hrow
  clear hown3 hrow
  have z0 : (y == 0) = false := by simp; omega
  have z1 : (y == 1) = false := by simp; omega
  have z2 : (y == 2) = false := by simp; omega
  by_cases y3 : y = 3
  · subst y3
    obtain ⟨m, rfl⟩ : ∃ m, n = m + 1 := ⟨n - 1, by omega⟩
    have hc1 : (m : Int) ≤ (c : Int) := by omega
    go_wp2_with fail
    go_ret
    refine ⟨g, m, c, xs.take m, _, rfl, by rw [List.length_take, HXL.out]; omega, by omega, ⟨by omega, hcap.2.1⟩, (HROW.out.init (by omega)).congr (fun i j hi hj => ?_), hgb, by omega, hr3, hO3⟩
    unfold itc
    rw [List.getD_eq_getElem?_getD, List.getD_eq_getElem?_getD, List.getElem?_take_of_lt hi]
  · have z3 : (y == 3) = false := by simp; omega
    go_wp2_with fail
    go_ret
    exact ⟨g, n, c, xs, _, rfl, HXL.out, hn, ⟨hcap.1, hcap.2.1⟩, HROW.out, hgb, by omega, hr3, hO3⟩

/-- What a call leaves that draws a number. -/
def DrawnN (w : World) (rb p K : Nat) (lo hi : Int) (e : Ending) (w' : World) : Prop :=
  ∃ (x : Int) (p' : Nat), e = .returned (.int .i64 x) ∧ lo ≤ x ∧ x ≤ hi ∧ p' ≤ p + K ∧ Rd w' rb p' ∧ w.grownBy w' (some rb)
theorem someWidth_any (rb p : Nat) (w : World) (h : Rd w rb p) (hp : p ≤ 140737488355328) : Calls Try.prog 50 #[.pointer (some ⟨rb, 0, none⟩)] w (DrawnN w rb p 2 0 10001) := by
  have hlt := h.lt
  go_enter Try.func50, Try.ntmps50
  go_wp2_with fail
  ((with_reducible refine (pick_any rb _ _ _ h (by omega)).mono ?_); rintro e w1 ⟨v, rfl, hv1, hv2, hr1, ho1⟩)
  clear hv2
  have hs1 := ho1.size
  by_cases v0 : v = 0
  · subst v0
    go_wp2_with fail
    ((with_reducible refine (one_any rb _ w1.heap.size 4 4 (fun i => [0, 10001, 10000, 1].getD i 0) _ (hr1.alloc _) (by omega) (by omega) (by omega) (by omega) (lit_cells [0, 10001, 10000, 1] (Blk.new _ _ _) rfl)).mono ?_); rintro e w4 ⟨x, hx, rfl, hr4, ho4⟩)
    obtain ⟨b0, b1⟩ := lit_bound [0, 10001, 10000, 1] 0 10001 (by decide) (by decide) hx
    go_wp2_with fail
    go_ret
    exact ⟨x, _, rfl, b0, b1, by omega, hr4, only_trans (only_alloc ho1 _) ho4⟩
  · have z0 : (v == 0) = false := by simp; omega
    go_wp2_with fail
    ((with_reducible refine (one_any rb _ w1.heap.size 7 7 (fun i => [12, 15, 20, 25, 30, 40, 18].getD i 0) _ (hr1.alloc _) (by omega) (by omega) (by omega) (by omega) (lit_cells [12, 15, 20, 25, 30, 40, 18] (Blk.new _ _ _) rfl)).mono ?_); rintro e w4 ⟨x, hx, rfl, hr4, ho4⟩)
    obtain ⟨b0, b1⟩ := lit_bound [12, 15, 20, 25, 30, 40, 18] 0 10001 (by decide) (by decide) hx
    go_wp2_with fail
    go_ret
    exact ⟨x, _, rfl, b0, b1, by omega, hr4, only_trans (only_alloc ho1 _) ho4⟩
end Go.Proofs.Ytkmipgekmbngcaa
/- The generator of tolerances returns some number. Conditions: the reader has yielded fewer than 2^47 numbers. -/
namespace Go.Proofs.Ytkmipgekmbngcaa
open Go.RowKit

theorem someTolerance_any (rb p : Nat) (w : World) (h : Rd w rb p) (hp : p ≤ 140737488355328) : Calls Try.prog 37 #[.pointer (some ⟨rb, 0, none⟩)] w (DrawnN w rb p 2 (-1) 10001) := by
  have hlt := h.lt
  go_enter Try.func37, Try.ntmps37
  go_wp2_with fail
  ((with_reducible refine (one_any rb _ w.heap.size 10 10 (fun i => [10000, 10000, 10000, 2000, 200, 50, 0, 10001, -1, 5000].getD i 0) _ (h.alloc _) (by omega) (by omega) (by omega) (by omega) (lit_cells [10000, 10000, 10000, 2000, 200, 50, 0, 10001, -1, 5000] (Blk.new _ _ _) rfl)).mono ?_); rintro e w4 ⟨x, hx, rfl, hr4, ho4⟩)
  obtain ⟨b0, b1⟩ := lit_bound [10000, 10000, 10000, 2000, 200, 50, 0, 10001, -1, 5000] (-1) 10001 (by decide) (by decide) hx
  go_wp2_with fail
  go_ret
  exact ⟨x, _, rfl, b0, b1, by omega, hr4, only_trans (only_alloc (only_refl _ _) _) ho4⟩
end Go.Proofs.Ytkmipgekmbngcaa
