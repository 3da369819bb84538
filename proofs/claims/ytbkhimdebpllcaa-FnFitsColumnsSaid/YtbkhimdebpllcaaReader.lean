/- The generator's reader: newReader, pick and one. A reader stays a reader: a call of pick writes into the reader's own block alone, and returns a number in 0..n-1. Conditions: the reader has yielded fewer than 2^50 numbers. -/
import Derived.Test.YtbkhimdebpllcaaBase
import Derived.Deep.QuietTactic
import Derived.BigQuiet
import Derived.Laws.BitsAllLaws
import Derived.Laws.BitsLemmas
namespace Go.Proofs.Ytbkhimdebpllcaa
open Go.RowKit

section
variable {a b c w w' : World} {rb : Nat}
theorem only_refl (w : World) (rb : Nat) : w.grownBy w (some rb) := ⟨rfl, rfl, rfl, Nat.le_refl _, fun _ _ _ => rfl⟩
theorem only_trans {row : Option Nat} (h : a.grownBy b row) (k : b.grownBy c row) : a.grownBy c row :=
  ⟨k.os.trans h.os, k.tape.trans h.tape, k.output.trans h.output, Nat.le_trans h.size k.size, fun i hi hn => (k.block i (Nat.lt_of_lt_of_le hi h.size) hn).trans (h.block i hi hn)⟩
theorem only_drewN {row : Option Nat} (h : a.grownBy w row) (n : Nat) : a.grownBy (w.drewN n) row := ⟨h.os, h.tape, h.output, h.size, h.block⟩
theorem only_drew {row : Option Nat} (h : a.grownBy w row) : a.grownBy w.drew row := ⟨h.os, h.tape, h.output, h.size, h.block⟩
theorem only_alloc {row : Option Nat} (h : a.grownBy w row) (o : Obj) : a.grownBy (w.alloc o) row :=
  ⟨h.os, h.tape, h.output, Nat.le_trans h.size (by simp), fun i hi hne => (Below.heap_alloc w o i (Nat.lt_of_lt_of_le hi h.size)).trans (h.block i hi hne)⟩
theorem only_setCell {g : Nat} (h : a.grownBy w (some g)) {p : Addr} (hp : p.block = g ∨ a.heap.size ≤ p.block) (u : Value) : a.grownBy (w.setCell p u) (some g) :=
  ⟨h.os, h.tape, h.output, by simpa [World.setCell] using h.size, fun i hi hne => (Below.heap_setCell w p u i (by
    rintro rfl
    rcases hp with hp | hp
    · exact hne (by rw [hp])
    · omega)).trans (h.block i hi hne)⟩
/-- A write into a row of the call's own. -/
theorem only_own {A : Option Addr} {n m : Nat} (h : a.grownBy b (some rb)) (k : b.grownBy c (Value.ownBlock (.slice A n m))) (hg : ∀ x, A = some x → a.heap.size ≤ x.block) : a.grownBy c (some rb) :=
  ⟨k.os.trans h.os, k.tape.trans h.tape, k.output.trans h.output, Nat.le_trans h.size k.size, fun i hi hn => (k.block i (Nat.lt_of_lt_of_le hi h.size) (fun e => by
    cases A with
    | none => simp [Value.ownBlock] at e
    | some x => have := hg x rfl; simp [Value.ownBlock] at e; omega)).trans (h.block i hi hn)⟩
theorem only_of_below {a w : World} (h : Below a.heap.size a w) (row : Option Nat) : a.grownBy w row := ⟨h.os, h.tape, h.output, h.size, fun i hi _ => h.block i hi⟩
theorem below_of_only {B : Nat} (h : w.grownBy w' (some rb)) (h1 : B ≤ rb) (h2 : B ≤ w.heap.size) : Below B w w' :=
  ⟨h.os, h.tape, h.output, h.size, fun i hi => h.block i (by omega) (fun e => by injection e; omega)⟩
end

/-- A row that lies in another block than the reader stays. -/
theorem Row.only {w w' : World} {B sz n rb : Nat} {A : Option Addr} {f : Nat → Nat → Value} (h : Row w B sz A n f) (k : w.grownBy w' (some rb)) (hA : ∀ x, A = some x → rb < x.block) (hB : B ≤ w.heap.size) : Row w' B sz A n f := fun hn => by
  obtain ⟨b, off, e, hb, hc⟩ := h hn
  have hlt := hA _ e
  exact ⟨b, off, e, hb, fun i j hi hj => (World.cell?_of_block (k.block b (by omega) (fun e' => by injection e' with e'; simp at hlt; omega))).trans (hc i j hi hj)⟩
/-- Block rb is a reader that has yielded p numbers. -/
def Rd (w : World) (rb p : Nat) : Prop :=
  ∃ (A : Option Addr) (n c : Nat) (bs : Nat → Int), w.heap[rb]? = some (.cells #[.slice A n c, .int .i64 (p : Int)] 73 (0, 0)) ∧ n ≤ 2000 ∧
    Row w rb 1 A n (fun i _ => .int .u8 (bs i)) ∧ ∀ i, 0 ≤ bs i ∧ bs i ≤ 255
theorem Rd.lt {w : World} {rb p : Nat} (h : Rd w rb p) : rb < w.heap.size := by
  obtain ⟨A, n, c, bs, hh, _⟩ := h
  exact (Array.getElem?_eq_some_iff.1 hh).1
theorem Rd.keep {w w' : World} {rb p : Nat} (h : Rd w rb p) (hk : ∀ k, k ≤ rb → w'.heap[k]? = w.heap[k]?) : Rd w' rb p := by
  obtain ⟨A, n, c, bs, hh, hn, hr, hb⟩ := h
  exact ⟨A, n, c, bs, (hk rb (Nat.le_refl _)).trans hh, hn, hr.keep (fun q hq => World.cell?_of_block (hk _ (by omega))), hb⟩
theorem Rd.own {w w' : World} {rb p : Nat} {A : Option Addr} {n m : Nat} (h : Rd w rb p) (k : w.grownBy w' (Value.ownBlock (.slice A n m))) (hg : ∀ x, A = some x → rb < x.block) : Rd w' rb p := h.keep fun i hi => k.block i (by have := h.lt; omega) (fun e => by
  cases A with
  | none => simp [Value.ownBlock] at e
  | some x => have := hg x rfl; simp [Value.ownBlock] at e; omega)
theorem Rd.alloc {w : World} {rb p : Nat} (h : Rd w rb p) (o : Obj) : Rd (w.alloc o) rb p := h.keep fun k hk => Below.heap_alloc w o k (by have := h.lt; omega)
theorem Rd.setCell {w : World} {rb p : Nat} (h : Rd w rb p) {q : Addr} (hq : rb < q.block) (u : Value) : Rd (w.setCell q u) rb p := h.keep fun k hk => Below.heap_setCell w q u k (by omega)
theorem Rd.drew {w : World} {rb p : Nat} (h : Rd w rb p) : Rd w.drew rb p := h
theorem Rd.drewN {w : World} {rb p : Nat} (h : Rd w rb p) (n : Nat) : Rd (w.drewN n) rb p := h
theorem Rd.below {w w' : World} {rb p B : Nat} (h : Rd w rb p) (hb : Below B w w') (hB : rb < B) : Rd w' rb p := h.keep fun k hk => hb.block k (by omega)

theorem ofInt_i64 (a : Nat) (ha : a < 9223372036854775808) : (BitVec.ofInt 64 (a : Int)).toNat = a := by
  rw [BitVec.ofInt_natCast, BitVec.toNat_ofNat]; exact Nat.mod_eq_of_lt (by omega)
theorem xor_pos (x y : Int) (hx : 0 ≤ x) (hx' : x < 9223372036854775808) (hy : 0 ≤ y) (hy' : y < 9223372036854775808) : 0 ≤ bits .xor .i64 x y ∧ bits .xor .i64 x y < 9223372036854775808 := by
  obtain ⟨a, rfl⟩ := Int.eq_ofNat_of_zero_le hx
  obtain ⟨b, rfl⟩ := Int.eq_ofNat_of_zero_le hy
  have hx : a ^^^ b < 2 ^ 63 := Nat.xor_lt_two_pow (by omega) (by omega)
  have e : bits .xor .i64 (a : Int) (b : Int) = ((a ^^^ b : Nat) : Int) := by
    show IntKind.i64.wrap ((BitVec.ofInt 64 (a : Int) ^^^ BitVec.ofInt 64 (b : Int)).toNat : Int) = _
    rw [BitVec.toNat_xor, ofInt_i64 a (by omega), ofInt_i64 b (by omega), IntKind.wrap_i64]
    omega
  rw [e]
  omega

/-- What a call leaves that draws a number below m from the reader. -/
def Picked (w : World) (rb p : Nat) (m : Int) (e : Ending) (w' : World) : Prop :=
  ∃ x : Int, e = .returned (.int .i64 x) ∧ 0 ≤ x ∧ (1 ≤ m → x < m) ∧ Rd w' rb (p + 1) ∧ w.grownBy w' (some rb)

theorem Rd.step {w : World} {rb p : Nat} {A : Option Addr} {n c : Nat} {bs : Nat → Int} (hh : w.heap[rb]? = some (.cells #[.slice A n c, .int .i64 (p : Int)] 73 (0, 0))) (hn : n ≤ 2000)
    (hr : Row w rb 1 A n (fun i _ => .int .u8 (bs i))) (hb : ∀ i, 0 ≤ bs i ∧ bs i ≤ 255) {v : Value} (hv : v = .int .i64 ((p + 1 : Nat) : Int)) : Rd (w.setCell ⟨rb, 1, none⟩ v) rb (p + 1) := by
  subst hv
  refine ⟨A, n, c, bs, ?_, hn, hr.keep (fun q hq => World.cell?_of_block (Below.heap_setCell w ⟨rb, 1, none⟩ _ q.block (by simp; omega))), hb⟩
  simp [World.setCell, Array.getElem?_modify, hh]

set_option maxHeartbeats 1000000 in
theorem pick_any (rb p : Nat) (m : Int) (w : World) (h : Rd w rb p) (hp : p ≤ 1125899906842624) :
    Calls Try.prog 48 #[.pointer (some ⟨rb, 0, none⟩), .int .i64 m] w (Picked w rb p m) := by
  obtain ⟨A, n, c, bs, hh, hn, hr, hb⟩ := h
  have HH := Lib.hid hh
  have c0 : w.cell? ⟨rb, 0, none⟩ = _ := cell_of_row w rb 0 _ _ (0, 0) hh
  have c1 : w.cell? ⟨rb, 1, none⟩ = _ := cell_of_row w rb 1 _ _ (0, 0) hh
  have f1 : w.frozen? ⟨rb, 1, none⟩ = false := by simp [World.frozen?, hh]
  have hlt := (Array.getElem?_eq_some_iff.1 hh).1
  simp only [List.getElem?_toArray, List.getElem?_cons_zero, List.getElem?_cons_succ] at c0 c1
  clear hh
  have HB := Lib.hid hb
  have HRR := Lib.hid hr
  by_cases hm : m < 1
  · clear hb hr
    go_enter Try.func48, Try.ntmps48
    go_wp2
    go_ret
    exact ⟨0, rfl, by omega, by omega, Rd.step HH.out hn HRR.out HB.out (by go_num), by (repeat' (first | (with_reducible exact only_refl _ _) | (with_reducible assumption) | (with_reducible refine only_alloc ?_ _) | (with_reducible refine only_drew ?_) | (with_reducible refine only_drewN ?_ _) | (with_reducible refine only_setCell ?_ ?_ _) | (with_reducible refine only_trans ?_ (by with_reducible assumption)) | (with_reducible exact Or.inl rfl) | (refine Or.inr ?_; first | (simp; done) | omega | (simp; omega)) | omega))⟩
  by_cases hn0 : n = 0
  · subst hn0
    clear hb hr
    go_enter Try.func48, Try.ntmps48
    go_wp2
    go_ret
    exact ⟨0, rfl, by omega, by omega, Rd.step HH.out hn HRR.out HB.out (by go_num), by (repeat' (first | (with_reducible exact only_refl _ _) | (with_reducible assumption) | (with_reducible refine only_alloc ?_ _) | (with_reducible refine only_drew ?_) | (with_reducible refine only_drewN ?_ _) | (with_reducible refine only_setCell ?_ ?_ _) | (with_reducible refine only_trans ?_ (by with_reducible assumption)) | (with_reducible exact Or.inl rfl) | (refine Or.inr ?_; first | (simp; done) | omega | (simp; omega)) | omega))⟩
  have hn1 : 0 < n := by omega
  have hne : ((n : Int) == 0) = false := by simp; omega
  obtain ⟨b, off, rfl, hbr, hc⟩ := hr.at1 hn1
  have hbne : ¬ b = rb := by omega
  by_cases hpn : p < n
  · have e0 := hc p hpn
    have hbp := hb p
    obtain ⟨g1, g2⟩ := hbp
    obtain ⟨x, hx⟩ : ∃ x, bs p = x := ⟨_, rfl⟩
    rw [hx] at e0 g1 g2
    clear hb hr hc hn0 hx
    have hpn' : (p : Int) < (n : Int) := by omega
    go_enter Try.func48, Try.ntmps48
    go_wp2
    go_ret
    exact ⟨x % m, rfl, Int.emod_nonneg _ (by omega), fun _ => Int.emod_lt_of_pos _ (by omega), Rd.step HH.out hn HRR.out HB.out (by go_num), by (repeat' (first | (with_reducible exact only_refl _ _) | (with_reducible assumption) | (with_reducible refine only_alloc ?_ _) | (with_reducible refine only_drew ?_) | (with_reducible refine only_drewN ?_ _) | (with_reducible refine only_setCell ?_ ?_ _) | (with_reducible refine only_trans ?_ (by with_reducible assumption)) | (with_reducible exact Or.inl rfl) | (refine Or.inr ?_; first | (simp; done) | omega | (simp; omega)) | omega))⟩
  · obtain ⟨q, hq⟩ : ∃ q, p % n = q := ⟨_, rfl⟩
    obtain ⟨r, hr'⟩ : ∃ r, (p * 7 + 3) % n = r := ⟨_, rfl⟩
    obtain ⟨k, hk⟩ : ∃ k, p / n = k := ⟨_, rfl⟩
    have hqn : q < n := hq ▸ Nat.mod_lt _ hn1
    have hrn : r < n := hr' ▸ Nat.mod_lt _ hn1
    have hkp : k ≤ p := hk ▸ Nat.div_le_self _ _
    have t1 : (p : Int).tmod (n : Int) = (q : Int) := by rw [← hq, ← Int.ofNat_tmod]
    have t2 : ((p : Int) * 7 + 3).tmod (n : Int) = (r : Int) := by
      have e : (p : Int) * 7 + 3 = ((p * 7 + 3 : Nat) : Int) := by omega
      rw [e, ← hr', ← Int.ofNat_tmod]
    have t3 : (p : Int).tdiv (n : Int) = (k : Int) := by rw [← hk, Int.ofNat_tdiv]
    have e0 := hc q hqn
    have e1 := hc r hrn
    obtain ⟨g1, g2⟩ := hb q
    obtain ⟨g3, g4⟩ := hb r
    obtain ⟨x, hx⟩ : ∃ x, bs q = x := ⟨_, rfl⟩
    obtain ⟨y, hy⟩ : ∃ y, bs r = y := ⟨_, rfl⟩
    rw [hx] at e0 g1 g2
    rw [hy] at e1 g3 g4
    clear hb hr hc hx hy hq hr' hk
    have hpn' : (n : Int) ≤ (p : Int) := by omega
    have hqn' : (q : Int) < (n : Int) := by omega
    have hrn' : (r : Int) < (n : Int) := by omega
    have v1 : IntKind.i64.wrap (q : Int) = q := IntWalk.i64_in _ (by omega)
    have v2 : IntKind.i64.wrap (r : Int) = r := IntWalk.i64_in _ (by omega)
    have v3 : IntKind.i64.wrap (k : Int) = k := IntWalk.i64_in _ (by omega)
    have v4 : IntKind.i64.wrap x = x := IntWalk.i64_in _ (by omega)
    have v5 : IntKind.i64.wrap y = y := IntWalk.i64_in _ (by omega)
    have v6 : IntKind.i64.wrap (x * 131) = x * 131 := IntWalk.i64_in _ (by omega)
    have v7 : IntKind.i64.wrap (y * 1117) = y * 1117 := IntWalk.i64_in _ (by omega)
    have v8 : IntKind.i64.wrap ((p : Int) * 7) = (p : Int) * 7 := IntWalk.i64_in _ (by omega)
    have v9 : IntKind.i64.wrap ((p : Int) * 7 + 3) = (p : Int) * 7 + 3 := IntWalk.i64_in _ (by omega)
    have v10 : IntKind.i64.wrap (x * 131 + y * 1117) = x * 131 + y * 1117 := IntWalk.i64_in _ (by omega)
    have v11 : IntKind.i64.wrap ((p : Int) * 29) = (p : Int) * 29 := IntWalk.i64_in _ (by omega)
    have v12 : IntKind.i64.wrap (x * 131 + y * 1117 + (p : Int) * 29) = x * 131 + y * 1117 + (p : Int) * 29 := IntWalk.i64_in _ (by omega)
    have v13 : IntKind.i64.wrap ((k : Int) * 53) = (k : Int) * 53 := IntWalk.i64_in _ (by omega)
    have v14 : IntKind.i64.wrap (x * 131 + y * 1117 + (p : Int) * 29 + (k : Int) * 53) = x * 131 + y * 1117 + (p : Int) * 29 + (k : Int) * 53 := IntWalk.i64_in _ (by omega)
    go_enter Try.func48, Try.ntmps48
    go_wp2
    go_quiet (fail)
    generalize hz : x * 131 + y * 1117 + (p : Int) * 29 + (k : Int) * 53 = z
    have hz1 : 0 ≤ z := by omega
    have hz2 : z < 9223372036854775808 := by omega
    clear hz
    obtain ⟨hy1, hy2⟩ := xor_pos z (z / 64) hz1 hz2 (by omega) (by omega)
    go_wp2
    go_ret
    exact ⟨_, rfl, Int.emod_nonneg _ (by omega), fun _ => Int.emod_lt_of_pos _ (by omega), (Rd.step HH.out hn HRR.out HB.out (by go_num)).drewN _, by (repeat' (first | (with_reducible exact only_refl _ _) | (with_reducible assumption) | (with_reducible refine only_alloc ?_ _) | (with_reducible refine only_drew ?_) | (with_reducible refine only_drewN ?_ _) | (with_reducible refine only_setCell ?_ ?_ _) | (with_reducible refine only_trans ?_ (by with_reducible assumption)) | (with_reducible exact Or.inl rfl) | (refine Or.inr ?_; first | (simp; done) | omega | (simp; omega)) | omega))⟩

/-- What a call leaves that draws one of the numbers f 0 .. f (k - 1). -/
def OneOf (w : World) (rb p k : Nat) (f : Nat → Int) (e : Ending) (w' : World) : Prop :=
  ∃ v : Int, (∃ i : Nat, i < k ∧ v = f i) ∧ e = .returned (.int .i64 v) ∧ Rd w' rb (p + 1) ∧ w.grownBy w' (some rb)

theorem one_any (rb p g k c : Nat) (f : Nat → Int) (w : World) (h : Rd w rb p) (hp : p ≤ 1125899906842624) (hg : rb < g) (hk : 0 < k) (hk2 : k ≤ 1000) (hc : ∀ i, i < k → w.cell? ⟨g, i, none⟩ = some (.int .i64 (f i))) :
    Calls Try.prog 43 #[.pointer (some ⟨rb, 0, none⟩), .slice (some ⟨g, 0, none⟩) k c] w (OneOf w rb p k f) := by
  have HC := Lib.hid hc; clear hc
  go_enter Try.func43, Try.ntmps43
  go_wp2_with fail
  ((with_reducible refine (pick_any _ _ _ _ h hp).mono ?_); rintro e w1 ⟨x, rfl, hx0, hx1, hr1, ho1⟩)
  have hx2 := hx1 (by omega)
  obtain ⟨i, rfl⟩ := Int.eq_ofNat_of_zero_le hx0
  have hi : i < k := by omega
  have hz0 := HC.out 0 hk
  have hz := World.block_lt_of_cell? w _ hz0
  have e0 : w1.cell? ⟨g, i, none⟩ = some (.int .i64 (f i)) := ho1.cell (HC.out i hi) (by simp; omega)
  clear hz0 hx1
  go_wp2
  go_ret
  exact ⟨f i, ⟨i, hi, rfl⟩, rfl, hr1, ho1⟩

theorem lit_bound (l : List Int) (lo hi : Int) (h : ∀ x ∈ l, lo ≤ x ∧ x ≤ hi) {v : Int} {k : Nat} (hk : k ≤ l.length) (hv : ∃ i, i < k ∧ v = l.getD i 0) : lo ≤ v ∧ v ≤ hi := by
  obtain ⟨i, hi', rfl⟩ := hv
  rw [List.getD_eq_getElem?_getD, List.getElem?_eq_getElem (by omega)]
  exact h _ (List.getElem_mem _)
/-- The numbers of a written list. -/
theorem lit_cells {w : World} {g : Nat} {t : TypeId} {cs : Array Value} (l : List Int) (h : Blk w g t cs) (e : cs = (l.map (Value.int .i64)).toArray) : ∀ i, i < l.length → w.cell? ⟨g, i, none⟩ = some (.int .i64 (l.getD i 0)) := by
  intro i hi
  rw [h.cell i, e]
  simp [List.getD_eq_getElem?_getD, List.getElem?_eq_getElem hi]

theorem newReader_any (A : Option Addr) (n cap : Nat) (xs : List Int) (w : World) (hn : n ≤ maxLen) (hcap : n ≤ cap) (hcm : cap ≤ maxLen) (hw : ∀ x ∈ xs, 0 ≤ x ∧ x ≤ 255) (hr : Row w w.heap.size 1 A n (fun i _ => .int .u8 (xs.getD i 0))) :
    Calls Try.prog 42 #[.slice A n cap] w fun e w' => e = .returned (.pointer (some ⟨w.heap.size, 0, none⟩)) ∧ Rd w' w.heap.size 0 ∧ Below w.heap.size w w' := by
  have hbs : ∀ i, 0 ≤ xs.getD i 0 ∧ xs.getD i 0 ≤ 255 := by
    intro i
    rw [List.getD_eq_getElem?_getD]
    rcases Nat.lt_or_ge i xs.length with h | h
    · rw [List.getElem?_eq_getElem h]
      exact hw _ (List.getElem_mem h)
    · rw [List.getElem?_eq_none h]
      simp
  unfold maxLen at hn hcm
  by_cases hbig : 2000 < n
  · obtain ⟨b, off, rfl, hb, hc⟩ := hr (by omega)
    clear hc
    have h1 : (2000 : Int) ≤ (cap : Int) := by omega
    go_enter Try.func42, Try.ntmps42
    go_wp2
    go_ret
    refine ⟨rfl, ⟨_, 2000, _, fun i => xs.getD i 0, heap_alloc_new w _, by omega, ?_, hbs⟩, by (repeat' (first | (with_reducible exact Below.refl _ _) | (with_reducible assumption) | (with_reducible refine Below.alloc ?_ ?_ _) | (with_reducible refine Below.drew ?_) | (with_reducible refine below_drewN ?_ _) | (with_reducible refine Below.setCell ?_ ?_ _) | (with_reducible refine below_then ?_ ?_ (by with_reducible assumption)) | (with_reducible exact Nat.le_refl _) | go_size | (simp only [*]; done)))⟩
    exact (hr.init (by omega)).keep fun p hp => World.cell?_alloc_lt w _ p (by omega)
  · have HR := Lib.hid hr; clear hr
    go_enter Try.func42, Try.ntmps42
    go_wp2
    go_ret
    refine ⟨rfl, ⟨_, n, _, fun i => xs.getD i 0, heap_alloc_new w _, by omega, ?_, hbs⟩, by (repeat' (first | (with_reducible exact Below.refl _ _) | (with_reducible assumption) | (with_reducible refine Below.alloc ?_ ?_ _) | (with_reducible refine Below.drew ?_) | (with_reducible refine below_drewN ?_ _) | (with_reducible refine Below.setCell ?_ ?_ _) | (with_reducible refine below_then ?_ ?_ (by with_reducible assumption)) | (with_reducible exact Nat.le_refl _) | go_size | (simp only [*]; done)))⟩
    exact HR.out.keep fun p hp => World.cell?_alloc_lt w _ p (by omega)
end Go.Proofs.Ytbkhimdebpllcaa
