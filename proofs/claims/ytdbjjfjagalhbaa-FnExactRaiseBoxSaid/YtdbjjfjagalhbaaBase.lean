/- Words that all proofs of this seat share: a range test; rows of cells in memory; the two range functions of the program and of the reference return what the test says. No condition. -/
import Derived.Test.YtdbjjfjagalhbaaRows
import Derived.WalkKit
import Derived.WalkSpells
import Derived.WalkLawsBesides
import Derived.Handy
import Derived.Lib.Hide
import Derived.Deep.LoopGhost
import Derived.Deep.OwnRows
namespace Go.Proofs.Ytdbjjfjagalhbaa
open Go.RowKit

theorem own : ownKnob Try.prog.godebug = none := by kernel_rfl
theorem laidOut : laidOutB Try.prog = true := by kernel_rfl

/-- A number lies in a range. -/
def inR (a l h : Int) : Bool := decide (l ≤ a) && decide (a ≤ h)
theorem inR_iff {a l h : Int} : inR a l h = true ↔ l ≤ a ∧ a ≤ h := by simp [inR]
theorem inR_no {a l h : Int} : inR a l h = false ↔ (a < l ∨ h < a) := by
  simp only [inR, Bool.and_eq_false_iff, decide_eq_false_iff_not]; omega
theorem inR_mk {a l h : Int} (h1 : l ≤ a) (h2 : a ≤ h) : inR a l h = true := inR_iff.2 ⟨h1, h2⟩

theorem ret_int {k : IntKind} {a b : Int} (h : a = b) : Ending.returned (.int k a) = .returned (.int k b) := by rw [h]
theorem ret_bool {a b : Bool} (h : a = b) : Ending.returned (.bool a) = .returned (.bool b) := by rw [h]

theorem bcell {W w1 : World} {B : Nat} (hb : Below B W w1) : (∀ b o, b < B → w1.cell? ⟨b, o, none⟩ = W.cell? ⟨b, o, none⟩) ∧ (∀ b o, b < B → w1.frozen? ⟨b, o, none⟩ = W.frozen? ⟨b, o, none⟩) :=
  ⟨fun b o h => hb.cell (p := ⟨b, o, none⟩) h, fun b o h => hb.frozen (p := ⟨b, o, none⟩) h⟩
theorem below_then {B : Nat} {w w1 w2 : World} (hB : B ≤ w.heap.size) (h1 : Below B w w1) (h2 : Below w1.heap.size w1 w2) : Below B w w2 := h1.trans (h2.mono (Nat.le_trans hB h1.size))
theorem below_drewN {B : Nat} {a w : World} (h : Below B a w) (n : Nat) : Below B a (w.drewN n) := ⟨h.os, h.tape, h.output, h.size, h.block⟩

/-- A slice of n elements, sz cells each, that lies below block B: cell j of element i holds 'f i j'. -/
def Row (w : World) (B sz : Nat) (A : Option Addr) (n : Nat) (f : Nat → Nat → Value) : Prop :=
  0 < n → ∃ b off, A = some ⟨b, off, none⟩ ∧ b < B ∧ ∀ i j, i < n → j < sz → w.cell? ⟨b, off + (i * sz + j), none⟩ = some (f i j)

section
variable {w w' : World} {B B' sz n : Nat} {A : Option Addr} {f : Nat → Nat → Value}
theorem Row.nil : Row w B sz A 0 f := fun h => absurd h (by omega)
theorem Row.keep (h : Row w B sz A n f) (hk : ∀ p : Addr, p.block < B → w'.cell? p = w.cell? p) : Row w' B sz A n f := fun hn => by
  obtain ⟨b, off, e, hb, hc⟩ := h hn
  exact ⟨b, off, e, hb, fun i j hi hj => (hk _ hb).trans (hc i j hi hj)⟩
theorem Row.more (h : Row w B sz A n f) (hB : B ≤ B') : Row w B' sz A n f := fun hn => by
  obtain ⟨b, off, e, hb, hc⟩ := h hn
  exact ⟨b, off, e, by omega, hc⟩
theorem Row.below (h : Row w B sz A n f) (hb : Below B w w') : Row w' B sz A n f := h.keep fun _ hp => hb.cell hp
theorem Row.grown (h : Row w B sz A n f) {row : Option Nat} (hg : w.grownBy w' row) (hB : B ≤ w.heap.size) (hr : ∀ g, row = some g → B ≤ g) : Row w' B sz A n f :=
  h.keep fun p hp => World.cell?_of_block (hg.block p.block (by omega) (fun e => by have := hr _ e.symm; omega))
theorem Row.congr (h : Row w B sz A n f) {g : Nat → Nat → Value} (e : ∀ i j, i < n → j < sz → f i j = g i j) : Row w B sz A n g := fun hn => by
  obtain ⟨b, off, ea, hb, hc⟩ := h hn
  exact ⟨b, off, ea, hb, fun i j hi hj => (hc i j hi hj).trans (by rw [e i j hi hj])⟩
/-- The first k elements. -/
theorem Row.init (h : Row w B sz A n f) {k : Nat} (hk : k ≤ n) : Row w B sz A k f := fun hn => by
  obtain ⟨b, off, e, hb, hc⟩ := h (by omega)
  exact ⟨b, off, e, hb, fun i j hi hj => hc i j (by omega) hj⟩
end

/-- From 'for every i < n there is one' to one list. -/
theorem list_of {α : Type} [Inhabited α] (n : Nat) (P : Nat → α → Prop) (h : ∀ i, i < n → ∃ x, P i x) : ∃ xs : List α, xs.length = n ∧ ∀ i, i < n → P i (xs.getD i default) := by
  induction n with
  | zero => exact ⟨[], rfl, fun i hi => by omega⟩
  | succ n ih =>
    obtain ⟨xs, hl, hx⟩ := ih fun i hi => h i (by omega)
    obtain ⟨x, hp⟩ := h n (by omega)
    refine ⟨xs ++ [x], by simp [hl], fun i hi => ?_⟩
    rcases Nat.lt_or_ge i n with hlt | hge
    · have := hx i hlt
      rw [List.getD_eq_getElem?_getD] at this ⊢
      rwa [List.getElem?_append_left (by omega)]
    · obtain rfl : i = n := by omega
      rw [List.getD_eq_getElem?_getD, List.getElem?_append_right (by omega), hl]
      simpa using hp

theorem within_any (a l h : Int) (w : World) :
    Calls Try.prog 35 #[.int .i64 a, .int .i64 l, .int .i64 h] w fun e w' => e = .returned (.bool (inR a l h)) ∧ w = w' := by
  by_cases hl : l ≤ a <;> by_cases hh : a ≤ h
  all_goals
    have e : inR a l h = (decide (l ≤ a) && decide (a ≤ h)) := rfl
    simp only [hl, hh, decide_true, decide_false, Bool.true_and, Bool.false_and, Bool.and_true] at e
    rw [e]; clear e
    go_enter Try.func35, Try.ntmps35
    go_wp2
    go_ret
    exact ⟨rfl, rfl⟩
theorem inRange_any (a l h : Int) (w : World) :
    Calls Try.prog 36 #[.int .i64 a, .int .i64 l, .int .i64 h] w fun e w' => e = .returned (.bool (inR a l h)) ∧ w = w' := by
  by_cases hl : l ≤ a <;> by_cases hh : a ≤ h
  all_goals
    have e : inR a l h = (decide (l ≤ a) && decide (a ≤ h)) := rfl
    simp only [hl, hh, decide_true, decide_false, Bool.true_and, Bool.false_and, Bool.and_true] at e
    rw [e]; clear e
    go_enter Try.func36, Try.ntmps36
    go_wp2
    go_ret
    exact ⟨rfl, rfl⟩
end Go.Proofs.Ytdbjjfjagalhbaa
