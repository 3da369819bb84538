/- Boxes, in plain terms: validity, a row of boxes, a stack of boxes, and what the laws say of them. No program. No condition. -/
import Derived.Test.YtdbjjfjagalhbaaBase
namespace Go.Proofs.Ytdbjjfjagalhbaa

structure Bx where
  w : Int
  h : Int
  d : Int
deriving Inhabited
def Bx.v (b : Bx) : Value := .agg #[.int .i64 b.w, .int .i64 b.h, .int .i64 b.d]

def vBox (a b c : Int) : Bool := inR a 0 10000 && inR b 0 10000 && inR c 0 10000
theorem vBox_iff {a b c : Int} : vBox a b c = true ↔ (0 ≤ a ∧ a ≤ 10000) ∧ (0 ≤ b ∧ b ≤ 10000) ∧ 0 ≤ c ∧ c ≤ 10000 := by
  simp [vBox, inR_iff, and_assoc]
def Bx.ok (b : Bx) : Bool := vBox b.w b.h b.d
def boxesOk (l : List Bx) : Bool := l.all Bx.ok && decide (l.length ≤ 20)

/-- The space between two boxes. -/
def interl (d h s : Int) : Int := max 1 (s - d - h)
def interlV (a1 a2 a3 b1 b2 b3 s : Int) : Int := if vBox a1 a2 a3 && vBox b1 b2 b3 && inR s 0 10000 then interl a3 b2 s else -1

/-- A box if it is valid. -/
def chk (b : Bx) : Bx × Bool := if b.ok then (b, true) else (⟨0, 0, 0⟩, false)

def raiseB (b : Bx) (n : Int) : Bx × Bool := if b.ok && inR n (-10000) 10000 then chk ⟨b.w, max 0 (b.h + n), max 0 (b.d - n)⟩ else (⟨0, 0, 0⟩, false)

def rowStep (a b : Bx) : Bx := ⟨a.w + b.w, max a.h b.h, max a.d b.d⟩
def rowF (l : List Bx) : Bx := l.foldl rowStep ⟨0, 0, 0⟩
def rowB (l : List Bx) : Bx × Bool := if boxesOk l then chk (rowF l) else (⟨0, 0, 0⟩, false)

def stackStep (s : Int) (a : Bool × Bx) (b : Bx) : Bool × Bx :=
  (false, if a.1 then ⟨max a.2.w b.w, a.2.h + b.h, b.d⟩ else ⟨max a.2.w b.w, a.2.h + (a.2.d + interl a.2.d b.h s) + b.h, b.d⟩)
def stackF (s : Int) (l : List Bx) : Bx := (l.foldl (stackStep s) (true, ⟨0, 0, 0⟩)).2
def stackB (l : List Bx) (s : Int) : Bx × Bool := if boxesOk l && inR s 0 10000 then chk (stackF s l) else (⟨0, 0, 0⟩, false)

theorem take_succ_snoc {α : Type} [Inhabited α] (l : List α) (k : Nat) (h : k < l.length) : l.take (k + 1) = l.take k ++ [l.getD k default] := by
  rw [List.take_succ_eq_append_getElem h, List.getD_eq_getElem?_getD, List.getElem?_eq_getElem h]; rfl

theorem rowF_snoc (l : List Bx) (k : Nat) (h : k < l.length) : rowF (l.take (k + 1)) = rowStep (rowF (l.take k)) (l.getD k default) := by
  rw [take_succ_snoc l k h, rowF, List.foldl_append]; rfl
end Go.Proofs.Ytdbjjfjagalhbaa
