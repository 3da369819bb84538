/- Boxes, in plain terms: validity, a row of boxes, a stack of boxes, and what the laws say of them. No program. No condition. -/
import Derived.Test.YtdbjjfjagalhbaaBase
namespace Go.Proofs.Ytdbjjfjagalhbaa

structure Bx where
  w : Int
  h : Int
  d : Int
deriving Inhabited
def Bx.v (b : Bx) : Value := .agg #[.int .i64 b.w, .int .i64 b.h, .int .i64 b.d]

def vBox (a b c : Int) : Bool := inR a 0 10000 && inR b 0 10000 && inR c 0 10000
theorem vBox_iff {a b c : Int} : vBox a b c = true ↔ (0 ≤ a ∧ a ≤ 10000) ∧ (0 ≤ b ∧ b ≤ 10000) ∧ 0 ≤ c ∧ c ≤ 10000 := by
  simp [vBox, inR_iff, and_assoc]
def Bx.ok (b : Bx) : Bool := vBox b.w b.h b.d
def boxesOk (l : List Bx) : Bool := l.all Bx.ok && decide (l.length ≤ 20)

/-- The space between two boxes. -/
def interl (d h s : Int) : Int := max 1 (s - d - h)
def interlV (a1 a2 a3 b1 b2 b3 s : Int) : Int := if vBox a1 a2 a3 && vBox b1 b2 b3 && inR s 0 10000 then interl a3 b2 s else -1

/-- A box if it is valid. -/
def chk (b : Bx) : Bx × Bool := if b.ok then (b, true) else (⟨0, 0, 0⟩, false)

def raiseB (b : Bx) (n : Int) : Bx × Bool := if b.ok && inR n (-10000) 10000 then chk ⟨b.w, max 0 (b.h + n), max 0 (b.d - n)⟩ else (⟨0, 0, 0⟩, false)

def rowStep (a b : Bx) : Bx := ⟨a.w + b.w, max a.h b.h, max a.d b.d⟩
def rowF (l : List Bx) : Bx := l.foldl rowStep ⟨0, 0, 0⟩
def rowB (l : List Bx) : Bx × Bool := if boxesOk l then chk (rowF l) else (⟨0, 0, 0⟩, false)

def stackStep (s : Int) (first : Bool) (a b : Bx) : Bx :=
  if first then ⟨max a.w b.w, a.h + b.h, b.d⟩ else ⟨max a.w b.w, a.h + (a.d + interl a.d b.h s) + b.h, b.d⟩
def stackFold (s : Int) (l : List Bx) : Bool × Bx := l.foldl (fun a b => (false, stackStep s a.1 a.2 b)) (true, ⟨0, 0, 0⟩)
def stackF (s : Int) (l : List Bx) : Bx := (stackFold s l).2
def stackB (l : List Bx) (s : Int) : Bx × Bool := if boxesOk l && inR s 0 10000 then chk (stackF s l) else (⟨0, 0, 0⟩, false)

theorem take_succ_snoc {α : Type} [Inhabited α] (l : List α) (k : Nat) (h : k < l.length) : l.take (k + 1) = l.take k ++ [l.getD k default] := by
  rw [List.take_succ_eq_append_getElem h, List.getD_eq_getElem?_getD, List.getElem?_eq_getElem h]; rfl

theorem rowF_snoc (l : List Bx) (k : Nat) (h : k < l.length) : rowF (l.take (k + 1)) = rowStep (rowF (l.take k)) (l.getD k default) := by
  rw [take_succ_snoc l k h, rowF, List.foldl_append]; rfl

theorem mem_getD {α : Type} [Inhabited α] (l : List α) (k : Nat) (h : k < l.length) : l.getD k default ∈ l := by
  rw [List.getD_eq_getElem?_getD, List.getElem?_eq_getElem h]
  exact List.getElem_mem _
theorem boxesOk_iff {l : List Bx} : boxesOk l = true ↔ (∀ x ∈ l, vBox x.w x.h x.d = true) ∧ l.length ≤ 20 := by
  simp [boxesOk, Bx.ok]
theorem boxesOk_at {l : List Bx} (h : boxesOk l = true) {k : Nat} (hk : k < l.length) {x : Bx} (hx : l.getD k default = x) : (0 ≤ x.w ∧ x.w ≤ 10000) ∧ (0 ≤ x.h ∧ x.h ≤ 10000) ∧ 0 ≤ x.d ∧ x.d ≤ 10000 :=
  vBox_iff.1 ((boxesOk_iff.1 h).1 x (hx ▸ mem_getD l k hk))
theorem rowF_bound {l : List Bx} (h : boxesOk l = true) (k : Nat) (hk : k ≤ l.length) {a : Bx} (ha : rowF (l.take k) = a) :
    (0 ≤ a.w ∧ a.w ≤ 10000 * (k : Int)) ∧ (0 ≤ a.h ∧ a.h ≤ 10000) ∧ 0 ≤ a.d ∧ a.d ≤ 10000 := by
  induction k generalizing a with
  | zero => subst ha; simp [rowF]
  | succ k ih =>
    rw [rowF_snoc l k (by omega)] at ha
    obtain ⟨⟨a1, a2⟩, ⟨a3, a4⟩, a5, a6⟩ := ih (by omega) rfl
    obtain ⟨⟨b1, b2⟩, ⟨b3, b4⟩, b5, b6⟩ := boxesOk_at h (k := k) (by omega) rfl
    subst ha
    simp only [rowStep]
    omega

theorem stackFold_snoc (s : Int) (l : List Bx) (k : Nat) (h : k < l.length) : stackFold s (l.take (k + 1)) = (false, stackStep s (stackFold s (l.take k)).1 (stackFold s (l.take k)).2 (l.getD k default)) := by
  rw [take_succ_snoc l k h, stackFold, List.foldl_append]; rfl
theorem stackFold_fst (s : Int) (l : List Bx) (k : Nat) (h : k ≤ l.length) : (stackFold s (l.take k)).1 = decide (k = 0) := by
  cases k with
  | zero => rfl
  | succ k => rw [stackFold_snoc s l k (by omega)]; simp
theorem stackF_first (s : Int) (l : List Bx) (h : 0 < l.length) {x : Bx} (hx : l.getD 0 default = x) : stackF s (l.take 1) = ⟨max 0 x.w, x.h, x.d⟩ := by
  show (stackFold s (l.take (0 + 1))).2 = _
  rw [stackFold_snoc s l 0 h, hx]
  simp [stackFold, stackStep]
theorem stackF_next (s : Int) (l : List Bx) (k : Nat) (h : k < l.length) (h0 : 0 < k) {a x : Bx} (ha : stackF s (l.take k) = a) (hx : l.getD k default = x) :
    stackF s (l.take (k + 1)) = ⟨max a.w x.w, a.h + (a.d + interl a.d x.h s) + x.h, x.d⟩ := by
  show (stackFold s (l.take (k + 1))).2 = _
  rw [stackFold_snoc s l k h, stackFold_fst s l k (by omega), hx, show (stackFold s (l.take k)).2 = a from ha]
  have : decide (k = 0) = false := by simp; omega
  simp [this, stackStep]
theorem stackF_d (s : Int) (l : List Bx) (k : Nat) (h : k < l.length) : (stackF s (l.take (k + 1))).d = (l.getD k default).d := by
  show (stackFold s (l.take (k + 1))).2.d = _
  rw [stackFold_snoc s l k h]
  simp only [stackStep]
  split <;> rfl
theorem interl_bound {d h s : Int} (h1 : 0 ≤ d) (h2 : 0 ≤ h) (h3 : s ≤ 10000) : 1 ≤ interl d h s ∧ interl d h s ≤ 10000 := by
  unfold interl; omega
theorem stackF_bound {l : List Bx} (h : boxesOk l = true) {s : Int} (hs : s ≤ 10000) (k : Nat) (hk : k ≤ l.length) {a : Bx} (ha : stackF s (l.take k) = a) :
    (0 ≤ a.w ∧ a.w ≤ 10000) ∧ (0 ≤ a.h ∧ a.h ≤ 30000 * (k : Int)) ∧ 0 ≤ a.d ∧ a.d ≤ 10000 := by
  induction k generalizing a with
  | zero => subst ha; simp [stackF, stackFold]
  | succ k ih =>
    obtain ⟨⟨a1, a2⟩, ⟨a3, a4⟩, a5, a6⟩ := ih (by omega) rfl
    obtain ⟨⟨b1, b2⟩, ⟨b3, b4⟩, b5, b6⟩ := boxesOk_at h (k := k) (by omega) rfl
    rcases Nat.eq_zero_or_pos k with rfl | hk0
    · rw [stackF_first s l (by omega) rfl] at ha
      subst ha
      simp only
      omega
    · rw [stackF_next s l k (by omega) hk0 rfl rfl] at ha
      obtain ⟨i1, i2⟩ := interl_bound (s := s) a5 b3 hs
      subst ha
      simp only
      omega
end Go.Proofs.Ytdbjjfjagalhbaa
