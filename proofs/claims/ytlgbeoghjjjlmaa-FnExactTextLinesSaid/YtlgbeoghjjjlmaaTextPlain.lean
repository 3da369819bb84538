/- The lines of paragraphs: the plain list. No program. -/
import Derived.Test.YtlgbeoghjjjlmaaLineG
import Derived.Test.YtlgbeoghjjjlmaaWidow2
namespace Go.Proofs.Ytlgbeoghjjjlmaa

def penAt (x : Int) (k : Nat) : Int := (if k = 0 ∧ 1 < x then 100 else 0) + (if (k : Int) = x - 2 then 150 else 0)
def parL (h x : Int) (k : Nat) : List Ln := (List.range k).map fun i => ⟨h, 0, penAt x i⟩
def textL (h : Int) (l : List Int) : List Ln := l.flatMap fun x => parL h x x.toNat
def textOk (l : List Int) (h : Int) : Bool := sizesOk l && inR h 1 1000
def textV (l : List Int) (h : Int) : List Ln := if textOk l h then textL h l else []
theorem parL_len (h x : Int) (k : Nat) : (parL h x k).length = k := by simp [parL]
theorem parL_snoc (h x : Int) (k : Nat) : parL h x (k + 1) = parL h x k ++ [⟨h, 0, penAt x k⟩] := by simp [parL, List.range_succ]
theorem textL_snoc (h : Int) (l : List Int) (x : Int) : textL h (l ++ [x]) = textL h l ++ parL h x x.toNat := by simp [textL]
theorem textL_len (h : Int) {l : List Int} (ho : l.all sizeOk = true) : ((textL h l).length : Int) = l.sum := by
  induction l with
  | nil => rfl
  | cons x r ih =>
    simp only [List.all_cons, Bool.and_eq_true, sizeOk, decide_eq_true_eq] at ho
    have := ih ho.2
    rw [textL, List.flatMap_cons, List.length_append, parL_len, List.sum_cons]
    rw [textL] at this
    omega
theorem text_no {l : List Int} {h : Int} (ho : textOk l h = false) : textV l h = [] := by simp [textV, ho]
theorem text_yes {l : List Int} {h : Int} (ho : textOk l h = true) : textV l h = textL h l := by simp [textV, ho]
theorem pen_both (x : Int) (h : x = 2) : penAt x 0 = 250 := by subst h; decide
theorem pen_first (x : Int) (h : 1 < x) (h2 : x ≠ 2) : penAt x 0 = 100 := by simp [penAt, h]; omega
theorem pen_last (x : Int) (k : Nat) (h : k ≠ 0) (h2 : (k : Int) = x - 2) : penAt x k = 150 := by simp [penAt, h, h2]
theorem pen_none (x : Int) (k : Nat) (h : ¬ (k = 0 ∧ 1 < x)) (h2 : (k : Int) ≠ x - 2) : penAt x k = 0 := by simp [penAt, h, h2]
end Go.Proofs.Ytlgbeoghjjjlmaa
