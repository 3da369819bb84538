/- Pages, in plain terms: the height of lines, the cost of a page. No program. No condition. -/
import Derived.Test.YticdgpgbpgjnbaaLineValid
namespace Go.Proofs.Yticdgpgbpgjnbaa

def aSum (l : List Ln) : Int := l.foldl (fun s x => s + x.a) 0
def bSum (l : List Ln) : Int := l.foldl (fun s x => s + x.b) 0
theorem aSum_snoc (l : List Ln) (x : Ln) : aSum (l ++ [x]) = aSum l + x.a := by simp [aSum]
theorem bSum_snoc (l : List Ln) (x : Ln) : bSum (l ++ [x]) = bSum l + x.b := by simp [bSum]
def rule (h n : Int) : Int := if 0 < n then h + (n + 2) else h
def pageH (l : List Ln) : Int := rule (aSum l) (bSum l)
/-- The lines from one index on and before another one. -/
def seg (xs : List Ln) (f t : Nat) : List Ln := (xs.take t).drop f
theorem seg_len {xs : List Ln} {n f t : Nat} (hn : xs.length = n) (ht : t ≤ n) : (seg xs f t).length = t - f := by simp [seg]; omega
theorem seg_at {xs : List Ln} {n f t i : Nat} (hn : xs.length = n) (ht : t ≤ n) (hi : i < t - f) : (seg xs f t).getD i default = xs.getD (f + i) default := by
  rw [List.getD_eq_getElem?_getD, List.getD_eq_getElem?_getD, seg, List.getElem?_drop, List.getElem?_take_of_lt (by omega)]
theorem seg_nil (xs : List Ln) (f : Nat) : seg xs f f = [] := by
  apply List.eq_nil_of_length_eq_zero
  simp [seg]
theorem seg_snoc {xs : List Ln} {n f t : Nat} {x : Ln} (hn : xs.length = n) (ht : t < n) (hf : f ≤ t) (hx : xs.getD t default = x) : seg xs f (t + 1) = seg xs f t ++ [x] := by
  unfold seg
  rw [tk_snoc' hn ht hx, List.drop_append_of_le_length (by simp; omega)]
theorem lineOk_seg {xs : List Ln} (h : linesOk xs = true) (f t : Nat) : ∀ x ∈ seg xs f t, lineOk x = true := by
  intro x hx
  simp only [linesOk, Bool.and_eq_true] at h
  exact List.all_eq_true.1 h.1 x (List.mem_of_mem_take (List.mem_of_mem_drop hx))
theorem sums_bound {l : List Ln} (h : ∀ x ∈ l, lineOk x = true) : (l.length : Int) ≤ aSum l ∧ aSum l ≤ 1000 * l.length ∧ 0 ≤ bSum l ∧ bSum l ≤ 1000 * l.length := by
  have key : ∀ (l : List Ln) (s t : Int), (∀ x ∈ l, lineOk x = true) → s + (l.length : Int) ≤ l.foldl (fun s x => s + x.a) s ∧ l.foldl (fun s x => s + x.a) s ≤ s + 1000 * l.length ∧ t ≤ l.foldl (fun s x => s + x.b) t ∧ l.foldl (fun s x => s + x.b) t ≤ t + 1000 * l.length := by
    intro l
    induction l with
    | nil => intro s t _; simp
    | cons x r ih =>
      intro s t hx
      obtain ⟨⟨h1, h2⟩, ⟨h3, h4⟩, _⟩ := lineOk_iff.1 (hx x (List.mem_cons_self ..))
      obtain ⟨i1, i2, i3, i4⟩ := ih (s + x.a) (t + x.b) fun y hy => hx y (List.mem_cons_of_mem _ hy)
      simp only [List.foldl_cons, List.length_cons, Int.natCast_add, Int.natCast_one]
      omega
  have := key l 0 0 h
  simp only [Int.zero_add] at this
  exact this
theorem seg_bound {xs : List Ln} {n f t : Nat} (h : linesOk xs = true) (hn : xs.length = n) (hf : f ≤ t) (ht : t ≤ n) {s u : Int} (hs : aSum (seg xs f t) = s) (hu : bSum (seg xs f t) = u) :
    ((t - f : Nat) : Int) ≤ s ∧ s ≤ 1000 * ((t - f : Nat) : Int) ∧ 0 ≤ u ∧ u ≤ 1000 * ((t - f : Nat) : Int) ∧ n ≤ 40 := by
  have h1 := sums_bound (lineOk_seg h f t)
  rw [seg_len hn ht, hs, hu] at h1
  have h2 := linesOk_len h
  exact ⟨h1.1, h1.2.1, h1.2.2.1, h1.2.2.2, by omega⟩
theorem pageH_bound {xs : List Ln} {n f t : Nat} (h : linesOk xs = true) (hn : xs.length = n) (hf : f ≤ t) (ht : t ≤ n) : 0 ≤ pageH (seg xs f t) ∧ pageH (seg xs f t) ≤ 80002 := by
  obtain ⟨h1, h2, h3, h4, h5⟩ := seg_bound h hn hf ht rfl rfl
  unfold pageH rule
  split <;> omega
/-- Longer pages are higher. -/
theorem pageH_more {xs : List Ln} {n f t : Nat} (h : linesOk xs = true) (hn : xs.length = n) (hf : f ≤ t) (ht : t < n) : pageH (seg xs f t) < pageH (seg xs f (t + 1)) := by
  obtain ⟨h1, h2, h3, h4, h5⟩ := seg_bound h hn hf (show t ≤ n by omega) rfl rfl
  obtain ⟨⟨g1, g2⟩, ⟨g3, g4⟩, _⟩ := linesOk_at h hn ht rfl
  unfold pageH
  rw [seg_snoc hn ht hf rfl, aSum_snoc, bSum_snoc]
  unfold rule
  split <;> split <;> omega
def heightV (xs : List Ln) (f t : Int) : Int := if linesOk xs && decide (0 ≤ f) && decide (f ≤ t) && decide (t ≤ xs.length) then pageH (seg xs f.toNat t.toNat) else -1

/-- The cost of a page; none if its lines do not fit. -/
def pageC (xs : List Ln) (height : Int) (f t : Nat) : Option Int :=
  if height < pageH (seg xs f t) then none else if t = xs.length then some 0 else some ((height - pageH (seg xs f t)) * (height - pageH (seg xs f t)) + (xs.getD (t - 1) default).c)
end Go.Proofs.Yticdgpgbpgjnbaa
