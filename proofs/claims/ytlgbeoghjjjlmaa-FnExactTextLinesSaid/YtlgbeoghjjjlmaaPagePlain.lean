/- The page of a line, in plain terms. No program. No condition. -/
import Derived.Test.YtlgbeoghjjjlmaaLists
namespace Go.Proofs.Ytlgbeoghjjjlmaa

/-- The first place at which p holds, -1 for none; beside it the length. -/
def fidxF (p : Int → Bool) (l : List Int) : Nat × Int := l.foldl (fun a x => (a.1 + 1, if a.2 < 0 ∧ p x = true then (a.1 : Int) else a.2)) (0, -1)
def fidx (p : Int → Bool) (l : List Int) : Int := (fidxF p l).2
theorem fidxF_snoc (p : Int → Bool) (l : List Int) (x : Int) : fidxF p (l ++ [x]) = ((fidxF p l).1 + 1, if (fidxF p l).2 < 0 ∧ p x = true then ((fidxF p l).1 : Int) else (fidxF p l).2) := by
  rw [fidxF, List.foldl_append]; rfl
theorem fidxF_len (p : Int → Bool) (xs : List Int) (k : Nat) (h : k ≤ xs.length) : (fidxF p (xs.take k)).1 = k := by
  induction k with
  | zero => rfl
  | succ k ih => rw [tk_snoc xs k (by omega), fidxF_snoc, ih (by omega)]
theorem fidx_snoc {p : Int → Bool} {xs : List Int} {n j : Nat} {x : Int} (hn : xs.length = n) (hj : j < n) (hx : xs.getD j default = x) :
    fidx p (xs.take (j + 1)) = if fidx p (xs.take j) < 0 ∧ p x = true then (j : Int) else fidx p (xs.take j) := by
  unfold fidx
  rw [tk_snoc' hn hj hx, fidxF_snoc, fidxF_len p xs j (by omega)]
theorem fidx_zero (p : Int → Bool) (xs : List Int) : fidx p (xs.take 0) = -1 := rfl
/-- What the first place is. -/
theorem fidx_spec (p : Int → Bool) (xs : List Int) (k : Nat) (h : k ≤ xs.length) :
    (fidx p (xs.take k) = -1 ∧ ∀ i, i < k → p (xs.getD i default) = false) ∨ ∃ q : Nat, fidx p (xs.take k) = q ∧ q < k ∧ p (xs.getD q default) = true ∧ ∀ i, i < q → p (xs.getD i default) = false := by
  induction k with
  | zero => exact .inl ⟨rfl, fun i hi => absurd hi (Nat.not_lt_zero _)⟩
  | succ k ih =>
    rw [fidx_snoc (p := p) (xs := xs) (n := xs.length) rfl (show k < xs.length by omega) rfl]
    rcases ih (by omega) with ⟨e, ha⟩ | ⟨q, e, hq, hp, ha⟩
    · rw [e]
      by_cases hx : p (xs.getD k default) = true
      · rw [if_pos ⟨by omega, hx⟩]
        exact .inr ⟨k, rfl, by omega, hx, ha⟩
      · rw [if_neg (fun h => hx h.2)]
        refine .inl ⟨rfl, fun i hi => ?_⟩
        by_cases e : i = k
        · subst e; simpa using hx
        · exact ha i (by omega)
    · rw [e, if_neg (fun h => by omega)]
      exact .inr ⟨q, rfl, by omega, hp, ha⟩
theorem fidx_hit {p : Int → Bool} {xs : List Int} {n j : Nat} {x : Int} (hn : xs.length = n) (hj : j < n) (hx : xs.getD j default = x) (h : ∀ i, i < j → p (xs.getD i default) = false) (hp : p x = true) : fidx p xs = j := by
  rcases fidx_spec p xs xs.length (Nat.le_refl _) with ⟨_, ha⟩ | ⟨q, e, hq, hpq, ha⟩
  · have := ha j (by omega)
    rw [hx, hp] at this
    cases this
  · rw [List.take_length] at e
    rw [e]
    rcases Nat.lt_trichotomy q j with h1 | h1 | h1
    · rw [h q h1] at hpq; cases hpq
    · rw [h1]
    · have := ha j h1
      rw [hx, hp] at this
      cases this
theorem fidx_miss {p : Int → Bool} {xs : List Int} {n : Nat} (hn : xs.length = n) (h : ∀ i, i < n → p (xs.getD i default) = false) : fidx p xs = -1 := by
  rcases fidx_spec p xs xs.length (Nat.le_refl _) with ⟨e, _⟩ | ⟨q, e, hq, hpq, ha⟩
  · rwa [List.take_length] at e
  · rw [h q (by omega)] at hpq; cases hpq

/-- The last number of an ascending list of positive numbers (0 for none); none if they are not such. -/
def ascF (l : List Int) : Option Int := l.foldl (fun a e => a.bind fun last => if e ≤ last then none else some e) (some 0)
theorem ascF_snoc (l : List Int) (e : Int) : ascF (l ++ [e]) = (ascF l).bind fun last => if e ≤ last then none else some e := by simp [ascF]
theorem ascF_zero (xs : List Int) : ascF (xs.take 0) = some 0 := rfl
theorem ascF_next {xs : List Int} {n j : Nat} {x l : Int} (hn : xs.length = n) (hj : j < n) (hx : xs.getD j default = x) (h : ascF (xs.take j) = some l) : ascF (xs.take (j + 1)) = if x ≤ l then none else some x := by
  rw [tk_snoc' hn hj hx, ascF_snoc, h]; rfl
theorem ascF_stop (l m : List Int) (h : ascF l = none) : ascF (l ++ m) = none := by
  unfold ascF at h ⊢
  rw [List.foldl_append, h]
  induction m with
  | nil => rfl
  | cons x r ih => exact ih
theorem ascF_bad {xs : List Int} {n j : Nat} {x l : Int} (hn : xs.length = n) (hj : j < n) (hx : xs.getD j default = x) (h : ascF (xs.take j) = some l) (hb : x ≤ l) : ascF xs = none := by
  have h1 := ascF_next hn hj hx h
  rw [if_pos hb] at h1
  have := ascF_stop _ (xs.drop (j + 1)) h1
  rwa [List.take_append_drop] at this
theorem ascF_last {xs : List Int} {n j : Nat} {l : Int} (hn : xs.length = n) (hj : j ≤ n) (h : ascF (xs.take j) = some l) : (j = 0 ∧ l = 0) ∨ (0 < j ∧ l = xs.getD (j - 1) default) := by
  cases j with
  | zero => exact .inl ⟨rfl, by injection h with h; exact h.symm⟩
  | succ j =>
    refine .inr ⟨by omega, ?_⟩
    rw [tk_snoc' hn (show j < n by omega) rfl, ascF_snoc] at h
    rcases hq : ascF (xs.take j) with _ | q
    · rw [hq] at h; cases h
    · rw [hq] at h
      simp only [Option.bind_some] at h
      split at h
      · cases h
      · injection h with h; exact h.symm
/-- An ascending list ascends. -/
theorem ascF_spec {xs : List Int} (k : Nat) (hk : k ≤ xs.length) : ∀ l, ascF (xs.take k) = some l → 0 ≤ l ∧ (∀ i, i < k → 1 ≤ xs.getD i default ∧ xs.getD i default ≤ l) ∧ ∀ i j, i < j → j < k → xs.getD i default < xs.getD j default := by
  induction k with
  | zero => intro l h; injection h with h; subst h; exact ⟨by omega, fun i hi => absurd hi (Nat.not_lt_zero _), fun i j _ hj => absurd hj (Nat.not_lt_zero _)⟩
  | succ k ih =>
    intro l h
    rw [tk_snoc xs k (by omega), ascF_snoc] at h
    rcases hq : ascF (xs.take k) with _ | q
    · rw [hq] at h; cases h
    · rw [hq] at h
      simp only [Option.bind_some] at h
      obtain ⟨h0, h1, h2⟩ := ih (by omega) q hq
      split at h
      · cases h
      · rename_i hlt
        injection h with h
        subst h
        refine ⟨by omega, fun i hi => ?_, fun i j hij hj => ?_⟩
        · by_cases e : i = k
          · subst e; exact ⟨by omega, Int.le_refl _⟩
          · have := h1 i (by omega); omega
        · by_cases e : j = k
          · subst e
            have := h1 i hij
            omega
          · exact h2 i j hij (by omega)

def gtP (line : Int) (e : Int) : Bool := decide (line < e)
def pageOf (xs : List Int) (line : Int) : Int := match ascF xs with
  | none => -1
  | some _ => if line < 0 then -1 else fidx (gtP line) xs
theorem pageOf_bad {xs : List Int} {line : Int} (h : ascF xs = none) : pageOf xs line = -1 := by rw [pageOf, h]
theorem pageOf_neg {xs : List Int} {line : Int} (h : line < 0) : pageOf xs line = -1 := by
  rw [pageOf]; split
  · rfl
  · rw [if_pos h]
theorem pageOf_in {xs : List Int} {line l : Int} (h : ascF xs = some l) (h0 : 0 ≤ line) : pageOf xs line = fidx (gtP line) xs := by
  rw [pageOf, h]
  show (if _ then _ else _) = _
  rw [if_neg (by omega)]
theorem pageOf_far {xs : List Int} {line l : Int} (h : ascF xs = some l) (h0 : l ≤ line) : pageOf xs line = -1 := by
  rcases Int.lt_or_le line 0 with hl | hl
  · exact pageOf_neg hl
  rw [pageOf_in h hl]
  have h' : ascF (xs.take xs.length) = some l := by rw [List.take_length]; exact h
  obtain ⟨_, h1, _⟩ := ascF_spec xs.length (Nat.le_refl _) l h'
  refine fidx_miss rfl fun i hi => ?_
  have := h1 i hi
  exact decide_eq_false (by omega)
/-- What the page of a line is. -/
theorem pageOf_spec {xs : List Int} {line p : Int} (h : pageOf xs line = p) (h0 : 0 ≤ p) : ∃ q : Nat, p = q ∧ q < xs.length ∧ (∀ i, i < q → xs.getD i default ≤ line) ∧ ∀ i, q ≤ i → i < xs.length → line < xs.getD i default := by
  rcases ha : ascF xs with _ | l
  · rw [pageOf_bad ha] at h; omega
  rcases Int.lt_or_le line 0 with hl | hl
  · rw [pageOf_neg hl] at h; omega
  rw [pageOf_in ha hl] at h
  have ha' : ascF (xs.take xs.length) = some l := by rw [List.take_length]; exact ha
  obtain ⟨_, _, h2⟩ := ascF_spec xs.length (Nat.le_refl _) l ha'
  rcases fidx_spec (gtP line) xs xs.length (Nat.le_refl _) with ⟨e, _⟩ | ⟨q, e, hq, hpq, hb⟩
  · rw [List.take_length] at e; omega
  · rw [List.take_length] at e
    refine ⟨q, by omega, hq, fun i hi => ?_, fun i hi hin => ?_⟩
    · have : ¬ line < xs.getD i default := of_decide_eq_false (hb i hi)
      omega
    · have hp' : line < xs.getD q default := of_decide_eq_true hpq
      by_cases e2 : i = q
      · rw [e2]; exact hp'
      · have := h2 q i (by omega) hin; omega
end Go.Proofs.Ytlgbeoghjjjlmaa
