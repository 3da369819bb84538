/- Tables, in plain terms: rows of cells, their spans, the widths of columns. No program. No condition. -/
import Derived.Test.YtbkhimdebpllcaaLists
namespace Go.Proofs.Ytbkhimdebpllcaa

structure Cl where
  s : Int
  w : Int
deriving Inhabited
/-- What is left of the columns behind the cells of a row; none if a cell is bad. -/
def rowR : Int → List Cl → Option Int
  | left, [] => some left
  | left, c :: r => if inR c.w 0 1000 && inR c.s 1 left then rowR (left - c.s) r else none
def rowOk (n : Int) (r : List Cl) : Bool := match rowR n r with
  | some v => v == 0
  | none => false
def tabOk (rs : List (List Cl)) (n : Int) : Bool := inR n 1 8 && decide (rs.length ≤ 10) && rs.all (rowOk n)
theorem rowR_snoc (r : List Cl) (c : Cl) : ∀ left, rowR left (r ++ [c]) = match rowR left r with
    | none => none
    | some v => if inR c.w 0 1000 && inR c.s 1 v then some (v - c.s) else none := by
  induction r with
  | nil => intro left; simp [rowR]
  | cons d r ih =>
    intro left
    simp only [List.cons_append, rowR]
    split
    · rw [ih]
    · rfl
theorem rowR_none_app (r t : List Cl) : ∀ left, rowR left r = none → rowR left (r ++ t) = none := by
  induction r with
  | nil => intro left h; simp [rowR] at h
  | cons d r ih =>
    intro left h
    simp only [List.cons_append, rowR] at h ⊢
    split
    · rename_i hc
      rw [if_pos hc] at h
      exact ih _ h
    · rfl
theorem rowR_step {r : List Cl} {n j : Nat} {c : Cl} {left v : Int} (hn : r.length = n) (hj : j < n) (hx : r.getD j default = c) (h : rowR left (r.take j) = some v) (h1 : inR c.w 0 1000 = true) (h2 : inR c.s 1 v = true) : rowR left (r.take (j + 1)) = some (v - c.s) := by
  rw [tk_snoc' hn hj hx, rowR_snoc, h]
  simp [h1, h2]
theorem rowR_stop {r : List Cl} {n j : Nat} {c : Cl} {left v : Int} (hn : r.length = n) (hj : j < n) (hx : r.getD j default = c) (h : rowR left (r.take j) = some v) (h1 : (inR c.w 0 1000 && inR c.s 1 v) = false) : rowOk left r = false := by
  have e : rowR left (r.take (j + 1)) = none := by
    rw [tk_snoc' hn hj hx, rowR_snoc, h]
    simp [h1]
  have : rowR left r = none := by
    have := rowR_none_app _ (r.drop (j + 1)) left e
    rwa [List.take_append_drop] at this
  rw [rowOk, this]
theorem rowR_end {r : List Cl} {n j : Nat} {left v : Int} (hn : r.length = n) (hj : n ≤ j) (h : rowR left (r.take j) = some v) : rowOk left r = (v == 0) := by
  rw [List.take_of_length_le (by omega)] at h
  rw [rowOk, h]
/-- What is left is between 0 and all, and as many columns are gone as cells at least. -/
theorem rowR_rng (r : List Cl) : ∀ left v, 0 ≤ left → rowR left r = some v → 0 ≤ v ∧ v + r.length ≤ left := by
  induction r with
  | nil => intro left v h e; simp [rowR] at e; subst e; simp; omega
  | cons c r ih =>
    intro left v h e
    simp only [rowR] at e
    split at e
    · rename_i hc
      simp only [Bool.and_eq_true, inR_iff] at hc
      have := ih _ _ (by omega) e
      simp only [List.length_cons, Int.natCast_add, Int.natCast_one]
      omega
    · cases e
theorem tab_bad {rs : List (List Cl)} {n j : Nat} {m : Int} {r : List Cl} (hn : rs.length = n) (hj : j < n) (hx : rs.getD j default = r) (h : rowOk m r = false) : tabOk rs m = false := by
  simp [tabOk, all_bad hn hj hx h]
theorem tab_end {rs : List (List Cl)} {n j : Nat} {m : Int} (hn : rs.length = n) (hj : n ≤ j) (h : (rs.take j).all (rowOk m) = true) : tabOk rs m = (inR m 1 8 && decide (n ≤ 10)) := by
  rw [tabOk, all_end hn hj h, hn]; simp
theorem tabOk_iff {rs : List (List Cl)} {m : Int} (h : tabOk rs m = true) : (1 ≤ m ∧ m ≤ 8) ∧ rs.length ≤ 10 ∧ ∀ r ∈ rs, rowOk m r = true := by
  simp only [tabOk, Bool.and_eq_true, inR_iff, decide_eq_true_eq, List.all_eq_true] at h
  exact ⟨h.1.1, h.1.2, h.2⟩

/-- The place of a cell: its first column, the one behind its last, its width. -/
structure Sp where
  f : Int
  t : Int
  w : Int
deriving Inhabited
def spR : Int → List Cl → List Sp
  | _, [] => []
  | at_, c :: r => ⟨at_, at_ + c.s, c.w⟩ :: spR (at_ + c.s) r
def sumS (r : List Cl) : Int := (r.map Cl.s).sum
def spans (rs : List (List Cl)) : List Sp := rs.flatMap (spR 0)
theorem spR_snoc (r : List Cl) (c : Cl) : ∀ a, spR a (r ++ [c]) = spR a r ++ [⟨a + sumS r, a + sumS r + c.s, c.w⟩] := by
  induction r with
  | nil => intro a; simp [spR, sumS]
  | cons d r ih =>
    intro a
    simp only [List.cons_append, spR, ih, sumS, List.map_cons, List.sum_cons, Int.add_assoc]
theorem sumS_snoc (r : List Cl) (c : Cl) : sumS (r ++ [c]) = sumS r + c.s := by simp [sumS]
theorem spans_snoc (rs : List (List Cl)) (r : List Cl) : spans (rs ++ [r]) = spans rs ++ spR 0 r := by simp [spans]
theorem rowR_sum (r : List Cl) : ∀ left v, rowR left r = some v → left = v + sumS r := by
  induction r with
  | nil => intro left v e; simp [rowR] at e; simp [sumS, e]
  | cons c r ih =>
    intro left v e
    simp only [rowR] at e
    split at e
    · have := ih _ _ e
      simp only [sumS, List.map_cons, List.sum_cons] at this ⊢
      omega
    · cases e
/-- The spans of a valid row lie in the columns. -/
theorem spR_rng (r : List Cl) : ∀ a left v, 0 ≤ a → 0 ≤ left → rowR left r = some v → ∀ s ∈ spR a r, a ≤ s.f ∧ s.f < s.t ∧ s.t ≤ a + left ∧ 0 ≤ s.w ∧ s.w ≤ 1000 := by
  induction r with
  | nil => intro a left v _ _ _ s hs; simp [spR] at hs
  | cons c r ih =>
    intro a left v ha hl e s hs
    simp only [rowR] at e
    split at e
    · rename_i hc
      simp only [Bool.and_eq_true, inR_iff] at hc
      simp only [spR, List.mem_cons] at hs
      rcases hs with rfl | hs
      · dsimp only; omega
      · have := ih (a + c.s) (left - c.s) v (by omega) (by omega) e s hs
        omega
    · cases e
theorem rowOk_some {n : Int} {r : List Cl} (h : rowOk n r = true) : rowR n r = some 0 := by
  unfold rowOk at h
  split at h
  · rename_i v hv
    rw [hv]
    simp at h
    rw [h]
  · cases h
theorem spans_rng {rs : List (List Cl)} {n : Int} (h : tabOk rs n = true) : ∀ s ∈ spans rs, 0 ≤ s.f ∧ s.f < s.t ∧ s.t ≤ n ∧ 0 ≤ s.w ∧ s.w ≤ 1000 := by
  intro s hs
  obtain ⟨h1, h2, h3⟩ := tabOk_iff h
  simp only [spans, List.mem_flatMap] at hs
  obtain ⟨r, hr, hs⟩ := hs
  have := spR_rng r 0 n 0 (by omega) (by omega) (rowOk_some (h3 r hr)) s hs
  omega

/-- The sum of the numbers from f to before t. -/
def sm (ws : List Int) (f t : Nat) : Int := ((ws.take t).drop f).sum
/-- One span's claim on the width of column c behind the columns 'out'. -/
def cwU (out : List Int) (m : Int) (s : Sp) : Int := if s.t = (out.length : Int) + 1 then max m (s.w - (out.drop s.f.toNat).sum) else m
def cwW (ss : List Sp) (out : List Int) : Int := ss.foldl (cwU out) 0
/-- The widths of the first c columns. -/
def cw (ss : List Sp) : Nat → List Int
  | 0 => []
  | c + 1 => cw ss c ++ [cwW ss (cw ss c)]
theorem cw_len (ss : List Sp) (c : Nat) : (cw ss c).length = c := by
  induction c with
  | zero => rfl
  | succ c ih => simp [cw, ih]
def fitsP (ss : List Sp) (ws : List Int) : Bool := ss.all fun s => decide (s.w ≤ sm ws s.f.toNat s.t.toNat)
def wsOk (ws : List Int) : Bool := ws.all (fun x => inR x 0 10000) && inR ws.length 1 8
def fitsV (rs : List (List Cl)) (ws : List Int) : Bool := wsOk ws && tabOk rs (ws.length : Int) && fitsP (spans rs) ws
def colsV (rs : List (List Cl)) (n : Int) : List Int := if tabOk rs n then cw (spans rs) n.toNat else []
end Go.Proofs.Ytbkhimdebpllcaa
