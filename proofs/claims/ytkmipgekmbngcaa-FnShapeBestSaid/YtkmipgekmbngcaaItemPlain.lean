/- Lines of a paragraph, in plain terms: valid items, breaks, lines, their glue and their boxes. No program. No condition. -/
import Derived.Test.YtkmipgekmbngcaaMSb3
namespace Go.Proofs.Ytkmipgekmbngcaa

def itemOk (x : It) : Bool :=
  if x.k = 1 then inR x.w 0 1000 && (x.st == 0) && (x.sh == 0) && (x.pen == 0) && !x.fl
  else if x.k = 2 then inR x.w 0 1000 && inR x.st 0 1000 && inR x.sh 0 x.w && (x.pen == 0) && !x.fl
  else if x.k = 3 then inR x.w 0 1000 && (x.st == 0) && (x.sh == 0) && inR x.pen (-1000) 1000
  else false
def forced (x : It) : Bool := (x.k == 3) && (x.pen == -1000)
def itemsOk (l : List It) : Bool := l.all itemOk && inR l.length 1 60 && forced (l.getD (l.length - 1) default)
theorem itemOk_b {x : It} (h : itemOk x = true) : (0 ≤ x.w ∧ x.w ≤ 1000) ∧ (0 ≤ x.st ∧ x.st ≤ 1000) ∧ (0 ≤ x.sh ∧ x.sh ≤ 1000) ∧ (-1000 ≤ x.pen ∧ x.pen ≤ 1000) ∧ (x.k = 1 ∨ x.k = 2 ∨ x.k = 3) ∧ (x.k = 1 → x.st = 0 ∧ x.sh = 0 ∧ x.pen = 0 ∧ x.fl = false) ∧ (x.k = 2 → x.pen = 0 ∧ x.fl = false ∧ x.sh ≤ x.w) ∧ (x.k = 3 → x.st = 0 ∧ x.sh = 0) := by
  unfold itemOk at h
  split at h
  · rename_i hk
    simp only [Bool.and_eq_true, inR_iff, beq_iff_eq, Bool.not_eq_true'] at h
    obtain ⟨⟨⟨⟨⟨h1, h2⟩, h3⟩, h4⟩, h5⟩, h6⟩ := h
    exact ⟨⟨h1, h2⟩, by omega, by omega, by omega, by omega, fun _ => ⟨h3, h4, h5, h6⟩, by omega, by omega⟩
  · split at h
    · rename_i hk
      simp only [Bool.and_eq_true, inR_iff, beq_iff_eq, Bool.not_eq_true'] at h
      obtain ⟨⟨⟨⟨⟨h1, h2⟩, h3, h3'⟩, h4, h4'⟩, h5⟩, h6⟩ := h
      exact ⟨⟨h1, h2⟩, by omega, by omega, by omega, by omega, by omega, fun _ => ⟨h5, h6, h4'⟩, by omega⟩
    · split at h
      · rename_i hk
        simp only [Bool.and_eq_true, inR_iff, beq_iff_eq] at h
        obtain ⟨⟨⟨⟨h1, h2⟩, h3⟩, h4⟩, h5, h6⟩ := h
        exact ⟨⟨h1, h2⟩, by omega, by omega, by omega, by omega, by omega, by omega, fun _ => ⟨h3, h4⟩⟩
      · cases h
theorem items_bad {xs : List It} {n j : Nat} {x : It} (hn : xs.length = n) (hj : j < n) (hx : xs.getD j default = x) (hv : itemOk x = false) : itemsOk xs = false := by
  simp [itemsOk, all_bad hn hj hx hv]
theorem items_len {xs : List It} {n : Nat} (hn : xs.length = n) (h : inR n 1 60 = false) : itemsOk xs = false := by
  simp [itemsOk, hn, h]
theorem items_end {xs : List It} {n j : Nat} {y : It} (hn : xs.length = n) (hj : n ≤ j) (h : (xs.take j).all itemOk = true) (hl : inR n 1 60 = true) (hy : xs.getD (n - 1) default = y) : itemsOk xs = forced y := by
  rw [itemsOk, all_end hn hj h, hn, hl, hy]; rfl
theorem itemsOk_len {xs : List It} {n : Nat} (h : itemsOk xs = true) (hn : xs.length = n) : 1 ≤ n ∧ n ≤ 60 := by
  simp only [itemsOk, Bool.and_eq_true, inR_iff] at h
  omega
theorem itemsOk_at {xs : List It} {n k : Nat} {x : It} (h : itemsOk xs = true) (hn : xs.length = n) (hk : k < n) (hx : xs.getD k default = x) : itemOk x = true := by
  simp only [itemsOk, Bool.and_eq_true] at h
  exact all_at h.1.1 hn hk hx
theorem itemsOk_last {xs : List It} {n : Nat} (h : itemsOk xs = true) (hn : xs.length = n) : forced (xs.getD (n - 1) default) = true := by
  simp only [itemsOk, Bool.and_eq_true, hn] at h
  exact h.2
def kd (l : List It) (i : Nat) : Int := (l.getD i default).k
/-- A line may end at item i. -/
def brk (l : List It) (i : Nat) : Bool :=
  if kd l i = 3 then decide ((l.getD i default).pen < 1000) else (kd l i == 2) && decide (0 < i) && (kd l (i - 1) == 1)
/-- The items from one index on and before another one. -/
def sg (xs : List It) (f t : Nat) : List It := (xs.take t).drop f
theorem sg_len {xs : List It} {n f t : Nat} (hn : xs.length = n) (ht : t ≤ n) : (sg xs f t).length = t - f := by simp [sg]; omega
theorem sg_at {xs : List It} {n f t i : Nat} (_hn : xs.length = n) (_ht : t ≤ n) (hi : i < t - f) : (sg xs f t).getD i default = xs.getD (f + i) default := by
  rw [List.getD_eq_getElem?_getD, List.getD_eq_getElem?_getD, sg, List.getElem?_drop, List.getElem?_take_of_lt (by omega)]
theorem sg_none (xs : List It) {f t : Nat} (h : t ≤ f) : sg xs f t = [] := by
  apply List.eq_nil_of_length_eq_zero
  simp [sg]; omega
theorem sg_snoc {xs : List It} {n f t : Nat} {x : It} (hn : xs.length = n) (ht : t < n) (hf : f ≤ t) (hx : xs.getD t default = x) : sg xs f (t + 1) = sg xs f t ++ [x] := by
  unfold sg
  rw [tk_snoc' hn ht hx, List.drop_append_of_le_length (by simp; omega)]
theorem sg_cons {xs : List It} {n f t : Nat} {x : It} (hn : xs.length = n) (ht : t ≤ n) (hf : f < t) (hx : xs.getD f default = x) : sg xs f t = x :: sg xs (f + 1) t := by
  unfold sg
  have hlt : f < (xs.take t).length := by simp; omega
  rw [List.drop_eq_getElem_cons hlt]
  congr 1
  rw [List.getElem_take, ← hx, List.getD_eq_getElem?_getD, List.getElem?_eq_getElem (by omega)]
  rfl
theorem sg_mem {xs : List It} {n f t : Nat} {x : It} (hn : xs.length = n) (ht : t ≤ n) (hx : x ∈ sg xs f t) : ∃ i, f ≤ i ∧ i < t ∧ xs.getD i default = x := by
  obtain ⟨i, hi, rfl⟩ := List.getElem_of_mem hx
  have hl := sg_len (f := f) hn ht
  rw [hl] at hi
  refine ⟨f + i, by omega, by omega, ?_⟩
  rw [← sg_at hn ht hi, List.getD_eq_getElem?_getD, List.getElem?_eq_getElem]
  rfl
theorem sg_has {xs : List It} {n f t i : Nat} {x : It} (hn : xs.length = n) (ht : t ≤ n) (hi : f ≤ i) (hit : i < t) (hx : xs.getD i default = x) : x ∈ sg xs f t := by
  have hl := sg_len (f := f) hn ht
  have h1 := sg_at (f := f) (t := t) (i := i - f) hn ht (by omega)
  rw [show f + (i - f) = i by omega, hx] at h1
  exact mem_of_getD hl (by omega) h1
theorem sg_ok {xs : List It} (h : itemsOk xs = true) (f t : Nat) : ∀ x ∈ sg xs f t, itemOk x = true := by
  intro x hx
  simp only [itemsOk, Bool.and_eq_true] at h
  exact List.all_eq_true.1 h.1.1 x (List.mem_of_mem_take (List.mem_of_mem_drop hx))
/-- Items from a to before t hold no forced break. -/
def noF (l : List It) (a t : Nat) : Bool := (sg l a t).all fun x => !forced x
theorem noF_iff {xs : List It} {n a t : Nat} (hn : xs.length = n) (ht : t ≤ n) : noF xs a t = true ↔ ∀ i, a ≤ i → i < t → forced (xs.getD i default) = false := by
  simp only [noF, List.all_eq_true, Bool.not_eq_true']
  exact ⟨fun h i h1 h2 => h _ (sg_has hn ht h1 h2 rfl), fun h x hx => by obtain ⟨i, h1, h2, rfl⟩ := sg_mem hn ht hx; exact h i h1 h2⟩
/-- A line lies between the breaks f (-1: the beginning) and t. -/
def lnOk (l : List It) (f t : Int) : Bool := decide (-1 ≤ f) && decide (f < t) && decide (t < l.length) && brk l t.toNat && (decide (f < 0) || brk l f.toNat) && noF l (f + 1).toNat t.toNat
def lineV (l : List It) (f t : Int) : Bool := itemsOk l && lnOk l f t
/-- The index of the first box from a on, or t. -/
def lst (l : List It) (a t : Nat) : Nat := a + ((sg l a t).takeWhile fun x => x.k != 1).length
theorem lst_eq {xs : List It} {n t : Nat} (hn : xs.length = n) (ht : t ≤ n) : ∀ (d a j : Nat), j = a + d → j ≤ t → (∀ i, a ≤ i → i < j → kd xs i ≠ 1) → (j < t → kd xs j = 1) → lst xs a t = j := by
  intro d
  induction d with
  | zero =>
    intro a j hj hjt _ h1
    unfold lst
    rcases Nat.lt_or_ge a t with hlt | hge
    · have := h1 (by omega)
      rw [show j = a by omega, kd] at this
      rw [sg_cons hn ht hlt rfl, List.takeWhile_cons, if_neg (by show ¬ ((xs.getD a default).k != 1) = true; rw [this]; decide)]
      simp; omega
    · rw [sg_none _ hge]; simp; omega
  | succ d ih =>
    intro a j hj hjt h2 h1
    have h3 := ih (a + 1) j (by omega) hjt (fun i hi hij => h2 i (by omega) hij) h1
    have h4 := h2 a (Nat.le_refl _) (by omega)
    unfold lst at h3 ⊢
    rw [kd] at h4
    rw [sg_cons hn ht (by omega) rfl, List.takeWhile_cons, if_pos (by show ((xs.getD a default).k != 1) = true; simpa using h4), List.length_cons]
    omega
theorem lst_spec {xs : List It} {n a t : Nat} (hn : xs.length = n) (ht : t ≤ n) (ha : a ≤ t) : a ≤ lst xs a t ∧ lst xs a t ≤ t ∧ (∀ i, a ≤ i → i < lst xs a t → kd xs i ≠ 1) ∧ (lst xs a t < t → kd xs (lst xs a t) = 1) := by
  have key : ∀ (d a : Nat), a + d = t → a ≤ t → ∃ j, a ≤ j ∧ j ≤ t ∧ (∀ i, a ≤ i → i < j → kd xs i ≠ 1) ∧ (j < t → kd xs j = 1) := by
    intro d
    induction d with
    | zero => intro a h _; exact ⟨a, Nat.le_refl _, by omega, by omega, by omega⟩
    | succ d ih =>
      intro a h _
      by_cases e : kd xs a = 1
      · exact ⟨a, Nat.le_refl _, by omega, by omega, fun _ => e⟩
      · obtain ⟨j, h1, h2, h3, h4⟩ := ih (a + 1) (by omega) (by omega)
        refine ⟨j, by omega, h2, fun i hi hij => ?_, h4⟩
        rcases Nat.eq_or_lt_of_le hi with rfl | hlt
        · exact e
        · exact h3 i (by omega) hij
  obtain ⟨j, h1, h2, h3, h4⟩ := key (t - a) a (by omega) ha
  have := lst_eq hn ht (j - a) a j (by omega) h2 h3 h4
  rw [this]
  exact ⟨h1, h2, h3, h4⟩

def gw (x : It) : Int := if x.k = 3 then 0 else x.w
def gs (x : It) : Int := if x.k = 3 then 0 else x.st
def gh (x : It) : Int := if x.k = 3 then 0 else x.sh
def sW (l : List It) : Int := (l.map gw).sum
def sS (l : List It) : Int := (l.map gs).sum
def sH (l : List It) : Int := (l.map gh).sum
theorem sW_snoc (l : List It) (x : It) : sW (l ++ [x]) = sW l + gw x := by simp [sW]
theorem sS_snoc (l : List It) (x : It) : sS (l ++ [x]) = sS l + gs x := by simp [sS]
theorem sH_snoc (l : List It) (x : It) : sH (l ++ [x]) = sH l + gh x := by simp [sH]
theorem g_b {x : It} (h : itemOk x = true) : (0 ≤ gw x ∧ gw x ≤ 1000) ∧ (0 ≤ gs x ∧ gs x ≤ 1000) ∧ (0 ≤ gh x ∧ gh x ≤ 1000) := by
  obtain ⟨h1, h2, h3, _⟩ := itemOk_b h
  unfold gw gs gh
  split <;> omega
theorem sums_b {l : List It} (h : ∀ x ∈ l, itemOk x = true) : (0 ≤ sW l ∧ sW l ≤ 1000 * l.length) ∧ (0 ≤ sS l ∧ sS l ≤ 1000 * l.length) ∧ (0 ≤ sH l ∧ sH l ≤ 1000 * l.length) := by
  induction l with
  | nil => simp [sW, sS, sH]
  | cons x r ih =>
    obtain ⟨h1, h2, h3⟩ := g_b (h x (List.mem_cons_self ..))
    obtain ⟨i1, i2, i3⟩ := ih fun y hy => h y (List.mem_cons_of_mem _ hy)
    simp only [sW, sS, sH, List.map_cons, List.sum_cons, List.length_cons, Int.natCast_add, Int.natCast_one] at i1 i2 i3 ⊢
    omega
theorem sg_b {xs : List It} {n f t : Nat} (h : itemsOk xs = true) (hn : xs.length = n) (ht : t ≤ n) {a b c : Int} (ha : sW (sg xs f t) = a) (hb : sS (sg xs f t) = b) (hc : sH (sg xs f t) = c) :
    (0 ≤ a ∧ a ≤ 60000) ∧ (0 ≤ b ∧ b ≤ 60000) ∧ (0 ≤ c ∧ c ≤ 60000) := by
  obtain ⟨h1, h2, h3⟩ := sums_b (sg_ok h f t)
  have h4 := (itemsOk_len h hn).2
  rw [sg_len hn ht, ha] at h1
  rw [sg_len hn ht, hb] at h2
  rw [sg_len hn ht, hc] at h3
  omega
/-- The glue of the line whose first item is a and that ends at t. -/
def lgW (l : List It) (a t : Nat) : Int := sW (sg l (lst l a t) t) + (if kd l t = 3 then (l.getD t default).w else 0)
def lgS (l : List It) (a t : Nat) : Int := sS (sg l (lst l a t) t)
def lgH (l : List It) (a t : Nat) : Int := sH (sg l (lst l a t) t)
theorem lg_b {xs : List It} {n a t : Nat} (h : itemsOk xs = true) (hn : xs.length = n) (ht : t < n) : (0 ≤ lgW xs a t ∧ lgW xs a t ≤ 61000) ∧ (0 ≤ lgS xs a t ∧ lgS xs a t ≤ 60000) ∧ (0 ≤ lgH xs a t ∧ lgH xs a t ≤ 60000) := by
  obtain ⟨h1, h2, h3⟩ := sg_b (f := lst xs a t) h hn (show t ≤ n by omega) rfl rfl rfl
  obtain ⟨h4, _⟩ := itemOk_b (itemsOk_at h hn ht rfl)
  unfold lgW lgS lgH
  split <;> omega
/-- The boxes from item a to before item t. -/
def boxesP (l : List It) (a t : Nat) : List Int := ((List.range' a (t - a)).filter fun i => kd l i == 1).map fun (i : Nat) => (i : Int)
def boxesV (l : List It) (f t : Int) : List Int := if lineV l f t then boxesP l (f + 1).toNat t.toNat else []
theorem boxesP_nil (l : List It) (a : Nat) : boxesP l a a = [] := by simp [boxesP]
theorem boxesP_snoc (l : List It) {a j : Nat} (h : a ≤ j) : boxesP l a (j + 1) = if kd l j = 1 then boxesP l a j ++ [(j : Int)] else boxesP l a j := by
  unfold boxesP
  rw [show j + 1 - a = (j - a) + 1 by omega, List.range'_concat, List.filter_append, List.map_append]
  have e : a + 1 * (j - a) = j := by omega
  rw [e]
  by_cases hk : kd l j = 1
  · simp [hk]
  · simp [hk]
theorem boxesP_len (l : List It) (a t : Nat) : (boxesP l a t).length ≤ t - a := by
  unfold boxesP
  rw [List.length_map]
  refine Nat.le_trans (List.length_filter_le _ _) ?_
  simp
end Go.Proofs.Ytkmipgekmbngcaa
