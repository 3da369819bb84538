/- Boxes, in plain terms: what the laws on drawn boxes say of rows, stacks and raised boxes. No program. No condition. -/
import Derived.Test.YtdbjjfjagalhbaaBoxPlain
namespace Go.Proofs.Ytdbjjfjagalhbaa

theorem chk_true {b r : Bx} (h : chk b = (r, true)) : r = b ∧ vBox b.w b.h b.d = true := by
  unfold chk at h
  by_cases e : b.ok = true
  · rw [if_pos e] at h
    injection h with h1
    exact ⟨h1.symm, e⟩
  · rw [if_neg e] at h
    injection h with _ h2
    cases h2
theorem chk_ok {b : Bx} (h : vBox b.w b.h b.d = true) : chk b = (b, true) := by
  unfold chk
  rw [if_pos (show b.ok = true from h)]
theorem raise_true {a b c n : Int} {r : Bx} (h : raiseB ⟨a, b, c⟩ n = (r, true)) :
    vBox a b c = true ∧ (-10000 ≤ n ∧ n ≤ 10000) ∧ vBox r.w r.h r.d = true ∧ r.w = a ∧ r.h = max 0 (b + n) ∧ r.d = max 0 (c - n) := by
  unfold raiseB at h
  by_cases e : ((⟨a, b, c⟩ : Bx).ok && inR n (-10000) 10000) = true
  · rw [if_pos e] at h
    obtain ⟨h1, h2⟩ := chk_true h
    simp only [Bool.and_eq_true] at e
    subst h1
    exact ⟨e.1, inR_iff.1 e.2, h2, rfl, rfl, rfl⟩
  · rw [if_neg e] at h
    injection h with _ h2
    cases h2
theorem raise_yes {b : Bx} {n : Int} {r : Bx} (hb : vBox b.w b.h b.d = true) (h1 : -10000 ≤ n) (h2 : n ≤ 10000) (hr : r = ⟨b.w, max 0 (b.h + n), max 0 (b.d - n)⟩) (hv : vBox r.w r.h r.d = true) : raiseB b n = (r, true) := by
  unfold raiseB
  rw [if_pos (by simp only [Bool.and_eq_true]; exact ⟨hb, inR_mk h1 h2⟩), ← hr]
  exact chk_ok hv
theorem raise_back {a b c n : Int} {r : Bx} (h : raiseB ⟨a, b, c⟩ n = (r, true)) (hh : r.h ≠ 0) (hd : r.d ≠ 0) : raiseB r (-n) = (⟨a, b, c⟩, true) ∧ r.w = a ∧ r.h + r.d = b + c := by
  obtain ⟨h1, ⟨h2, h3⟩, h4, h5, h6, h7⟩ := raise_true h
  obtain ⟨⟨b1, b2⟩, ⟨b3, b4⟩, b5, b6⟩ := vBox_iff.1 h1
  have e1 : r.h = b + n := by omega
  have e2 : r.d = c - n := by omega
  refine ⟨raise_yes h4 (by omega) (by omega) ?_ h1, h5, by omega⟩
  rw [h5, e1, e2]
  congr 1 <;> omega
theorem raise_zero {a b c : Int} (h : vBox a b c = true) : raiseB ⟨a, b, c⟩ 0 = (⟨a, b, c⟩, true) := by
  obtain ⟨⟨b1, b2⟩, ⟨b3, b4⟩, b5, b6⟩ := vBox_iff.1 h
  refine raise_yes h (by omega) (by omega) ?_ h
  simp only
  congr 1 <;> omega

/- rows -/
theorem rowB_true {l : List Bx} {r : Bx} (h : rowB l = (r, true)) : boxesOk l = true ∧ r = rowF l ∧ vBox r.w r.h r.d = true := by
  unfold rowB at h
  by_cases e : boxesOk l = true
  · rw [if_pos e] at h
    obtain ⟨h1, h2⟩ := chk_true h
    exact ⟨e, h1, h1 ▸ h2⟩
  · rw [if_neg e] at h
    injection h with _ h2
    cases h2
theorem rowB_yes {l : List Bx} (h : boxesOk l = true) (hv : vBox (rowF l).w (rowF l).h (rowF l).d = true) : rowB l = (rowF l, true) := by
  unfold rowB
  rw [if_pos h]
  exact chk_ok hv
theorem Bx.ext' {a b : Bx} (h1 : a.w = b.w) (h2 : a.h = b.h) (h3 : a.d = b.d) : a = b := by
  cases a; cases b; simp_all
theorem rowFold (l : List Bx) : ∀ a : Bx, 0 ≤ a.h → 0 ≤ a.d → l.foldl rowStep a = ⟨a.w + (rowF l).w, max a.h (rowF l).h, max a.d (rowF l).d⟩ ∧ 0 ≤ (rowF l).h ∧ 0 ≤ (rowF l).d := by
  induction l with
  | nil =>
    intro a h1 h2
    refine ⟨Bx.ext' ?_ ?_ ?_, ?_, ?_⟩ <;> simp [rowF] <;> omega
  | cons x r ih =>
    intro a h1 h2
    have e0 : rowF (x :: r) = r.foldl rowStep (rowStep ⟨0, 0, 0⟩ x) := rfl
    obtain ⟨i1, i2, i3⟩ := ih (rowStep ⟨0, 0, 0⟩ x) (by simp only [rowStep]; omega) (by simp only [rowStep]; omega)
    obtain ⟨k1, _, _⟩ := ih (rowStep a x) (by simp only [rowStep]; omega) (by simp only [rowStep]; omega)
    rw [e0, i1, List.foldl_cons, k1]
    refine ⟨Bx.ext' ?_ ?_ ?_, ?_, ?_⟩ <;> simp only [rowStep] <;> omega
theorem rowF_append (l m : List Bx) : rowF (l ++ m) = ⟨(rowF l).w + (rowF m).w, max (rowF l).h (rowF m).h, max (rowF l).d (rowF m).d⟩ := by
  have h1 := rowFold l ⟨0, 0, 0⟩ (by simp) (by simp)
  have e : rowF (l ++ m) = m.foldl rowStep (rowF l) := by simp [rowF, List.foldl_append]
  rw [e]
  exact (rowFold m (rowF l) h1.2.1 h1.2.2).1
theorem rowF_one (x : Bx) : rowF [x] = ⟨0 + x.w, max 0 x.h, max 0 x.d⟩ := rfl
theorem rowF_nn (l : List Bx) : 0 ≤ (rowF l).h ∧ 0 ≤ (rowF l).d := (rowFold l ⟨0, 0, 0⟩ (by simp) (by simp)).2
theorem rowF_rev (l : List Bx) : rowF l.reverse = rowF l := by
  induction l with
  | nil => rfl
  | cons x r ih =>
    have e : x :: r = [x] ++ r := rfl
    rw [List.reverse_cons, rowF_append, ih, e, rowF_append, rowF_one]
    have := rowF_nn r
    refine Bx.ext' ?_ ?_ ?_ <;> simp only <;> omega
theorem rowF_mem {l : List Bx} {x : Bx} (h : x ∈ l) : x.h ≤ (rowF l).h ∧ x.d ≤ (rowF l).d := by
  induction l with
  | nil => cases h
  | cons y r ih =>
    have e : y :: r = [y] ++ r := rfl
    rw [e, rowF_append, rowF_one]
    rcases List.mem_cons.1 h with rfl | h
    · simp only; omega
    · have := ih h; simp only; omega
theorem boxesOk_rev (l : List Bx) : boxesOk l.reverse = boxesOk l := by simp [boxesOk]
theorem boxesOk_sub {l m : List Bx} (h : boxesOk l = true) (hs : ∀ x ∈ m, x ∈ l) (hl : m.length ≤ l.length) : boxesOk m = true := by
  obtain ⟨h1, h2⟩ := boxesOk_iff.1 h
  exact boxesOk_iff.2 ⟨fun x hx => h1 x (hs x hx), by omega⟩
theorem rowF_w {l : List Bx} : (rowF l).w = (l.map Bx.w).sum := by
  induction l with
  | nil => rfl
  | cons y r ih =>
    have e : y :: r = [y] ++ r := rfl
    rw [e, rowF_append, rowF_one]
    simp [ih]
theorem rowB_rev {l : List Bx} {r : Bx} (h : rowB l = (r, true)) : rowB l.reverse = (r, true) := by
  obtain ⟨h1, h2, h3⟩ := rowB_true h
  have := rowB_yes (l := l.reverse) (by rw [boxesOk_rev]; exact h1) (by rw [rowF_rev, ← h2]; exact h3)
  rw [this, rowF_rev, ← h2]
/-- A row of a row and a row is the row of all. -/
theorem row_nested {l : List Bx} {r : Bx} (h : rowB l = (r, true)) (k : Nat) :
    rowB (l.take k) = (rowF (l.take k), true) ∧ rowB (l.drop k) = (rowF (l.drop k), true) ∧ rowB [rowF (l.take k), rowF (l.drop k)] = (r, true) := by
  obtain ⟨h1, h2, h3⟩ := rowB_true h
  have e := rowF_append (l.take k) (l.drop k)
  rw [List.take_append_drop, ← h2] at e
  obtain ⟨⟨b1, b2⟩, ⟨b3, b4⟩, b5, b6⟩ := vBox_iff.1 h3
  rw [e] at b1 b2 b3 b4 b5 b6
  simp only at b1 b2 b3 b4 b5 b6
  have n1 := rowF_nn (l.take k)
  have n2 := rowF_nn (l.drop k)
  have o1 : boxesOk (l.take k) = true := boxesOk_sub h1 (fun x hx => List.mem_of_mem_take hx) (by simp; omega)
  have o2 : boxesOk (l.drop k) = true := boxesOk_sub h1 (fun x hx => List.mem_of_mem_drop hx) (by simp)
  have w1 : 0 ≤ (rowF (l.take k)).w := by
    have := (rowF_bound o1 (l.take k).length (Nat.le_refl _) rfl).1.1
    rwa [List.take_length] at this
  have w2 : 0 ≤ (rowF (l.drop k)).w := by
    have := (rowF_bound o2 (l.drop k).length (Nat.le_refl _) rfl).1.1
    rwa [List.take_length] at this
  have v1 : vBox (rowF (l.take k)).w (rowF (l.take k)).h (rowF (l.take k)).d = true := vBox_iff.2 ⟨⟨w1, by omega⟩, ⟨n1.1, by omega⟩, n1.2, by omega⟩
  have v2 : vBox (rowF (l.drop k)).w (rowF (l.drop k)).h (rowF (l.drop k)).d = true := vBox_iff.2 ⟨⟨w2, by omega⟩, ⟨n2.1, by omega⟩, n2.2, by omega⟩
  refine ⟨rowB_yes o1 v1, rowB_yes o2 v2, ?_⟩
  have e2 : rowF [rowF (l.take k), rowF (l.drop k)] = r := by
    rw [e, show [rowF (l.take k), rowF (l.drop k)] = [rowF (l.take k)] ++ [rowF (l.drop k)] from rfl, rowF_append, rowF_one, rowF_one]
    refine Bx.ext' ?_ ?_ ?_ <;> simp only <;> omega
  have o3 : boxesOk [rowF (l.take k), rowF (l.drop k)] = true := boxesOk_iff.2 ⟨by simp [v1, v2], by simp⟩
  rw [rowB_yes o3 (by rw [e2]; exact h3), e2]

theorem mem_of_getD' (l : List Bx) (k : Nat) (h : k < l.length) {x : Bx} (hx : l.getD k default = x) : x ∈ l := hx ▸ mem_getD l k h
/- stacks -/
theorem stackB_true {l : List Bx} {s : Int} {r : Bx} (h : stackB l s = (r, true)) : boxesOk l = true ∧ (0 ≤ s ∧ s ≤ 10000) ∧ r = stackF s l ∧ vBox r.w r.h r.d = true := by
  unfold stackB at h
  by_cases e : (boxesOk l && inR s 0 10000) = true
  · rw [if_pos e] at h
    simp only [Bool.and_eq_true] at e
    obtain ⟨h1, h2⟩ := chk_true h
    exact ⟨e.1, inR_iff.1 e.2, h1, h1 ▸ h2⟩
  · rw [if_neg e] at h
    injection h with _ h2
    cases h2
theorem stackB_yes {l : List Bx} {s : Int} (h : boxesOk l = true) (h1 : 0 ≤ s) (h2 : s ≤ 10000) (hv : vBox (stackF s l).w (stackF s l).h (stackF s l).d = true) : stackB l s = (stackF s l, true) := by
  unfold stackB
  rw [if_pos (by simp only [Bool.and_eq_true]; exact ⟨h, inR_mk h1 h2⟩)]
  exact chk_ok hv
def maxW (l : List Bx) : Int := l.foldl (fun a b => max a b.w) 0
def tot (l : List Bx) : Int := l.foldl (fun a b => a + b.h + b.d) 0
theorem maxW_snoc (l : List Bx) (x : Bx) : maxW (l ++ [x]) = max (maxW l) x.w := by simp [maxW]
theorem tot_snoc (l : List Bx) (x : Bx) : tot (l ++ [x]) = tot l + x.h + x.d := by simp [tot]
theorem stack_tot {l : List Bx} {s : Int} (k : Nat) (hk : k < l.length) :
    (stackF s (l.take (k + 1))).w = maxW (l.take (k + 1)) ∧ (stackF s (l.take (k + 1))).d = (l.getD k default).d ∧ tot (l.take (k + 1)) + k ≤ (stackF s (l.take (k + 1))).h + (stackF s (l.take (k + 1))).d := by
  induction k with
  | zero =>
    rw [stackF_first s l hk rfl, take_succ_snoc l 0 hk]
    simp [maxW, tot]
  | succ k ih =>
    obtain ⟨i1, i2, i3⟩ := ih (by omega)
    rw [stackF_next s l (k + 1) hk (by omega) rfl rfl, take_succ_snoc l (k + 1) hk, maxW_snoc, tot_snoc, ← i1]
    have : 1 ≤ interl (stackF s (l.take (k + 1))).d (l.getD (k + 1) default).h s := by unfold interl; omega
    simp only
    refine ⟨trivial, trivial, ?_⟩
    omega
/-- What a stack of boxes has. -/
theorem stack_has {l : List Bx} {s : Int} {r : Bx} (h : stackB l s = (r, true)) (h0 : 0 < l.length) : r.d = (l.getD (l.length - 1) default).d ∧ r.w = maxW l ∧ tot l + l.length - 1 ≤ r.h + r.d := by
  obtain ⟨h1, h2, h3, h4⟩ := stackB_true h
  have := stack_tot (l := l) (s := s) (l.length - 1) (by omega)
  rw [show l.length - 1 + 1 = l.length by omega, List.take_length, ← h3] at this
  obtain ⟨i1, i2, i3⟩ := this
  exact ⟨i2, i1, by omega⟩
theorem one_ok {l : List Bx} {x : Bx} (h : boxesOk l = true) (h0 : 0 < l.length) (hx : l.getD 0 default = x) : boxesOk (l.take 1) = true ∧ l.take 1 = [x] ∧ vBox x.w x.h x.d = true := by
  have e : l.take 1 = [x] := by rw [← hx]; exact take_succ_snoc l 0 h0
  have hv := (boxesOk_iff.1 h).1 x (hx ▸ mem_getD l 0 h0)
  exact ⟨boxesOk_sub h (fun x hx => List.mem_of_mem_take hx) (by simp; omega), e, hv⟩
theorem stack_one {l : List Bx} {s : Int} {r x : Bx} (h : stackB l s = (r, true)) (h0 : 0 < l.length) (hx : l.getD 0 default = x) : stackB (l.take 1) s = (x, true) ∧ rowB (l.take 1) = (x, true) := by
  obtain ⟨h1, h2, h3, h4⟩ := stackB_true h
  obtain ⟨o1, e1, v1⟩ := one_ok h1 h0 hx
  obtain ⟨⟨b1, b2⟩, ⟨b3, b4⟩, b5, b6⟩ := vBox_iff.1 v1
  have es : stackF s (l.take 1) = x := by
    rw [stackF_first s l h0 hx]
    exact Bx.ext' (by simp only; omega) rfl rfl
  have er : rowF (l.take 1) = x := by
    rw [e1, rowF_one]
    refine Bx.ext' ?_ ?_ ?_ <;> simp only <;> omega
  exact ⟨by rw [stackB_yes o1 h2.1 h2.2 (by rw [es]; exact v1), es], by rw [rowB_yes o1 (by rw [er]; exact v1), er]⟩
end Go.Proofs.Ytdbjjfjagalhbaa
