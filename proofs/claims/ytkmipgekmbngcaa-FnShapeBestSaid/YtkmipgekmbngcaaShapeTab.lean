/- The tables of shapeTable: three slices of rows of the call's own, and a row while it is filled. No condition. -/
import Derived.Test.YtkmipgekmbngcaaShapePlain
import Derived.Test.YtkmipgekmbngcaaBestTable
namespace Go.Proofs.Ytkmipgekmbngcaa
open Go.RowKit

def rt3 (q : Nat) : TypeId := if q = 2 then 64 else 24
def et3 (q : Nat) : TypeId := if q = 2 then 4 else 3
/-- Three slices of rows, in blocks of their own: row x of slice q holds part q of the states for x + 1 lines. -/
def ST (w : World) (base N : Nat) (a cp ln : Nat → Nat) (G : Nat → Nat → Nat) (C : Nat → Nat → Nat → Option Int) : Prop :=
  (∀ q, q < 3 → OwnP w base (rt3 q) 1 (some ⟨a q, 0, none⟩) (ln q) (cp q) (fun x _ => .slice (some ⟨G q x, 0, none⟩) N N)) ∧
  (∀ q x, q < 3 → x < ln q → OwnP w base (et3 q) 1 (some ⟨G q x, 0, none⟩) N N (fun i _ => en3 (Dp.T2 C (x + 1) (i + 1)) q)) ∧
  (∀ q q', q < 3 → q' < 3 → q ≠ q' → a q ≠ a q') ∧ (∀ q q' x, q < 3 → q' < 3 → x < ln q' → a q ≠ G q' x)
section
variable {w w' : World} {base N : Nat} {a cp ln : Nat → Nat} {G : Nat → Nat → Nat} {C : Nat → Nat → Nat → Option Int}
theorem ST.then_ (h : ST w base N a cp ln G C) (hb : Below w.heap.size w w') : ST w' base N a cp ln G C := ⟨fun q hq => (h.1 q hq).then_ hb, fun q x hq hx => (h.2.1 q x hq hx).then_ hb, h.2.2⟩
theorem ST.alloc (h : ST w base N a cp ln G C) (o : Obj) : ST (w.alloc o) base N a cp ln G C := ⟨fun q hq => (h.1 q hq).alloc o, fun q x hq hx => (h.2.1 q x hq hx).alloc o, h.2.2⟩
theorem ST.far (h : ST w base N a cp ln G C) {p : Addr} (h1 : ∀ q, q < 3 → a q ≠ p.block) (h2 : ∀ q x, q < 3 → x < ln q → G q x ≠ p.block) (u : Value) : ST (w.setCell p u) base N a cp ln G C :=
  ⟨fun q hq => (h.1 q hq).far (by intro x hx; cases hx; exact h1 q hq) u, fun q x hq hx => (h.2.1 q x hq hx).far (by intro y hy; cases hy; exact h2 q x hq hx) u, h.2.2⟩
theorem ST.len (h : ST w base N a cp ln G C) {ln' : Nat → Nat} (e : ∀ q, q < 3 → ln q = ln' q) : ST w base N a cp ln' G C :=
  ⟨fun q hq => by rw [← e q hq]; exact h.1 q hq, fun q x hq hx => h.2.1 q x hq (by rw [e q hq]; exact hx), h.2.2.1, fun q q' x hq hq' hx => h.2.2.2 q q' x hq hq' (by rw [e q' hq']; exact hx)⟩
theorem ST.ltA (h : ST w base N a cp ln G C) {q : Nat} (hq : q < 3) : a q < w.heap.size := (h.1 q hq).lt
theorem ST.ltG (h : ST w base N a cp ln G C) {q x : Nat} (hq : q < 3) (hx : x < ln q) : G q x < w.heap.size := (h.2.1 q x hq hx).lt
theorem ST.outer (h : ST w base N a cp ln G C) {q x : Nat} (hq : q < 3) (hx : x < ln q) : w.cell? ⟨a q, x, none⟩ = some (.slice (some ⟨G q x, 0, none⟩) N N) := (h.1 q hq).cell1 hx
theorem ST.inner (h : ST w base N a cp ln G C) {q x i : Nat} (hq : q < 3) (hx : x < ln q) (hi : i < N) : w.cell? ⟨G q x, i, none⟩ = some (en3 (Dp.T2 C (x + 1) (i + 1)) q) := (h.2.1 q x hq hx).cell1 hi
/-- One row more in slice q. -/
theorem ST.snoc (h : ST w base N a cp ln G C) {q g gn c' : Nat} {L : List Value} (hq : q < 3) (hL : w.ownsRow base (rt3 q) 1 (.slice (some ⟨a q, 0, none⟩) (ln q) (cp q)) (ln q) L) (hL2 : ∀ x r, x < ln q → r < 1 → L[x * 1 + r]? = some (.slice (some ⟨G q x, 0, none⟩) N N))
    (hr : OwnP w base (et3 q) 1 (some ⟨gn, 0, none⟩) N N (fun i _ => en3 (Dp.T2 C (ln q + 1) (i + 1)) q)) (hga : ∀ q', q' < 3 → a q' ≠ gn)
    (hown : w'.ownsRow base (rt3 q) 1 (.slice (some ⟨g, 0, none⟩) (ln q + 1) c') (ln q + 1) (L ++ [.slice (some ⟨gn, 0, none⟩) N N])) (hg : w.grownBy w' (some (a q))) (hat : some (a q) = some g ∨ g = w.heap.size) :
    ST w' base N (fun r => if r = q then g else a r) (fun r => if r = q then c' else cp r) (fun r => if r = q then ln q + 1 else ln r) (fun r x => if r = q ∧ x = ln q then gn else G r x) C := by
  have hLn : L.length = ln q := by have := hL.1; omega
  have hgd : ∀ b : Nat, b < w.heap.size → a q ≠ b → g ≠ b := fun b hb hne e => by
    rcases hat with h1 | h1
    · injection h1 with h1; omega
    · omega
  refine ⟨fun r hr' => ?_, fun r x hr' hx => ?_, fun r r' hr' hr'' hne => ?_, fun r r' x hr' hr'' hx => ?_⟩
  · by_cases e : r = q
    · subst e
      simp only [if_true]
      refine ⟨_, hown, fun x s hx hs => ?_⟩
      have hs0 : s = 0 := by omega
      subst hs0
      by_cases e2 : x = ln r
      · subst e2
        rw [List.getElem?_append_right (by omega)]
        simp [hLn]
      · rw [List.getElem?_append_left (by omega)]
        simp only [e2, and_false, if_false]
        exact hL2 x 0 (by omega) (by omega)
    · simp only [e, false_and, if_false]
      exact (h.1 r hr').kept hg (.inr (by simp only [Value.ownBlock]; intro e3; injection e3 with e3; exact h.2.2.1 r q hr' hq e e3))
  · by_cases e : r = q
    · subst e
      simp only [if_true] at hx
      by_cases e2 : x = ln r
      · subst e2
        simp only [and_self, if_true]
        exact hr.kept hg (.inr (by simp only [Value.ownBlock]; intro e3; injection e3 with e3; exact hga r hr' e3.symm))
      · simp only [e2, and_false, if_false]
        exact (h.2.1 r x hr' (by omega)).kept hg (.inr (by simp only [Value.ownBlock]; intro e3; injection e3 with e3; exact h.2.2.2 r r x hr' hr' (by omega) e3.symm))
    · simp only [e, if_false] at hx
      simp only [e, false_and, if_false]
      exact (h.2.1 r x hr' hx).kept hg (.inr (by simp only [Value.ownBlock]; intro e3; injection e3 with e3; exact h.2.2.2 q r x hq hr' hx e3.symm))
  · show (if r = q then g else a r) ≠ if r' = q then g else a r'
    by_cases e : r = q
    · have e' : ¬ r' = q := by omega
      rw [if_pos e, if_neg e']
      exact hgd _ (h.ltA hr'') (h.2.2.1 q r' hq hr'' (by omega))
    · rw [if_neg e]
      by_cases e' : r' = q
      · rw [if_pos e']
        exact fun h3 => hgd _ (h.ltA hr') (h.2.2.1 q r hq hr' (by omega)) h3.symm
      · rw [if_neg e']
        exact h.2.2.1 r r' hr' hr'' hne
  · show (if r = q then g else a r) ≠ if r' = q ∧ x = ln q then gn else G r' x
    have hx' : x < (if r' = q then ln q + 1 else ln r') := hx
    by_cases e' : r' = q ∧ x = ln q
    · rw [if_pos e']
      by_cases e : r = q
      · rw [if_pos e]; exact hgd _ hr.lt (hga q hq)
      · rw [if_neg e]; exact hga r hr'
    · rw [if_neg e']
      have hxl : x < ln r' := by
        by_cases e2 : r' = q
        · subst e2
          rw [if_pos rfl] at hx'
          have : x ≠ ln r' := fun h3 => e' ⟨rfl, h3⟩
          omega
        · rwa [if_neg e2] at hx'
      by_cases e : r = q
      · rw [if_pos e]
        exact hgd _ (h.ltG hr'' hxl) (h.2.2.2 q r' x hq hr'' hxl)
      · rw [if_neg e]
        exact h.2.2.2 r r' x hr' hr'' hxl
end
/-- The tables, and three whole rows beside them that are to be added to the slices. -/
def AP (w0 w : World) (B j l g0 : Nat) (a cp ln : Nat → Nat) (G : Nat → Nat → Nat) (C : Nat → Nat → Nat → Option Int) : Prop :=
  ST w B j a cp ln G C ∧ (∀ q, q < 3 → OwnP w B (et3 q) 1 (some ⟨g0 + q, 0, none⟩) j j (fun x _ => en3 (Dp.T2 C (l + 1) (x + 1)) q)) ∧ (∀ q r, q < 3 → r < 3 → a q ≠ g0 + r) ∧ Below B w0 w
theorem AP.step {w0 w : World} {B j l g0 : Nat} {a cp ln : Nat → Nat} {G : Nat → Nat → Nat} {C : Nat → Nat → Nat → Option Int} (h : AP w0 w B j l g0 a cp ln G C) {q gq aq cq : Nat} {T : TypeId} (hq : q < 3) (hB : B ≤ w.heap.size) (hl : ln q = l) (hg : gq = g0 + q) (ha : a q = aq) (hc : cp q = cq) (hT : rt3 q = T) :
    ∃ L, Hid ((w.alloc (.cells #[.slice (some ⟨gq, 0, none⟩) j j] T)).ownsRow B T 1 (.slice (some ⟨aq, 0, none⟩) l cq) l L) ∧ Hid (Blk (w.alloc (.cells #[.slice (some ⟨gq, 0, none⟩) j j] T)) w.heap.size T #[.slice (some ⟨gq, 0, none⟩) j j]) ∧ Hid (B ≤ (w.alloc (.cells #[.slice (some ⟨gq, 0, none⟩) j j] T)).heap.size) ∧
      Hid (∀ g' c' w', w'.ownsRow B T 1 (.slice (some ⟨g', 0, none⟩) (l + 1) c') (l + 1) (L ++ [.slice (some ⟨gq, 0, none⟩) j j]) → (w.alloc (.cells #[.slice (some ⟨gq, 0, none⟩) j j] T)).grownBy w' (Value.ownBlock (.slice (some ⟨aq, 0, none⟩) l cq)) → (Value.ownBlock (.slice (some ⟨aq, 0, none⟩) l cq) = some g' ∨ g' = (w.alloc (.cells #[.slice (some ⟨gq, 0, none⟩) j j] T)).heap.size) →
        AP w0 w' B j l g0 (fun r => if r = q then g' else a r) (fun r => if r = q then c' else cp r) (fun r => if r = q then l + 1 else ln r) (fun r x => if r = q ∧ x = l then gq else G r x) C ∧ B ≤ w'.heap.size) := by
  obtain ⟨hst, hrows, hsep, hbel⟩ := h
  subst hg ha hc hT hl
  have s := hst.alloc (.cells #[.slice (some ⟨g0 + q, 0, none⟩) j j] (rt3 q))
  obtain ⟨L, hL1, hL2⟩ := s.1 q hq
  have hsz : w.heap.size < (w.alloc (.cells #[.slice (some ⟨g0 + q, 0, none⟩) j j] (rt3 q))).heap.size := by simp
  refine ⟨L, hL1, Blk.new _ _ _, (by show B ≤ (w.alloc _).heap.size; omega), fun g' c' w' h1 h2 h3 => ⟨⟨?_, fun r hr => ?_, fun r r' hr hr' => ?_, ?_⟩, ?_⟩⟩
  · exact ST.snoc s hq hL1 hL2 ((hrows q hq).alloc _) (fun q' hq' => hsep q' q hq' hq) h1 h2 (h3.imp (fun e => e) id)
  · exact ((hrows r hr).alloc _).kept h2 (.inr (by simp only [Value.ownBlock]; intro e; injection e with e; exact hsep q r hq hr e.symm))
  · show (if r = q then g' else a r) ≠ g0 + r'
    by_cases e : r = q
    · rw [if_pos e]
      rcases h3 with h3 | h3
      · simp only [Value.ownBlock] at h3
        injection h3 with h3
        rw [← h3]
        exact hsep q r' hq hr'
      · have := (hrows r' hr').lt
        omega
    · rw [if_neg e]
      exact hsep r r' hr hr'
  · exact (hbel.alloc hB _).grown h2 (by omega) (fun k hk => (hL1.lt k hk).1)
  · have := h2.size
    omega
/-- A row while it is filled: stops below i are done and m candidates of stop i. -/
def sr (t : Nat → Option (Int × Nat)) (c : Nat → Nat → Option Int) (i m k : Nat) : Option (Int × Nat) := if k < i then Dp.best t (fun x => c x k) k else if k = i then Dp.best t (fun x => c x i) m else none
section
variable {t : Nat → Option (Int × Nat)} {c : Nat → Nat → Option Int} {i m k : Nat}
theorem sr_lt (h : k < i) : sr t c i m k = Dp.best t (fun x => c x k) k := if_pos h
theorem sr_at (t : Nat → Option (Int × Nat)) (c : Nat → Nat → Option Int) (i m : Nat) : sr t c i m i = Dp.best t (fun x => c x i) m := by rw [sr, if_neg (by omega), if_pos rfl]
theorem sr_next (t : Nat → Option (Int × Nat)) (c : Nat → Nat → Option Int) (i : Nat) : sr t c i i = sr t c (i + 1) 0 := by
  funext k
  unfold sr
  by_cases h1 : k < i
  · rw [if_pos h1, if_pos (by omega)]
  · by_cases h2 : k = i
    · subst h2; rw [if_neg (by omega), if_pos rfl, if_pos (by omega)]
    · rw [if_neg h1, if_neg h2, if_neg (by omega)]
      by_cases h3 : k = i + 1
      · rw [if_pos h3, Dp.best_zero]
      · rw [if_neg h3]
theorem sr_first (x : Nat) : sr t c 1 0 (x + 1) = none := by
  unfold sr
  rw [if_neg (by omega)]
  by_cases h : x + 1 = 1
  · rw [if_pos h, Dp.best_zero]
  · rw [if_neg h]
theorem sr_skip (h : Dp.upd t (fun x => c x i) (Dp.best t (fun x => c x i) m) m = Dp.best t (fun x => c x i) m) : sr t c i (m + 1) = sr t c i m := by
  funext k
  unfold sr
  rw [Dp.best_succ, h]
theorem sr_skipC (h : c m i = none) : sr t c i (m + 1) = sr t c i m := sr_skip (Dp.upd_skip (S := fun k => c k i) (N := m) (.inr h) _)
theorem sr_skipT (h : t m = none) : sr t c i (m + 1) = sr t c i m := sr_skip (Dp.upd_skip (S := fun k => c k i) (N := m) (.inl h) _)
theorem sr_no (h : ∀ k, c k i = none) (m : Nat) : sr t c i m = sr t c i 0 := by
  induction m with
  | zero => rfl
  | succ m ih => rw [sr_skipC (h m), ih]
theorem sr_set {p : Int × Nat} (h : Dp.upd t (fun x => c x i) (Dp.best t (fun x => c x i) m) m = some p) (k : Nat) : sr t c i (m + 1) k = if k = i then some p else sr t c i m k := by
  unfold sr
  rw [Dp.best_succ, h]
  by_cases e : k = i
  · subst e; rw [if_neg (by omega), if_pos rfl, if_pos rfl]
  · rw [if_neg e, if_neg e, if_neg e]
end
def cR (t : Nat → Option (Int × Nat)) (c : Nat → Nat → Option Int) (i m q x _z : Nat) : Value := en3 (sr t c i m (x + 1)) q
section
variable {t : Nat → Option (Int × Nat)} {c : Nat → Nat → Option Int} {i m q x z : Nat}
theorem cR_first (t : Nat → Option (Int × Nat)) (c : Nat → Nat → Option Int) (q x z : Nat) : cR t c 1 0 q x z = en3 none q := by unfold cR; rw [sr_first]
theorem cR_at (t : Nat → Option (Int × Nat)) (c : Nat → Nat → Option Int) (j m q z : Nat) : cR t c (j + 1) m q j z = en3 (Dp.best t (fun k => c k (j + 1)) m) q := by unfold cR; rw [sr_at]
theorem cR_lt (h : x + 1 < i) : cR t c i m q x z = en3 (Dp.best t (fun k => c k (x + 1)) (x + 1)) q := by unfold cR; rw [sr_lt h]
theorem cR_skip (e : sr t c i (m + 1) = sr t c i m) : cR t c i (m + 1) q = cR t c i m q := by funext k z; unfold cR; rw [e]
theorem cR_next (t : Nat → Option (Int × Nat)) (c : Nat → Nat → Option Int) (i q : Nat) : cR t c i i q = cR t c (i + 1) 0 q := by funext k z; unfold cR; rw [sr_next]
theorem cR_none (h : ∀ k, c k i = none) (m q : Nat) : cR t c i m q = cR t c (i + 1) 0 q := by
  funext x z
  unfold cR
  rw [sr_no h m, ← sr_next, sr_no h i]
theorem cR_set {j N : Nat} {v : Int} (e : ∀ k, sr t c (j + 1) (m + 1) k = if k = j + 1 then some (v, m) else sr t c (j + 1) m k) {u : Value} (hu : u = en3 (some (v, m)) q) : ∀ x z, x < N → z < 1 →
    (if x = j ∧ z = 0 then u else cR t c (j + 1) m q x z) = cR t c (j + 1) (m + 1) q x z := by
  intro x z _ hz
  obtain rfl : z = 0 := by omega
  unfold cR
  rw [e]
  by_cases h : x = j
  · subst h; simp [hu]
  · simp [h]
end
end Go.Proofs.Ytkmipgekmbngcaa
