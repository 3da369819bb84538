/- Tables of the call's own: how they grow by a row, how a row is turned, how they read. Conditions: few elements. -/
import Derived.Test.YtbkhimdebpllcaaTab
import Derived.Test.YtbkhimdebpllcaaOwnP
import Derived.Test.YtbkhimdebpllcaaAppend3
import Derived.Test.YtbkhimdebpllcaaReader
import Derived.OneCell
namespace Go.Proofs.Ytbkhimdebpllcaa
open Go.RowKit

def cll (b : Cl) : List Value := [.int .i64 b.s, .int .i64 b.w]
theorem cll_one (b : Cl) : ∀ u ∈ cll b, u.oneCell' = true := by intro u hu; simp [cll] at hu; rcases hu with rfl | rfl <;> rfl
theorem cll_len (b : Cl) : (cll b).length = 2 := rfl
theorem cll_at {xs : List Cl} : ∀ i q, i < xs.length → q < 2 → (xs.flatMap cll)[i * 2 + q]? = some (clc xs i q) := by
  intro i q hi hq
  rw [flat_at cll 2 cll_len xs i q hi hq]
  match q, hq with
  | 0, _ => rfl
  | 1, _ => rfl
/-- A row of cells of the call's own. -/
def OwnC (w : World) (base : Nat) (A : Option Addr) (n c : Nat) (xs : List Cl) : Prop := w.ownsRow base 46 2 (.slice A n c) n (xs.flatMap cll)
section
variable {w w' : World} {base n c : Nat} {A : Option Addr} {xs : List Cl}
theorem OwnC.len (h : OwnC w base A n c xs) : xs.length = n := by
  have := h.1
  rw [flat_len cll 2 cll_len] at this
  omega
theorem OwnC.p (h : OwnC w base A n c xs) : OwnP w base 46 2 A n c (clc xs) := OwnP.of_list h fun i q hi hq => cll_at i q (by rw [OwnC.len h]; exact hi) hq
theorem OwnC.snoc {g : Nat} {x : Cl} (h : w.ownsRow base 46 2 (.slice (some ⟨g, 0, none⟩) n c) n (xs.flatMap cll ++ cll x)) : OwnC w base (some ⟨g, 0, none⟩) n c (xs ++ [x]) := by
  show World.ownsRow _ _ _ _ _ _ _
  rw [flat_snoc]; exact h
theorem OwnC.alloc (h : OwnC w base A n c xs) (o : Obj) : OwnC (w.alloc o) base A n c xs := World.ownsRow.alloc h o
theorem OwnC.then_ (h : OwnC w base A n c xs) (hb : Below w.heap.size w w') : OwnC w' base A n c xs :=
  World.ownsRow.kept h (row := none) ⟨hb.os, hb.tape, hb.output, hb.size, fun k hk _ => hb.block k hk⟩ (by cases hv : Value.ownBlock (.slice A n c) <;> simp)
theorem OwnC.mono {base' : Nat} (h : OwnC w base A n c xs) (hb : base' ≤ base) : OwnC w base' A n c xs :=
  ⟨h.1, h.2.imp id fun ⟨g, cap, cur, h1, h2, h3⟩ => ⟨g, cap, cur, h1, by omega, h3⟩⟩
end

/-- A table that the call owns, each row in a block of its own. -/
def TabOwn (w : World) (base : Nat) (A : Option Addr) (n c : Nat) (rs : List (List Cl)) (G : Nat → Option Addr) (cp : Nat → Nat) : Prop :=
  rs.length = n ∧ OwnP w base 43 1 A n c (fun i _ => .slice (G i) (rl rs i).length (cp i)) ∧ (∀ i, i < n → OwnP w base 46 2 (G i) (rl rs i).length (cp i) (clc (rl rs i))) ∧
    (∀ i, i < n → ∀ x, G i = some x → ∀ y, A = some y → x.block ≠ y.block) ∧ ∀ i j, i < j → j < n → ∀ x, G i = some x → ∀ y, G j = some y → x.block ≠ y.block
/-- A slice of slices that reads as a table, all of it in blocks from 'base' on. -/
def TabR (w : World) (base : Nat) (A : Option Addr) (n : Nat) (rs : List (List Cl)) : Prop :=
  rs.length = n ∧ ∃ (As : Nat → Option Addr) (cs : Nat → Nat), Row w w.heap.size 1 A n (fun i _ => .slice (As i) (rl rs i).length (cs i)) ∧ (∀ x, A = some x → base ≤ x.block) ∧
    ∀ i, i < n → (rl rs i).length ≤ maxLen ∧ Row w w.heap.size 2 (As i) (rl rs i).length (clc (rl rs i)) ∧ ∀ x, As i = some x → base ≤ x.block
section
variable {w w' : World} {base n c rb : Nat} {A : Option Addr} {rs : List (List Cl)} {G : Nat → Option Addr} {cp : Nat → Nat}
theorem TabR.tab (h : TabR w base A n rs) : Tab w w.heap.size A n rs := by
  obtain ⟨h1, As, cs, h2, _, h3⟩ := h
  exact ⟨h1, As, cs, h2, fun i hi => ⟨(h3 i hi).1, (h3 i hi).2.1⟩⟩
theorem TabR.len (h : TabR w base A n rs) : rs.length = n := h.1
theorem TabR.only (h : TabR w base A n rs) (k : w.grownBy w' (some rb)) (hr : rb < base) : TabR w' base A n rs := by
  obtain ⟨h1, As, cs, h2, h4, h3⟩ := h
  exact ⟨h1, As, cs, (h2.only k (fun x hx => Nat.lt_of_lt_of_le hr (h4 x hx)) (Nat.le_refl _)).more k.size, h4, fun i hi => ⟨(h3 i hi).1, ((h3 i hi).2.1.only k (fun x hx => Nat.lt_of_lt_of_le hr ((h3 i hi).2.2 x hx)) (Nat.le_refl _)).more k.size, (h3 i hi).2.2⟩⟩
theorem TabR.then_ (h : TabR w base A n rs) (hb : Below w.heap.size w w') : TabR w' base A n rs := by
  obtain ⟨h1, As, cs, h2, h4, h3⟩ := h
  exact ⟨h1, As, cs, h2.then_ hb, h4, fun i hi => ⟨(h3 i hi).1, (h3 i hi).2.1.then_ hb, (h3 i hi).2.2⟩⟩
theorem TabR.alloc (h : TabR w base A n rs) (o : Obj) : TabR (w.alloc o) base A n rs := h.then_ ((Below.refl _ _).alloc (Nat.le_refl _) o)
theorem TabR.mono {base' : Nat} (h : TabR w base A n rs) (hb : base' ≤ base) : TabR w base' A n rs := by
  obtain ⟨h1, As, cs, h2, h4, h3⟩ := h
  exact ⟨h1, As, cs, h2, fun x hx => Nat.le_trans hb (h4 x hx), fun i hi => ⟨(h3 i hi).1, (h3 i hi).2.1, fun x hx => Nat.le_trans hb ((h3 i hi).2.2 x hx)⟩⟩
theorem TabOwn.r (h : TabOwn w base A n c rs G cp) : TabR w base A n rs :=
  ⟨h.1, G, cp, h.2.1.row, fun x hx => (h.2.1.blk x hx).1, fun i hi => ⟨Nat.le_trans (h.2.2.1 i hi).cap.1 (h.2.2.1 i hi).cap.2, (h.2.2.1 i hi).row, fun x hx => ((h.2.2.1 i hi).blk x hx).1⟩⟩
theorem TabOwn.then_ (h : TabOwn w base A n c rs G cp) (hb : Below w.heap.size w w') : TabOwn w' base A n c rs G cp :=
  ⟨h.1, h.2.1.then_ hb, fun i hi => (h.2.2.1 i hi).then_ hb, h.2.2.2⟩
theorem TabOwn.alloc (h : TabOwn w base A n c rs G cp) (o : Obj) : TabOwn (w.alloc o) base A n c rs G cp := h.then_ ((Below.refl _ _).alloc (Nat.le_refl _) o)
theorem TabOwn.blkA (h : TabOwn w base A n c rs G cp) : ∀ y, A = some y → y.block < w.heap.size := fun y hy => (h.2.1.blk y hy).2
theorem TabOwn.blkG (h : TabOwn w base A n c rs G cp) : ∀ i, i < n → ∀ x, G i = some x → x.block < w.heap.size := fun i hi x hx => ((h.2.2.1 i hi).blk x hx).2
/-- A block that lies below the table, or beyond what there was when it was made, turns. -/
theorem TabOwn.grown {row : Option Nat} {hi : Nat} (h : TabOwn w base A n c rs G cp) (hg : w.grownBy w' row) (hA : ∀ y, A = some y → y.block < hi) (hG : ∀ i, i < n → ∀ x, G i = some x → x.block < hi) (hr : ∀ r, row = some r → r < base ∨ hi ≤ r) : TabOwn w' base A n c rs G cp := by
  refine ⟨h.1, h.2.1.kept hg ?_, fun i hi' => OwnP.kept (h.2.2.1 i hi') hg ?_, h.2.2.2⟩
  · cases A with
    | none => exact .inl rfl
    | some y =>
      refine .inr (fun e => ?_)
      have h1 := hA y rfl
      have h2 := (h.2.1.blk y rfl).1
      have h3 := hr y.block (by rw [← e]; rfl)
      omega
  · rcases hq : G i with _ | x
    · exact .inl rfl
    · refine .inr (fun e => ?_)
      have h1 := hG i hi' x hq
      have h2 := ((h.2.2.1 i hi').blk x hq).1
      have h3 := hr x.block (by rw [← e]; rfl)
      omega
theorem TabOwn.only (h : TabOwn w base A n c rs G cp) (k : w.grownBy w' (some rb)) (hr : rb < base) : TabOwn w' base A n c rs G cp :=
  h.grown k h.blkA h.blkG fun r e => by cases e; exact .inl hr
theorem TabOwn.nil (g : Nat) (h : Blk w g 43 #[]) (hg : base ≤ g) : TabOwn w base (some ⟨g, 0, none⟩) 0 0 [] (fun _ => none) (fun _ => 0) :=
  ⟨rfl, ⟨[], owns_nil w base 43 1 0 g _ h hg (Nat.zero_le _) rfl, fun i q hi => absurd hi (by omega)⟩, fun i hi => absurd hi (by omega), fun i hi => absurd hi (by omega), fun i j _ hj => absurd hj (by omega)⟩
theorem rl_old {ys : List Cl} {i : Nat} (hn : rs.length = n) (hi : i < n) : rl (rs ++ [ys]) i = rl rs i := by
  rw [rl, rl, List.getD_eq_getElem?_getD, List.getD_eq_getElem?_getD, List.getElem?_append_left (by omega)]
theorem rl_new {ys : List Cl} (hn : rs.length = n) : rl (rs ++ [ys]) n = ys := by
  rw [rl, List.getD_eq_getElem?_getD, List.getElem?_append_right (by omega), hn, Nat.sub_self]
  rfl
/-- The list of what the outer slice holds. -/
def outs (rs : List (List Cl)) (n : Nat) (G : Nat → Option Addr) (cp : Nat → Nat) : List Value := (List.range n).map fun i => .slice (G i) (rl rs i).length (cp i)
theorem TabOwn.list (h : TabOwn w base A n c rs G cp) : w.ownsRow base 43 1 (.slice A n c) n (outs rs n G cp) := by
  obtain ⟨_, ⟨L, h1, h2⟩, _⟩ := h
  have e : L = outs rs n G cp := by
    apply List.ext_getElem?
    intro i
    by_cases hi : i < n
    · have := h2 i 0 hi (by omega)
      rw [Nat.mul_one, Nat.add_zero] at this
      rw [this, outs, List.getElem?_map, List.getElem?_range hi]
      rfl
    · have hl := h1.1
      rw [List.getElem?_eq_none (by omega), List.getElem?_eq_none (by rw [outs, List.length_map, List.length_range]; omega)]
  rwa [← e]
/-- One row more. -/
theorem TabOwn.snoc {D : Option Addr} {d g c' m : Nat} {ys : List Cl} (h : TabOwn w base A n c rs G cp) (hm : ys.length = m)
    (hD : OwnP w base 46 2 D m d (clc ys)) (hDA : ∀ x, D = some x → ∀ y, A = some y → x.block ≠ y.block) (hDG : ∀ i, i < n → ∀ x, G i = some x → ∀ y, D = some y → x.block ≠ y.block)
    (hown : w'.ownsRow base 43 1 (.slice (some ⟨g, 0, none⟩) (n + 1) c') (n + 1) (outs rs n G cp ++ [.slice D m d])) (hg : w.grownBy w' (Value.ownBlock (.slice A n c))) (hat : Value.ownBlock (.slice A n c) = some g ∨ g = w.heap.size) :
    TabOwn w' base (some ⟨g, 0, none⟩) (n + 1) c' (rs ++ [ys]) (fun i => if i = n then D else G i) (fun i => if i = n then d else cp i) := by
  subst hm
  have hn := h.1
  have hLn : (outs rs n G cp).length = n := by rw [outs, List.length_map, List.length_range]
  have hne : ∀ x : Addr, x.block < w.heap.size → (∀ y, A = some y → x.block ≠ y.block) → x.block ≠ g := by
    intro x hx hy e
    rcases hat with h1 | h1
    · cases A with
      | none => cases h1
      | some y => exact hy y rfl (by have : y.block = g := by simpa [Value.ownBlock] using h1
                                     omega)
    · omega
  refine ⟨by simp [hn], ⟨_, hown, fun i q hi hq => ?_⟩, fun i hi => ?_, fun i hi x hx y hy => ?_, fun i j hij hj x hx y hy => ?_⟩
  · by_cases e : i = n
    · subst e
      obtain rfl : q = 0 := by omega
      rw [List.getElem?_append_right (by omega), hLn]
      simp [rl_new hn]
    · obtain rfl : q = 0 := by omega
      rw [List.getElem?_append_left (by omega)]
      simp only [if_neg e]
      rw [rl_old hn (by omega), Nat.mul_one, Nat.add_zero, outs, List.getElem?_map, List.getElem?_range (by omega)]
      rfl
  · by_cases e : i = n
    · subst e
      simp only [if_true, rl_new hn]
      exact hD.apart hg hDA
    · simp only [if_neg e]
      rw [rl_old hn (by omega)]
      exact (h.2.2.1 i (by omega)).apart hg (fun x hx y hy => h.2.2.2.1 i (by omega) x hx y hy)
  · injection hy with hy
    subst hy
    by_cases e : i = n
    · simp only [if_pos e] at hx
      exact hne x (hD.blk x hx).2 (hDA x hx)
    · simp only [if_neg e] at hx
      exact hne x ((h.2.2.1 i (by omega)).blk x hx).2 (h.2.2.2.1 i (by omega) x hx)
  · have ei : ¬ i = n := by omega
    simp only [if_neg ei] at hx
    by_cases e : j = n
    · simp only [if_pos e] at hy
      exact hDG i (by omega) x hx y hy
    · simp only [if_neg e] at hy
      exact h.2.2.2.2 i j hij (by omega) x hx y hy
theorem rl_set {ys : List Cl} {i : Nat} (hn : rs.length = n) (h0 : 0 < n) : rl (rs.set 0 ys) i = if i = 0 then ys else rl rs i := by
  rw [rl, List.getD_eq_getElem?_getD, List.getElem?_set]
  by_cases e : i = 0
  · subst e
    rw [if_pos rfl, if_pos rfl, if_pos (by omega)]
    rfl
  · rw [if_neg (by omega), if_neg e, ← List.getD_eq_getElem?_getD]
    rfl
/-- A cell of the first row is turned. -/
theorem TabOwn.turn {g0 q : Nat} {u : Value} {ys : List Cl} (h : TabOwn w base A n c rs G cp) (h0 : 0 < n) (hG : G 0 = some ⟨g0, 0, none⟩) (hl : ys.length = (rl rs 0).length) (hp : 0 < (rl rs 0).length) (hq : q < 2)
    (hy : ∀ i q', i < (rl rs 0).length → q' < 2 → (if i = 0 ∧ q' = q then u else clc (rl rs 0) i q') = clc ys i q') : TabR (w.setCell ⟨g0, q, none⟩ u) base A n (rs.set 0 ys) := by
  obtain ⟨h1, h2, h3, h4, h5⟩ := h
  have hs : (w.setCell ⟨g0, q, none⟩ u).heap.size = w.heap.size := by simp [World.setCell]
  have h2' := h2.far (p := ⟨g0, q, none⟩) (fun x hx e => h4 0 h0 ⟨g0, 0, none⟩ hG x hx e.symm) u
  refine ⟨by rw [List.length_set]; exact h1, G, cp, h2'.row.congr (fun i j hi _ => ?_), fun x hx => (h2'.blk x hx).1, fun i hi => ?_⟩
  · rw [rl_set h1 h0]
    split
    · rename_i e
      subst e
      rw [hl]
    · rfl
  · rw [rl_set h1 h0]
    split
    · rename_i e
      subst e
      have h30 := h3 0 h0
      rw [hG] at h30
      have h6 := h30.set_at (q := q) (o := q) hp hq (by omega) u
      rw [hl, hG]
      exact ⟨Nat.le_trans h6.cap.1 h6.cap.2, h6.row.congr hy, fun x hx => (h6.blk x hx).1⟩
    · rename_i e
      have h6 := (h3 i hi).far (p := ⟨g0, q, none⟩) (fun x hx e' => h5 0 i (by omega) hi ⟨g0, 0, none⟩ hG x hx e'.symm) u
      exact ⟨Nat.le_trans h6.cap.1 h6.cap.2, h6.row, fun x hx => (h6.blk x hx).1⟩
/-- The first row loses its first cell. -/
theorem TabOwn.tail {g g0 o d : Nat} (h : TabOwn w base (some ⟨g, 0, none⟩) n c rs G cp) (h0 : 0 < n) (hG : G 0 = some ⟨g0, 0, none⟩) (hp : 0 < (rl rs 0).length) (ho : 1 < (rl rs 0).length → o = 2) :
    TabR (w.setCell ⟨g, 0, none⟩ (.slice (some ⟨g0, o, none⟩) ((rl rs 0).length - 1) d)) base (some ⟨g, 0, none⟩) n (rs.set 0 ((rl rs 0).drop 1)) := by
  obtain ⟨h1, h2, h3, h4, h5⟩ := h
  have h2' := h2.set1 (i := 0) h0 (.slice (some ⟨g0, o, none⟩) ((rl rs 0).length - 1) d)
  refine ⟨by rw [List.length_set]; exact h1, fun i => if i = 0 then some ⟨g0, o, none⟩ else G i, fun i => if i = 0 then d else cp i, h2'.row.congr (fun i j hi hj => ?_), fun x hx => (h2'.blk x hx).1, fun i hi => ?_⟩
  · rw [rl_set h1 h0]
    by_cases e : i = 0
    · subst e
      obtain rfl : j = 0 := by omega
      simp
    · simp [e]
  · have h6 := (h3 i hi).far (p := ⟨g, 0, none⟩) (fun x hx e' => h4 i hi x hx ⟨g, 0, none⟩ rfl e') (.slice (some ⟨g0, o, none⟩) ((rl rs 0).length - 1) d)
    rw [rl_set h1 h0]
    by_cases e : i = 0
    · subst e
      simp only [if_true]
      rw [hG] at h6
      have hb0 := (h6.blk ⟨g0, 0, none⟩ rfl)
      refine ⟨by have := Nat.le_trans h6.cap.1 h6.cap.2; rw [List.length_drop]; omega, fun h7 => ?_, fun x hx => by cases hx; exact hb0.1⟩
      rw [List.length_drop] at h7
      obtain rfl := ho (by omega)
      refine ⟨g0, 2, rfl, hb0.2, fun k q hk hq => ?_⟩
      rw [List.length_drop] at hk
      have := h6.cell (i := k + 1) (q := q) (by omega) hq
      rw [show 2 + k * 2 + q = (k + 1) * 2 + q by omega, this]
      match q, hq with
      | 0, _ => simp [clc, List.getD_eq_getElem?_getD]
      | 1, _ => simp [clc, List.getD_eq_getElem?_getD]
    · simp only [if_neg e]
      exact ⟨Nat.le_trans h6.cap.1 h6.cap.2, h6.row, fun x hx => (h6.blk x hx).1⟩
end
end Go.Proofs.Ytbkhimdebpllcaa
