/- What a round of ColumnWidths leaves; marks on the deferred calls of a frame. No condition. -/
import Derived.Test.YtbkhimdebpllcaaFits
import Derived.Test.YtbkhimdebpllcaaColsS
namespace Go.Proofs.Ytbkhimdebpllcaa
open Go.RowKit

theorem fillI_at {xs : List Int} {n j i : Nat} (h : xs.length = n) (hj : j ≤ n) (hi : i < j) : (fillI xs j n).getD i default = xs.getD i default := by
  rw [List.getD_eq_getElem?_getD, List.getD_eq_getElem?_getD, fillI, List.getElem?_append_left (by rw [List.length_take]; omega), List.getElem?_take_of_lt hi]
theorem fillI_rest {xs : List Int} {n j : Nat} (h : xs.length = n) (hj : j < n) : (fillI xs j n).getD j default = 0 := by
  rw [List.getD_eq_getElem?_getD, fillI, List.getElem?_append_right (by rw [List.length_take]; omega), List.length_take, Nat.min_eq_left (by omega), Nat.sub_self, List.getElem?_replicate, if_pos (by omega)]
  rfl
theorem set_same {xs : List Int} {n j : Nat} {x : Int} (h : xs.length = n) (hj : j < n) (hx : xs.getD j default = x) : xs.set j x = xs := by
  apply List.ext_getElem?
  intro i
  rw [List.getElem?_set]
  split
  · rename_i e
    subst e
    rw [if_pos (by omega), List.getElem?_eq_getElem (by omega), ← hx, List.getD_eq_getElem?_getD, List.getElem?_eq_getElem (by omega)]
    rfl
  · rfl
theorem cw_take (ss : List Sp) {c m : Nat} (h : c ≤ m) : (cw ss m).take c = cw ss c := by
  induction m with
  | zero => rw [show c = 0 by omega]; rfl
  | succ m ih =>
    rcases Nat.lt_or_ge c (m + 1) with h1 | h1
    · rw [cw, List.take_append_of_le_length (by rw [cw_len]; omega), ih (by omega)]
    · rw [show c = m + 1 by omega, List.take_of_length_le (by rw [cw_len]; exact Nat.le_refl _)]
theorem cw_at (ss : List Sp) {c m : Nat} (h : c < m) : (cw ss m).getD c default = cwW ss (cw ss c) := by
  have h1 := cw_take ss (show c + 1 ≤ m by omega)
  have h2 : ((cw ss m).take (c + 1)).getD c default = (cw ss m).getD c default := by
    rw [List.getD_eq_getElem?_getD, List.getD_eq_getElem?_getD, List.getElem?_take_of_lt (by omega)]
  rw [← h2, h1, cw, List.getD_eq_getElem?_getD, List.getElem?_append_right (by rw [cw_len]; exact Nat.le_refl _), cw_len, Nat.sub_self]
  rfl
/-- The borders of the columns. -/
def bords (F : List Int) : List Int := (List.range (F.length + 1)).map fun i => (F.take i).sum
theorem bords_len (F : List Int) : (bords F).length = F.length + 1 := by simp [bords]
theorem bords_at {F : List Int} {i : Nat} (h : i ≤ F.length) : (bords F).getD i default = (F.take i).sum := by
  rw [List.getD_eq_getElem?_getD, bords, List.getElem?_map, List.getElem?_range (by omega)]
  rfl
theorem sum_take_drop (l : List Int) (f c : Nat) (h : f ≤ c) : (l.take c).sum - (l.take f).sum = ((l.take c).drop f).sum := by
  have e : (l.take c).sum = ((l.take c).take f).sum + ((l.take c).drop f).sum := by rw [← List.sum_append, List.take_append_drop]
  rw [List.take_take, Nat.min_eq_left h] at e
  omega

/-- What the frame's marks ask of the memory. -/
def Marks (n₀ : Nat) (Ds : List Nat) (W : World) : Prop := Ds.Nodup ∧ ∀ D ∈ Ds, n₀ ≤ D ∧ W.heap[D]? = some (.deferred (some []))
def dfs (Ds : List Nat) : List Deferred := Ds.map fun D => { target := .collected D, args := #[] }
section
variable {n₀ : Nat} {Ds : List Nat} {W W' : World}
theorem Marks.keep (h : Marks n₀ Ds W) (hk : ∀ D ∈ Ds, W'.heap[D]? = W.heap[D]?) : Marks n₀ Ds W' := ⟨h.1, fun D hD => ⟨(h.2 D hD).1, (hk D hD).trans (h.2 D hD).2⟩⟩
theorem Marks.lt (h : Marks n₀ Ds W) {D : Nat} (hD : D ∈ Ds) : D < W.heap.size := (Array.getElem?_eq_some_iff.1 (h.2 D hD).2).1
theorem Marks.then_ (h : Marks n₀ Ds W) (hb : Below W.heap.size W W') : Marks n₀ Ds W' := h.keep fun D hD => hb.block D (h.lt hD)
theorem Marks.set_ (h : Marks n₀ Ds W) {g : Nat} {cs : Array Value} {t : TypeId} (hg : Blk W g t cs) (i : Nat) (u : Value) : Marks n₀ Ds (W.setCell ⟨g, i, none⟩ u) := h.keep fun D hD => Below.heap_setCell W _ u D (by
  intro e
  have h1 := (h.2 D hD).2
  have h2 : W.heap[g]? = _ := hg
  rw [show D = g from e, h2] at h1
  cases h1)
theorem Marks.cons (h : Marks n₀ Ds W) {D : Nat} (hD : ∀ D' ∈ Ds, D' < D) (hn : n₀ ≤ D) (hW : W.heap[D]? = some (.deferred (some []))) : Marks n₀ (D :: Ds) W :=
  ⟨List.nodup_cons.2 ⟨fun hm => Nat.lt_irrefl _ (hD D hm), h.1⟩, fun D' hD' => by
    rcases List.mem_cons.1 hD' with rfl | hm
    · exact ⟨hn, hW⟩
    · exact h.2 D' hm⟩
end
/-- A frame leaves its marks behind. -/
theorem leaves_marks {P : Program} {fn : Func} {tmps : Array Value} {R : Ending → World → Prop} {k n₀ : Nat} (J : World → Prop) (hJ : ∀ W D, J W → n₀ ≤ D → W.heap[D]? = some (.deferred (some [])) → J (W.putObj D (.deferred none)))
    (hR : ∀ W, J W → ∃ v, (results fn tmps).run P W = .ok v W ∧ R (.returned v) W) : ∀ (Ds : List Nat) (W : World), Marks n₀ Ds W → J W → LeavesInM Fence.wide k P fn tmps R (dfs Ds) .returning W := by
  intro Ds
  induction Ds with
  | nil => intro W _ hj; exact hR W hj
  | cons D Ds ih =>
    intro W hm hj
    obtain ⟨h1, h2⟩ := hm
    obtain ⟨h3, h4⟩ := List.nodup_cons.1 h1
    obtain ⟨h5, h6⟩ := h2 D (List.mem_cons_self ..)
    refine ⟨by simp, .inl ⟨D, _, rfl, run_takeDeferred h6, ?_⟩⟩
    refine ih _ ⟨h4, fun D' hD' => ⟨(h2 D' (List.mem_cons_of_mem _ hD')).1, ?_⟩⟩ (hJ W D hj h5 h6)
    rw [World.putObj_heap_other (by intro e; subst e; exact h3 hD')]
    exact (h2 D' (List.mem_cons_of_mem _ hD')).2

/-- The memory of ColumnWidths: two rows and their variables, and the marks. -/
structure Cols (w : World) (E N m : Nat) (LB LW : List Int) (Ds : List Nat) (W : World) : Prop where
  ob : OwnI W w.heap.size (some ⟨E, 0, none⟩) N N LB
  ow : OwnI W w.heap.size (some ⟨E + 2, 0, none⟩) m m LW
  vb : Blk W (E + 1) 22 #[.slice (some ⟨E, 0, none⟩) N N]
  vw : Blk W (E + 3) 22 #[.slice (some ⟨E + 2, 0, none⟩) m m]
  mrk : Marks w.heap.size Ds W
  bel : Below w.heap.size w W
theorem own_blk {W : World} {base g n c : Nat} {L : List Int} (h : OwnI W base (some ⟨g, 0, none⟩) n c L) : ∃ cs, Blk W g 3 cs := by
  rcases h.2 with ⟨hv, _⟩ | ⟨g', cap, cur, hv, _, hg, _⟩
  · cases hv
  · cases hv; exact ⟨_, hg⟩
theorem own_put {W : World} {base n c D : Nat} {A : Option Addr} {L : List Int} {o : Obj} (h : OwnI W base A n c L) (hD : W.heap[D]? = some o) (ho : o.isCells = false) (o' : Obj) : OwnI (W.putObj D o') base A n c L := by
  refine World.ownsRow.kept h (grownBy_putObj' W D o') ?_
  rcases h.2 with ⟨hv, _⟩ | ⟨g', cap, cur, hv, _, hg, _⟩
  · cases hv; exact .inl rfl
  · cases hv
    refine .inr fun e => ?_
    obtain rfl : g' = D := by simpa [Value.ownBlock] using e
    rw [hg] at hD
    cases hD
    cases ho
section
variable {w W W' : World} {E N m : Nat} {LB LW : List Int} {Ds : List Nat}
theorem Cols.then_ (h : Cols w E N m LB LW Ds W) (hb : Below W.heap.size W W') : Cols w E N m LB LW Ds W' :=
  ⟨h.ob.then_ hb, h.ow.then_ hb, h.vb.then_ hb, h.vw.then_ hb, h.mrk.then_ hb, below_then (Nat.le_refl _) h.bel hb⟩
theorem Cols.own {B : Nat} (hB : ∀ D ∈ Ds, D < B) (hw : w.heap.size ≤ B) (h : Cols w E N m LB LW Ds W) {row : Option Nat} (hg : W.grownBy W' row) (hr : ∀ r, row = some r → B ≤ r ∧ ∃ o : Obj, W.heap[r]? = some o ∧ o.isCells = false) : Cols w E N m LB LW Ds W' := by
  have own : ∀ {g n c : Nat} {L : List Int}, OwnI W w.heap.size (some ⟨g, 0, none⟩) n c L → OwnI W' w.heap.size (some ⟨g, 0, none⟩) n c L := fun {g n c L} ho => by
    refine World.ownsRow.kept ho hg (.inr fun e => ?_)
    obtain ⟨cs, hcs⟩ := own_blk ho
    obtain ⟨_, o, h1, h2⟩ := hr g e.symm
    rw [show W.heap[g]? = _ from hcs] at h1
    cases h1
    cases h2
  refine ⟨own h.ob, own h.ow, blk_kept h.vb hg (fun r e => (hr r e).2), blk_kept h.vw hg (fun r e => (hr r e).2), h.mrk.keep fun D hD => hg.block D (h.mrk.lt hD) (fun e => ?_), h.bel.grown hg h.bel.size (fun k e => Nat.le_trans hw (hr k e).1)⟩
  have := (hr D e.symm).1
  have := hB D hD
  omega
theorem Cols.setW (h : Cols w E N m LB LW Ds W) (c : Nat) (x : Int) : Cols w E N m LB (LW.set c x) Ds (W.setCell ⟨E + 2, c, none⟩ (.int .i64 x)) := by
  obtain ⟨cs, hcs⟩ := own_blk h.ow
  exact ⟨h.ob.other (fun y hy e => by injection hy with hy; subst hy; simp at e) _, h.ow.stored _, h.vb.far (by simp) _, h.vw.far (by simp) _, h.mrk.set_ hcs _ _, h.bel.setCell (p := ⟨E + 2, c, none⟩) (h.ow.block (E + 2) rfl).1 _⟩
theorem Cols.setB (h : Cols w E N m LB LW Ds W) (c : Nat) (x : Int) : Cols w E N m (LB.set c x) LW Ds (W.setCell ⟨E, c, none⟩ (.int .i64 x)) := by
  obtain ⟨cs, hcs⟩ := own_blk h.ob
  exact ⟨h.ob.stored _, h.ow.other (fun y hy e => by injection hy with hy; subst hy; simp at e) _, h.vb.far (by simp) _, h.vw.far (by simp) _, h.mrk.set_ hcs _ _, h.bel.setCell (p := ⟨E, c, none⟩) (h.ob.block E rfl).1 _⟩
theorem Cols.put (h : Cols w E N m LB LW [] W) {D : Nat} (hn : w.heap.size ≤ D) (hD : W.heap[D]? = some (.deferred (some []))) : Cols w E N m LB LW [] (W.putObj D (.deferred none)) :=
  ⟨own_put h.ob hD rfl _, own_put h.ow hD rfl _, blk_kept h.vb (grownBy_putObj' W D _) (fun r e => by cases e; exact ⟨_, hD, rfl⟩), blk_kept h.vw (grownBy_putObj' W D _) (fun r e => by cases e; exact ⟨_, hD, rfl⟩), ⟨List.nodup_nil, fun D hD => by cases hD⟩,
    h.bel.trans (belowK_b (w := w) (Nat.le_refl _) W D _ _ hn hD rfl rfl)⟩
end
end Go.Proofs.Ytbkhimdebpllcaa
