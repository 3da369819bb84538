/- append of a slice that reads as a list behind a row of the call's own; slices.Clone copies a slice of numbers. Conditions: the slice is not nil; at most 2^20 numbers. -/
import Derived.Test.YtlgbeoghjjjlmaaAppend2
import Derived.Test.YtlgbeoghjjjlmaaInts
import Derived.Test.YtlgbeoghjjjlmaaLists
namespace Go.Proofs.Ytlgbeoghjjjlmaa
open Go.RowKit

theorem wpList_append_row {P : Program} (w : World) {ops : Array Oper} {rest : List Oper} {o : Oper} {a : Act} {Q : Exit → Act → World → Prop} (hgd : o.guard = none) (s x : Operand) (t : TypeId)
    (ho : o.op = .call { callee := .builtin .append, args := #[s, x], argTypes := #[t, t] })
    (base : Nat) (e : TypeId) (i : TypeInfo) (z : Value) (size bytes : Nat) (ht : P.underlying t = some (.slice e)) (hi : P.info? e = some i) (hz : i.zero = some z)
    (hsize : i.size = size) (hby : i.bytes = bytes) (hzs : z.cells.size = size) (hsz : 0 < size)
    (gs n c : Nat) (xs : List Value) (hs : a.eval s = .slice (some ⟨gs, 0, none⟩) n c) (hown : w.ownsRow base e size (.slice (some ⟨gs, 0, none⟩) n c) n xs)
    (b off m d : Nat) (ys : List Value) (hx : a.eval x = .slice (some ⟨b, off, none⟩) m d) (hl : ys.length = m * size) (hc : ∀ j u, ys[j]? = some u → w.cell? ⟨b, off + j, none⟩ = some u) (h1 : ∀ u ∈ ys, u.oneCell' = true)
    (hn : n + m ≤ 1048576) (hbytes : bytes ≤ 1000) (hbase : base ≤ w.heap.size)
    (h : ∀ g c' w', w'.ownsRow base e size (.slice (some ⟨g, 0, none⟩) (n + m) c') (n + m) (xs ++ ys) → w.grownBy w' (some gs) → wpList P ops Q rest (a.put o.dst (.slice (some ⟨g, 0, none⟩) (n + m) c')) w') : wpList P ops Q (o :: rest) a w := by
  refine wpList_append_own w hgd s x t ho base e i z size bytes ht hi hz hsize hby hzs hsz _ n xs hs hown ⟨b, off, none⟩ m d ys hx hl (fun j u hj => ?_) h1 (by unfold maxLen; omega) ?_ hbase fun v' w' hown' hg' hnil => ?_
  · have e1 : (⟨b, off, none⟩ : Addr).add j = ⟨b, off + j, none⟩ := by unfold Addr.add; split <;> simp_all
    rw [e1]
    exact hc j u hj
  · have : (n + m) * bytes ≤ 1048576 * 1000 := Nat.mul_le_mul hn hbytes
    omega
  · rcases hown'.2 with ⟨hv, h0⟩ | ⟨g, cap, cur, rfl, _⟩
    · cases (hnil.1 hv).1
    · exact h g cap w' hown' hg'
/-- The cells of a slice of numbers, for append. -/
theorem row_cells {w : World} {B b off n : Nat} {xs : List Int} (hn : xs.length = n) (hr : Row w B 1 (some ⟨b, off, none⟩) n (inc xs)) : ∀ j u, (inl xs)[j]? = some u → w.cell? ⟨b, off + j, none⟩ = some u := by
  intro j u hj
  have hlt : j < n := by
    have := (List.getElem?_eq_some_iff.1 hj).1
    rw [inl_len, hn] at this
    exact this
  obtain ⟨b', off', e, _, hc⟩ := hr.at1 (by omega)
  injection e with e
  injection e with e1 e2
  subst e1 e2
  rw [hc j hlt]
  have := inl_at xs j 0 (by omega) (by omega)
  rw [Nat.mul_one, Nat.add_zero, hj] at this
  exact this.symm

/-- What a call leaves that copies numbers. -/
def CopyOut (w : World) (n : Nat) (xs : List Int) (e : Ending) (w' : World) : Prop := ∃ g c : Nat, e = .returned (.slice (some ⟨g, 0, none⟩) n c) ∧ OwnI w' w.heap.size (some ⟨g, 0, none⟩) n c xs ∧ Below w.heap.size w w'
theorem clone_any (b off n cap : Nat) (xs : List Int) (w : World) (hn : xs.length = n) (hm : n ≤ 1048576) (hr : Row w w.heap.size 1 (some ⟨b, off, none⟩) n (inc xs)) :
    Calls Try.prog 61 #[.slice (some ⟨b, off, none⟩) n cap] w (CopyOut w n xs) := by
  obtain ⟨j0, ji, jz0, jz1, jz2⟩ := info_parts int_info
  have HC := Lib.hid (row_cells hn (hr.alloc' (.cells #[] 3)))
  have HL := Lib.hid (show (inl xs).length = n * 1 by rw [inl_len]; omega)
  have HE := Lib.hid (owns_nil _ w.heap.size 3 1 0 _ _ (Blk.new w 3 #[]) (Nat.le_refl _) (by unfold maxLen; omega) rfl)
  have HS := Lib.hid (show w.heap.size ≤ (w.alloc (.cells #[] 3)).heap.size by simp)
  have heq : ∀ W : World, (binOp .eql 22 (.slice (some ⟨b, off, none⟩) n cap) (.slice none 0 0)).run Try.prog W = .ok (.bool false) W := fun W => Lib.run_eql_slice_nil W 22 3 _ _ _ _ _ Try.underlying22
  clear hr hn
  go_enter Try.func61, Try.ntmps61
  go_wp2_with (at_builtin; (refine wpList_append_row _ rfl _ _ 22 rfl w.heap.size 3 j0 _ 1 8 Try.underlying22 ji jz0 jz1 jz2 rfl (by omega) w.heap.size 0 0 [] rfl HE.out b off n cap (inl xs) rfl HL.out HC.out (inl_one _) (by omega) (by omega) HS.out ?_); intro g' d' w6 hown6 hgr6)
  have h6 := hown6
  rw [Nat.zero_add, List.nil_append] at h6
  have hb6 : Below w.heap.size w w6 := ((Below.refl _ _).alloc (Nat.le_refl _) _).grown hgr6 (by simp) (fun k hk => by injection hk; omega)
  have HO := Lib.hid h6
  clear hown6 hgr6 h6
  go_wp2
  go_ret
  exact ⟨g', d', rfl, HO.out, hb6⟩
end Go.Proofs.Ytlgbeoghjjjlmaa
