/- append of one row of the call's own behind another one. No condition beyond the sizes. -/
import Derived.Test.YtbkhimdebpllcaaAppend
namespace Go.Proofs.Ytbkhimdebpllcaa
open Go.RowKit

theorem wpList_append_two {P : Program} (w : World) {ops : Array Oper} {rest : List Oper} {o : Oper} {a : Act} {Q : Exit → Act → World → Prop} (hgd : o.guard = none) (s x : Operand) (t : TypeId)
    (ho : o.op = .call { callee := .builtin .append, args := #[s, x], argTypes := #[t, t] })
    (base : Nat) (e : TypeId) (i : TypeInfo) (z : Value) (size bytes : Nat) (ht : P.underlying t = some (.slice e)) (hi : P.info? e = some i) (hz : i.zero = some z)
    (hsize : i.size = size) (hby : i.bytes = bytes) (hzs : z.cells.size = size) (hsz : 0 < size)
    (gs n c : Nat) (xs : List Value) (hs : a.eval s = .slice (some ⟨gs, 0, none⟩) n c) (hown : w.ownsRow base e size (.slice (some ⟨gs, 0, none⟩) n c) n xs)
    (gx m d base2 : Nat) (ys : List Value) (hx : a.eval x = .slice (some ⟨gx, 0, none⟩) m d) (hown2 : w.ownsRow base2 e size (.slice (some ⟨gx, 0, none⟩) m d) m ys) (h1 : ∀ u ∈ ys, u.oneCell' = true)
    (hn : n + m ≤ 1048576) (hbytes : bytes ≤ 1000) (hbase : base ≤ w.heap.size)
    (h : ∀ g c' w', w'.ownsRow base e size (.slice (some ⟨g, 0, none⟩) (n + m) c') (n + m) (xs ++ ys) → w.grownBy w' (some gs) → wpList P ops Q rest (a.put o.dst (.slice (some ⟨g, 0, none⟩) (n + m) c')) w') : wpList P ops Q (o :: rest) a w := by
  refine wpList_append_own w hgd s x t ho base e i z size bytes ht hi hz hsize hby hzs hsz _ n xs hs hown ⟨gx, 0, none⟩ m d ys hx hown2.1 (fun j u hj => hown2.cells (g := gx) rfl j u hj) h1 (by unfold maxLen; omega) ?_ hbase fun v' w' hown' hg' hnil => ?_
  · have : (n + m) * bytes ≤ 1048576 * 1000 := Nat.mul_le_mul hn hbytes
    omega
  · rcases hown'.2 with ⟨hv, h0⟩ | ⟨g, cap, cur, rfl, _⟩
    · cases (hnil.1 hv).1
    · exact h g cap w' hown' hg'
end Go.Proofs.Ytbkhimdebpllcaa
