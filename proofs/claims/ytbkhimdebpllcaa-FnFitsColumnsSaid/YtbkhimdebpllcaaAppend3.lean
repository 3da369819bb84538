/- append of one element, saying where the new row lies. No condition beyond the sizes. -/
import Derived.Test.YtbkhimdebpllcaaAppend
import Derived.Maps.AppendAt
namespace Go.Proofs.Ytbkhimdebpllcaa
open Go.RowKit

theorem wpList_append_one_at {P : Program} (w : World) {ops : Array Oper} {rest : List Oper} {o : Oper} {a : Act} {Q : Exit → Act → World → Prop} (hgd : o.guard = none) (s x : Operand) (t : TypeId)
    (ho : o.op = .call { callee := .builtin .append, args := #[s, x], argTypes := #[t, t] })
    (base : Nat) (e : TypeId) (i : TypeInfo) (z : Value) (size bytes : Nat) (ht : P.underlying t = some (.slice e)) (hi : P.info? e = some i) (hz : i.zero = some z)
    (hsize : i.size = size) (hby : i.bytes = bytes) (hzs : z.cells.size = size) (hsz : 0 < size)
    (A : Option Addr) (n c : Nat) (xs : List Value) (hs : a.eval s = .slice A n c) (hown : w.ownsRow base e size (.slice A n c) n xs)
    (gn : Nat) (news : List Value) (hx : a.eval x = .slice (some ⟨gn, 0, none⟩) 1 1) (hl : news.length = size) (hb : Blk w gn e news.toArray) (h1 : ∀ u ∈ news, u.oneCell' = true)
    (hn : n ≤ 1048576) (hbytes : bytes ≤ 1000) (hbase : base ≤ w.heap.size)
    (h : ∀ g c' w', w'.ownsRow base e size (.slice (some ⟨g, 0, none⟩) (n + 1) c') (n + 1) (xs ++ news) → w.grownBy w' (Value.ownBlock (.slice A n c)) → (Value.ownBlock (.slice A n c) = some g ∨ g = w.heap.size) → wpList P ops Q rest (a.put o.dst (.slice (some ⟨g, 0, none⟩) (n + 1) c')) w') : wpList P ops Q (o :: rest) a w := by
  refine wpList_append_own_at w hgd s x t ho base e i z size bytes ht hi hz hsize hby hzs hsz _ n xs hs hown ⟨gn, 0, none⟩ 1 1 news hx (by omega) (fun j u hj => ?_) h1 (by unfold maxLen; omega) ?_ hbase fun v' w' hown' hg' _ hat => ?_
  · have e1 : (⟨gn, 0, none⟩ : Addr).add j = ⟨gn, j, none⟩ := by unfold Addr.add; split <;> simp_all
    rw [e1, hb.cell j]
    simpa using hj
  · have : (n + 1) * bytes ≤ 1048577 * 1000 := Nat.mul_le_mul (by omega) hbytes
    omega
  · rcases hown'.2 with ⟨_, h0⟩ | ⟨g, cap, cur, rfl, _⟩
    · omega
    · refine h g cap w' hown' hg' ?_
      rcases hat with h2 | h2
      · exact .inl h2.symm
      · right
        simpa [Value.ownBlock] using h2
end Go.Proofs.Ytbkhimdebpllcaa
