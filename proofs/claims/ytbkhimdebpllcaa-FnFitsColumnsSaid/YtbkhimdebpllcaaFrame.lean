/- Opening the arguments of a law: numbers, rows of numbers, structs, rows of structs. What stands here speaks of values and cells alone. No condition. -/
import Derived.Test.YtbkhimdebpllcaaBase
import Derived.ProofKit
import Derived.OpenShut
import Derived.ShutString
import Derived.ChangeOld
import Derived.Lib.SmallJoins
import Derived.Deep.Slices
import Derived.Deep.Fields
import Derived.Deep.Strs
namespace Go.Proofs.Ytbkhimdebpllcaa
open Go.ChangeShapes Go.WideShapes Go.ChangeAt Go.RowKit Go.Joins Go.Deep

section
variable {H : Type} {enc : TypeId × Value → H} {P : Program} {w : World} {base : Nat} {spare : Nat → Bool} {held : Bool}

theorem open_struct3 {r : Reach} {b0 : Nat} {t ti : TypeId} {k : IntKind} {f0 f1 f2 : Field} {v : Value} {d : DataW H} {p : List MemPlace} (hs : P.underlying t = some (.struct #[f0, f1, f2]))
    (h0 : f0.type = ti) (h1 : f1.type = ti ∧ f2.type = ti) (hone : oneCellFields P #[f0, f1, f2] = true) (hC : P.cellsOf t = 3) (hi : P.underlying ti = some (.int k))
    (hv : Value.okWide P w r b0 t v) (h : DataW.Trod enc P w base spare held t v d p) : ∃ x0 x1 x2 : Int, v = .agg #[.int k x0, .int k x1, .int k x2] := by
  obtain ⟨c0, c1, c2, y0, y1, y2, m, rfl, _, _, g0, g1, g2⟩ := open_agg3 hs hone hC hv h
  rw [h0] at g0
  rw [h1.1] at g1
  rw [h1.2] at g2
  obtain ⟨x0, e0, _⟩ := DataW.trod_int hi g0
  obtain ⟨x1, e1, _⟩ := DataW.trod_int hi g1
  obtain ⟨x2, e2, _⟩ := DataW.trod_int hi g2
  simp at e0 e1 e2
  subst e0 e1 e2
  exact ⟨x0, x1, x2, rfl⟩

/-- A slice of structs whose fields are all of one integer kind: the cells, in the walk's spelling. -/
theorem open_rowsN {t e ti : TypeId} {k : IntKind} {fs : Array Field} {fuel : Nat} {A : Option Addr} {n cap sz : Nat} {x : DataW H × List MemPlace} (ht : P.underlying t = some (.slice e)) (he : P.underlying e = some (.struct fs))
    (hsz : fs.size = sz) (h0 : 0 < sz) (hone : oneCellFields P fs = true) (hC : P.cellsOf e = sz) (hi : P.underlying ti = some (.int k)) (hf : ∀ (j : Nat) (f : Field), fs[j]? = some f → f.type = ti)
    (h : DataW.trod enc P w base spare held fuel t [.slice A n cap] = some x) :
    n ≤ maxLen ∧ ∃ g : Nat → Nat → Int, Row w w.heap.size sz A n (fun i j => .int k (g i j)) := by
  rcases open_slice ht h with ⟨hcs, _⟩ | ⟨a, len, cap', m, fl, D, Pl, hcs, hb, hl, hm, hmm, hx, hel⟩
  · simp only [List.cons.injEq, Value.slice.injEq, and_true] at hcs
    obtain ⟨rfl, rfl, rfl⟩ := hcs
    exact ⟨Nat.zero_le _, fun _ _ => 0, Row.nil⟩
  simp only [List.cons.injEq, Value.slice.injEq, and_true] at hcs
  obtain ⟨rfl, rfl, rfl⟩ := hcs
  have hnm : n ≤ m := by rw [hmm]; split <;> omega
  refine ⟨by omega, ?_⟩
  have key : ∀ i j, ∃ v : Int, i < n → j < sz → w.cell? (a.add (i * sz + j)) = some (.int k v) := by
    intro i j
    by_cases hi' : i < n
    · by_cases hj : j < sz
      · obtain ⟨cs', hc, ht'⟩ := hel i (by omega)
        rw [hC] at hc
        obtain ⟨ys, n', hn', hy, hlen, hyl, hfl⟩ := DataW.trod_struct he ht'
        obtain ⟨_, hcl, hat⟩ := World.cells?_some hc
        have hfj : fs[j]? = some fs[j] := Array.getElem?_eq_getElem (by omega)
        obtain ⟨ho, hk⟩ := hone_of hone j _ hfj
        have hcell := hat j hj
        have hv : cs'[j]? = some (cs'[j]'(by omega)) := List.getElem?_eq_getElem (by omega)
        have h1 := hfl j _ hfj
        rw [ho, hk] at h1
        have hone' : (cs'.drop j).take 1 = [cs'[j]'(by omega)] := by
          rw [List.drop_eq_getElem_cons (by omega)]
          rfl
        have hys : ys[j]? = some (ys[j]'(by omega)) := List.getElem?_eq_getElem (by omega)
        rw [hone', hf j _ hfj, hys] at h1
        obtain ⟨v, e1, _⟩ := DataW.trod_int hi h1
        refine ⟨v, fun _ _ => ?_⟩
        rw [← Go.Deep.add_add, hcell, hv]
        simp only [List.cons.injEq, and_true] at e1
        rw [e1]
      · exact ⟨0, fun _ h => absurd h hj⟩
    · exact ⟨0, fun h => absurd h hi'⟩
  obtain ⟨gg, hc⟩ : ∃ gg : Nat → Nat → Int, ∀ i j, i < n → j < sz → w.cell? (a.add (i * sz + j)) = some (.int k (gg i j)) :=
    ⟨fun i j => Classical.choose (key i j), fun i j => Classical.choose_spec (key i j)⟩
  refine ⟨gg, fun hn => ?_⟩
  have h00 := hc 0 0 hn h0
  have hsp := World.cell?_spot h00
  have hbl := World.block_lt_of_cell? w _ h00
  rw [Nat.zero_mul, Nat.zero_add] at hsp hbl
  have e0 : a.add 0 = a := rfl
  rw [e0] at hsp hbl
  obtain ⟨b, off, sp⟩ := a
  simp only at hsp
  subst hsp
  refine ⟨b, off, rfl, hbl, fun i j hi hj => ?_⟩
  have := hc i j hi hj
  unfold Addr.add at this
  split at this
  · rename_i hz
    show w.cell? ⟨b, off + i * sz + j, none⟩ = _
    rw [Nat.add_assoc, hz]
    exact this
  · show w.cell? ⟨b, off + i * sz + j, none⟩ = _
    rw [Nat.add_assoc]
    exact this

/-- A slice of numbers. -/
theorem open_nums {t e : TypeId} {k : IntKind} {A : Option Addr} {n cap : Nat} {d : DataW H} {p : List MemPlace} (ht : P.underlying t = some (.slice e)) (he : P.underlying e = some (.int k)) (hC : P.cellsOf e = 1)
    (h : DataW.Trod enc P w base spare held t (.slice A n cap) d p) : ∃ xs : List Int, xs.length = n ∧ n ≤ maxLen ∧ (∀ x ∈ xs, (Lit.int k x).wf = true) ∧ Row w w.heap.size 1 A n (fun i _ => .int k (xs.getD i 0)) := by
  obtain ⟨fuel, hf⟩ := h
  rcases open_ints ht he hC hf with ⟨hcs, _⟩ | ⟨a, l, c, zs, hcs, _, hl, hm, hz, _, hcell, hwz⟩
  · simp [Value.cells] at hcs
    obtain ⟨rfl, rfl, rfl⟩ := hcs
    exact ⟨[], rfl, Nat.zero_le _, by simp, Row.nil⟩
  · simp [Value.cells] at hcs
    obtain ⟨rfl, rfl, rfl⟩ := hcs
    have hzl : n ≤ zs.length := by rw [hz]; split <;> omega
    refine ⟨zs.take n, by simp; omega, by omega, fun x hx => hwz x (List.mem_of_mem_take hx), fun hn => ?_⟩
    have hc0 := hcell 0 (by omega)
    have hsp := World.cell?_spot hc0
    have hbl := World.block_lt_of_cell? w _ hc0
    have e0 : a.add 0 = a := rfl
    rw [e0] at hsp hbl
    obtain ⟨b, off, sp⟩ := a
    simp only at hsp
    subst hsp
    refine ⟨b, off, rfl, hbl, fun i j hi hj => ?_⟩
    obtain rfl : j = 0 := by omega
    have := hcell i (by omega)
    have e1 : (zs.take n).getD i 0 = zs.getD i 0 := by
      rw [List.getD_eq_getElem?_getD, List.getD_eq_getElem?_getD, List.getElem?_take_of_lt hi]
    show w.cell? ⟨b, off + i * 1 + 0, none⟩ = some (.int k ((zs.take n).getD i 0))
    rw [e1, Nat.mul_one, Nat.add_zero, ← this]
    unfold Addr.add
    split
    · rename_i hz0
      subst hz0
      rfl
    · rfl
/-- A slice of bytes. -/
theorem open_code {t e : TypeId} {A : Option Addr} {n cap : Nat} {d : DataW H} {p : List MemPlace} (ht : P.underlying t = some (.slice e)) (he : P.underlying e = some (.int .u8)) (hC : P.cellsOf e = 1)
    (h : DataW.Trod enc P w base spare held t (.slice A n cap) d p) : ∃ xs : List Int, Code w A n cap xs := by
  obtain ⟨xs, hl, hm, hw, hr⟩ := open_nums ht he hC h
  have hcap : n ≤ cap ∧ cap ≤ maxLen := by
    obtain ⟨fuel, hf⟩ := h
    rcases open_ints ht he hC hf with ⟨hcs, _⟩ | ⟨a, l, c, zs, hcs, _, hl', hm', _⟩
    · simp [Value.cells] at hcs
      obtain ⟨rfl, rfl, rfl⟩ := hcs
      exact ⟨Nat.le_refl _, Nat.zero_le _⟩
    · simp [Value.cells] at hcs
      obtain ⟨rfl, rfl, rfl⟩ := hcs
      exact ⟨hl', hm'⟩
  refine ⟨xs, hm, hcap.1, hcap.2, fun x hx => ?_, hr⟩
  have := hw x hx
  simp [Lit.wf, IntKind.min, IntKind.max, IntKind.signed, IntKind.bits] at this
  omega
end
/-- What an int that came in may be. -/
theorem i64_bounds {a : Int} (h : (Lit.int .i64 a).wf = true) : -9223372036854775808 ≤ a ∧ a ≤ 9223372036854775807 := by
  simp [Lit.wf, IntKind.min, IntKind.max, IntKind.signed, IntKind.bits] at h
  omega
end Go.Proofs.Ytbkhimdebpllcaa
