/- spansOf yields the places of all cells of a table, whatever the loop's body, so long as it keeps what is older than the loop and the cells that are newer. Conditions: the slices read as a valid table. -/
import Derived.Test.YtbkhimdebpllcaaRoundTail
import Derived.Test.YtbkhimdebpllcaaTab
namespace Go.Proofs.Ytbkhimdebpllcaa
open Go.RowKit

attribute [local go_sem] Oper.semAt_some

/-- A place in n columns. -/
abbrev SpN (m : Int) := {s : Sp // 0 ≤ s.f ∧ s.f < s.t ∧ s.t ≤ m ∧ 0 ≤ s.w ∧ s.w ≤ 1000}
/-- What a round keeps: what lay below n₀, and each block of cells from n₁ on. -/
def KC (n₀ n₁ : Nat) (W W' : World) : Prop := Below n₀ W W' ∧ ∀ (i : Nat) (o : Obj), n₁ ≤ i → W.heap[i]? = some o → o.isCells = true → W'.heap[i]? = some o
theorem KC.refl (n₀ n₁ : Nat) (W : World) : KC n₀ n₁ W W := ⟨Below.refl _ _, fun _ _ _ h _ => h⟩
theorem KC.t {n₀ n₁ : Nat} {A B C : World} (h : KC n₀ n₁ A B) (k : KC n₀ n₁ B C) : KC n₀ n₁ A C :=
  ⟨h.1.trans k.1, fun i o hi ho hc => k.2 i o hi (h.2 i o hi ho hc) hc⟩
theorem KC.b {n₀ n₁ : Nat} {w : World} (hn : n₀ ≤ w.heap.size) (W : World) (l : Nat) (o o' : Obj) (hl : w.heap.size ≤ l) (h : W.heap[l]? = some o) (h1 : o.isCells = false) (h2 : o.isWalk = false) : KC n₀ n₁ W (W.putObj l o') :=
  ⟨belowK_b hn W l o o' hl h h1 h2, fun i u _ hu hc => by
    have hne : i ≠ l := by
      intro e
      subst e
      rw [h] at hu
      cases hu
      rw [h1] at hc
      cases hc
    rw [World.putObj_heap_other hne]
    exact hu⟩
theorem KC.of_below {n₀ n₁ : Nat} {W W' : World} (h : Below W.heap.size W W') (hn : n₀ ≤ W.heap.size) : KC n₀ n₁ W W' :=
  ⟨h.mono hn, fun i _o _ ho _ => (h.block i (Array.getElem?_eq_some_iff.1 ho).1).trans ho⟩
theorem KC.set {n₀ n₁ : Nat} {W : World} {p : Addr} (h0 : n₀ ≤ p.block) (h1 : p.block < n₁) (u : Value) : KC n₀ n₁ W (W.setCell p u) :=
  ⟨(Below.refl _ _).setCell h0 _, fun i o hi ho _ => (Below.heap_setCell W p u i (by omega)).trans ho⟩
theorem Blk.kc {n₀ n₁ : Nat} {W W' : World} {g : Nat} {t : TypeId} {cs : Array Value} (h : Blk W g t cs) (hk : KC n₀ n₁ W W') (hg : n₁ ≤ g) : Blk W' g t cs := hk.2 g _ hg h rfl
theorem abides_alloc {β : Type} {B : Nat} {J : β → World → Prop} (h : AbidesFrom B J) {s : β} {W : World} (o : Obj) (hs : J s W) : J s (W.alloc o) :=
  h s W _ none hs (World.grownBy_alloc W o none) (fun r e => by cases e)

def encS (x : Sp) : Value := .agg #[.int .i64 x.f, .int .i64 x.t, .int .i64 x.w]
theorem spans_split {rs : List (List Cl)} {n k p : Nat} {x : List Cl} {y : Cl} (hn : rs.length = n) (hk : k < n) (hx : rs.getD k default = x) (hp : p < x.length) (hy : x.getD p default = y) :
    ∃ rest, spans rs = spans (rs.take k) ++ spR 0 (x.take p) ++ [⟨sumS (x.take p), sumS (x.take p) + y.s, y.w⟩] ++ rest := by
  have h1 : rs = rs.take (k + 1) ++ rs.drop (k + 1) := (List.take_append_drop _ _).symm
  have h2 : x = x.take (p + 1) ++ x.drop (p + 1) := (List.take_append_drop _ _).symm
  have key : ∀ (a : Int) (l l' : List Cl), ∃ r, spR a (l ++ l') = spR a l ++ r := by
    intro a l l'
    induction l generalizing a with
    | nil => exact ⟨_, rfl⟩
    | cons c l ih =>
      obtain ⟨r, hr⟩ := ih (a + c.s)
      exact ⟨r, by simp [spR, hr]⟩
  obtain ⟨r, hr⟩ := key 0 (x.take (p + 1)) (x.drop (p + 1))
  rw [← h2] at hr
  refine ⟨r ++ spans (rs.drop (k + 1)), ?_⟩
  have h3 : spans rs = spans (rs.take (k + 1)) ++ spans (rs.drop (k + 1)) := by
    rw [spans, spans, spans, ← List.flatMap_append, List.take_append_drop]
  rw [h3, tk_snoc' hn hk hx, spans_snoc, hr, tk_snoc' rfl hp hy, spR_snoc]
  simp

set_option maxRecDepth 100000 in
set_option maxHeartbeats 4000000 in
theorem spans_stops (m : Int) (k n₀ Bs nr cap : Nat) (A : Option Addr) (rs : List (List Cl)) (hok : tabOk rs m = true) (w : World) (hBs : Bs < w.heap.size) (hn₀ : n₀ ≤ w.heap.size) (hk : 1 ≤ k)
    (hc : w.cell? ⟨Bs, 0, none⟩ = some (.slice A nr cap)) (hT : Tab w n₀ A nr rs) :
    SeqStopsK Fence.wide k Try.prog 54 #[.pointer (some ⟨Bs, 0, none⟩)] (fun x : SpN m => #[encS x.1]) (KC n₀ w.heap.size) (fun ys => ys.map Subtype.val = spans rs) (fun pre => pre.map Subtype.val <+: spans rs) (spans rs).length w := fun l J Jx W hW hJ hJx hY h0 => by
  have hc' := (hW.cell (p := ⟨Bs, 0, none⟩) hBs).trans hc
  have hT' : Tab W n₀ A nr rs := hT.below (hW.mono hn₀)
  obtain ⟨hn, As, cs, h2, h3⟩ := hT'
  have hsW := hW.size
  have hsp := spans_rng hok
  have hm8 := (tabOk_iff hok).1
  have h10 : nr ≤ 10 := by have := (tabOk_iff hok).2.1; omega
  have HSP := Lib.hid hsp
  have HN := Lib.hid hn
  have H3 := Lib.hid h3
  have HJ := Lib.hid hJ
  have HY := Lib.hid hY
  clear hsp hn h3 hJ hY hT hok hJx hc
  refine callsIn_of_wp Try.func54 rfl trivial ?_ rfl
  simp only [Try.ntmps54, List.size_toArray, List.length_cons, List.length_nil, Nat.reduceAdd, Nat.reduceSub, Array.replicate_succ, Array.replicate_zero, List.push_toArray, List.append_toArray, List.nil_append, List.cons_append]
  gi_wp2
  gi_loopw [10] (fun i wr => ∃ (j : Nat) (pre : List (SpN m)), j ≤ nr ∧ i = .int .i64 j ∧ Hid (pre.map Subtype.val = spans (rs.take j)) ∧ J pre wr ∧ Below n₀ W wr ∧ W.heap.size ≤ wr.heap.size)
    (fun i _ => nr - (intOf i).toNat)
  case atStart => exact ⟨0, [], Nat.zero_le _, rfl, rfl, h0, Below.refl _ _, Nat.le_refl _⟩
  case round =>
    obtain ⟨j, pre, hj, rfl, hpre, hJs, hbel, hsz⟩ := hrel
    by_cases hlt : j < nr
    · obtain ⟨b, off, rfl, hb, hcc⟩ := h2.at1 (by omega)
      have c0 : wr.cell? ⟨b, off + j, none⟩ = _ := (hbel.cell (p := ⟨b, off + j, none⟩) hb).trans (hcc j hlt)
      obtain ⟨hlm, hi3⟩ := H3.out j hlt
      obtain ⟨x, hx⟩ : ∃ x, rl rs j = x := ⟨_, rfl⟩
      rw [hx] at c0 hlm hi3
      obtain ⟨q, hq⟩ : ∃ q, x.length = q := ⟨_, rfl⟩
      rw [hq] at c0 hlm hi3
      obtain ⟨C, hC⟩ : ∃ C, cs j = C := ⟨_, rfl⟩
      obtain ⟨D, hD⟩ : ∃ D, As j = D := ⟨_, rfl⟩
      rw [hC, hD] at c0
      rw [hD] at hi3
      unfold maxLen at hlm
      have HX : Hid (rs.getD j default = x) := hx
      have HQ := Lib.hid hq
      have HI := Lib.hid hi3
      have hjn : (j : Int) < (nr : Int) := by omega
      clear hcc hx hq hC hD hi3
      gi_wp2
      gi_loopw [5, 16] (fun a i wi => ∃ (p : Nat) (v : Int) (pre : List (SpN m)), p ≤ q ∧ i = .int .i64 (p : Int) ∧ a = .int .i64 v ∧ (0 ≤ v ∧ v ≤ 8) ∧ Hid (sumS (x.take p) = v) ∧ Hid (pre.map Subtype.val = spans (rs.take j) ++ spR 0 (x.take p)) ∧ J pre wi ∧ Below n₀ W wi ∧ W.heap.size ≤ wi.heap.size)
        (fun _ i _ => q - (intOf i).toNat)
      case atStart => exact ⟨0, 0, pre, Nat.zero_le _, rfl, rfl, ⟨by omega, by omega⟩, rfl, by rw [Hid, hpre.out]; simp [spR], hJs, hbel, hsz⟩
      case round =>
        obtain ⟨p, v, pre2, hp, rfl, rfl, ⟨v0, v1⟩, hv, hpre2, hJ2, hbi, hszi⟩ := hrel
        by_cases hpl : p < q
        · obtain ⟨b', off', rfl, hb', hc2⟩ := HI.out (by omega)
          have e0 : wr.cell? ⟨b', off' + p * 2, none⟩ = _ := (hbi.cell (p := ⟨b', off' + p * 2, none⟩) hb').trans (hc2 p 0 hpl (by omega))
          have e1 : wr.cell? ⟨b', off' + p * 2 + 1, none⟩ = _ := (hbi.cell (p := ⟨b', off' + p * 2 + 1, none⟩) hb').trans (hc2 p 1 hpl (by omega))
          obtain ⟨y, hy⟩ : ∃ y, x.getD p default = y := ⟨_, rfl⟩
          simp only [clc, hy] at e0 e1
          obtain ⟨rest, hsplit⟩ := spans_split HN.out hlt HX.out (by rw [HQ.out]; exact hpl) hy
          rw [hv.out, ← hpre2.out] at hsplit
          have hmem : (⟨v, v + y.s, y.w⟩ : Sp) ∈ spans rs := by rw [hsplit]; simp
          have hval := HSP.out _ hmem
          obtain ⟨z0, z1, z2, z3, z4⟩ := hval
          simp only at z0 z1 z2 z3 z4
          have hplen : pre2.length < (spans rs).length := by
            rw [hsplit]
            first | (simp; done) | (simp; omega)
          have hnv : sumS (x.take (p + 1)) = v + y.s := by rw [tk_snoc' HQ.out hpl hy, sumS_snoc, hv.out]
          have hnp : (pre2 ++ [(⟨⟨v, v + y.s, y.w⟩, z0, z1, z2, z3, z4⟩ : SpN m)]).map Subtype.val = spans (rs.take j) ++ spR 0 (x.take (p + 1)) := by
            rw [List.map_append, hpre2.out, tk_snoc' HQ.out hpl hy, spR_snoc, hv.out]
            simp
          have hpfx : (pre2 ++ [(⟨⟨v, v + y.s, y.w⟩, z0, z1, z2, z3, z4⟩ : SpN m)]).map Subtype.val <+: spans rs := ⟨rest, by rw [hsplit, List.map_append]; simp⟩
          have HNV := Lib.hid hnv
          have HNP := Lib.hid hnp
          have HPX := Lib.hid hpfx
          have hpq : (p : Int) < (q : Int) := by omega
          have hJa := abides_alloc HJ.out (.cells #[.int .i64 y.s, .int .i64 y.w] 46) hJ2
          obtain ⟨fn, tmps, assign, body, hyy, hR⟩ := HY.out pre2 ⟨⟨v, v + y.s, y.w⟩, z0, z1, z2, z3, z4⟩ _ hJa hplen
          dsimp only [encS] at hyy
          have hBX := Lib.hid (Blk.new wr 46 #[.int .i64 y.s, .int .i64 y.w])
          clear hsplit hmem hy hc2 hnv hnp hpfx
          gi_wp2
          refine hR.mono ?_
          rintro e W3 (⟨rfl, hJ3, hk3⟩ | ⟨rfl, hJx3⟩)
          · have hX3 := hBX.out.kc hk3 (by omega)
            have tlt := hX3.lt
            have tc0 := hX3.cell 0; have tf0 := hX3.frozen 0
            have tc1 := hX3.cell 1; have tf1 := hX3.frozen 1
            simp only [List.getElem?_toArray, List.getElem?_cons_zero, List.getElem?_cons_succ] at tc0 tc1
            have hb3 : Below n₀ W W3 := (hbi.alloc (by have := hbi.size; omega) _).trans hk3.1
            have hz3 := hk3.1.size
            simp only [World.size_alloc] at hz3
            gi_wp2
            go_roundw
            case rel => exact ⟨p + 1, v + y.s, _, by omega, by simp, rfl, ⟨by omega, by omega⟩, HNV.out, HNP.out, hJ3, hb3, by omega⟩
            case measure => simp [intOf]; omega
          · gi_wp2
            refine bodyPost_ret (results_none rfl _ _ _) rfl ?_
            exact ⟨⟨_, rfl⟩, .inr ⟨_, HPX.out, hJx3⟩⟩
        · have hpq : p = q := by omega
          have hnp : pre2.map Subtype.val = spans (rs.take (j + 1)) := by
            rw [hpre2.out, tk_snoc' HN.out hlt HX.out, spans_snoc, List.take_of_length_le (l := x) (i := p) (by rw [HQ.out]; omega)]
          have HNP := Lib.hid hnp
          clear hnp
          gi_wp2
          go_roundw
          case rel => exact ⟨j + 1, pre2, by omega, by simp, HNP.out, hJ2, hbi, hszi⟩
          case measure => simp [intOf]; omega
    · have ej : j = nr := by omega
      have hfin : pre.map Subtype.val = spans rs := by rw [hpre.out, List.take_of_length_le (by rw [HN.out]; omega)]
      gi_wp2
      go_end0
      exact ⟨⟨_, rfl⟩, .inl ⟨_, hfin, hJs⟩⟩
end Go.Proofs.Ytbkhimdebpllcaa
