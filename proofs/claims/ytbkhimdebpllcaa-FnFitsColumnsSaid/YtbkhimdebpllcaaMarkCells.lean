/- Cells of the call's own are marked. Conditions: few cells; small numbers. -/
import Derived.Test.YtbkhimdebpllcaaTab
namespace Go.Proofs.Ytbkhimdebpllcaa
open Go.RowKit

def OwnX (w : World) (base : Nat) (t : TypeId) (sz : Nat) (A : Option Addr) (n c : Nat) : Prop := ∃ f, OwnP w base t sz A n c f
theorem OwnX.apart {w w' : World} {base : Nat} {t : TypeId} {sz : Nat} {A B : Option Addr} {n c m d : Nat} (h : OwnX w base t sz A n c) (hg : w.grownBy w' (Value.ownBlock (.slice B m d))) (hb : ∀ x, A = some x → ∀ y, B = some y → x.block ≠ y.block) : OwnX w' base t sz A n c := h.imp fun _ h => h.apart hg hb
theorem OwnX.set_at {w : World} {base g sz n c i q o : Nat} {t : TypeId} (h : OwnX w base t sz (some ⟨g, 0, none⟩) n c) (hi : i < n) (hq : q < sz) (ho : o = i * sz + q) (u : Value) : OwnX (w.setCell ⟨g, o, none⟩ u) base t sz (some ⟨g, 0, none⟩) n c := h.elim fun _ h => ⟨_, h.set_at hi hq ho u⟩
theorem grown_setc {w wr : World} {g : Nat} (h : w.grownBy wr (some g)) (o : Nat) (u : Value) : w.grownBy (wr.setCell ⟨g, o, none⟩ u) (some g) :=
  ⟨h.os, h.tape, h.output, by simpa [World.setCell] using h.size, fun i hi hne => (Below.heap_setCell _ _ _ i (fun e => hne (by rw [e]))).trans (h.block i hi hne)⟩

set_option maxHeartbeats 1000000 in
theorem markCellS_k (k : Int) (g n c base : Nat) (w : World) (hm : n ≤ 2097152) (k0 : 0 ≤ k) (k1 : k ≤ 1000000000) (h : OwnX w base 46 2 (some ⟨g, 0, none⟩) n c) :
    Calls Try.prog 50 #[.slice (some ⟨g, 0, none⟩) n c, .int .i64 k] w fun e w' => e = .returned (.int .i64 (k + 2 * (n : Int))) ∧ OwnX w' base 46 2 (some ⟨g, 0, none⟩) n c ∧ w.grownBy w' (some g) := by
  have HP := Lib.hid h
  clear h
  go_enter Try.func50, Try.ntmps50
  go_wp2_with fail
  go_loopg [1, 5] n (fun kk r i wr => ∃ j : Nat, j ≤ n ∧ kk = n - j ∧ i = .int .i64 (j : Int) ∧ r = .int .i64 (k + 2 * (j : Int)) ∧ Hid (OwnX wr base 46 2 (some ⟨g, 0, none⟩) n c) ∧ w.grownBy wr (some g))
  case atStart => exact ⟨0, Nat.zero_le _, rfl, rfl, by go_num, HP.out, rfl, rfl, rfl, Nat.le_refl _, fun _ _ _ => rfl⟩
  case round =>
    obtain ⟨j, hj, hk, rfl, rfl, hown, hbel⟩ := hrel
    have HK := Lib.hid hk; clear hk
    have hsz := hbel.size
    obtain ⟨f', hown'⟩ := hown.out
    have HOW := Lib.hid hown'; clear hown'
    by_cases hlt : j < n
    · have o0 : wr.cell? ⟨g, j * 2, none⟩ = _ := HOW.out.cell (q := 0) hlt (by omega)
      have o1 : wr.cell? ⟨g, j * 2 + 1, none⟩ = _ := HOW.out.cell (q := 1) hlt (by omega)
      have of0 := HOW.out.frozen (j * 2)
      have of1 := HOW.out.frozen (j * 2 + 1)
      go_wp2_with fail
      go_roundg (n - (j + 1))
      case measure => have := HK.out; omega
      case rel =>
        clear o0 o1 of0 of1
        refine ⟨j + 1, by omega, rfl, by go_num, by go_num, ?_, ?_⟩
        · refine OwnX.set_at (i := j) (q := 1) ?_ hlt (by omega) (by omega) _
          exact OwnX.set_at (i := j) (q := 0) hown.out hlt (by omega) (by omega) _
        · exact grown_setc (grown_setc hbel _ _) _ _
    · have ej : j = n := by omega
      subst ej
      go_wp2_with fail
      go_ret
      exact ⟨rfl, hown.out, hbel⟩

/-- How many cells there are ahead of row j. -/
def cells (rs : List (List Cl)) (j : Nat) : Nat := ((rs.take j).map List.length).sum
theorem cells_succ {rs : List (List Cl)} {n j : Nat} (hn : rs.length = n) (hj : j < n) : cells rs (j + 1) = cells rs j + (rl rs j).length := by
  rw [cells, tk_snoc' hn hj rfl, List.map_append, List.sum_append]
  simp [cells, rl]
theorem cells_le {rs : List (List Cl)} (j : Nat) : cells rs j ≤ tot rs := by
  have e : rs.map List.length = (rs.take j).map List.length ++ (rs.drop j).map List.length := by rw [← List.map_append, List.take_append_drop]
  unfold tot cells
  rw [e, List.sum_append]
  omega

set_option maxHeartbeats 2000000 in
theorem markCellSS_any (g n base hi : Nat) (G : Nat → Nat) (rs : List (List Cl)) (w : World) (hm : tot rs ≤ 1048576) (h : OwnT w base g n G rs) (hb : base ≤ w.heap.size) (hhi : ∀ i, i < n → G i < hi) :
    Calls Try.prog 32 #[.slice (some ⟨g, 0, none⟩) n n, .int .i64 1] w fun e w' => (∃ k : Int, e = .returned (.int .i64 k) ∧ 0 ≤ k) ∧ Below base w w' ∧ ∀ b, hi ≤ b → b < w.heap.size → w'.heap[b]? = w.heap[b]? := by
  obtain ⟨hn, hA, hG, hGG⟩ := h
  have hn1 : n ≤ 1048576 := by have := hm; unfold tot at this; omega
  have HN := Lib.hid hn
  have HA := Lib.hid hA
  have HG := Lib.hid hG
  have HGG := Lib.hid hGG
  have HHI := Lib.hid hhi
  clear hn hA hG hGG hhi
  go_enter Try.func32, Try.ntmps32
  go_wp2_with fail
  go_loopg [1, 5] n (fun kk r i wr => ∃ j : Nat, j ≤ n ∧ kk = n - j ∧ i = .int .i64 (j : Int) ∧ r = .int .i64 (1 + 2 * (cells rs j : Int)) ∧ Hid (OwnP wr base 43 1 (some ⟨g, 0, none⟩) n n (fun i _ => .slice (some ⟨G i, 0, none⟩) (rl rs i).length (rl rs i).length)) ∧ Hid (∀ i, i < n → OwnX wr base 46 2 (some ⟨G i, 0, none⟩) (rl rs i).length (rl rs i).length) ∧ Below base w wr ∧ Hid (∀ b, hi ≤ b → b < w.heap.size → wr.heap[b]? = w.heap[b]?))
  case atStart => exact ⟨0, Nat.zero_le _, rfl, rfl, rfl, HA.out, fun i hi => ⟨_, (HG.out i hi).2⟩, Below.refl _ _, fun _ _ _ => rfl⟩
  case round =>
    obtain ⟨j, hj, hk, rfl, rfl, hown, hrow, hbel, hout⟩ := hrel
    have HK := Lib.hid hk; clear hk
    have hsz := hbel.size
    by_cases hlt : j < n
    · have c0 : wr.cell? ⟨g, j, none⟩ = _ := hown.out.cell1 hlt
      have hlen := len_le_tot HN.out hlt
      have hcs := cells_succ HN.out hlt
      have hcj := cells_le (rs := rs) j
      have hcj1 := cells_le (rs := rs) (j + 1)
      have hgr := hrow.out j hlt
      obtain ⟨q, hq⟩ : ∃ q, (rl rs j).length = q := ⟨_, rfl⟩
      rw [hq] at c0 hlen hcs hgr
      obtain ⟨d, hd⟩ : ∃ d, G j = d := ⟨_, rfl⟩
      rw [hd] at c0 hgr
      obtain ⟨u, hu⟩ : ∃ u, cells rs j = u := ⟨_, rfl⟩
      rw [hu] at hcs hcj ⊢
      have HU := Lib.hid hcs
      have HQ := Lib.hid hq
      have HD := Lib.hid hd
      have HGR := Lib.hid hgr
      have hjn : (j : Int) < (n : Int) := by omega
      have hgd := (HG.out j hlt).1
      rw [hd] at hgd
      clear hcs hd hgr hq hu
      go_wp2_with fail
      ((with_reducible refine (markCellS_k _ _ _ _ base _ (by omega) (by omega) (by omega) HGR.out).mono ?_); rintro e w2 ⟨rfl, hm2, hg2⟩)
      have hdb : base ≤ d := by obtain ⟨f, hf⟩ := HGR.out; exact (hf.block d rfl).1
      have hB2 : Below base w w2 := hbel.grown hg2 (Nat.le_trans hb hsz) (fun k hk => by injection hk with hk; omega)
      have hown2 : OwnP w2 base 43 1 (some ⟨g, 0, none⟩) n n (fun i _ => .slice (some ⟨G i, 0, none⟩) (rl rs i).length (rl rs i).length) := hown.out.kept hg2 (.inr (by simp [Value.ownBlock]; omega))
      have hrow2 : ∀ i, i < n → OwnX w2 base 46 2 (some ⟨G i, 0, none⟩) (rl rs i).length (rl rs i).length := by
        intro i hi
        by_cases e : i = j
        · subst e
          obtain ⟨f, hf⟩ := hrow.out i hi
          obtain ⟨f2, hf2⟩ := hm2
          have h1 : (rl rs i).length = q := HQ.out
          rw [HD.out, h1]
          exact ⟨f2, hf2⟩
        · obtain ⟨f, hf⟩ := hrow.out i hi
          refine ⟨f, hf.kept hg2 (.inr ?_)⟩
          have hne : G i ≠ d := by
            rw [← HD.out]
            rcases Nat.lt_or_gt_of_ne e with h | h
            · have := HGG.out i j h hlt; omega
            · have := HGG.out j i h hi; omega
          simpa [Value.ownBlock] using hne
      have hout2 : ∀ b, hi ≤ b → b < w.heap.size → w2.heap[b]? = w.heap[b]? := fun b h1 h2 => (hg2.block b (Nat.lt_of_lt_of_le h2 hsz) (by have := HHI.out j hlt; rw [HD.out] at this; simp; omega)).trans (hout.out b h1 h2)
      have HO2 := Lib.hid hown2
      have HR2 := Lib.hid hrow2
      have HT2 := Lib.hid hout2
      clear hown2 hrow2 hout2 hm2
      go_wp2_with fail
      go_roundg (n - (j + 1))
      case measure => have := HK.out; omega
      case rel => exact ⟨j + 1, by omega, rfl, by go_num, by rw [HU.out]; go_num, HO2.out, HR2.out, hB2, HT2.out⟩
    · have ej : j = n := by omega
      subst ej
      go_wp2_with fail
      go_ret
      exact ⟨⟨_, rfl, by omega⟩, hbel, hout.out⟩
end Go.Proofs.Ytbkhimdebpllcaa
