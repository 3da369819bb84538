/- The exact law on ColumnWidths answers true. Conditions: the slice reads as a table. -/
import Derived.Test.YtbkhimdebpllcaaColsI
import Derived.Test.YtbkhimdebpllcaaMarkCells
import Derived.Test.YtbkhimdebpllcaaLawStretch
namespace Go.Proofs.Ytbkhimdebpllcaa
open Go.RowKit

theorem columnWidths_S (A : Option Addr) (nr cap : Nat) (n : Int) (rs : List (List Cl)) (w : World) (hmr : nr ≤ maxLen) (hT : Tab w w.heap.size A nr rs) :
    Calls Try.prog 28 #[.slice A nr cap, .int .i64 n] w (IntsOut w (colsV rs n)) := by
  rcases hok : tabOk rs n with _ | _
  · have HE := Lib.hid (show colsV rs n = [] by rw [colsV, hok]; rfl)
    have HOK := Lib.hid hok
    clear hok
    go_enter Try.func28, Try.ntmps28
    go_wp2_with fail
    ((with_reducible refine (validTable_s _ _ _ _ rs _ hmr ?_).mono ?_); (exact hT); rintro e w1 ⟨rfl, hb1⟩)
    rw [HOK.out]
    go_wp2_with fail
    go_ret
    show IntsOut w (colsV rs n) _ _
    rw [HE.out]
    exact ⟨none, 0, rfl, ownI_none _ _, hb1⟩
  obtain ⟨⟨n1, n8⟩, _, _⟩ := tabOk_iff hok
  obtain ⟨m, rfl⟩ : ∃ m : Nat, n = (m : Int) := Int.eq_ofNat_of_zero_le (by omega)
  have HE := Lib.hid (show colsV rs (m : Int) = cw (spans rs) m by rw [colsV, hok]; rfl)
  have HOK := Lib.hid hok
  clear hok
  go_enter Try.func28, Try.ntmps28
  go_wp2_with fail
  ((with_reducible refine (validTable_s _ _ _ _ rs _ hmr ?_).mono ?_); (exact hT); rintro e w1 ⟨rfl, hb1⟩)
  rw [HOK.out]
  have hT1 := hT.then_ hb1
  go_wp2_with fail
  ((with_reducible refine (columnWidths_s _ _ _ _ rs _ HOK.out ?_).mono ?_); (exact hT1); rintro e w2 ⟨Ag, dg, rfl, hg, hb2⟩)
  go_wp2_with fail
  go_ret
  show IntsOut w (colsV rs (m : Int)) _ _
  rw [HE.out]
  exact ⟨Ag, dg, rfl, OwnI.mono hg hb1.size, below_then (Nat.le_refl _) hb1 hb2⟩

theorem colsV_len (rs : List (List Cl)) (n : Int) : (colsV rs n).length ≤ 8 := by
  rcases hok : tabOk rs n with _ | _
  · rw [colsV, hok]; simp
  · obtain ⟨⟨n1, n8⟩, _, _⟩ := tabOk_iff hok
    rw [colsV, hok]
    show (cw (spans rs) n.toNat).length ≤ 8
    rw [cw_len]
    omega
theorem own_same {w w' : World} {base n c : Nat} {A : Option Addr} {L : List Int} (h : OwnI w base A n c L) (hv : ∀ x, A = some x → w'.heap[x.block]? = w.heap[x.block]?) : OwnI w' base A n c L := by
  rcases h.2 with h0 | ⟨g, cap, cur, hv0, h1, h2, h3⟩
  · exact ⟨h.1, .inl h0⟩
  · cases hv0
    exact ⟨h.1, .inr ⟨g, c, cur, rfl, h1, (hv _ rfl).trans h2, h3⟩⟩

set_option maxHeartbeats 8000000 in
theorem law_ExactColumnWidths (A : Option Addr) (n cap : Nat) (rs : List (List Cl)) (a1 : Int) (w : World) (_hn : rs.length = n) (hm : n ≤ maxLen) (hr : Tab w w.heap.size A n rs) :
    Calls Try.prog 11 #[.slice A n cap, .int .i64 a1] w fun e w' => e = .returned (.bool true) ∧ Below w.heap.size w w' := by
  obtain ⟨ys, hy⟩ : ∃ r, colsV rs a1 = r := ⟨_, rfl⟩
  obtain ⟨m, hmm⟩ : ∃ m, ys.length = m := ⟨_, rfl⟩
  have hmb : m ≤ 8 := by have := colsV_len rs a1; rw [hy] at this; omega
  have hmy : m ≤ maxLen := by unfold maxLen; omega
  have HY := Lib.hid hy
  have HM := Lib.hid hmm
  clear hy hmm _hn
  go_enter Try.func11, Try.ntmps11
  go_wp2_with fail
  ((with_reducible refine (szCellSS_any _ _ _ rs _ hm ?_).mono ?_); (exact hr); rintro e w1 ⟨⟨v, rfl, hv1, hv2⟩, hb1⟩)
  have hr1 := hr.then_ hb1
  by_cases hbig : 1048576 < tot rs
  · have hneg := hv1 hbig
    clear hv1 hv2 hr1
    go_wp2_with fail
    go_ret
    exact ⟨rfl, hb1⟩
  have hsm : tot rs ≤ 1048576 := by omega
  have hpos := hv2 hsm
  clear hv1 hv2
  have hz1 := hb1.size
  have ra1 := hr.below hb1
  go_wp2_with fail
  ((with_reducible refine (toCellSS_any _ _ _ rs _ hsm ?_).mono ?_); (exact hr1); rintro e w2 ⟨rfl, ⟨G2, hp2⟩, hb2⟩)
  have hz2 := hb2.size
  have hB2 := below_then (Nat.le_refl _) hb1 hb2
  have ra2 := hr.below hB2
  go_wp2_with fail
  ((with_reducible refine ((columnWidths_S _ _ _ _ rs _ hm ?_).mono fun _ _ h => out_of HY.out HM.out h).mono ?_); (exact hp2.tab); rintro e w3 ⟨Aw, dw, rfl, w0, hb3⟩)
  have hz3 := hb3.size
  have hB3 := below_then (Nat.le_refl _) hB2 hb3
  have ra3 := hr.below hB3
  have blk_w0 := w0.blk
  go_wp2_with fail
  ((with_reducible refine (toCellSS_any _ _ _ rs _ hsm ?_).mono ?_); (exact ra3.more hB3.size); rintro e w4 ⟨rfl, ⟨G4, x4⟩, hb4⟩)
  have hz4 := hb4.size
  have hB4 := below_then (Nat.le_refl _) hB3 hb4
  have w0_4 := w0.then_ hb4
  have hG4 : ∀ i, i < n → G4 i < w4.heap.size := fun i hi => ((x4.2.2.1 i hi).2.block (G4 i) rfl).2
  go_wp2_with fail
  ((with_reducible refine ((columnWidths_i _ _ _ _ rs _ hm ?_).mono fun _ _ h => out_of HY.out HM.out h).mono ?_); (exact x4.tab); rintro e w5 ⟨Ag, dg, rfl, g0, hb5⟩)
  have hz5 := hb5.size
  have hB5 := below_then (Nat.le_refl _) hB4 hb5
  have w0_5 := w0_4.then_ hb5
  have x5 := x4.then_ hb5
  have blk_g0 := g0.blk
  go_wp2_with fail
  ((with_reducible refine (eqIntS_same _ _ _ _ _ ys _ hmy ?_ ?_).mono ?_); (exact g0.row); (exact w0_5.row); rintro e w6 ⟨rfl, hb6⟩)
  have hz6 := hb6.size
  have hB6 := below_then (Nat.le_refl _) hB5 hb6
  have ra6 := hr.below hB6
  have w0_6 := w0_5.then_ hb6
  have g0_6 := g0.then_ hb6
  have x6 := x5.then_ hb6
  go_wp2_with fail
  ((with_reducible refine (toCellSS_any _ _ _ rs _ hsm ?_).mono ?_); (exact ra6.more hB6.size); rintro e w7 ⟨rfl, ⟨G7, t7⟩, hb7⟩)
  have hz7 := hb7.size
  have hB7 := below_then (Nat.le_refl _) hB6 hb7
  have w0_7 := w0_6.then_ hb7
  have g0_7 := g0_6.then_ hb7
  have x7 := x6.then_ hb7
  go_wp2_with fail
  ((with_reducible refine (eqCellSS_same _ _ _ _ _ rs _ hm ?_ ?_).mono ?_); (exact x7.tab); (exact t7.tab); rintro e w8 ⟨rfl, hb8⟩)
  have hz8 := hb8.size
  have hB8 := below_then (Nat.le_refl _) hB7 hb8
  have w0_8 := w0_7.then_ hb8
  have g0_8 := g0_7.then_ hb8
  have x8 := x7.then_ hb8
  go_wp2_with fail
  ((with_reducible refine (markCellSS_any _ _ _ w4.heap.size _ rs _ hsm x8 (by omega) hG4).mono ?_); rintro e w9 ⟨⟨k, rfl, hk0⟩, hl9, ho9⟩)
  have hz9 := hl9.size
  have hB9 := hB8.trans (hl9.mono hB3.size)
  have w0_9 := own_same w0_8 (w' := w9) (fun x hx => hl9.block _ (blk_w0 x hx).2)
  have g0_9 := own_same g0_8 (w' := w9) (fun x hx => ho9 _ (blk_g0 x hx).1 (by have := (blk_g0 x hx).2; omega))
  have hkf : ¬ k < 0 := by omega
  go_wp2_with fail
  ((with_reducible refine (eqIntS_same _ _ _ _ _ ys _ hmy ?_ ?_).mono ?_); (exact g0_9.row); (exact w0_9.row); rintro e w10 ⟨rfl, hb10⟩)
  have hz10 := hb10.size
  have hB10 := below_then (Nat.le_refl _) hB9 hb10
  have w0_10 := w0_9.then_ hb10
  have g0_10 := g0_9.then_ hb10
  go_wp2_with fail
  ((with_reducible refine (markIntS_any _ _ _ _ _ _ (by omega) g0_10).mono ?_); rintro e w11 ⟨rfl, g0_11, hg11⟩)
  have hz11 := hg11.size
  have hB11 := hB10.grown hg11 hB10.size (fun k hk => by have := (g0_10.block k hk).1; omega)
  have w0_11 := w0_10.apart hg11 (fun x hx y hy => by have h1 := blk_w0 x hx; have h2 := blk_g0 y hy; omega)
  have ra11 := hr.below hB11
  go_wp2_with fail
  ((with_reducible refine (heldIntS_any _ _ _ _ (by omega) ?_).mono ?_); (exact g0_11.row); rintro e w12 ⟨rfl, hb12⟩)
  have hz12 := hb12.size
  have hB12 := below_then (Nat.le_refl _) hB11 hb12
  have ra12 := hr.below hB12
  have w0_12 := w0_11.then_ hb12
  have g0_12 := g0_11.then_ hb12
  go_wp2_with fail
  ((with_reducible refine (toCellSS_any _ _ _ rs _ hsm ?_).mono ?_); (exact ra12.more hB12.size); rintro e w13 ⟨rfl, ⟨G13, u13⟩, hb13⟩)
  have hz13 := hb13.size
  have hB13 := below_then (Nat.le_refl _) hB12 hb13
  have w0_13 := w0_12.then_ hb13
  have g0_13 := g0_12.then_ hb13
  go_wp2_with fail
  ((with_reducible refine ((columnWidths_i _ _ _ _ rs _ hm ?_).mono fun _ _ h => out_of HY.out HM.out h).mono ?_); (exact u13.tab); rintro e w14 ⟨Ah, dh, rfl, h14, hb14⟩)
  have hz14 := hb14.size
  have hB14 := below_then (Nat.le_refl _) hB13 hb14
  have w0_14 := w0_13.then_ hb14
  have g0_14 := g0_13.then_ hb14
  go_wp2_with fail
  ((with_reducible refine (eqIntS_same _ _ _ _ _ ys _ hmy ?_ ?_).mono ?_); (exact h14.row); (exact w0_14.row); rintro e w15 ⟨rfl, hb15⟩)
  have hz15 := hb15.size
  have hB15 := below_then (Nat.le_refl _) hB14 hb15
  have g0_15 := g0_14.then_ hb15
  go_wp2_with fail
  ((with_reducible refine (heldIntS_any _ _ _ _ (by omega) ?_).mono ?_); (exact g0_15.row); rintro e w16 ⟨rfl, hb16⟩)
  have hB16 := below_then (Nat.le_refl _) hB15 hb16
  go_wp2_with fail
  go_returns
  exact ⟨rfl, hB16⟩
end Go.Proofs.Ytbkhimdebpllcaa
