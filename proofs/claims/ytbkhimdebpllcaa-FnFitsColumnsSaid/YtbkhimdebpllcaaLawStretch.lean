/- The exact law on StretchColumns answers true. Conditions: the slices read as lists. -/
import Derived.Test.YtbkhimdebpllcaaStretch
import Derived.Test.YtbkhimdebpllcaaHeld
namespace Go.Proofs.Ytbkhimdebpllcaa
open Go.RowKit

theorem strV_len (xs : List Int) (t : Int) : (strV xs t).length ≤ 8 := by
  rcases hv : strOk xs t with _ | _
  · rw [str_no hv]; simp
  · rw [str_yes hv, strL_len]
    simp only [strOk, Bool.and_eq_true] at hv
    exact (cols_len hv.1).2
def OwnOut (w : World) (ys : List Int) (m : Nat) (e : Ending) (w' : World) : Prop := ∃ (A : Option Addr) (d : Nat), e = .returned (.slice A m d) ∧ OwnI w' w.heap.size A m d ys ∧ Below w.heap.size w w'
theorem out_of {w : World} {ys : List Int} {m : Nat} {r : List Int} (hr : r = ys) (hm : ys.length = m) {e : Ending} {w' : World} (h : IntsOut w r e w') : OwnOut w ys m e w' := by
  subst hr
  obtain ⟨A, d, h1, h2, h3⟩ := h
  rw [hm] at h1 h2
  exact ⟨A, d, h1, h2, h3⟩

set_option maxHeartbeats 4000000 in
theorem law_ExactStretchColumns (A0 : Option Addr) (n0 cap0 : Nat) (xs0 : List Int) (a1 : Int) (w : World) (hn0 : xs0.length = n0) (hm0 : n0 ≤ maxLen) (hr0 : Row w w.heap.size 1 A0 n0 (inc xs0)) :
    Calls Try.prog 3 #[.slice A0 n0 cap0, .int .i64 a1] w fun e w' => e = .returned (.bool true) ∧ Below w.heap.size w w' := by
  have hq0 := hm0
  unfold maxLen at hq0
  by_cases hbig0 : 1048576 < n0
  · clear hn0
    go_enter Try.func3, Try.ntmps3
    go_wp2_with fail
    go_returns
    exact ⟨rfl, Below.refl _ _⟩
  have hsm0 : n0 ≤ 1048576 := by omega
  have HN0 := Lib.hid hn0; clear hn0 hbig0
  have hB0 : Below w.heap.size w w := Below.refl _ _
  have ra0_0 := hr0; clear hr0
  obtain ⟨ys, hy⟩ : ∃ r, strV xs0 a1 = r := ⟨_, rfl⟩
  obtain ⟨m, hm⟩ : ∃ m, ys.length = m := ⟨_, rfl⟩
  have hmb : m ≤ 8 := by have := strV_len xs0 a1; rw [hy] at this; omega
  have hmy : m ≤ maxLen := by unfold maxLen; omega
  have HY := Lib.hid hy
  have HM := Lib.hid hm
  clear hy hm
  go_enter Try.func3, Try.ntmps3
  go_wp2_with fail
  ((with_reducible refine (toIntS_any _ _ _ xs0 _ HN0.out hsm0 ?_).mono ?_); (exact (ra0_0.more hB0.size)); rintro e w1 ⟨rfl, p0, hb1⟩)
  have hz1 := hb1.size
  have hB1 := below_then (Nat.le_refl _) hB0 hb1
  have ra0_1 := ra0_0.below (hb1.mono hB0.size); clear ra0_0
  have p0_1 := p0; clear p0
  have blk_p0 := p0_1.blk
  go_wp2_with fail
  ((with_reducible refine ((stretch_s _ _ _ _ xs0 _ HN0.out hm0 ?_).mono fun _ _ h => out_of HY.out HM.out h).mono ?_); (exact p0_1.row); rintro e w2 ⟨Aw, dw, rfl, w0, hb2⟩)
  have hz2 := hb2.size
  have hB2 := below_then (Nat.le_refl _) hB1 hb2
  have ra0_2 := ra0_1.below (hb2.mono hB1.size); clear ra0_1
  have p0_2 := p0_1.then_ hb2; clear p0_1
  have w0_2 := w0; clear w0
  have blk_w0 := w0_2.blk
  clear p0_2
  go_wp2_with fail
  ((with_reducible refine (toIntS_any _ _ _ xs0 _ HN0.out hsm0 ?_).mono ?_); (exact (ra0_2.more hB2.size)); rintro e w3 ⟨rfl, x0, hb3⟩)
  have hz3 := hb3.size
  have hB3 := below_then (Nat.le_refl _) hB2 hb3
  have ra0_3 := ra0_2.below (hb3.mono hB2.size); clear ra0_2
  have w0_3 := w0_2.then_ hb3; clear w0_2
  have x0_3 := x0; clear x0
  have blk_x0 := x0_3.blk
  go_wp2_with fail
  ((with_reducible refine ((stretch_i _ _ _ _ xs0 _ HN0.out hm0 ?_).mono fun _ _ h => out_of HY.out HM.out h).mono ?_); (exact x0_3.row); rintro e w4 ⟨Ag, dg, rfl, g0, hb4⟩)
  have hz4 := hb4.size
  have hB4 := below_then (Nat.le_refl _) hB3 hb4
  have ra0_4 := ra0_3.below (hb4.mono hB3.size); clear ra0_3
  have w0_4 := w0_3.then_ hb4; clear w0_3
  have x0_4 := x0_3.then_ hb4; clear x0_3
  have g0_4 := g0; clear g0
  have blk_g0 := g0_4.blk
  go_wp2_with fail
  ((with_reducible refine (eqIntS_same _ _ _ _ _ ys _ hmy ?_ ?_).mono ?_); (exact g0_4.row); (exact w0_4.row); rintro e w5 ⟨rfl, hb5⟩)
  have hz5 := hb5.size
  have hB5 := below_then (Nat.le_refl _) hB4 hb5
  have ra0_5 := ra0_4.below (hb5.mono hB4.size); clear ra0_4
  have w0_5 := w0_4.then_ hb5; clear w0_4
  have x0_5 := x0_4.then_ hb5; clear x0_4
  have g0_5 := g0_4.then_ hb5; clear g0_4
  go_wp2_with fail
  ((with_reducible refine (toIntS_any _ _ _ xs0 _ HN0.out hsm0 ?_).mono ?_); (exact (ra0_5.more hB5.size)); rintro e w6 ⟨rfl, t0, hb6⟩)
  have hz6 := hb6.size
  have hB6 := below_then (Nat.le_refl _) hB5 hb6
  have ra0_6 := ra0_5.below (hb6.mono hB5.size); clear ra0_5
  have w0_6 := w0_5.then_ hb6; clear w0_5
  have x0_6 := x0_5.then_ hb6; clear x0_5
  have g0_6 := g0_5.then_ hb6; clear g0_5
  have t0_6 := t0; clear t0
  have blk_t0 := t0_6.blk
  go_wp2_with fail
  ((with_reducible refine (eqIntS_same _ _ _ _ _ xs0 _ hm0 ?_ ?_).mono ?_); (exact x0_6.row); (exact t0_6.row); rintro e w7 ⟨rfl, hb7⟩)
  have hz7 := hb7.size
  have hB7 := below_then (Nat.le_refl _) hB6 hb7
  have ra0_7 := ra0_6.below (hb7.mono hB6.size); clear ra0_6
  have w0_7 := w0_6.then_ hb7; clear w0_6
  have x0_7 := x0_6.then_ hb7; clear x0_6
  have g0_7 := g0_6.then_ hb7; clear g0_6
  have t0_7 := t0_6.then_ hb7; clear t0_6
  clear t0_7
  go_wp2_with fail
  ((with_reducible refine (markIntS_any _ _ _ _ _ _ (by omega) x0_7).mono ?_); rintro e w8 ⟨rfl, mk8, hg8⟩)
  have hz8 := hg8.size
  have hB8 := hB7.grown hg8 hB7.size (fun k hk => by have := (x0_7.block k hk).1; omega)
  have ra0_8 := ra0_7.grown hg8 hB7.size (fun k hk => by have := (x0_7.block k hk).1; omega); clear ra0_7
  have w0_8 := w0_7.apart hg8 (fun x hx y hy => by have h1 := blk_w0 x hx; have h2 := blk_x0 y hy; omega); clear w0_7
  have g0_8 := g0_7.apart hg8 (fun x hx y hy => by have h1 := blk_g0 x hx; have h2 := blk_x0 y hy; omega); clear g0_7
  have x0_8 := mk8; clear mk8 x0_7
  go_wp2_with fail
  ((with_reducible refine (eqIntS_same _ _ _ _ _ ys _ hmy ?_ ?_).mono ?_); (exact g0_8.row); (exact w0_8.row); rintro e w9 ⟨rfl, hb9⟩)
  have hz9 := hb9.size
  have hB9 := below_then (Nat.le_refl _) hB8 hb9
  have ra0_9 := ra0_8.below (hb9.mono hB8.size); clear ra0_8
  have w0_9 := w0_8.then_ hb9; clear w0_8
  have x0_9 := x0_8.then_ hb9; clear x0_8
  have g0_9 := g0_8.then_ hb9; clear g0_8
  go_wp2_with fail
  ((with_reducible refine (markIntS_any _ _ _ _ _ _ (by omega) g0_9).mono ?_); rintro e w10 ⟨rfl, mk10, hg10⟩)
  have hz10 := hg10.size
  have hB10 := hB9.grown hg10 hB9.size (fun k hk => by have := (g0_9.block k hk).1; omega)
  have ra0_10 := ra0_9.grown hg10 hB9.size (fun k hk => by have := (g0_9.block k hk).1; omega); clear ra0_9
  have w0_10 := w0_9.apart hg10 (fun x hx y hy => by have h1 := blk_w0 x hx; have h2 := blk_g0 y hy; omega); clear w0_9
  have x0_10 := x0_9.apart hg10 (fun x hx y hy => by have h1 := blk_x0 x hx; have h2 := blk_g0 y hy; omega); clear x0_9
  have g0_10 := mk10; clear mk10 g0_9
  go_wp2_with fail
  ((with_reducible refine (heldIntS_any _ _ _ _ (by omega) ?_).mono ?_); (exact g0_10.row); rintro e w11 ⟨rfl, hb11⟩)
  have hz11 := hb11.size
  have hB11 := below_then (Nat.le_refl _) hB10 hb11
  have ra0_11 := ra0_10.below (hb11.mono hB10.size); clear ra0_10
  have w0_11 := w0_10.then_ hb11; clear w0_10
  have x0_11 := x0_10.then_ hb11; clear x0_10
  have g0_11 := g0_10.then_ hb11; clear g0_10
  go_wp2_with fail
  ((with_reducible refine (toIntS_any _ _ _ xs0 _ HN0.out hsm0 ?_).mono ?_); (exact (ra0_11.more hB11.size)); rintro e w12 ⟨rfl, u0, hb12⟩)
  have hz12 := hb12.size
  have hB12 := below_then (Nat.le_refl _) hB11 hb12
  have ra0_12 := ra0_11.below (hb12.mono hB11.size); clear ra0_11
  have w0_12 := w0_11.then_ hb12; clear w0_11
  have x0_12 := x0_11.then_ hb12; clear x0_11
  have g0_12 := g0_11.then_ hb12; clear g0_11
  have u0_12 := u0; clear u0
  have blk_u0 := u0_12.blk
  go_wp2_with fail
  ((with_reducible refine ((stretch_i _ _ _ _ xs0 _ HN0.out hm0 ?_).mono fun _ _ h => out_of HY.out HM.out h).mono ?_); (exact u0_12.row); rintro e w13 ⟨Ah, dh, rfl, h0, hb13⟩)
  have hz13 := hb13.size
  have hB13 := below_then (Nat.le_refl _) hB12 hb13
  have ra0_13 := ra0_12.below (hb13.mono hB12.size); clear ra0_12
  have w0_13 := w0_12.then_ hb13; clear w0_12
  have x0_13 := x0_12.then_ hb13; clear x0_12
  have g0_13 := g0_12.then_ hb13; clear g0_12
  have u0_13 := u0_12.then_ hb13; clear u0_12
  have h0_13 := h0; clear h0
  have blk_h0 := h0_13.blk
  go_wp2_with fail
  ((with_reducible refine (eqIntS_same _ _ _ _ _ ys _ hmy ?_ ?_).mono ?_); (exact h0_13.row); (exact w0_13.row); rintro e w14 ⟨rfl, hb14⟩)
  have hz14 := hb14.size
  have hB14 := below_then (Nat.le_refl _) hB13 hb14
  have ra0_14 := ra0_13.below (hb14.mono hB13.size); clear ra0_13
  have w0_14 := w0_13.then_ hb14; clear w0_13
  have x0_14 := x0_13.then_ hb14; clear x0_13
  have g0_14 := g0_13.then_ hb14; clear g0_13
  have u0_14 := u0_13.then_ hb14; clear u0_13
  have h0_14 := h0_13.then_ hb14; clear h0_13
  go_wp2_with fail
  ((with_reducible refine (heldIntS_any _ _ _ _ (by omega) ?_).mono ?_); (exact g0_14.row); rintro e w15 ⟨rfl, hb15⟩)
  have hz15 := hb15.size
  have hB15 := below_then (Nat.le_refl _) hB14 hb15
  have ra0_15 := ra0_14.below (hb15.mono hB14.size); clear ra0_14
  have w0_15 := w0_14.then_ hb15; clear w0_14
  have x0_15 := x0_14.then_ hb15; clear x0_14
  have g0_15 := g0_14.then_ hb15; clear g0_14
  have u0_15 := u0_14.then_ hb15; clear u0_14
  have h0_15 := h0_14.then_ hb15; clear h0_14
  go_wp2_with fail
  go_returns
  exact ⟨rfl, hB15⟩
end Go.Proofs.Ytbkhimdebpllcaa
