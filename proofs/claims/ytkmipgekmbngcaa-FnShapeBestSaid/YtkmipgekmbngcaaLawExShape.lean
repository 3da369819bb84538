/- The exact law on ShapeBreaks answers true. Conditions: the slices read as lists. -/
import Derived.Test.YtkmipgekmbngcaaShapeBreaksS
import Derived.Test.YtkmipgekmbngcaaShapeBreaksI
import Derived.Test.YtkmipgekmbngcaaItemSS
import Derived.Test.YtkmipgekmbngcaaMSb10
namespace Go.Proofs.Ytkmipgekmbngcaa
open Go.RowKit

theorem shV_len60 (xs : List It) (sh : List Int) (tol : Int) : (shV xs sh tol).1.length ≤ 60 := by
  rcases hv : (itemsOk xs && shapeOk sh && inR tol 0 10000) with _ | _
  · rw [shV_no hv]; exact Nat.zero_le _
  · have h1 := shV_len (xs := xs) (sh := sh) (tol := tol)
    simp only [Bool.and_eq_true] at hv
    have h2 := (itemsOk_len hv.1.1 rfl).2
    omega
def SO (w : World) (ys : List Int) (m : Nat) (v : Int) (ok : Bool) (e : Ending) (w' : World) : Prop := ∃ (A : Option Addr) (d : Nat), e = .returned (.tuple #[.slice A m d, .int .i64 v, .bool ok]) ∧ OwnI w' w.heap.size A m d ys ∧ Below w.heap.size w w'
theorem sh_form {w : World} {ys : List Int} {m : Nat} {v : Int} {ok : Bool} {r : List Int × Int × Bool} (hr : r = (ys, v, ok)) (hm : ys.length = m) {e : Ending} {w' : World} (h : PathOut w r e w') : SO w ys m v ok e w' := by
  subst hr
  obtain ⟨A, d, h1, h2, h3⟩ := h
  simp only [hm] at h1 h2
  exact ⟨A, d, h1, h2, h3⟩

set_option maxHeartbeats 4000000 in
theorem law_ExactShapeBreaks (A0 : Option Addr) (n0 cap0 : Nat) (xs0 : List It) (A1 : Option Addr) (n1 cap1 : Nat) (xs1 : List Int) (a2 : Int) (w : World) (hn0 : xs0.length = n0) (hm0 : n0 ≤ maxLen) (hr0 : Row w w.heap.size 6 A0 n0 (itc xs0)) (hn1 : xs1.length = n1) (hm1 : n1 ≤ maxLen) (hr1 : Row w w.heap.size 1 A1 n1 (inc xs1)) :
    Calls Try.prog 9 #[.slice A0 n0 cap0, .slice A1 n1 cap1, .int .i64 a2] w fun e w' => e = .returned (.bool true) ∧ Below w.heap.size w w' := by
  have hq0 := hm0
  unfold maxLen at hq0
  have hq1 := hm1
  unfold maxLen at hq1
  by_cases hbig1 : 1048576 < n1
  · clear hn0 hn1
    go_enter Try.func9, Try.ntmps9
    go_wp2_with fail
    go_returns
    exact ⟨rfl, Below.refl _ _⟩
  by_cases hbig0 : 1048576 < n0
  · clear hn0 hn1
    go_enter Try.func9, Try.ntmps9
    go_wp2_with (go_at_call 24; refine (szItemS_big _ _ _ _ hm0 hbig0).mono ?_; rintro e w' ⟨rfl, rfl⟩)
    go_returns
    exact ⟨rfl, Below.refl _ _⟩
  have hsm0 : n0 ≤ 1048576 := by omega
  have HN0 := Lib.hid hn0; clear hn0 hbig0
  have hsm1 : n1 ≤ 1048576 := by omega
  have HN1 := Lib.hid hn1; clear hn1 hbig1
  have hB0 : Below w.heap.size w w := Below.refl _ _
  have ra0_0 := hr0; clear hr0
  have ra1_0 := hr1; clear hr1
  obtain ⟨⟨ys, v, ok⟩, hy⟩ : ∃ r, shV xs0 xs1 a2 = r := ⟨_, rfl⟩
  obtain ⟨m, hm⟩ : ∃ m, ys.length = m := ⟨_, rfl⟩
  have hmb : m ≤ 60 := by
    have h1 := shV_len (xs := xs0) (sh := xs1) (tol := a2)
    have h2 := shV_len60 xs0 xs1 a2
    rw [hy] at h2
    simp only at h2
    omega
  have hmy : m ≤ maxLen := by unfold maxLen; omega
  have HY := Lib.hid hy
  have HM := Lib.hid hm
  clear hy hm
  go_enter Try.func9, Try.ntmps9
  go_wp2_with fail
  ((with_reducible refine (szItemS_ok _ _ _ _ hsm0).mono ?_); rintro e w' ⟨rfl, rfl⟩)
  go_wp2_with fail
  ((with_reducible refine (toItemS_any _ _ _ xs0 _ HN0.out hsm0 ?_).mono ?_); (exact (ra0_0.more hB0.size)); rintro e w1 ⟨rfl, p0, hb1⟩)
  have hz1 := hb1.size
  have hB1 := below_then (Nat.le_refl _) hB0 hb1
  have ra0_1 := ra0_0.below (hb1.mono hB0.size); clear ra0_0
  have ra1_1 := ra1_0.below (hb1.mono hB0.size); clear ra1_0
  have p0_1 := p0; clear p0
  have blk_p0 := p0_1.blk
  go_wp2_with fail
  ((with_reducible refine (toIntS_any _ _ _ xs1 _ HN1.out hsm1 ?_).mono ?_); (exact (ra1_1.more hB1.size)); rintro e w2 ⟨rfl, p1, hb2⟩)
  have hz2 := hb2.size
  have hB2 := below_then (Nat.le_refl _) hB1 hb2
  have ra0_2 := ra0_1.below (hb2.mono hB1.size); clear ra0_1
  have ra1_2 := ra1_1.below (hb2.mono hB1.size); clear ra1_1
  have p0_2 := p0_1.then_ hb2; clear p0_1
  have p1_2 := p1; clear p1
  have blk_p1 := p1_2.blk
  go_wp2_with fail
  ((with_reducible refine ((shapeBreaks_S _ _ _ _ _ _ _ xs0 xs1 _ HN0.out hm0 ?_ HN1.out hm1 ?_).mono fun _ _ h => sh_form HY.out HM.out h).mono ?_); (exact p0_2.row); (exact p1_2.row); rintro e w3 ⟨Aw, dw, rfl, w0, hb3⟩)
  have hz3 := hb3.size
  have hB3 := below_then (Nat.le_refl _) hB2 hb3
  have ra0_3 := ra0_2.below (hb3.mono hB2.size); clear ra0_2
  have ra1_3 := ra1_2.below (hb3.mono hB2.size); clear ra1_2
  have p0_3 := p0_2.then_ hb3; clear p0_2
  have p1_3 := p1_2.then_ hb3; clear p1_2
  have w0_3 := w0; clear w0
  have blk_w0 := w0_3.blk
  clear p0_3
  clear p1_3
  go_wp2_with fail
  ((with_reducible refine (toItemS_any _ _ _ xs0 _ HN0.out hsm0 ?_).mono ?_); (exact (ra0_3.more hB3.size)); rintro e w4 ⟨rfl, x0, hb4⟩)
  have hz4 := hb4.size
  have hB4 := below_then (Nat.le_refl _) hB3 hb4
  have ra0_4 := ra0_3.below (hb4.mono hB3.size); clear ra0_3
  have ra1_4 := ra1_3.below (hb4.mono hB3.size); clear ra1_3
  have w0_4 := w0_3.then_ hb4; clear w0_3
  have x0_4 := x0; clear x0
  have blk_x0 := x0_4.blk
  go_wp2_with fail
  ((with_reducible refine (toIntS_any _ _ _ xs1 _ HN1.out hsm1 ?_).mono ?_); (exact (ra1_4.more hB4.size)); rintro e w5 ⟨rfl, x1, hb5⟩)
  have hz5 := hb5.size
  have hB5 := below_then (Nat.le_refl _) hB4 hb5
  have ra0_5 := ra0_4.below (hb5.mono hB4.size); clear ra0_4
  have ra1_5 := ra1_4.below (hb5.mono hB4.size); clear ra1_4
  have w0_5 := w0_4.then_ hb5; clear w0_4
  have x0_5 := x0_4.then_ hb5; clear x0_4
  have x1_5 := x1; clear x1
  have blk_x1 := x1_5.blk
  go_wp2_with fail
  ((with_reducible refine ((shapeBreaks_i _ _ _ _ _ _ _ xs0 xs1 _ HN0.out hm0 ⟨Nat.le_refl _, hm0⟩ ?_ HN1.out hm1 ?_).mono fun _ _ h => sh_form HY.out HM.out h).mono ?_); (exact x0_5.row); (exact x1_5.row); rintro e w6 ⟨Ag, dg, rfl, g0, hb6⟩)
  have hz6 := hb6.size
  have hB6 := below_then (Nat.le_refl _) hB5 hb6
  have ra0_6 := ra0_5.below (hb6.mono hB5.size); clear ra0_5
  have ra1_6 := ra1_5.below (hb6.mono hB5.size); clear ra1_5
  have w0_6 := w0_5.then_ hb6; clear w0_5
  have x0_6 := x0_5.then_ hb6; clear x0_5
  have x1_6 := x1_5.then_ hb6; clear x1_5
  have g0_6 := g0; clear g0
  have blk_g0 := g0_6.blk
  go_wp2_with fail
  ((with_reducible refine (eqIntS_same _ _ _ _ _ ys _ hmy ?_ ?_).mono ?_); (exact g0_6.row); (exact w0_6.row); rintro e w7 ⟨rfl, hb7⟩)
  have hz7 := hb7.size
  have hB7 := below_then (Nat.le_refl _) hB6 hb7
  have ra0_7 := ra0_6.below (hb7.mono hB6.size); clear ra0_6
  have ra1_7 := ra1_6.below (hb7.mono hB6.size); clear ra1_6
  have w0_7 := w0_6.then_ hb7; clear w0_6
  have x0_7 := x0_6.then_ hb7; clear x0_6
  have x1_7 := x1_6.then_ hb7; clear x1_6
  have g0_7 := g0_6.then_ hb7; clear g0_6
  go_wp2_with fail
  ((with_reducible refine (toItemS_any _ _ _ xs0 _ HN0.out hsm0 ?_).mono ?_); (exact (ra0_7.more hB7.size)); rintro e w8 ⟨rfl, t0, hb8⟩)
  have hz8 := hb8.size
  have hB8 := below_then (Nat.le_refl _) hB7 hb8
  have ra0_8 := ra0_7.below (hb8.mono hB7.size); clear ra0_7
  have ra1_8 := ra1_7.below (hb8.mono hB7.size); clear ra1_7
  have w0_8 := w0_7.then_ hb8; clear w0_7
  have x0_8 := x0_7.then_ hb8; clear x0_7
  have x1_8 := x1_7.then_ hb8; clear x1_7
  have g0_8 := g0_7.then_ hb8; clear g0_7
  have t0_8 := t0; clear t0
  have blk_t0 := t0_8.blk
  go_wp2_with fail
  ((with_reducible refine (eqItemS_same _ _ _ _ _ xs0 _ hm0 ?_ ?_).mono ?_); (exact x0_8.row); (exact t0_8.row); rintro e w9 ⟨rfl, hb9⟩)
  have hz9 := hb9.size
  have hB9 := below_then (Nat.le_refl _) hB8 hb9
  have ra0_9 := ra0_8.below (hb9.mono hB8.size); clear ra0_8
  have ra1_9 := ra1_8.below (hb9.mono hB8.size); clear ra1_8
  have w0_9 := w0_8.then_ hb9; clear w0_8
  have x0_9 := x0_8.then_ hb9; clear x0_8
  have x1_9 := x1_8.then_ hb9; clear x1_8
  have g0_9 := g0_8.then_ hb9; clear g0_8
  have t0_9 := t0_8.then_ hb9; clear t0_8
  clear t0_9
  go_wp2_with fail
  ((with_reducible refine (toIntS_any _ _ _ xs1 _ HN1.out hsm1 ?_).mono ?_); (exact (ra1_9.more hB9.size)); rintro e w10 ⟨rfl, t1, hb10⟩)
  have hz10 := hb10.size
  have hB10 := below_then (Nat.le_refl _) hB9 hb10
  have ra0_10 := ra0_9.below (hb10.mono hB9.size); clear ra0_9
  have ra1_10 := ra1_9.below (hb10.mono hB9.size); clear ra1_9
  have w0_10 := w0_9.then_ hb10; clear w0_9
  have x0_10 := x0_9.then_ hb10; clear x0_9
  have x1_10 := x1_9.then_ hb10; clear x1_9
  have g0_10 := g0_9.then_ hb10; clear g0_9
  have t1_10 := t1; clear t1
  have blk_t1 := t1_10.blk
  go_wp2_with fail
  ((with_reducible refine (eqIntS_same _ _ _ _ _ xs1 _ hm1 ?_ ?_).mono ?_); (exact x1_10.row); (exact t1_10.row); rintro e w11 ⟨rfl, hb11⟩)
  have hz11 := hb11.size
  have hB11 := below_then (Nat.le_refl _) hB10 hb11
  have ra0_11 := ra0_10.below (hb11.mono hB10.size); clear ra0_10
  have ra1_11 := ra1_10.below (hb11.mono hB10.size); clear ra1_10
  have w0_11 := w0_10.then_ hb11; clear w0_10
  have x0_11 := x0_10.then_ hb11; clear x0_10
  have x1_11 := x1_10.then_ hb11; clear x1_10
  have g0_11 := g0_10.then_ hb11; clear g0_10
  have t1_11 := t1_10.then_ hb11; clear t1_10
  clear t1_11
  go_wp2_with fail
  ((with_reducible refine (markItemS_any _ _ _ _ _ _ (by omega) x0_11).mono ?_); rintro e w12 ⟨rfl, mk12, hg12⟩)
  have hz12 := hg12.size
  have hB12 := hB11.grown hg12 hB11.size (fun k hk => by have := (x0_11.block k hk).1; omega)
  have ra0_12 := ra0_11.grown hg12 hB11.size (fun k hk => by have := (x0_11.block k hk).1; omega); clear ra0_11
  have ra1_12 := ra1_11.grown hg12 hB11.size (fun k hk => by have := (x0_11.block k hk).1; omega); clear ra1_11
  have w0_12 := w0_11.apart hg12 (fun x hx y hy => by have h1 := blk_w0 x hx; have h2 := blk_x0 y hy; omega); clear w0_11
  have x1_12 := x1_11.apart hg12 (fun x hx y hy => by have h1 := blk_x1 x hx; have h2 := blk_x0 y hy; omega); clear x1_11
  have g0_12 := g0_11.apart hg12 (fun x hx y hy => by have h1 := blk_g0 x hx; have h2 := blk_x0 y hy; omega); clear g0_11
  have x0_12 := mk12; clear mk12 x0_11
  go_wp2_with fail
  ((with_reducible refine (markIntS_k _ _ _ _ _ _ _ (by omega) (by omega) (by omega) x1_12).mono ?_); rintro e w13 ⟨rfl, mk13, hg13⟩)
  have hz13 := hg13.size
  have hB13 := hB12.grown hg13 hB12.size (fun k hk => by have := (x1_12.block k hk).1; omega)
  have ra0_13 := ra0_12.grown hg13 hB12.size (fun k hk => by have := (x1_12.block k hk).1; omega); clear ra0_12
  have ra1_13 := ra1_12.grown hg13 hB12.size (fun k hk => by have := (x1_12.block k hk).1; omega); clear ra1_12
  have w0_13 := w0_12.apart hg13 (fun x hx y hy => by have h1 := blk_w0 x hx; have h2 := blk_x1 y hy; omega); clear w0_12
  have x0_13 := x0_12.apart hg13 (fun x hx y hy => by have h1 := blk_x0 x hx; have h2 := blk_x1 y hy; omega); clear x0_12
  have g0_13 := g0_12.apart hg13 (fun x hx y hy => by have h1 := blk_g0 x hx; have h2 := blk_x1 y hy; omega); clear g0_12
  have x1_13 := mk13; clear mk13 x1_12
  go_wp2_with fail
  ((with_reducible refine (eqIntS_same _ _ _ _ _ ys _ hmy ?_ ?_).mono ?_); (exact g0_13.row); (exact w0_13.row); rintro e w14 ⟨rfl, hb14⟩)
  have hz14 := hb14.size
  have hB14 := below_then (Nat.le_refl _) hB13 hb14
  have ra0_14 := ra0_13.below (hb14.mono hB13.size); clear ra0_13
  have ra1_14 := ra1_13.below (hb14.mono hB13.size); clear ra1_13
  have w0_14 := w0_13.then_ hb14; clear w0_13
  have x0_14 := x0_13.then_ hb14; clear x0_13
  have x1_14 := x1_13.then_ hb14; clear x1_13
  have g0_14 := g0_13.then_ hb14; clear g0_13
  go_wp2_with fail
  ((with_reducible refine (markIntS_any _ _ _ _ _ _ (by omega) g0_14).mono ?_); rintro e w15 ⟨rfl, mk15, hg15⟩)
  have hz15 := hg15.size
  have hB15 := hB14.grown hg15 hB14.size (fun k hk => by have := (g0_14.block k hk).1; omega)
  have ra0_15 := ra0_14.grown hg15 hB14.size (fun k hk => by have := (g0_14.block k hk).1; omega); clear ra0_14
  have ra1_15 := ra1_14.grown hg15 hB14.size (fun k hk => by have := (g0_14.block k hk).1; omega); clear ra1_14
  have w0_15 := w0_14.apart hg15 (fun x hx y hy => by have h1 := blk_w0 x hx; have h2 := blk_g0 y hy; omega); clear w0_14
  have x0_15 := x0_14.apart hg15 (fun x hx y hy => by have h1 := blk_x0 x hx; have h2 := blk_g0 y hy; omega); clear x0_14
  have x1_15 := x1_14.apart hg15 (fun x hx y hy => by have h1 := blk_x1 x hx; have h2 := blk_g0 y hy; omega); clear x1_14
  have g0_15 := mk15; clear mk15 g0_14
  go_wp2_with fail
  ((with_reducible refine (heldIntS_any _ _ _ _ (by omega) ?_).mono ?_); (exact g0_15.row); rintro e w16 ⟨rfl, hb16⟩)
  have hz16 := hb16.size
  have hB16 := below_then (Nat.le_refl _) hB15 hb16
  have ra0_16 := ra0_15.below (hb16.mono hB15.size); clear ra0_15
  have ra1_16 := ra1_15.below (hb16.mono hB15.size); clear ra1_15
  have w0_16 := w0_15.then_ hb16; clear w0_15
  have x0_16 := x0_15.then_ hb16; clear x0_15
  have x1_16 := x1_15.then_ hb16; clear x1_15
  have g0_16 := g0_15.then_ hb16; clear g0_15
  go_wp2_with fail
  ((with_reducible refine (toItemS_any _ _ _ xs0 _ HN0.out hsm0 ?_).mono ?_); (exact (ra0_16.more hB16.size)); rintro e w17 ⟨rfl, u0, hb17⟩)
  have hz17 := hb17.size
  have hB17 := below_then (Nat.le_refl _) hB16 hb17
  have ra0_17 := ra0_16.below (hb17.mono hB16.size); clear ra0_16
  have ra1_17 := ra1_16.below (hb17.mono hB16.size); clear ra1_16
  have w0_17 := w0_16.then_ hb17; clear w0_16
  have x0_17 := x0_16.then_ hb17; clear x0_16
  have x1_17 := x1_16.then_ hb17; clear x1_16
  have g0_17 := g0_16.then_ hb17; clear g0_16
  have u0_17 := u0; clear u0
  have blk_u0 := u0_17.blk
  go_wp2_with fail
  ((with_reducible refine (toIntS_any _ _ _ xs1 _ HN1.out hsm1 ?_).mono ?_); (exact (ra1_17.more hB17.size)); rintro e w18 ⟨rfl, u1, hb18⟩)
  have hz18 := hb18.size
  have hB18 := below_then (Nat.le_refl _) hB17 hb18
  have ra0_18 := ra0_17.below (hb18.mono hB17.size); clear ra0_17
  have ra1_18 := ra1_17.below (hb18.mono hB17.size); clear ra1_17
  have w0_18 := w0_17.then_ hb18; clear w0_17
  have x0_18 := x0_17.then_ hb18; clear x0_17
  have x1_18 := x1_17.then_ hb18; clear x1_17
  have g0_18 := g0_17.then_ hb18; clear g0_17
  have u0_18 := u0_17.then_ hb18; clear u0_17
  have u1_18 := u1; clear u1
  have blk_u1 := u1_18.blk
  go_wp2_with fail
  ((with_reducible refine ((shapeBreaks_i _ _ _ _ _ _ _ xs0 xs1 _ HN0.out hm0 ⟨Nat.le_refl _, hm0⟩ ?_ HN1.out hm1 ?_).mono fun _ _ h => sh_form HY.out HM.out h).mono ?_); (exact u0_18.row); (exact u1_18.row); rintro e w19 ⟨Ah, dh, rfl, h0, hb19⟩)
  have hz19 := hb19.size
  have hB19 := below_then (Nat.le_refl _) hB18 hb19
  have ra0_19 := ra0_18.below (hb19.mono hB18.size); clear ra0_18
  have ra1_19 := ra1_18.below (hb19.mono hB18.size); clear ra1_18
  have w0_19 := w0_18.then_ hb19; clear w0_18
  have x0_19 := x0_18.then_ hb19; clear x0_18
  have x1_19 := x1_18.then_ hb19; clear x1_18
  have g0_19 := g0_18.then_ hb19; clear g0_18
  have u0_19 := u0_18.then_ hb19; clear u0_18
  have u1_19 := u1_18.then_ hb19; clear u1_18
  have h0_19 := h0; clear h0
  have blk_h0 := h0_19.blk
  go_wp2_with fail
  ((with_reducible refine (eqIntS_same _ _ _ _ _ ys _ hmy ?_ ?_).mono ?_); (exact h0_19.row); (exact w0_19.row); rintro e w20 ⟨rfl, hb20⟩)
  have hz20 := hb20.size
  have hB20 := below_then (Nat.le_refl _) hB19 hb20
  have ra0_20 := ra0_19.below (hb20.mono hB19.size); clear ra0_19
  have ra1_20 := ra1_19.below (hb20.mono hB19.size); clear ra1_19
  have w0_20 := w0_19.then_ hb20; clear w0_19
  have x0_20 := x0_19.then_ hb20; clear x0_19
  have x1_20 := x1_19.then_ hb20; clear x1_19
  have g0_20 := g0_19.then_ hb20; clear g0_19
  have u0_20 := u0_19.then_ hb20; clear u0_19
  have u1_20 := u1_19.then_ hb20; clear u1_19
  have h0_20 := h0_19.then_ hb20; clear h0_19
  go_wp2_with fail
  ((with_reducible refine (heldIntS_any _ _ _ _ (by omega) ?_).mono ?_); (exact g0_20.row); rintro e w21 ⟨rfl, hb21⟩)
  have hz21 := hb21.size
  have hB21 := below_then (Nat.le_refl _) hB20 hb21
  have ra0_21 := ra0_20.below (hb21.mono hB20.size); clear ra0_20
  have ra1_21 := ra1_20.below (hb21.mono hB20.size); clear ra1_20
  have w0_21 := w0_20.then_ hb21; clear w0_20
  have x0_21 := x0_20.then_ hb21; clear x0_20
  have x1_21 := x1_20.then_ hb21; clear x1_20
  have g0_21 := g0_20.then_ hb21; clear g0_20
  have u0_21 := u0_20.then_ hb21; clear u0_20
  have u1_21 := u1_20.then_ hb21; clear u1_20
  have h0_21 := h0_20.then_ hb21; clear h0_20
  go_wp2_with fail
  go_returns
  exact ⟨rfl, hB21⟩
end Go.Proofs.Ytkmipgekmbngcaa
