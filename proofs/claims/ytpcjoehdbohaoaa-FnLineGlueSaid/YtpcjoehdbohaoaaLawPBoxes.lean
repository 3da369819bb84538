/- The laws on drawn lines and their boxes answer true: FnLineGlue, FnBoxesOf. Conditions: the code is a slice of bytes. -/
import Derived.Test.YtpcjoehdbohaoaaSomeLine
import Derived.Test.YtpcjoehdbohaoaaSetLaws
import Derived.Test.YtpcjoehdbohaoaaBoxesOf
import Derived.Test.YtpcjoehdbohaoaaEq
import Derived.Test.YtpcjoehdbohaoaaIsIn
namespace Go.Proofs.Ytpcjoehdbohaoaa
open Go.RowKit

/-- What a call leaves that draws items and two numbers, out of a code. -/
def LineOut (w : World) (e : Ending) (w' : World) : Prop :=
  ∃ (g n c : Nat) (xs : List It) (f t : Int), e = .returned (.tuple #[.slice (some ⟨g, 0, none⟩) n c, .int .i64 f, .int .i64 t]) ∧ xs.length = n ∧ n ≤ 23 ∧ (n ≤ c ∧ c ≤ maxLen) ∧ Row w' w'.heap.size 6 (some ⟨g, 0, none⟩) n (itc xs) ∧ Below w.heap.size w w'
set_option maxHeartbeats 1000000 in
theorem DrawLineGlue_any (A : Option Addr) (n cap : Nat) (cs : List Int) (w : World) (hc : Code w A n cap cs) :
    Calls Try.prog 20 #[.slice A n cap] w (LineOut w) := by
  obtain ⟨h1, h2, h3, h4, h5⟩ := hc
  have HH := Lib.hid h4; clear h4
  go_enter Try.func20, Try.ntmps20
  go_wp2_with fail
  ((with_reducible refine (newReader_any _ _ _ cs _ h1 h2 h3 HH.out h5).mono ?_); rintro e w1 ⟨rfl, hr1, hb1⟩)
  have hs1 := hb1.size
  go_wp2_with fail
  ((with_reducible refine (someLine_any _ _ _ hr1 (by omega)).mono ?_); rintro e w2 ⟨g, m, c, xs, p', f, t, rfl, hx, hm, hcp, hrow, _, hp, hr2, ho2⟩)
  have HX := Lib.hid hx; clear hx
  have hb2 : Below w.heap.size w w2 := hb1.trans (below_of_only ho2 (Nat.le_refl _) hs1)
  go_wp2_with fail
  (first | go_returns | (refine bodyPost_ret (by simp [results, Try.results20, go_sem, *]; try rfl) rfl ?_))
  exact ⟨g, m, c, xs, f, t, rfl, HX.out, hm, hcp, hrow, hb2⟩
set_option maxHeartbeats 1000000 in
theorem DrawBoxesOf_any (A : Option Addr) (n cap : Nat) (cs : List Int) (w : World) (hc : Code w A n cap cs) :
    Calls Try.prog 23 #[.slice A n cap] w (LineOut w) := by
  obtain ⟨h1, h2, h3, h4, h5⟩ := hc
  have HH := Lib.hid h4; clear h4
  go_enter Try.func23, Try.ntmps23
  go_wp2_with fail
  ((with_reducible refine (newReader_any _ _ _ cs _ h1 h2 h3 HH.out h5).mono ?_); rintro e w1 ⟨rfl, hr1, hb1⟩)
  have hs1 := hb1.size
  go_wp2_with fail
  ((with_reducible refine (someLine_any _ _ _ hr1 (by omega)).mono ?_); rintro e w2 ⟨g, m, c, xs, p', f, t, rfl, hx, hm, hcp, hrow, _, hp, hr2, ho2⟩)
  have HX := Lib.hid hx; clear hx
  have hb2 : Below w.heap.size w w2 := hb1.trans (below_of_only ho2 (Nat.le_refl _) hs1)
  go_wp2_with fail
  (first | go_returns | (refine bodyPost_ret (by simp [results, Try.results23, go_sem, *]; try rfl) rfl ?_))
  exact ⟨g, m, c, xs, f, t, rfl, HX.out, hm, hcp, hrow, hb2⟩

set_option maxRecDepth 100000 in
set_option maxHeartbeats 4000000 in
theorem law_BoxesOf (A : Option Addr) (n cap : Nat) (cs : List Int) (w : World) (hc : Code w A n cap cs) :
    Calls Try.prog 5 #[.slice A n cap] w fun e w' => e = .returned (.bool true) ∧ Below w.heap.size w w' := by
  have hn := hc.1
  unfold maxLen at hn
  by_cases hbig : 1048576 < n
  · go_enter Try.func5, Try.ntmps5
    go_wp2
    go_returns
    exact ⟨rfl, Below.refl _ _⟩
  go_enter Try.func5, Try.ntmps5
  go_wp2_with fail
  ((with_reducible refine (DrawBoxesOf_any _ _ _ cs _ hc).mono ?_); rintro e w1 ⟨g, m, c, xs, f, t, rfl, hx, hm, hcp, hr1, hb1⟩)
  have HX := Lib.hid hx; clear hx
  have hmx : m ≤ maxLen := by unfold maxLen; omega
  have hz1 := hb1.size
  obtain ⟨ys, hys⟩ : ∃ ys, boxesV xs f t = ys := ⟨_, rfl⟩
  obtain ⟨q, hq⟩ : ∃ q, ys.length = q := ⟨_, rfl⟩
  have hqb : q ≤ 60 := by
    rcases hv : lineV xs f t with _ | _
    · rw [bv_no hv] at hys; subst hys; simp at hq; omega
    · have hv' := hv
      simp only [lineV, Bool.and_eq_true] at hv'
      obtain ⟨a, u, hf, rfl, _, hu, _⟩ := ln_iff rfl hv'.2
      rw [bv_yes hv hf] at hys
      have h1 := boxesP_len xs a u
      rw [hys] at h1
      have := HX.out
      omega
  have hqm : q ≤ maxLen := by unfold maxLen; omega
  have HY := Lib.hid hys
  have HQ := Lib.hid hq
  have HCP := Lib.hid hcp
  clear hys hq hcp
  go_wp2_with fail
  ((with_reducible refine (boxes_i _ _ _ f t xs _ HX.out hmx HCP.out ?_).mono ?_); (exact hr1); rintro e w2 ⟨B, d, rfl, hob, hb2⟩)
  rw [HY.out, HQ.out] at hob ⊢
  have hr2 := hr1.then_ hb2
  have hB2 := below_then (Nat.le_refl _) hb1 hb2
  go_wp2_with fail
  ((with_reducible refine (glue_i _ _ _ f t xs _ HX.out hmx HCP.out ?_).mono ?_); (exact hr2); rintro e w3 ⟨rfl, hb3⟩)
  have hr3 := (hr2.then_ hb3).alloc' (.cells #[.int .i64 (gv xs f t lgW), .int .i64 (gv xs f t lgS), .int .i64 (gv xs f t lgH)] 37)
  have hB3 := below_then (Nat.le_refl _) hB2 hb3
  have hob3 := (hob.then_ hb3).alloc (.cells #[.int .i64 (gv xs f t lgW), .int .i64 (gv xs f t lgS), .int .i64 (gv xs f t lgH)] 37)
  have hB3a := hB3.alloc hB3.size (.cells #[.int .i64 (gv xs f t lgW), .int .i64 (gv xs f t lgS), .int .i64 (gv xs f t lgH)] 37)
  clear hr1 hr2 hob
  obtain ⟨V, hV⟩ : ∃ V, lineV xs f t = V := ⟨_, rfl⟩
  rw [hV]
  have HV := Lib.hid hV
  clear hV
  go_wp2_with fail
  ((with_reducible refine (boxes_s _ _ _ f t xs _ HX.out hmx ?_).mono ?_); (exact hr3); rintro e w4 ⟨B4, d4, rfl, hob4, hb4⟩)
  rw [HY.out, HQ.out] at hob4 ⊢
  have hB4 := below_then (Nat.le_refl _) hB3a hb4
  have hr4 := hr3.then_ hb4
  have hoI4 : OwnI w4 w1.heap.size B q d ys := OwnI.then_ hob3 hb4
  clear hr3 hob3
  go_wp2_with fail
  ((with_reducible refine (equalInts_same _ _ _ _ _ ys _ hqm ?_ ?_).mono ?_); (exact hoI4.row); (exact hob4.row); rintro e w5 ⟨rfl, hb5⟩)
  have hB5 := below_then (Nat.le_refl _) hB4 hb5
  have hr5 := hr4.then_ hb5
  have hoI5 := hoI4.then_ hb5
  clear hr4 hoI4 hob4
  rcases V with _ | _
  · go_wp2_with fail
    ((with_reducible refine (boxes_s _ _ _ f t xs _ HX.out hmx ?_).mono ?_); (exact hr5); rintro e w6 ⟨B6, d6, rfl, hob6, hb6⟩)
    rw [HY.out, HQ.out] at hob6 ⊢
    have hB6 := below_then (Nat.le_refl _) hB5 hb6
    have hoI6 := hoI5.then_ hb6
    go_wp2_with fail
    ((with_reducible refine (equalInts_same _ _ _ _ _ ys _ hqm ?_ ?_).mono ?_); (exact hoI6.row); (exact hob6.row); rintro e w7 ⟨rfl, hb7⟩)
    go_wp2_with fail
    go_returns
    exact ⟨rfl, below_then (Nat.le_refl _) hB6 hb7⟩
  have hv := HV.out
  have hv' := hv
  simp only [lineV, Bool.and_eq_true] at hv'
  obtain ⟨a, u, hf, rfl, hau, hum, _⟩ := ln_iff HX.out hv'.2
  have hys : boxesP xs a u = ys := by rw [← bv_yes hv hf]; exact HY.out
  have HYP := Lib.hid hys
  have hf1 : f + 1 = (a : Int) := by omega
  have HRow := Lib.hid hoI5.row
  have hr0 := Lib.hid hr5
  clear hv hv' hf hys hr5 hoI5 HY HV
  go_wp2_with fail
  go_loopg [9] (u - a) (fun k i wr => ∃ j : Nat, a ≤ j ∧ j ≤ u ∧ k = u - j ∧ i = .int .i64 (j : Int) ∧ Below w5.heap.size w5 wr)
  case atStart => exact ⟨a, Nat.le_refl _, hau, rfl, rfl, Below.refl _ _⟩
  case round =>
    obtain ⟨j, hj0, hj, hk, rfl, hbel⟩ := hrel
    have HK := Lib.hid hk; clear hk
    have hsz := hbel.size
    clear hf1
    by_cases hlt : j < u
    · obtain ⟨b, off, hbo, hb, hc'⟩ := hr0.out (by omega)
      have c0 : wr.cell? ⟨b, off + j * 6, none⟩ = _ := (hbel.cell (p := ⟨b, off + j * 6, none⟩) hb).trans (hc' j 0 (by omega) (by omega))
      injection hbo with hbo
      injection hbo with q1 q2
      subst q1 q2
      obtain ⟨x, hx⟩ : ∃ x, xs.getD j default = x := ⟨_, rfl⟩
      simp only [itc, itv, hx, Nat.zero_add] at c0
      have hhas : has ys (j : Int) = (x.k == 1) := by rw [← HYP.out, boxesP_has hj0 hlt, kd, hx]
      have HH := Lib.hid hhas
      clear hhas hx hc'
      have hltu : (j : Int) < (u : Int) := by omega
      have hltm : (j : Int) < (m : Int) := by omega
      have hbw : g < wr.heap.size := by omega
      rcases h1 : (x.k == 1) with _ | _
      all_goals
        rw [h1] at HH
        go_wp2_with fail
        go_region_held3 (fun w' => w'.cell? ⟨g, j * 6, none⟩ = some (.int .i64 x.k) ∧ Below wr.heap.size wr w')
          ((refine (fun hB : Below wr.heap.size wr _ => ⟨(hB.cell (p := ⟨g, j * 6, none⟩) hbw).trans c0, hB⟩) ?_; first | exact (Below.refl _ _).drew | exact And.right (by assumption) | exact below_then (Nat.le_refl _) (And.right (by assumption)) (by assumption)))
          (first | (go_at_call 25; refine (isIn_any _ _ _ _ ys _ HQ.out hqm ((HRow.out.then_ hbel).then_ (by first | exact And.right (by assumption) | exact (Below.refl _ _).drew))).mono ?_; rintro e w' ⟨rfl, hb⟩; rw [HH.out]))
        all_goals
          go_wp2_with fail
          go_roundg (u - (j + 1))
          case measure => have := HK.out; omega
          case rel => exact ⟨j + 1, by omega, by omega, rfl, by go_num, by (repeat' (first | (with_reducible exact Below.refl _ _) | (with_reducible assumption) | (with_reducible refine Below.alloc ?_ ?_ _) | (with_reducible refine Below.drew ?_) | (with_reducible refine below_drewN ?_ _) | (with_reducible refine Below.setCell ?_ ?_ _) | (with_reducible refine below_then ?_ ?_ (by with_reducible assumption)) | (with_reducible exact Nat.le_refl _) | go_size | (simp only [*]; done)))⟩
    · go_wp2_with fail
      go_returns
      exact ⟨rfl, below_then (Nat.le_refl _) hB5 hbel⟩
set_option maxRecDepth 100000 in
set_option maxHeartbeats 4000000 in
theorem law_LineGlue (A : Option Addr) (n cap : Nat) (cs : List Int) (w : World) (hc : Code w A n cap cs) :
    Calls Try.prog 4 #[.slice A n cap] w fun e w' => e = .returned (.bool true) ∧ Below w.heap.size w w' := by
  have hn := hc.1
  unfold maxLen at hn
  by_cases hbig : 1048576 < n
  · go_enter Try.func4, Try.ntmps4
    go_wp2
    go_returns
    exact ⟨rfl, Below.refl _ _⟩
  go_enter Try.func4, Try.ntmps4
  go_wp2_with fail
  ((with_reducible refine (DrawLineGlue_any _ _ _ cs _ hc).mono ?_); rintro e w1 ⟨g, m, c, xs, f, t, rfl, hx, hm, hcp, hr1, hb1⟩)
  have HX := Lib.hid hx; clear hx
  have hmx : m ≤ maxLen := by unfold maxLen; omega
  have hz1 := hb1.size
  have HCP := Lib.hid hcp
  obtain ⟨gW, hgW⟩ : ∃ gW, gv xs f t lgW = gW := ⟨_, rfl⟩
  obtain ⟨gS, hgS⟩ : ∃ gS, gv xs f t lgS = gS := ⟨_, rfl⟩
  obtain ⟨gH, hgH⟩ : ∃ gH, gv xs f t lgH = gH := ⟨_, rfl⟩
  obtain ⟨V, hV⟩ : ∃ V, lineV xs f t = V := ⟨_, rfl⟩
  have HGW := Lib.hid hgW
  have HGS := Lib.hid hgS
  have HGH := Lib.hid hgH
  have HV := Lib.hid hV
  clear hcp hgW hgS hgH hV
  go_wp2_with fail
  ((with_reducible refine (glue_i _ _ _ f t xs _ HX.out hmx HCP.out ?_).mono ?_); (exact hr1); rintro e w2 ⟨rfl, hb2⟩)
  rw [HGW.out, HGS.out, HGH.out, HV.out]
  have hB2 := below_then (Nat.le_refl _) hb1 hb2
  have hr2 := (hr1.then_ hb2).alloc' (.cells #[.int .i64 gW, .int .i64 gS, .int .i64 gH] 37)
  have hB2a := hB2.alloc hB2.size (.cells #[.int .i64 gW, .int .i64 gS, .int .i64 gH] 37)
  go_wp2_with fail
  ((with_reducible refine (glue_s _ _ _ f t xs _ HX.out hmx ?_).mono ?_); (exact hr2); rintro e w3 ⟨rfl, hb3⟩)
  rw [HGW.out, HGS.out, HGH.out, HV.out]
  have hz3 := hb3.size
  simp only [World.size_alloc] at hz3
  have hB3 := below_then (Nat.le_refl _) hB2a hb3
  have k1 := ((Blk.new w2 37 #[.int .i64 gW, .int .i64 gS, .int .i64 gH]).then_ hb3).alloc (.cells #[.int .i64 gW, .int .i64 gS, .int .i64 gH] 37)
  have K1 := Lib.hid k1
  have hr3 := (hr2.then_ hb3).alloc' (.cells #[.int .i64 gW, .int .i64 gS, .int .i64 gH] 37)
  have HR3 := Lib.hid hr3
  have hB3a := hB3.alloc hB3.size (.cells #[.int .i64 gW, .int .i64 gS, .int .i64 gH] 37)
  have j1 := (Blk.new w2 37 #[.int .i64 gW, .int .i64 gS, .int .i64 gH]).then_ hb3
  have ylt := j1.lt
  have yc0 := j1.cell 0; have yf0 := j1.frozen 0
  have yc1 := j1.cell 1; have yf1 := j1.frozen 1
  have yc2 := j1.cell 2; have yf2 := j1.frozen 2
  simp only [List.getElem?_toArray, List.getElem?_cons_zero, List.getElem?_cons_succ] at yc0 yc1 yc2
  clear hr1 hr2 hr3 k1 j1
  rcases V with _ | _
  · go_wp2_with fail
    go_returns
    exact ⟨rfl, hB3a⟩
  have hv := HV.out
  have hv' := hv
  simp only [lineV, Bool.and_eq_true] at hv'
  obtain ⟨hok, hl⟩ := hv'
  obtain ⟨a, u, hf, rfl, hau, hum, _⟩ := ln_iff HX.out hl
  obtain ⟨ys, hys⟩ : ∃ ys, boxesV xs f (u : Int) = ys := ⟨_, rfl⟩
  obtain ⟨q, hq⟩ : ∃ q, ys.length = q := ⟨_, rfl⟩
  have hyp : boxesP xs a u = ys := by rw [← bv_yes hv hf]; exact hys
  have hqb : q ≤ 60 := by
    have h1 := boxesP_len xs a u
    rw [hyp, hq] at h1
    omega
  have hsum := wsum_lg hok HX.out hum hau
  have hlb := lg_b (a := a) hok HX.out hum
  rw [← gv_yes hv hf lgW, ← gv_yes hv hf lgS, ← gv_yes hv hf lgH, HGW.out, HGS.out, HGH.out] at hlb
  rw [hyp, ← gv_yes hv hf lgW, HGW.out] at hsum
  obtain ⟨⟨W0, W1⟩, ⟨S0, S1⟩, H0, H1⟩ := hlb
  have HSUM := Lib.hid hsum
  have HYP := Lib.hid hyp
  have HY := Lib.hid hys
  have HQ := Lib.hid hq
  have HOK := Lib.hid hok
  have hf1 : f = (a : Int) - 1 := hf
  clear hv hl hsum hyp hys hq hok hf HV
  go_wp2_with fail
  ((with_reducible refine (boxes_i _ _ _ _ (u : Int) xs _ HX.out hmx HCP.out ?_).mono ?_); (exact HR3.out); rintro e w4 ⟨B, d, rfl, hob, hb4⟩)
  have hob' := hob
  rw [show boxesV xs ((a : Int) - 1) (u : Int) = ys by rw [← hf1]; exact HY.out] at hob' ⊢
  rw [HQ.out] at hob' ⊢
  have HOB := Lib.hid hob'
  have hB4 := below_then (Nat.le_refl _) hB3a hb4
  have hr4 := Lib.hid (HR3.out.then_ hb4)
  have K4 := Lib.hid (K1.out.then_ hb4)
  clear hob hob' ylt yc0 yc1 yc2 yf0 yf1 yf2
  go_wp2_with fail
  go_loopg [11, 12] q (fun k s i wr => ∃ (j : Nat) (sm : Int), j ≤ q ∧ k = q - j ∧ i = .int .i64 (j : Int) ∧ s = .int .i64 sm ∧ Hid (wsum xs (ys.take j) = sm) ∧ (0 ≤ sm ∧ sm ≤ 1000 * (j : Int)) ∧ Below w4.heap.size w4 wr)
  case atStart => exact ⟨0, 0, Nat.zero_le _, rfl, rfl, rfl, rfl, ⟨by omega, by omega⟩, Below.refl _ _⟩
  case round =>
    obtain ⟨j, sm, hj, hk, rfl, rfl, hsm, ⟨sm0, sm1⟩, hbel⟩ := hrel
    have HK := Lib.hid hk; clear hk
    have hsz := hbel.size
    by_cases hlt : j < q
    · obtain ⟨bB, oB, rfl, hbB, hcB⟩ := HOB.out.row.at1 (by omega)
      have d0 : wr.cell? ⟨bB, oB + j, none⟩ = _ := (hbel.cell (p := ⟨bB, oB + j, none⟩) hbB).trans (hcB j hlt)
      obtain ⟨y, hy⟩ : ∃ y, ys.getD j default = y := ⟨_, rfl⟩
      have hmem : y ∈ boxesP xs a u := by rw [HYP.out]; exact mem_of_getD HQ.out hlt hy
      obtain ⟨i, rfl, hi0, hi1, hik⟩ := boxesP_mem hmem
      simp only [inc, hy] at d0
      obtain ⟨b, off, hbo, hb, hc'⟩ := hr4.out (by omega)
      have c1 : wr.cell? ⟨b, off + i * 6 + 1, none⟩ = _ := (hbel.cell (p := ⟨b, off + i * 6 + 1, none⟩) hb).trans (hc' i 1 (by omega) (by omega))
      injection hbo with hbo
      injection hbo with q1 q2
      subst q1 q2
      obtain ⟨x, hx⟩ : ∃ x, xs.getD i default = x := ⟨_, rfl⟩
      simp only [itc, itv, hx, Nat.zero_add] at c1
      obtain ⟨⟨x0, x1⟩, _⟩ := itemOk_b (itemsOk_at HOK.out HX.out (by omega) hx)
      have hnew : wsum xs (ys.take (j + 1)) = sm + x.w := by rw [tk_snoc' HQ.out hlt hy, wsum_snoc, hsm.out, show ((i : Int)).toNat = i by omega, hx]
      have HNW := Lib.hid hnew
      have hjq : (j : Int) < (q : Int) := by omega
      have him : (i : Int) < (m : Int) := by omega
      have g1 : (a : Int) ≤ (i : Int) := by omega
      have g2 : (i : Int) < (u : Int) := by omega
      have g3 : (a : Int) - 1 < (i : Int) := by omega
      clear hnew hx hc' hcB hy hmem hik
      go_wp2_with fail
      go_roundg (q - (j + 1))
      case measure => have := HK.out; omega
      case rel => exact ⟨j + 1, sm + x.w, by omega, rfl, by go_num, rfl, HNW.out, ⟨by omega, by omega⟩, by (repeat' (first | (with_reducible exact Below.refl _ _) | (with_reducible assumption) | (with_reducible refine Below.alloc ?_ ?_ _) | (with_reducible refine Below.drew ?_) | (with_reducible refine below_drewN ?_ _) | (with_reducible refine Below.setCell ?_ ?_ _) | (with_reducible refine below_then ?_ ?_ (by with_reducible assumption)) | (with_reducible exact Nat.le_refl _) | go_size | (simp only [*]; done)))⟩
    · have k4 := K4.out.then_ hbel
      have ylt := k4.lt
      have yc0 := k4.cell 0; have yf0 := k4.frozen 0
      have yc1 := k4.cell 1; have yf1 := k4.frozen 1
      have yc2 := k4.cell 2; have yf2 := k4.frozen 2
      simp only [List.getElem?_toArray, List.getElem?_cons_zero, List.getElem?_cons_succ] at yc0 yc1 yc2
      have hfin : sm ≤ gW := by
        have := hsm.out
        rw [List.take_of_length_le (by rw [HQ.out]; omega)] at this
        rw [← this]
        exact HSUM.out
      clear k4
      go_wp2_with fail
      go_returns
      exact ⟨rfl, below_then (Nat.le_refl _) hB4 hbel⟩
end Go.Proofs.Ytpcjoehdbohaoaa
