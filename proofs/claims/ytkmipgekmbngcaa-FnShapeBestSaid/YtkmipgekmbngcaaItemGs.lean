/- The glue of a line, of the reference, is what the plain functions say. Conditions: the slice reads as the list; the items are valid; the line lies in them. -/
import Derived.Test.YtkmipgekmbngcaaItemLs
import Derived.Test.YtkmipgekmbngcaaQuietTail
namespace Go.Proofs.Ytkmipgekmbngcaa
open Go.RowKit

theorem addGlue_s (a b c d e f : Int) (w : World) (h1 : (0 ≤ a ∧ a ≤ 100000) ∧ (0 ≤ b ∧ b ≤ 100000) ∧ (0 ≤ c ∧ c ≤ 100000)) (h2 : (0 ≤ d ∧ d ≤ 100000) ∧ (0 ≤ e ∧ e ≤ 100000) ∧ (0 ≤ f ∧ f ≤ 100000)) :
    Calls Try.prog 94 #[.agg #[.int .i64 a, .int .i64 b, .int .i64 c], .agg #[.int .i64 d, .int .i64 e, .int .i64 f]] w fun o w' => o = .returned (.agg #[.int .i64 (a + d), .int .i64 (b + e), .int .i64 (c + f)]) ∧ Below w.heap.size w w' := by
  obtain ⟨⟨a1, a2⟩, ⟨b1, b2⟩, c1, c2⟩ := h1
  obtain ⟨⟨d1, d2⟩, ⟨e1, e2⟩, f1, f2⟩ := h2
  go_enter Try.func94, Try.ntmps94
  go_wp2
  (first | go_returns | (refine bodyPost_ret (by simp [results, Try.results94, go_sem, *]; try rfl) rfl ?_))
  exact ⟨rfl, by (repeat' (first | (with_reducible exact Below.refl _ _) | (with_reducible assumption) | (with_reducible refine Below.alloc ?_ ?_ _) | (with_reducible refine Below.drew ?_) | (with_reducible refine below_drewN ?_ _) | (with_reducible refine Below.setCell ?_ ?_ _) | (with_reducible refine below_then ?_ ?_ (by with_reducible assumption)) | (with_reducible exact Nat.le_refl _) | go_size | (simp only [*]; done)))⟩

set_option maxRecDepth 100000 in
set_option maxHeartbeats 4000000 in
theorem lineGlue_s (A : Option Addr) (n cap a t : Nat) (f : Int) (xs : List It) (w : World) (hok : itemsOk xs = true) (hn : xs.length = n) (hf : f + 1 = (a : Int)) (ha : a ≤ t) (ht : t < n) (hF : noF xs a t = true) (hr : Row w w.heap.size 6 A n (itc xs)) :
    Calls Try.prog 85 #[.slice A n cap, .int .i64 f, .int .i64 (t : Int)] w fun e w' => e = .returned (.agg #[.int .i64 (lgW xs a t), .int .i64 (lgS xs a t), .int .i64 (lgH xs a t)]) ∧ Below w.heap.size w w' := by
  have hm := (itemsOk_len hok hn).2
  have HN := Lib.hid hn
  have HOK := Lib.hid hok
  have HF := Lib.hid hf
  have HNF := Lib.hid hF
  have HR := Lib.hid hr
  clear hok hF
  obtain ⟨b, off, rfl, hbw, hcw⟩ := hr (by omega)
  have HC := Lib.hid hcw
  clear hcw hr
  go_enter Try.func85, Try.ntmps85
  go_wp2_with fail
  ((with_reducible refine (lineStart_s _ _ _ a t f xs _ HN.out hm HF.out ha ht HNF.out ?_).mono ?_); (exact (HR.out.alloc' _).alloc' _); rintro e w1 ⟨⟨s, rfl, s0, s1, hs⟩, hb1⟩)
  have HS := Lib.hid hs
  clear hs
  have hz1 := hb1.size
  simp only [World.size_alloc] at hz1
  have g0 := Lib.hid (((Blk.new w 76 #[.int .i64 0, .int .i64 0, .int .i64 0]).alloc (.cells #[.int .i64 0, .int .i64 0, .int .i64 0] 76)).then_ hb1)
  have g1 := Lib.hid ((Blk.new_at (w.alloc (.cells #[.int .i64 0, .int .i64 0, .int .i64 0] 76)) 76 #[.int .i64 0, .int .i64 0, .int .i64 0] (w.heap.size + 1) (by simp)).then_ hb1)
  have hB1 : Below w.heap.size w w1 := below_then (Nat.le_refl _) (by (repeat' (first | (with_reducible exact Below.refl _ _) | (with_reducible assumption) | (with_reducible refine Below.alloc ?_ ?_ _) | (with_reducible refine Below.drew ?_) | (with_reducible refine below_drewN ?_ _) | (with_reducible refine Below.setCell ?_ ?_ _) | (with_reducible refine below_then ?_ ?_ (by with_reducible assumption)) | (with_reducible exact Nat.le_refl _) | go_size | (simp only [*]; done)))) hb1
  go_wp2_with fail
  go_loopg [8] (t - s) (fun k i wr => ∃ (j : Nat) (p q r : Int), s ≤ j ∧ (j ≤ t ∨ j = s) ∧ k = t - j ∧ i = .int .i64 (j : Int) ∧ Hid (sW (sg xs s j) = p) ∧ Hid (sS (sg xs s j) = q) ∧ Hid (sH (sg xs s j) = r) ∧ Hid (Blk wr w.heap.size 76 #[.int .i64 0, .int .i64 0, .int .i64 0]) ∧ Hid (Blk wr (w.heap.size + 1) 76 #[.int .i64 p, .int .i64 q, .int .i64 r]) ∧ Below w.heap.size w wr)
  case atStart => exact ⟨s, 0, 0, 0, Nat.le_refl _, .inr rfl, rfl, rfl, by rw [Hid, sg_none _ (Nat.le_refl _)]; rfl, by rw [Hid, sg_none _ (Nat.le_refl _)]; rfl, by rw [Hid, sg_none _ (Nat.le_refl _)]; rfl, g0.out, g1.out, hB1⟩
  case round =>
    obtain ⟨j, p, q, r, hsj, hj, hk, rfl, hp, hq, hr', hb0, hb1', hbel⟩ := hrel
    have HK := Lib.hid hk; clear hk
    have hsz := hbel.size
    obtain ⟨⟨p1, p2⟩, ⟨q1, q2⟩, r1, r2⟩ := sg_b HOK.out HN.out (show j ≤ n by omega) hp.out hq.out hr'.out
    have zlt := hb0.out.lt
    have zc0 := hb0.out.cell 0; have zf0 := hb0.out.frozen 0
    have zc1 := hb0.out.cell 1; have zf1 := hb0.out.frozen 1
    have zc2 := hb0.out.cell 2; have zf2 := hb0.out.frozen 2
    simp only [List.getElem?_toArray, List.getElem?_cons_zero, List.getElem?_cons_succ] at zc0 zc1 zc2
    have olt := hb1'.out.lt
    have oc0 := hb1'.out.cell 0; have of0 := hb1'.out.frozen 0
    have oc1 := hb1'.out.cell 1; have of1 := hb1'.out.frozen 1
    have oc2 := hb1'.out.cell 2; have of2 := hb1'.out.frozen 2
    simp only [List.getElem?_toArray, List.getElem?_cons_zero, List.getElem?_cons_succ] at oc0 oc1 oc2
    by_cases hlt : j < t
    · have c0 : wr.cell? ⟨b, off + j * 6, none⟩ = _ := (hbel.cell (p := ⟨b, off + j * 6, none⟩) hbw).trans (HC.out j 0 (by omega) (by omega))
      have c1 : wr.cell? ⟨b, off + j * 6 + 1, none⟩ = _ := (hbel.cell (p := ⟨b, off + j * 6 + 1, none⟩) hbw).trans (HC.out j 1 (by omega) (by omega))
      have c2 : wr.cell? ⟨b, off + j * 6 + 2, none⟩ = _ := (hbel.cell (p := ⟨b, off + j * 6 + 2, none⟩) hbw).trans (HC.out j 2 (by omega) (by omega))
      have c3 : wr.cell? ⟨b, off + j * 6 + 3, none⟩ = _ := (hbel.cell (p := ⟨b, off + j * 6 + 3, none⟩) hbw).trans (HC.out j 3 (by omega) (by omega))
      obtain ⟨x, hx⟩ : ∃ x, xs.getD j default = x := ⟨_, rfl⟩
      simp only [itc, itv, hx] at c0 c1 c2 c3
      obtain ⟨⟨x1, x2⟩, ⟨x3, x4⟩, ⟨x5, x6⟩, _⟩ := itemOk_b (itemsOk_at HOK.out HN.out (show j < n by omega) hx)
      have Hx := Lib.hid hx; clear hx
      have hlt' : (j : Int) < (t : Int) := by omega
      have hltn : (j : Int) < (n : Int) := by omega
      have hbz : b < wr.heap.size := by omega
      rcases h3 : (x.k == 3) with _ | _
      · have h3' : ¬ x.k = 3 := by simpa using h3
        have H3 := Lib.hid h3'
        clear h3'
        go_wp2_with fail
        obtain ⟨C, hC⟩ : ∃ C : World → Prop, ∀ w', C w' ↔ (w'.cell? ⟨w.heap.size + 1, 0, none⟩ = some (.int .i64 p) ∧ w'.cell? ⟨w.heap.size + 1, 1, none⟩ = some (.int .i64 q) ∧ w'.cell? ⟨w.heap.size + 1, 2, none⟩ = some (.int .i64 r) ∧ w'.cell? ⟨b, off + j * 6 + 1, none⟩ = some (.int .i64 x.w) ∧ w'.cell? ⟨b, off + j * 6 + 2, none⟩ = some (.int .i64 x.st) ∧ w'.cell? ⟨b, off + j * 6 + 3, none⟩ = some (.int .i64 x.sh) ∧ Hid (Blk w' w.heap.size 76 #[.int .i64 0, .int .i64 0, .int .i64 0]) ∧ Hid (Blk w' (w.heap.size + 1) 76 #[.int .i64 p, .int .i64 q, .int .i64 r]) ∧ Below w.heap.size w w' ∧ wr.heap.size ≤ w'.heap.size) := ⟨_, fun _ => Iff.rfl⟩
        have HCC := Lib.hid hC; clear hC
        refine region_quiet_tail C 7 (by kernel_rfl) (by kernel_rfl) ?_ ?_
        · exact (HCC.out _).2 ⟨oc0, oc1, oc2, c1, c2, c3, hb0.out, hb1'.out, hbel.drew, Nat.le_refl _⟩
        simp only [List.take_succ_cons, List.take_zero, List.drop_succ_cons, List.drop_zero]
        generalize (List.toArray _ : Array Oper) = OPS
        iterate 7
          refine wpQuiet_step (fun K hK => ?_)
          rw [if_pos (by simp [Region.wanted])]
          apply Exists.intro
          refine ⟨fun w' hw' => ?_, hK _ ?_⟩
          · obtain ⟨z1, z2, z3, z4, z5, z6, z7, z8, z9, z10⟩ := (HCC.out _).1 hw'
            go_simp
            first | (with_reducible rfl) | (go_at_call 94; (with_reducible refine (addGlue_s _ _ _ _ _ _ _ (by omega) (by omega)).mono ?_); rintro e w2 ⟨rfl, hb2⟩; refine ⟨rfl, (HCC.out _).2 ?_⟩; have hbz : b < w'.heap.size := (by omega); have holt : w.heap.size + 1 < w'.heap.size := (by omega); exact ⟨(hb2.cell (p := ⟨w.heap.size + 1, 0, none⟩) holt).trans z1, (hb2.cell (p := ⟨w.heap.size + 1, 1, none⟩) holt).trans z2, (hb2.cell (p := ⟨w.heap.size + 1, 2, none⟩) holt).trans z3, (hb2.cell (p := ⟨b, off + j * 6 + 1, none⟩) hbz).trans z4, (hb2.cell (p := ⟨b, off + j * 6 + 2, none⟩) hbz).trans z5, (hb2.cell (p := ⟨b, off + j * 6 + 3, none⟩) hbz).trans z6, z7.out.then_ hb2, z8.out.then_ hb2, below_then (by omega) z9 hb2, Nat.le_trans z10 hb2.size⟩)
          clear hK K
          conv => arg 6; simp only [Act.put, List.setIfInBounds_toArray, List.set_cons_succ, List.set_cons_zero]
        refine wpQuiet_nil ?_
        intro w2 hw2
        obtain ⟨z1, z2, z3, z4, z5, z6, z7, z8, z9, z10⟩ := (HCC.out _).1 hw2
        clear zlt zc0 zc1 zc2 zf0 zf1 zf2 olt oc0 oc1 oc2 of0 of1 of2 c0 c1 c2 c3
        have rrlt := z7.out.lt
        have rrc0 := z7.out.cell 0; have rrf0 := z7.out.frozen 0
        have rrc1 := z7.out.cell 1; have rrf1 := z7.out.frozen 1
        have rrc2 := z7.out.cell 2; have rrf2 := z7.out.frozen 2
        simp only [List.getElem?_toArray, List.getElem?_cons_zero, List.getElem?_cons_succ] at rrc0 rrc1 rrc2
        have pplt := z8.out.lt
        have ppc0 := z8.out.cell 0; have ppf0 := z8.out.frozen 0
        have ppc1 := z8.out.cell 1; have ppf1 := z8.out.frozen 1
        have ppc2 := z8.out.cell 2; have ppf2 := z8.out.frozen 2
        simp only [List.getElem?_toArray, List.getElem?_cons_zero, List.getElem?_cons_succ] at ppc0 ppc1 ppc2
        have hzz := z9.size
        go_wp2_with fail
        go_roundg (t - (j + 1))
        case measure => have := HK.out; omega
        case rel =>
          refine ⟨j + 1, p + x.w, q + x.st, r + x.sh, by omega, by omega, rfl, by go_num, ?_, ?_, ?_, ?_, ?_, by (repeat' (first | (with_reducible exact Below.refl _ _) | (with_reducible assumption) | (with_reducible refine Below.alloc ?_ ?_ _) | (with_reducible refine Below.drew ?_) | (with_reducible refine below_drewN ?_ _) | (with_reducible refine Below.setCell ?_ ?_ _) | (with_reducible refine below_then ?_ ?_ (by with_reducible assumption)) | (with_reducible exact Nat.le_refl _) | go_size | (simp only [*]; done)))⟩
          · show _ = _
            rw [sg_snoc HN.out (by omega) (by omega) Hx.out, sW_snoc, hp.out, gw, if_neg H3.out]
          · show _ = _
            rw [sg_snoc HN.out (by omega) (by omega) Hx.out, sS_snoc, hq.out, gs, if_neg H3.out]
          · show _ = _
            rw [sg_snoc HN.out (by omega) (by omega) Hx.out, sH_snoc, hr'.out, gh, if_neg H3.out]
          · ((show Blk _ _ _ _); repeat' (first | (with_reducible exact z7.out) | (with_reducible refine Blk.alloc ?_ _) | (with_reducible refine Blk.drew ?_) | (with_reducible refine Blk.drewN ?_ _) | (with_reducible refine Blk.far ?_ ?_ _) | (with_reducible refine Blk.then_ ?_ (by with_reducible assumption)) | (simp; done) | (simp; omega) | omega))
          · ((show Blk _ _ _ _); apply Blk.eq; (case h => (repeat' (first | (with_reducible exact z8.out) | (with_reducible apply Blk.alloc) | (with_reducible apply Blk.drew) | (with_reducible apply Blk.drewN) | (with_reducible apply Blk.set_) | (with_reducible apply Blk.far) | (with_reducible apply Blk.then_; rotate_left; with_reducible assumption) | (simp; done) | (simp; omega) | omega))); (case e => (first | (simp []; done) | (simp [Nat.zero_add]; omega))))
      · have h3' : x.k = 3 := by simpa using h3
        have H3 := Lib.hid h3'
        clear h3'
        go_wp2_with fail
        go_roundg (t - (j + 1))
        case measure => have := HK.out; omega
        case rel =>
          refine ⟨j + 1, p, q, r, by omega, by omega, rfl, by go_num, ?_, ?_, ?_, ?_, ?_, by (repeat' (first | (with_reducible exact Below.refl _ _) | (with_reducible assumption) | (with_reducible refine Below.alloc ?_ ?_ _) | (with_reducible refine Below.drew ?_) | (with_reducible refine below_drewN ?_ _) | (with_reducible refine Below.setCell ?_ ?_ _) | (with_reducible refine below_then ?_ ?_ (by with_reducible assumption)) | (with_reducible exact Nat.le_refl _) | go_size | (simp only [*]; done)))⟩
          · show _ = _
            rw [sg_snoc HN.out (by omega) (by omega) Hx.out, sW_snoc, hp.out, gw, if_pos H3.out, Int.add_zero]
          · show _ = _
            rw [sg_snoc HN.out (by omega) (by omega) Hx.out, sS_snoc, hq.out, gs, if_pos H3.out, Int.add_zero]
          · show _ = _
            rw [sg_snoc HN.out (by omega) (by omega) Hx.out, sH_snoc, hr'.out, gh, if_pos H3.out, Int.add_zero]
          · ((show Blk _ _ _ _); repeat' (first | (with_reducible exact hb0.out) | (with_reducible refine Blk.alloc ?_ _) | (with_reducible refine Blk.drew ?_) | (with_reducible refine Blk.drewN ?_ _) | (with_reducible refine Blk.far ?_ ?_ _) | (with_reducible refine Blk.then_ ?_ (by with_reducible assumption)) | (simp; done) | (simp; omega) | omega))
          · ((show Blk _ _ _ _); repeat' (first | (with_reducible exact hb1'.out) | (with_reducible refine Blk.alloc ?_ _) | (with_reducible refine Blk.drew ?_) | (with_reducible refine Blk.drewN ?_ _) | (with_reducible refine Blk.far ?_ ?_ _) | (with_reducible refine Blk.then_ ?_ (by with_reducible assumption)) | (simp; done) | (simp; omega) | omega))
    · have ej : sg xs s j = sg xs (lst xs a t) t := by
        rw [← HS.out]
        rcases Nat.lt_or_ge s t with h | h
        · rw [show j = t by omega]
        · rw [show j = s by omega, sg_none _ (Nat.le_refl _), sg_none _ h]
      have hpp := hp.out
      have hqq := hq.out
      have hrr := hr'.out
      rw [ej] at hpp hqq hrr
      have c0 : wr.cell? ⟨b, off + t * 6, none⟩ = _ := (hbel.cell (p := ⟨b, off + t * 6, none⟩) hbw).trans (HC.out t 0 (by omega) (by omega))
      have c1 : wr.cell? ⟨b, off + t * 6 + 1, none⟩ = _ := (hbel.cell (p := ⟨b, off + t * 6 + 1, none⟩) hbw).trans (HC.out t 1 (by omega) (by omega))
      obtain ⟨x, hx⟩ : ∃ x, xs.getD t default = x := ⟨_, rfl⟩
      simp only [itc, itv, hx] at c0 c1
      obtain ⟨⟨x1, x2⟩, _⟩ := itemOk_b (itemsOk_at HOK.out HN.out ht hx)
      have ES : lgS xs a t = q := by rw [lgS, hqq]
      have EH : lgH xs a t = r := by rw [lgH, hrr]
      have EW : lgW xs a t = p + (if x.k = 3 then x.w else 0) := by rw [lgW, hpp, kd, hx]
      have HES := Lib.hid ES
      have HEH := Lib.hid EH
      have HEW := Lib.hid EW
      have htn : (t : Int) < (n : Int) := by omega
      clear hx hpp hqq hrr ES EH EW ej
      rcases h3 : (x.k == 3) with _ | _
      · have h3' : ¬ x.k = 3 := by simpa using h3
        have H3 := Lib.hid h3'
        clear h3'
        go_wp2_with fail
        (first | go_returns | (refine bodyPost_ret (by simp [results, Try.results85, go_sem, *]; try rfl) rfl ?_))
        refine ⟨?_, by (repeat' (first | (with_reducible exact Below.refl _ _) | (with_reducible assumption) | (with_reducible refine Below.alloc ?_ ?_ _) | (with_reducible refine Below.drew ?_) | (with_reducible refine below_drewN ?_ _) | (with_reducible refine Below.setCell ?_ ?_ _) | (with_reducible refine below_then ?_ ?_ (by with_reducible assumption)) | (with_reducible exact Nat.le_refl _) | go_size | (simp only [*]; done)))⟩
        rw [HEW.out, HES.out, HEH.out, if_neg H3.out, Int.add_zero]
      · have h3' : x.k = 3 := by simpa using h3
        have H3 := Lib.hid h3'
        clear h3'
        have hne : ¬ b = w.heap.size + 1 := by omega
        go_wp2_with fail
        go_region
        all_goals go_wp2_with fail
        all_goals
          (first | go_returns | (refine bodyPost_ret (by simp [results, Try.results85, go_sem, *]; try rfl) rfl ?_))
          refine ⟨?_, by (repeat' (first | (with_reducible exact Below.refl _ _) | (with_reducible assumption) | (with_reducible refine Below.alloc ?_ ?_ _) | (with_reducible refine Below.drew ?_) | (with_reducible refine below_drewN ?_ _) | (with_reducible refine Below.setCell ?_ ?_ _) | (with_reducible refine below_then ?_ ?_ (by with_reducible assumption)) | (with_reducible exact Nat.le_refl _) | go_size | (simp only [*]; done)))⟩
          rw [HEW.out, HES.out, HEH.out, if_pos H3.out]
end Go.Proofs.Ytkmipgekmbngcaa
