/- The glue of a line, of the program, is what the plain functions say. Conditions: the slice reads as the list; the items are valid; the line lies in them. -/
import Derived.Test.YtkmipgekmbngcaaItemL
namespace Go.Proofs.Ytkmipgekmbngcaa
open Go.RowKit

set_option maxHeartbeats 1000000 in
theorem lineStart_i (A : Option Addr) (n cap a t : Nat) (f : Int) (xs : List It) (w : World) (hn : xs.length = n) (hm : n ≤ 60) (hf : f + 1 = (a : Int)) (ha : a ≤ t) (ht : t ≤ n) (hr : Row w w.heap.size 6 A n (itc xs)) :
    Calls Try.prog 95 #[.slice A n cap, .int .i64 f, .int .i64 (t : Int)] w fun e w' => e = .returned (.int .i64 (lst xs a t : Nat)) ∧ Below w.heap.size w w' := by
  have HN := Lib.hid hn; clear hn
  have HF := Lib.hid hf
  go_enter Try.func95, Try.ntmps95
  go_wp2_with fail
  go_loopg [7] (t - a) (fun k i wr => ∃ j : Nat, a ≤ j ∧ j ≤ t ∧ k = t - j ∧ i = .int .i64 (j : Int) ∧ Hid (∀ i, a ≤ i → i < j → kd xs i ≠ 1) ∧ Below w.heap.size w wr)
  case atStart => exact ⟨a, Nat.le_refl _, ha, rfl, rfl, fun i h1 h2 => by omega, Below.refl _ _⟩
  case round =>
    obtain ⟨j, hj0, hj, hk, rfl, hall, hbel⟩ := hrel
    have HK := Lib.hid hk; clear hk
    have hsz := hbel.size
    clear hf
    by_cases hlt : j < t
    · obtain ⟨b, off, rfl, hb, hc⟩ := hr (by omega)
      have c0 : wr.cell? ⟨b, off + j * 6, none⟩ = _ := (hbel.cell (p := ⟨b, off + j * 6, none⟩) hb).trans (hc j 0 (by omega) (by omega))
      obtain ⟨x, hx⟩ : ∃ x, xs.getD j default = x := ⟨_, rfl⟩
      simp only [itc, itv, hx] at c0
      have Hx := Lib.hid hx; clear hx hc
      have hlt' : (j : Int) < (t : Int) := by omega
      have hltn : (j : Int) < (n : Int) := by omega
      rcases h1 : (x.k == 1) with _ | _
      · have h1' : x.k ≠ 1 := by simpa using h1
        have H1 := Lib.hid h1'
        clear h1'
        go_wp2_with fail
        go_roundg (t - (j + 1))
        case measure => have := HK.out; omega
        case rel =>
          refine ⟨j + 1, by omega, by omega, rfl, by go_num, fun i h2 h3 => ?_, by (repeat' (first | (with_reducible exact Below.refl _ _) | (with_reducible assumption) | (with_reducible refine Below.alloc ?_ ?_ _) | (with_reducible refine Below.drew ?_) | (with_reducible refine below_drewN ?_ _) | (with_reducible refine Below.setCell ?_ ?_ _) | (with_reducible refine below_then ?_ ?_ (by with_reducible assumption)) | (with_reducible exact Nat.le_refl _) | go_size | (simp only [*]; done)))⟩
          rcases Nat.lt_or_ge i j with h4 | h4
          · exact hall.out i h2 h4
          · obtain rfl : i = j := by omega
            rw [kd, Hx.out]
            exact H1.out
      · have h1' : x.k = 1 := by simpa using h1
        have E : lst xs a t = j := lst_eq HN.out ht (j - a) a j (by omega) hj hall.out (fun _ => by rw [kd, Hx.out]; exact h1')
        have HE := Lib.hid E
        clear h1' E
        go_wp2_with fail
        go_ret
        exact ⟨ret_int (by rw [HE.out]), hbel⟩
    · have E : lst xs a t = j := lst_eq HN.out ht (j - a) a j (by omega) hj hall.out (fun h => absurd h hlt)
      have HE := Lib.hid E
      clear E
      go_wp2_with fail
      go_ret
      exact ⟨ret_int (by rw [HE.out]), hbel⟩

theorem g2_i (a b c d e f : Int) (w : World) (h1 : (0 ≤ a ∧ a ≤ 100000) ∧ (0 ≤ b ∧ b ≤ 100000) ∧ (0 ≤ c ∧ c ≤ 100000)) (h2 : (0 ≤ d ∧ d ≤ 100000) ∧ (0 ≤ e ∧ e ≤ 100000) ∧ (0 ≤ f ∧ f ≤ 100000)) :
    Calls Try.prog 96 #[.agg #[.int .i64 a, .int .i64 b, .int .i64 c], .agg #[.int .i64 d, .int .i64 e, .int .i64 f]] w fun o w' => o = .returned (.agg #[.int .i64 (a + d), .int .i64 (b + e), .int .i64 (c + f)]) ∧ Below w.heap.size w w' := by
  obtain ⟨⟨a1, a2⟩, ⟨b1, b2⟩, c1, c2⟩ := h1
  obtain ⟨⟨d1, d2⟩, ⟨e1, e2⟩, f1, f2⟩ := h2
  go_enter Try.func96, Try.ntmps96
  go_wp2
  (first | go_returns | (refine bodyPost_ret (by simp [results, Try.results96, go_sem, *]; try rfl) rfl ?_))
  exact ⟨rfl, by (repeat' (first | (with_reducible exact Below.refl _ _) | (with_reducible assumption) | (with_reducible refine Below.alloc ?_ ?_ _) | (with_reducible refine Below.drew ?_) | (with_reducible refine below_drewN ?_ _) | (with_reducible refine Below.setCell ?_ ?_ _) | (with_reducible refine below_then ?_ ?_ (by with_reducible assumption)) | (with_reducible exact Nat.le_refl _) | go_size | (simp only [*]; done)))⟩

set_option maxHeartbeats 2000000 in
theorem lineGlue_i (A : Option Addr) (n cap a t : Nat) (f : Int) (xs : List It) (w : World) (hok : itemsOk xs = true) (hn : xs.length = n) (hcap : n ≤ cap ∧ cap ≤ maxLen) (hf : f + 1 = (a : Int)) (ha : a ≤ t) (ht : t < n) (hr : Row w w.heap.size 6 A n (itc xs)) :
    Calls Try.prog 90 #[.slice A n cap, .int .i64 f, .int .i64 (t : Int)] w fun e w' => e = .returned (.agg #[.int .i64 (lgW xs a t), .int .i64 (lgS xs a t), .int .i64 (lgH xs a t)]) ∧ Below w.heap.size w w' := by
  have hm := (itemsOk_len hok hn).2
  obtain ⟨hc1, hc2⟩ := hcap
  unfold maxLen at hc2
  obtain ⟨s, hs⟩ : ∃ s, lst xs a t = s := ⟨_, rfl⟩
  obtain ⟨s0, s1, s2, s3⟩ := lst_spec (a := a) (t := t) hn (by omega) ha
  rw [hs] at s0 s1
  have HS := Lib.hid hs
  have HN := Lib.hid hn
  have HOK := Lib.hid hok
  have HF := Lib.hid hf
  have hst : (s : Int) ≤ (t : Int) := by omega
  have htc : (t : Int) ≤ (cap : Int) := by omega
  have hlen : (t : Int) - (s : Int) = ((t - s : Nat) : Int) := by omega
  have HR := Lib.hid hr
  clear hs hok s2 s3
  obtain ⟨b, off, rfl, hbw, hcw⟩ := hr (by omega)
  have HC := Lib.hid hcw
  clear hcw hr
  go_enter Try.func90, Try.ntmps90
  go_wp2_with fail
  ((with_reducible refine (lineStart_i _ _ _ a t f xs _ HN.out hm HF.out ha (by omega) ?_).mono ?_); (exact (HR.out.alloc' _).alloc' _); rintro e w1 ⟨rfl, hb1⟩)
  have hz1 := hb1.size
  simp only [World.size_alloc] at hz1
  have g0 := Lib.hid (((Blk.new w 76 #[.int .i64 0, .int .i64 0, .int .i64 0]).alloc (.cells #[.int .i64 0, .int .i64 0, .int .i64 0] 76)).then_ hb1)
  have g1 := Lib.hid ((Blk.new_at (w.alloc (.cells #[.int .i64 0, .int .i64 0, .int .i64 0] 76)) 76 #[.int .i64 0, .int .i64 0, .int .i64 0] (w.heap.size + 1) (by simp)).then_ hb1)
  have hB1 : Below w.heap.size w w1 := below_then (Nat.le_refl _) (by (repeat' (first | (with_reducible exact Below.refl _ _) | (with_reducible assumption) | (with_reducible refine Below.alloc ?_ ?_ _) | (with_reducible refine Below.drew ?_) | (with_reducible refine below_drewN ?_ _) | (with_reducible refine Below.setCell ?_ ?_ _) | (with_reducible refine below_then ?_ ?_ (by with_reducible assumption)) | (with_reducible exact Nat.le_refl _) | go_size | (simp only [*]; done)))) hb1
  rw [HS.out]
  go_wp2_with fail
  go_loopg [18] (t - s) (fun k i wr => ∃ (j : Nat) (p q r : Int), j ≤ t - s ∧ k = t - s - j ∧ i = .int .i64 (j : Int) ∧ Hid (sW (sg xs s (s + j)) = p) ∧ Hid (sS (sg xs s (s + j)) = q) ∧ Hid (sH (sg xs s (s + j)) = r) ∧ Hid (Blk wr w.heap.size 76 #[.int .i64 0, .int .i64 0, .int .i64 0]) ∧ Hid (Blk wr (w.heap.size + 1) 76 #[.int .i64 p, .int .i64 q, .int .i64 r]) ∧ Below w.heap.size w wr)
  case atStart => exact ⟨0, 0, 0, 0, Nat.zero_le _, rfl, rfl, by rw [Hid, Nat.add_zero, sg_none _ (Nat.le_refl _)]; rfl, by rw [Hid, Nat.add_zero, sg_none _ (Nat.le_refl _)]; rfl, by rw [Hid, Nat.add_zero, sg_none _ (Nat.le_refl _)]; rfl, g0.out, g1.out, hB1⟩
  case round =>
    obtain ⟨j, p, q, r, hj, hk, rfl, hp, hq, hr', hb0, hb1', hbel⟩ := hrel
    have HK := Lib.hid hk; clear hk
    have hsz := hbel.size
    obtain ⟨⟨p1, p2⟩, ⟨q1, q2⟩, r1, r2⟩ := sg_b HOK.out HN.out (show s + j ≤ n by omega) hp.out hq.out hr'.out
    have zlt := hb0.out.lt
    have zc0 := hb0.out.cell 0; have zf0 := hb0.out.frozen 0
    have zc1 := hb0.out.cell 1; have zf1 := hb0.out.frozen 1
    have zc2 := hb0.out.cell 2; have zf2 := hb0.out.frozen 2
    simp only [List.getElem?_toArray, List.getElem?_cons_zero, List.getElem?_cons_succ] at zc0 zc1 zc2
    have olt := hb1'.out.lt
    have oc0 := hb1'.out.cell 0; have of0 := hb1'.out.frozen 0
    have oc1 := hb1'.out.cell 1; have of1 := hb1'.out.frozen 1
    have oc2 := hb1'.out.cell 2; have of2 := hb1'.out.frozen 2
    simp only [List.getElem?_toArray, List.getElem?_cons_zero, List.getElem?_cons_succ] at oc0 oc1 oc2
    by_cases hlt : j < t - s
    · have hcs : ∀ q, q < 6 → w.cell? ⟨b, off + s * 6 + j * 6 + q, none⟩ = some (itc xs (s + j) q) := fun q hq => by
        have h := HC.out (s + j) q (by omega) hq
        rw [show off + s * 6 + j * 6 + q = off + (s + j) * 6 + q by omega]
        exact h
      have c0 : wr.cell? ⟨b, off + s * 6 + j * 6, none⟩ = _ := (hbel.cell (p := ⟨b, off + s * 6 + j * 6, none⟩) hbw).trans (hcs 0 (by omega))
      have c1 : wr.cell? ⟨b, off + s * 6 + j * 6 + 1, none⟩ = _ := (hbel.cell (p := ⟨b, off + s * 6 + j * 6 + 1, none⟩) hbw).trans (hcs 1 (by omega))
      have c2 : wr.cell? ⟨b, off + s * 6 + j * 6 + 2, none⟩ = _ := (hbel.cell (p := ⟨b, off + s * 6 + j * 6 + 2, none⟩) hbw).trans (hcs 2 (by omega))
      have c3 : wr.cell? ⟨b, off + s * 6 + j * 6 + 3, none⟩ = _ := (hbel.cell (p := ⟨b, off + s * 6 + j * 6 + 3, none⟩) hbw).trans (hcs 3 (by omega))
      have c4 : wr.cell? ⟨b, off + s * 6 + j * 6 + 4, none⟩ = _ := (hbel.cell (p := ⟨b, off + s * 6 + j * 6 + 4, none⟩) hbw).trans (hcs 4 (by omega))
      have c5 : wr.cell? ⟨b, off + s * 6 + j * 6 + 5, none⟩ = _ := (hbel.cell (p := ⟨b, off + s * 6 + j * 6 + 5, none⟩) hbw).trans (hcs 5 (by omega))
      obtain ⟨x, hx⟩ : ∃ x, xs.getD (s + j) default = x := ⟨_, rfl⟩
      simp only [itc, itv, hx] at c0 c1 c2 c3 c4 c5
      obtain ⟨⟨x1, x2⟩, ⟨x3, x4⟩, ⟨x5, x6⟩, _⟩ := itemOk_b (itemsOk_at HOK.out HN.out (show s + j < n by omega) hx)
      have Hx := Lib.hid hx; clear hx hcs
      have hlt' : (j : Int) < (t : Int) - (s : Int) := by omega
      rcases h3 : (x.k == 3) with _ | _
      · have h3' : ¬ x.k = 3 := by simpa using h3
        have H3 := Lib.hid h3'
        clear h3'
        go_wp2_with fail
        ((with_reducible refine (g2_i _ _ _ _ _ _ _ (by omega) (by omega)).mono ?_); rintro e w2 ⟨rfl, hb2⟩)
        have hz2 := hb2.size
        simp only [World.size_alloc] at hz2
        have e0 := (hb0.out.alloc (.cells #[.int .i64 x.k, .int .i64 x.w, .int .i64 x.st, .int .i64 x.sh, .int .i64 x.pen, .bool x.fl] 78)).then_ hb2
        have e1 := (hb1'.out.alloc (.cells #[.int .i64 x.k, .int .i64 x.w, .int .i64 x.st, .int .i64 x.sh, .int .i64 x.pen, .bool x.fl] 78)).then_ hb2
        have E0 := Lib.hid e0
        have E1 := Lib.hid e1
        have hB2 : Below w.heap.size w w2 := below_then (Nat.le_refl _) (by (repeat' (first | (with_reducible exact Below.refl _ _) | (with_reducible assumption) | (with_reducible refine Below.alloc ?_ ?_ _) | (with_reducible refine Below.drew ?_) | (with_reducible refine below_drewN ?_ _) | (with_reducible refine Below.setCell ?_ ?_ _) | (with_reducible refine below_then ?_ ?_ (by with_reducible assumption)) | (with_reducible exact Nat.le_refl _) | go_size | (simp only [*]; done)))) hb2
        clear zlt zc0 zc1 zc2 zf0 zf1 zf2 olt oc0 oc1 oc2 of0 of1 of2 c0 c1 c2 c3 c4 c5
        have vlt := e1.lt
        have vc0 := e1.cell 0; have vf0 := e1.frozen 0
        have vc1 := e1.cell 1; have vf1 := e1.frozen 1
        have vc2 := e1.cell 2; have vf2 := e1.frozen 2
        simp only [List.getElem?_toArray, List.getElem?_cons_zero, List.getElem?_cons_succ] at vc0 vc1 vc2
        clear e0 e1
        go_wp2_with fail
        go_roundg (t - s - (j + 1))
        case measure => have := HK.out; omega
        case rel =>
          refine ⟨j + 1, p + x.w, q + x.st, r + x.sh, by omega, rfl, by go_num, ?_, ?_, ?_, ?_, ?_, by (repeat' (first | (with_reducible exact Below.refl _ _) | (with_reducible assumption) | (with_reducible refine Below.alloc ?_ ?_ _) | (with_reducible refine Below.drew ?_) | (with_reducible refine below_drewN ?_ _) | (with_reducible refine Below.setCell ?_ ?_ _) | (with_reducible refine below_then ?_ ?_ (by with_reducible assumption)) | (with_reducible exact Nat.le_refl _) | go_size | (simp only [*]; done)))⟩
          · show _ = _
            rw [show s + (j + 1) = s + j + 1 by omega, sg_snoc HN.out (by omega) (by omega) Hx.out, sW_snoc, hp.out, gw, if_neg H3.out]
          · show _ = _
            rw [show s + (j + 1) = s + j + 1 by omega, sg_snoc HN.out (by omega) (by omega) Hx.out, sS_snoc, hq.out, gs, if_neg H3.out]
          · show _ = _
            rw [show s + (j + 1) = s + j + 1 by omega, sg_snoc HN.out (by omega) (by omega) Hx.out, sH_snoc, hr'.out, gh, if_neg H3.out]
          · ((show Blk _ _ _ _); repeat' (first | (with_reducible exact E0.out) | (with_reducible refine Blk.alloc ?_ _) | (with_reducible refine Blk.drew ?_) | (with_reducible refine Blk.drewN ?_ _) | (with_reducible refine Blk.far ?_ ?_ _) | (with_reducible refine Blk.then_ ?_ (by with_reducible assumption)) | (simp; done) | (simp; omega) | omega))
          · ((show Blk _ _ _ _); apply Blk.eq; (case h => (repeat' (first | (with_reducible exact E1.out) | (with_reducible apply Blk.alloc) | (with_reducible apply Blk.drew) | (with_reducible apply Blk.drewN) | (with_reducible apply Blk.set_) | (with_reducible apply Blk.far) | (with_reducible apply Blk.then_; rotate_left; with_reducible assumption) | (simp; done) | (simp; omega) | omega))); (case e => (first | (simp []; done) | (simp [Nat.zero_add]; omega))))
      · have h3' : x.k = 3 := by simpa using h3
        have H3 := Lib.hid h3'
        clear h3'
        go_wp2_with fail
        go_roundg (t - s - (j + 1))
        case measure => have := HK.out; omega
        case rel =>
          refine ⟨j + 1, p, q, r, by omega, rfl, by go_num, ?_, ?_, ?_, ?_, ?_, by (repeat' (first | (with_reducible exact Below.refl _ _) | (with_reducible assumption) | (with_reducible refine Below.alloc ?_ ?_ _) | (with_reducible refine Below.drew ?_) | (with_reducible refine below_drewN ?_ _) | (with_reducible refine Below.setCell ?_ ?_ _) | (with_reducible refine below_then ?_ ?_ (by with_reducible assumption)) | (with_reducible exact Nat.le_refl _) | go_size | (simp only [*]; done)))⟩
          · show _ = _
            rw [show s + (j + 1) = s + j + 1 by omega, sg_snoc HN.out (by omega) (by omega) Hx.out, sW_snoc, hp.out, gw, if_pos H3.out, Int.add_zero]
          · show _ = _
            rw [show s + (j + 1) = s + j + 1 by omega, sg_snoc HN.out (by omega) (by omega) Hx.out, sS_snoc, hq.out, gs, if_pos H3.out, Int.add_zero]
          · show _ = _
            rw [show s + (j + 1) = s + j + 1 by omega, sg_snoc HN.out (by omega) (by omega) Hx.out, sH_snoc, hr'.out, gh, if_pos H3.out, Int.add_zero]
          · ((show Blk _ _ _ _); repeat' (first | (with_reducible exact hb0.out) | (with_reducible refine Blk.alloc ?_ _) | (with_reducible refine Blk.drew ?_) | (with_reducible refine Blk.drewN ?_ _) | (with_reducible refine Blk.far ?_ ?_ _) | (with_reducible refine Blk.then_ ?_ (by with_reducible assumption)) | (simp; done) | (simp; omega) | omega))
          · ((show Blk _ _ _ _); repeat' (first | (with_reducible exact hb1'.out) | (with_reducible refine Blk.alloc ?_ _) | (with_reducible refine Blk.drew ?_) | (with_reducible refine Blk.drewN ?_ _) | (with_reducible refine Blk.far ?_ ?_ _) | (with_reducible refine Blk.then_ ?_ (by with_reducible assumption)) | (simp; done) | (simp; omega) | omega))
    · have ej : s + j = t := by omega
      have hpp := hp.out
      have hqq := hq.out
      have hrr := hr'.out
      rw [ej] at hpp hqq hrr
      have c0 : wr.cell? ⟨b, off + t * 6, none⟩ = _ := (hbel.cell (p := ⟨b, off + t * 6, none⟩) hbw).trans (HC.out t 0 (by omega) (by omega))
      have c1 : wr.cell? ⟨b, off + t * 6 + 1, none⟩ = _ := (hbel.cell (p := ⟨b, off + t * 6 + 1, none⟩) hbw).trans (HC.out t 1 (by omega) (by omega))
      obtain ⟨x, hx⟩ : ∃ x, xs.getD t default = x := ⟨_, rfl⟩
      simp only [itc, itv, hx] at c0 c1
      obtain ⟨⟨x1, x2⟩, _⟩ := itemOk_b (itemsOk_at HOK.out HN.out ht hx)
      have ES : lgS xs a t = q := by rw [lgS, HS.out, hqq]
      have EH : lgH xs a t = r := by rw [lgH, HS.out, hrr]
      have EW : lgW xs a t = p + (if x.k = 3 then x.w else 0) := by rw [lgW, HS.out, hpp, kd, hx]
      have HES := Lib.hid ES
      have HEH := Lib.hid EH
      have HEW := Lib.hid EW
      have htn : (t : Int) < (n : Int) := by omega
      clear hx hpp hqq hrr ES EH EW
      rcases h3 : (x.k == 3) with _ | _
      · have h3' : ¬ x.k = 3 := by simpa using h3
        have H3 := Lib.hid h3'
        clear h3'
        go_wp2_with fail
        (first | go_returns | (refine bodyPost_ret (by simp [results, Try.results90, go_sem, *]; try rfl) rfl ?_))
        refine ⟨?_, by (repeat' (first | (with_reducible exact Below.refl _ _) | (with_reducible assumption) | (with_reducible refine Below.alloc ?_ ?_ _) | (with_reducible refine Below.drew ?_) | (with_reducible refine below_drewN ?_ _) | (with_reducible refine Below.setCell ?_ ?_ _) | (with_reducible refine below_then ?_ ?_ (by with_reducible assumption)) | (with_reducible exact Nat.le_refl _) | go_size | (simp only [*]; done)))⟩
        rw [HEW.out, HES.out, HEH.out, if_neg H3.out, Int.add_zero]
      · have h3' : x.k = 3 := by simpa using h3
        have H3 := Lib.hid h3'
        clear h3'
        have hne : ¬ b = w.heap.size + 1 := by omega
        go_wp2_with fail
        go_region
        all_goals go_wp2_with fail
        all_goals
          (first | go_returns | (refine bodyPost_ret (by simp [results, Try.results90, go_sem, *]; try rfl) rfl ?_))
          refine ⟨?_, by (repeat' (first | (with_reducible exact Below.refl _ _) | (with_reducible assumption) | (with_reducible refine Below.alloc ?_ ?_ _) | (with_reducible refine Below.drew ?_) | (with_reducible refine below_drewN ?_ _) | (with_reducible refine Below.setCell ?_ ?_ _) | (with_reducible refine below_then ?_ ?_ (by with_reducible assumption)) | (with_reducible exact Nat.le_refl _) | go_size | (simp only [*]; done)))⟩
          rw [HEW.out, HES.out, HEH.out, if_pos H3.out]
end Go.Proofs.Ytkmipgekmbngcaa
