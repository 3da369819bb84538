/- The laws on stacks of drawn boxes answer true: FnStackBox, FnStackOne. Conditions: the code is a slice of bytes. -/
import Derived.Test.YtdbjjfjagalhbaaBoxDraw2
import Derived.Test.YtdbjjfjagalhbaaBoxStackI
import Derived.Test.YtdbjjfjagalhbaaBoxPlain2
import Derived.Deep.QuietTactic
import Derived.BigQuiet
namespace Go.Proofs.Ytdbjjfjagalhbaa
open Go.RowKit

theorem Row.cutS {w : World} {B g n : Nat} {xs : List Bx} (h : Row w B 3 (some ⟨g, 0, none⟩) n (bxc xs)) (k : Nat) (hk : k ≤ n) : Row w B 3 (some ⟨g, 0, none⟩) k (bxc (xs.take k)) :=
  (h.init hk).congr fun i j hi _ => by
    have e : (xs.take k).getD i default = xs.getD i default := by
      rw [List.getD_eq_getElem?_getD, List.getD_eq_getElem?_getD, List.getElem?_take_of_lt hi]
    simp only [bxc, e]

theorem Row.at0 {w : World} {B g n : Nat} {f : Nat → Nat → Value} (h : Row w B 3 (some ⟨g, 0, none⟩) n f) {i j : Nat} (hi : i < n) (hj : j < 3) : g < B ∧ w.cell? ⟨g, i * 3 + j, none⟩ = some (f i j) := by
  obtain ⟨b, off, e, hb, hc⟩ := h (by omega)
  injection e with e
  injection e with e1 e2
  subst e1 e2
  have := hc i j hi hj
  rw [Nat.zero_add] at this
  exact ⟨hb, this⟩

set_option maxHeartbeats 4000000 in
theorem law_StackBox (A : Option Addr) (n cap : Nat) (cs : List Int) (w : World) (hc : Code w A n cap cs) :
    Calls Try.prog 13 #[.slice A n cap] w fun e w' => e = .returned (.bool true) ∧ Below w.heap.size w w' := by
  have hn := hc.1
  unfold maxLen at hn
  by_cases hbig : 1048576 < n
  · go_enter Try.func13, Try.ntmps13
    go_wp2
    go_returns
    exact ⟨rfl, Below.refl _ _⟩
  go_enter Try.func13, Try.ntmps13
  go_wp2_with fail
  ((with_reducible refine (DrawStackBox_any _ _ _ cs _ hc).mono ?_); rintro e w1 ⟨B, m, c, xs, s, rfl, hx, hm, hcp, hr1, hb1⟩)
  have HX := Lib.hid hx; clear hx
  have hz1 := hb1.size
  have hmx : m ≤ maxLen := by unfold maxLen; omega
  obtain ⟨hm1, hm2, g, rfl⟩ := hcp
  unfold maxLen at hm2
  obtain ⟨⟨⟨p, q, r⟩, ok⟩, hx⟩ : ∃ r, stackB xs s = r := ⟨_, rfl⟩
  have HB := Lib.hid hx; clear hx
  go_wp2_with fail
  ((with_reducible refine (stackBox_i _ _ _ _ xs _ HX.out hmx ?_).mono ?_); (exact hr1); rintro e w2 ⟨rfl, hb2⟩)
  (have hz2 := hb2.size; (try simp at hz2); obtain ⟨hc2, hf2⟩ := bcell hb2; (try have hz_w1_0_w2 : w1.heap.size < w2.heap.size := by omega); (try have hz_w1_1_w2 : w1.heap.size + 1 < w2.heap.size := by omega))
  rw [HB.out]
  have hr2 := hr1.then_ hb2
  go_wp2_with fail
  ((with_reducible refine (stackBox_s _ _ _ _ xs _ HX.out hmx ?_).mono ?_); (exact hr2.alloc' _); rintro e w3 ⟨rfl, hb3⟩)
  (have hz3 := hb3.size; (try simp at hz3); obtain ⟨hc3, hf3⟩ := bcell hb3; (try have hz_w1_0_w3 : w1.heap.size < w3.heap.size := by omega); (try have hz_w1_1_w3 : w1.heap.size + 1 < w3.heap.size := by omega); (try have hz_w2_0_w3 : w2.heap.size < w3.heap.size := by omega); (try have hz_w2_1_w3 : w2.heap.size + 1 < w3.heap.size := by omega))
  rw [HB.out]
  have hr3 := (hr2.alloc' _).then_ hb3
  cases ok
  · go_wp2_with fail
    all_goals (go_returns; exact ⟨rfl, by (repeat' (first | (with_reducible exact Below.refl _ _) | (with_reducible assumption) | (with_reducible refine Below.alloc ?_ ?_ _) | (with_reducible refine Below.drew ?_) | (with_reducible refine below_drewN ?_ _) | (with_reducible refine Below.setCell ?_ ?_ _) | (with_reducible refine below_then ?_ ?_ (by with_reducible assumption)) | (with_reducible exact Nat.le_refl _) | go_size | (simp only [*]; done)))⟩)
  by_cases hm0 : m = 0
  · subst hm0
    go_wp2_with fail
    all_goals (go_returns; exact ⟨rfl, by (repeat' (first | (with_reducible exact Below.refl _ _) | (with_reducible assumption) | (with_reducible refine Below.alloc ?_ ?_ _) | (with_reducible refine Below.drew ?_) | (with_reducible refine below_drewN ?_ _) | (with_reducible refine Below.setCell ?_ ?_ _) | (with_reducible refine below_then ?_ ?_ (by with_reducible assumption)) | (with_reducible exact Nat.le_refl _) | go_size | (simp only [*]; done)))⟩)
  have hm0b : ((m : Int) == 0) = false := by simp; omega
  have hmpos : 0 < m := by omega
  obtain ⟨hd, hw, ht⟩ := stack_has HB.out (by rw [HX.out]; exact hmpos)
  rw [HX.out] at hd ht
  simp only at hd hw ht
  obtain ⟨hok, ⟨s0, s1⟩, _, hv⟩ := stackB_true HB.out
  obtain ⟨⟨p0, p1⟩, ⟨q0, q1⟩, r0, r1⟩ := vBox_iff.1 hv
  simp only at p0 p1 q0 q1 r0 r1
  have HOK := Lib.hid hok
  obtain ⟨xl, hxl⟩ : ∃ x, xs.getD (m - 1) default = x := ⟨_, rfl⟩
  rw [hxl] at hd
  have HXL := Lib.hid hxl
  have HW := Lib.hid hw
  have HT := Lib.hid ht
  subst hd
  have HBb := Lib.hid (((Blk.new w2 25 #[.int .i64 p, .int .i64 q, .int .i64 xl.d]).then_ hb3).alloc (.cells #[.int .i64 p, .int .i64 q, .int .i64 xl.d] 25))
  have HR3 := Lib.hid (hr3.alloc' (.cells #[.int .i64 p, .int .i64 q, .int .i64 xl.d] 25))
  have hB3 : Below w.heap.size w (w3.alloc (.cells #[.int .i64 p, .int .i64 q, .int .i64 xl.d] 25)) := by (repeat' (first | (with_reducible exact Below.refl _ _) | (with_reducible assumption) | (with_reducible refine Below.alloc ?_ ?_ _) | (with_reducible refine Below.drew ?_) | (with_reducible refine below_drewN ?_ _) | (with_reducible refine Below.setCell ?_ ?_ _) | (with_reducible refine below_then ?_ ?_ (by with_reducible assumption)) | (with_reducible exact Nat.le_refl _) | go_size | (simp only [*]; done)))
  clear hv hok hxl hw ht hr1 hr2 hr3 hm0
  go_wp2_with fail
  obtain ⟨w4, hw4⟩ : ∃ w4, w3.alloc (.cells #[.int .i64 p, .int .i64 q, .int .i64 xl.d] 25) = w4 := ⟨_, rfl⟩
  rw [hw4] at HBb HR3 hB3 ⊢
  clear hw4
  go_loopg [9, 10, 11] m (fun k tt ww i wr => ∃ (j : Nat) (t v : Int), j ≤ m ∧ k = m - j ∧ i = .int .i64 j ∧ tt = .int .i64 t ∧ ww = .int .i64 v ∧ 0 ≤ t ∧ t ≤ 20000 * (j : Int) ∧ Hid (tot (xs.take j) = t) ∧ Hid (maxW (xs.take j) = v) ∧ Below w4.heap.size w4 wr)
  case atStart => exact ⟨0, 0, 0, Nat.zero_le _, rfl, rfl, rfl, rfl, by omega, by omega, rfl, rfl, Below.refl _ _⟩
  case round =>
    obtain ⟨j, t, v, hj, hk, rfl, rfl, rfl, ht0, ht1, htt, hvv, hbel⟩ := hrel
    have HK := Lib.hid hk; clear hk
    have hsz := hbel.size
    by_cases hlt : j < m
    · obtain ⟨hgB, k0⟩ := HR3.out.at0 (i := j) (j := 0) hlt (by omega)
      obtain ⟨_, k1⟩ := HR3.out.at0 (i := j) (j := 1) hlt (by omega)
      obtain ⟨_, k2⟩ := HR3.out.at0 (i := j) (j := 2) hlt (by omega)
      have c0 : wr.cell? ⟨g, j * 3, none⟩ = _ := (hbel.cell (p := ⟨g, j * 3, none⟩) hgB).trans k0
      have c1 : wr.cell? ⟨g, j * 3 + 1, none⟩ = _ := (hbel.cell (p := ⟨g, j * 3 + 1, none⟩) hgB).trans k1
      have c2 : wr.cell? ⟨g, j * 3 + 2, none⟩ = _ := (hbel.cell (p := ⟨g, j * 3 + 2, none⟩) hgB).trans k2
      obtain ⟨x, hx⟩ : ∃ x, xs.getD j default = x := ⟨_, rfl⟩
      simp only [bxc, hx] at c0 c1 c2
      have Hx := Lib.hid hx; clear hx k0 k1 k2
      obtain ⟨⟨g1, g2⟩, ⟨g3, g4⟩, g5, g6⟩ := boxesOk_at HOK.out (k := j) (by rw [HX.out]; exact hlt) Hx.out
      have hlt' : (j : Int) < (m : Int) := by omega
      have hnn : (0 : Int) ≤ (j : Int) := by omega
      have e1 : IntKind.i64.wrap (t + x.h) = t + x.h := IntWalk.i64_in _ (by omega)
      have e2 : IntKind.i64.wrap (t + x.h + x.d) = t + x.h + x.d := IntWalk.i64_in _ (by omega)
      go_wp2_with fail
      go_quiet (fail)
      clear e1 e2
      go_wp2_with fail
      all_goals
        go_roundg (m - (j + 1))
        case measure => have := HK.out; omega
        case rel =>
          refine ⟨j + 1, t + x.h + x.d, _, by omega, rfl, by go_num, rfl, rfl, by omega, by omega, ?_, ?_, by (repeat' (first | (with_reducible exact Below.refl _ _) | (with_reducible assumption) | (with_reducible refine Below.alloc ?_ ?_ _) | (with_reducible refine Below.drew ?_) | (with_reducible refine below_drewN ?_ _) | (with_reducible refine Below.setCell ?_ ?_ _) | (with_reducible refine below_then ?_ ?_ (by with_reducible assumption)) | (with_reducible exact Nat.le_refl _) | go_size | (simp only [*]; done)))⟩
          · show _ = _
            rw [take_succ_snoc xs j (by rw [HX.out]; exact hlt), tot_snoc, htt.out, Hx.out]
          · show _ = _
            rw [take_succ_snoc xs j (by rw [HX.out]; exact hlt), maxW_snoc, hvv.out, Hx.out]
            omega
    · have ej : j = m := by omega
      subst ej
      have hp : v = p := by
        have := hvv.out
        rw [List.take_of_length_le (by rw [HX.out]; omega)] at this
        rw [← this, ← HW.out]
      have hq : t + j - 1 ≤ q + xl.d := by
        have := htt.out
        rw [List.take_of_length_le (by rw [HX.out]; omega)] at this
        have h2 := HT.out
        rw [this] at h2
        exact h2
      subst hp
      obtain ⟨hgB, k2⟩ := HR3.out.at0 (i := j - 1) (j := 2) (by omega) (by omega)
      have c0 : wr.cell? ⟨g, (j - 1) * 3 + 2, none⟩ = _ := (hbel.cell (p := ⟨g, (j - 1) * 3 + 2, none⟩) hgB).trans k2
      simp only [bxc, HXL.out] at c0
      clear k2
      have hBw := HBb.out.then_ hbel
      have tblt := hBw.lt
      have tbc0 := hBw.cell 0; have tbf0 := hBw.frozen 0
      have tbc1 := hBw.cell 1; have tbf1 := hBw.frozen 1
      have tbc2 := hBw.cell 2; have tbf2 := hBw.frozen 2
      simp only [List.getElem?_toArray, List.getElem?_cons_zero, List.getElem?_cons_succ] at tbc0 tbc1 tbc2
      have a1 : IntKind.i64.wrap ((j : Int) - 1) = (j : Int) - 1 := IntWalk.i64_in _ (by omega)
      have a2 : (0 : Int) ≤ (j : Int) - 1 := by omega
      have a3 : (j : Int) - 1 < (j : Int) := by omega
      have a4 : ((j : Int) - 1).toNat = j - 1 := by omega
      have a5 : IntKind.i64.wrap (q + xl.d) = q + xl.d := IntWalk.i64_in _ (by omega)
      have a6 : IntKind.i64.wrap (t + (j : Int)) = t + (j : Int) := IntWalk.i64_in _ (by omega)
      have a7 : IntKind.i64.wrap (t + (j : Int) - 1) = t + (j : Int) - 1 := IntWalk.i64_in _ (by omega)
      have a8 : decide (t + (j : Int) - 1 ≤ q + xl.d) = true := decide_eq_true (by omega)
      clear hBw
      go_wp2_with fail
      go_quiet (fail)
      go_wp2_with fail
      go_returns
      exact ⟨rfl, by (repeat' (first | (with_reducible exact Below.refl _ _) | (with_reducible assumption) | (with_reducible refine Below.alloc ?_ ?_ _) | (with_reducible refine Below.drew ?_) | (with_reducible refine below_drewN ?_ _) | (with_reducible refine Below.setCell ?_ ?_ _) | (with_reducible refine below_then ?_ ?_ (by with_reducible assumption)) | (with_reducible exact Nat.le_refl _) | go_size | (simp only [*]; done)))⟩

set_option maxHeartbeats 4000000 in
theorem law_StackOne (A : Option Addr) (n cap : Nat) (cs : List Int) (w : World) (hc : Code w A n cap cs) :
    Calls Try.prog 14 #[.slice A n cap] w fun e w' => e = .returned (.bool true) ∧ Below w.heap.size w w' := by
  have hn := hc.1
  unfold maxLen at hn
  by_cases hbig : 1048576 < n
  · go_enter Try.func14, Try.ntmps14
    go_wp2
    go_returns
    exact ⟨rfl, Below.refl _ _⟩
  go_enter Try.func14, Try.ntmps14
  go_wp2_with fail
  ((with_reducible refine (DrawStackBox_any _ _ _ cs _ hc).mono ?_); rintro e w1 ⟨B, m, c, xs, s, rfl, hx, hm, hcp, hr1, hb1⟩)
  have HX := Lib.hid hx; clear hx
  have hz1 := hb1.size
  have hmx : m ≤ maxLen := by unfold maxLen; omega
  obtain ⟨hm1, hm2, g, rfl⟩ := hcp
  unfold maxLen at hm2
  obtain ⟨⟨⟨p, q, r⟩, ok⟩, hx⟩ : ∃ r, stackB xs s = r := ⟨_, rfl⟩
  have HB := Lib.hid hx; clear hx
  go_wp2_with fail
  ((with_reducible refine (stackBox_i _ _ _ _ xs _ HX.out hmx ?_).mono ?_); (exact hr1); rintro e w2 ⟨rfl, hb2⟩)
  (have hz2 := hb2.size; (try simp at hz2); obtain ⟨hc2, hf2⟩ := bcell hb2; (try have hz_w1_0_w2 : w1.heap.size < w2.heap.size := by omega); (try have hz_w1_1_w2 : w1.heap.size + 1 < w2.heap.size := by omega))
  rw [HB.out]
  have hr2 := hr1.then_ hb2
  go_wp2_with fail
  ((with_reducible refine (stackBox_s _ _ _ _ xs _ HX.out hmx ?_).mono ?_); (exact hr2.alloc' _); rintro e w3 ⟨rfl, hb3⟩)
  (have hz3 := hb3.size; (try simp at hz3); obtain ⟨hc3, hf3⟩ := bcell hb3; (try have hz_w1_0_w3 : w1.heap.size < w3.heap.size := by omega); (try have hz_w1_1_w3 : w1.heap.size + 1 < w3.heap.size := by omega); (try have hz_w2_0_w3 : w2.heap.size < w3.heap.size := by omega); (try have hz_w2_1_w3 : w2.heap.size + 1 < w3.heap.size := by omega))
  rw [HB.out]
  have hr3 := (hr2.alloc' _).then_ hb3
  cases ok
  · go_wp2_with fail
    all_goals (go_returns; exact ⟨rfl, by (repeat' (first | (with_reducible exact Below.refl _ _) | (with_reducible assumption) | (with_reducible refine Below.alloc ?_ ?_ _) | (with_reducible refine Below.drew ?_) | (with_reducible refine below_drewN ?_ _) | (with_reducible refine Below.setCell ?_ ?_ _) | (with_reducible refine below_then ?_ ?_ (by with_reducible assumption)) | (with_reducible exact Nat.le_refl _) | go_size | (simp only [*]; done)))⟩)
  by_cases hm0 : m = 0
  · subst hm0
    go_wp2_with fail
    all_goals (go_returns; exact ⟨rfl, by (repeat' (first | (with_reducible exact Below.refl _ _) | (with_reducible assumption) | (with_reducible refine Below.alloc ?_ ?_ _) | (with_reducible refine Below.drew ?_) | (with_reducible refine below_drewN ?_ _) | (with_reducible refine Below.setCell ?_ ?_ _) | (with_reducible refine below_then ?_ ?_ (by with_reducible assumption)) | (with_reducible exact Nat.le_refl _) | go_size | (simp only [*]; done)))⟩)
  have hm0b : ((m : Int) == 0) = false := by simp; omega
  have hmpos : 0 < m := by omega
  obtain ⟨x0, hx0⟩ : ∃ x, xs.getD 0 default = x := ⟨_, rfl⟩
  obtain ⟨ho1, ho2⟩ := stack_one HB.out (by rw [HX.out]; exact hmpos) hx0
  have HO1 := Lib.hid ho1
  have HO2 := Lib.hid ho2
  have HX0 := Lib.hid hx0
  have HT1 : Hid ((xs.take 1).length = 1) := by
    show _ = _
    rw [List.length_take, HX.out]; omega
  have HR3 := Lib.hid (hr3.alloc' (.cells #[.int .i64 p, .int .i64 q, .int .i64 r] 25))
  have hB3 : Below w.heap.size w (w3.alloc (.cells #[.int .i64 p, .int .i64 q, .int .i64 r] 25)) := by (repeat' (first | (with_reducible exact Below.refl _ _) | (with_reducible assumption) | (with_reducible refine Below.alloc ?_ ?_ _) | (with_reducible refine Below.drew ?_) | (with_reducible refine below_drewN ?_ _) | (with_reducible refine Below.setCell ?_ ?_ _) | (with_reducible refine below_then ?_ ?_ (by with_reducible assumption)) | (with_reducible exact Nat.le_refl _) | go_size | (simp only [*]; done)))
  have h1c : (1 : Int) ≤ (c : Int) := by omega
  clear ho1 ho2 hx0 hr1 hr2 hr3 hm0
  go_wp2_with fail
  ((with_reducible refine (stackBox_i _ _ _ _ (xs.take 1) _ HT1.out (by unfold maxLen; omega) ?_).mono ?_); (exact HR3.out.cutS 1 (by omega)); rintro e w4 ⟨rfl, hb4⟩)
  rw [HO1.out]
  have hz4 := hb4.size
  simp only [World.size_alloc] at hz4
  have hB4 := below_then (Nat.le_refl _) hB3 hb4
  have HR4 := Lib.hid (HR3.out.then_ hb4)
  have HX4 := Lib.hid (Blk.new w4 25 #[.int .i64 x0.w, .int .i64 x0.h, .int .i64 x0.d])
  go_wp2_with fail
  ((with_reducible refine (rowBox_i _ _ _ (xs.take 1) _ HT1.out (by unfold maxLen; omega) ?_).mono ?_); (exact (HR4.out.alloc' _).cutS 1 (by omega)); rintro e w5 ⟨rfl, hb5⟩)
  rw [HO2.out]
  have hz5 := hb5.size
  simp only [World.size_alloc] at hz5
  have hB5 := below_then (Nat.le_refl _) (hB4.alloc hB4.size _) hb5
  have hX5 := (HX4.out.then_ hb5).alloc (.cells #[.int .i64 x0.w, .int .i64 x0.h, .int .i64 x0.d] 25)
  have hY5 := Blk.new w5 25 #[.int .i64 x0.w, .int .i64 x0.h, .int .i64 x0.d]
  have HR5 := (HR4.out.alloc' _).then_ hb5
  have HR6 := HR5.alloc' (.cells #[.int .i64 x0.w, .int .i64 x0.h, .int .i64 x0.d] 25)
  obtain ⟨_, c0⟩ := HR6.at0 (i := 0) (j := 0) hmpos (by omega)
  obtain ⟨_, c1⟩ := HR6.at0 (i := 0) (j := 1) hmpos (by omega)
  obtain ⟨_, c2⟩ := HR6.at0 (i := 0) (j := 2) hmpos (by omega)
  simp only [bxc, HX0.out] at c0 c1 c2
  simp only [Nat.zero_mul, Nat.zero_add] at c0 c1 c2
  have txlt := hX5.lt
  have txc0 := hX5.cell 0; have txf0 := hX5.frozen 0
  have txc1 := hX5.cell 1; have txf1 := hX5.frozen 1
  have txc2 := hX5.cell 2; have txf2 := hX5.frozen 2
  simp only [List.getElem?_toArray, List.getElem?_cons_zero, List.getElem?_cons_succ] at txc0 txc1 txc2
  have tylt := hY5.lt
  have tyc0 := hY5.cell 0; have tyf0 := hY5.frozen 0
  have tyc1 := hY5.cell 1; have tyf1 := hY5.frozen 1
  have tyc2 := hY5.cell 2; have tyf2 := hY5.frozen 2
  simp only [List.getElem?_toArray, List.getElem?_cons_zero, List.getElem?_cons_succ] at tyc0 tyc1 tyc2
  have a1 : (0 : Int) < (m : Int) := by omega
  clear hX5 hY5 HR5 HR6
  go_wp2_with fail
  go_quiet (fail)
  go_wp2_with fail
  go_returns
  exact ⟨rfl, by (repeat' (first | (with_reducible exact Below.refl _ _) | (with_reducible assumption) | (with_reducible refine Below.alloc ?_ ?_ _) | (with_reducible refine Below.drew ?_) | (with_reducible refine below_drewN ?_ _) | (with_reducible refine Below.setCell ?_ ?_ _) | (with_reducible refine below_then ?_ ?_ (by with_reducible assumption)) | (with_reducible exact Nat.le_refl _) | go_size | (simp only [*]; done)))⟩
end Go.Proofs.Ytdbjjfjagalhbaa
