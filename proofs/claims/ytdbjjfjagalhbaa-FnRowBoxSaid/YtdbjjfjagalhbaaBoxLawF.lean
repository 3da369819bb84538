/- The laws on rows of drawn boxes answer true: FnRowBox, FnRowNested. Conditions: the code is a slice of bytes. -/
import Derived.Test.YtdbjjfjagalhbaaBoxDraw2
import Derived.Test.YtdbjjfjagalhbaaBoxS
import Derived.Test.YtdbjjfjagalhbaaBoxPlain2
import Derived.Outline
import Derived.Deep.QuietTactic
import Derived.BigQuiet
namespace Go.Proofs.Ytdbjjfjagalhbaa
open Go.RowKit

set_option maxHeartbeats 2000000 in
theorem law_RowBox (A : Option Addr) (n cap : Nat) (cs : List Int) (w : World) (hc : Code w A n cap cs) :
    Calls Try.prog 10 #[.slice A n cap] w fun e w' => e = .returned (.bool true) ∧ Below w.heap.size w w' := by
  have hn := hc.1
  unfold maxLen at hn
  by_cases hbig : 1048576 < n
  · go_enter Try.func10, Try.ntmps10
    go_wp2
    go_returns
    exact ⟨rfl, Below.refl _ _⟩
  obtain ⟨i0, hi, hz0, hz1', hz2'⟩ := info_parts box_info'
  go_enter Try.func10, Try.ntmps10
  go_wp2_with fail
  ((with_reducible refine (DrawRowBox_any _ _ _ cs _ hc).mono ?_); rintro e w1 ⟨B, m, c, xs, rfl, hx, hm, hcp, hr1, hb1⟩)
  have HCP := Lib.hid hcp; clear hcp
  have HX := Lib.hid hx; clear hx
  have hz1 := hb1.size
  have hmx : m ≤ maxLen := by unfold maxLen; omega
  obtain ⟨⟨⟨p, q, r⟩, ok⟩, hx⟩ : ∃ r, rowB xs = r := ⟨_, rfl⟩
  have HB := Lib.hid hx; clear hx
  go_wp2_with fail
  ((with_reducible refine (rowBox_i _ _ _ xs _ HX.out hmx ?_).mono ?_); (exact hr1); rintro e w2 ⟨rfl, hb2⟩)
  (have hz2 := hb2.size; (try simp at hz2); obtain ⟨hc2, hf2⟩ := bcell hb2; (try have hz_w1_0_w2 : w1.heap.size < w2.heap.size := by omega); (try have hz_w1_1_w2 : w1.heap.size + 1 < w2.heap.size := by omega))
  rw [HB.out]
  have hr2 := hr1.then_ hb2
  go_wp2_with fail
  ((with_reducible refine (rowBox_s _ _ _ xs _ HX.out hmx ?_).mono ?_); (exact hr2.alloc' _); rintro e w3 ⟨rfl, hb3⟩)
  (have hz3 := hb3.size; (try simp at hz3); obtain ⟨hc3, hf3⟩ := bcell hb3; (try have hz_w1_0_w3 : w1.heap.size < w3.heap.size := by omega); (try have hz_w1_1_w3 : w1.heap.size + 1 < w3.heap.size := by omega); (try have hz_w2_0_w3 : w2.heap.size < w3.heap.size := by omega); (try have hz_w2_1_w3 : w2.heap.size + 1 < w3.heap.size := by omega))
  rw [HB.out]
  have hr3 := (hr2.alloc' _).then_ hb3
  cases ok
  · go_wp2_with fail
    all_goals (go_returns; exact ⟨rfl, by (repeat' (first | (with_reducible exact Below.refl _ _) | (with_reducible assumption) | (with_reducible refine Below.alloc ?_ ?_ _) | (with_reducible refine Below.drew ?_) | (with_reducible refine below_drewN ?_ _) | (with_reducible refine Below.setCell ?_ ?_ _) | (with_reducible refine below_then ?_ ?_ (by with_reducible assumption)) | (with_reducible exact Nat.le_refl _) | go_size | (simp only [*]; done)))⟩)
  have hok := (rowB_true HB.out).1
  have hF : rowF xs = ⟨p, q, r⟩ := (rowB_true HB.out).2.1.symm
  have hv := (rowB_true HB.out).2.2
  obtain ⟨⟨p0, p1⟩, ⟨q0, q1⟩, r0, r1⟩ := vBox_iff.1 hv
  simp only at p0 p1 q0 q1 r0 r1
  have HV := Lib.hid hv
  have HF := Lib.hid hF
  have HOK := Lib.hid hok
  clear hv hF hok
  have HRl : (xs.reverse).length = m := by rw [List.length_reverse, HX.out]
  have HRL := Lib.hid HRl
  clear HRl
  have HBb := Lib.hid ((Blk.new w2 25 #[.int .i64 p, .int .i64 q, .int .i64 r]).then_ hb3)
  have hr3' := Lib.hid hr3
  go_wp2_with fail
  go_loopg [8, 9, 10] m (fun kk o wd cnt wr => ∃ (k g c q' : Nat) (s z : Int), kk = k ∧ o = .slice (some ⟨g, 0, none⟩) q' c ∧ wd = .int .i64 s ∧ cnt = .int .i64 z ∧ z = (k : Int) - 1 ∧ k + q' = m ∧ Hid ((rowF ((xs.reverse).take q')).w = s) ∧ Hid (wr.ownsRow w3.heap.size 25 3 (.slice (some ⟨g, 0, none⟩) q' c) q' (((xs.reverse).take q').flatMap bxl)) ∧ Below w3.heap.size w3 wr)
  case atStart => exact ⟨m, w3.heap.size + 1, 0, 0, 0, (m : Int) - 1, rfl, rfl, rfl, rfl, rfl, by omega, rfl, owns_nil _ _ _ _ _ _ _ (Blk.new_at _ _ _ _ (by simp)) (by omega) (by unfold maxLen; omega) rfl, by (repeat' (first | (with_reducible exact Below.refl _ _) | (with_reducible assumption) | (with_reducible refine Below.alloc ?_ ?_ _) | (with_reducible refine Below.drew ?_) | (with_reducible refine below_drewN ?_ _) | (with_reducible refine Below.setCell ?_ ?_ _) | (with_reducible refine below_then ?_ ?_ (by with_reducible assumption)) | (with_reducible exact Nat.le_refl _) | go_size | (simp only [*]; done)))⟩
  case round =>
    obtain ⟨k, g, c', q', s, z, hk, rfl, rfl, rfl, hz, hkq, hs, hown, hbel⟩ := hrel
    have HK := Lib.hid hk; clear hk
    have hsz := hbel.size
    obtain ⟨⟨s0, s1⟩, _⟩ := rowF_bound (l := xs.reverse) (by rw [boxesOk_rev]; exact HOK.out) q' (by rw [HRL.out]; omega) rfl
    rw [hs.out] at s0 s1
    have hgb := (hown.out.lt g rfl).1
    rcases Nat.eq_zero_or_pos k with hk0 | hk0
    · subst hk0
      obtain rfl : z = -1 := by omega
      obtain rfl : q' = m := by omega
      have ho := hown.out
      have hsp := hs.out
      rw [List.take_of_length_le (by rw [HRL.out]; exact Nat.le_refl _)] at ho hsp
      have hsp' : s = p := by rw [← hsp, rowF_rev, HF.out]
      subst hsp'
      have hrb := Lib.hid (rowB_rev HB.out)
      have hrow := Lib.hid (Row.owned ho (f := bxc xs.reverse) (fun i k hi hk => bxl_at i k (by rw [HRL.out]; exact hi) hk))
      have hBb := HBb.out.below hbel (by omega)
      have HBw := Lib.hid hBb
      have tlt := hBb.lt
      have tc0 := hBb.cell 0; have tf0 := hBb.frozen 0
      have tc1 := hBb.cell 1; have tf1 := hBb.frozen 1
      have tc2 := hBb.cell 2; have tf2 := hBb.frozen 2
      simp only [List.getElem?_toArray, List.getElem?_cons_zero, List.getElem?_cons_succ] at tc0 tc1 tc2
      clear ho hsp hs hown hBb hz hkq
      go_wp2_with fail
      ((with_reducible refine (rowBox_i _ _ _ xs.reverse _ HRL.out hmx ?_).mono ?_); (exact hrow.out); rintro e w5 ⟨rfl, hb5⟩)
      rw [hrb.out]
      have hBb5 := HBw.out.then_ hb5
      have hz5 := hb5.size
      have ult := hBb5.lt
      have uc0 := hBb5.cell 0; have uf0 := hBb5.frozen 0
      have uc1 := hBb5.cell 1; have uf1 := hBb5.frozen 1
      have uc2 := hBb5.cell 2; have uf2 := hBb5.frozen 2
      simp only [List.getElem?_toArray, List.getElem?_cons_zero, List.getElem?_cons_succ] at uc0 uc1 uc2
      go_wp2_with fail
      ((with_reducible refine (validBox_i _ _ _ _).mono ?_); rintro e w6 ⟨rfl, hb6⟩)
      rw [show vBox s q r = true from HV.out]
      have hz6 := hb6.size
      go_wp2
      go_returns
      exact ⟨rfl, by (repeat' (first | (with_reducible exact Below.refl _ _) | (with_reducible assumption) | (with_reducible refine Below.alloc ?_ ?_ _) | (with_reducible refine Below.drew ?_) | (with_reducible refine below_drewN ?_ _) | (with_reducible refine Below.setCell ?_ ?_ _) | (with_reducible refine below_then ?_ ?_ (by with_reducible assumption)) | (with_reducible exact Nat.le_refl _) | go_size | (simp only [*]; done)))⟩
    · obtain ⟨i, rfl⟩ : ∃ i, k = i + 1 := ⟨k - 1, by omega⟩
      obtain rfl : z = (i : Int) := by omega
      have hlt : i < m := by omega
      clear hk0 hz
      obtain ⟨b, off, rfl, hb, hc⟩ := hr3'.out (by omega)
      obtain ⟨x, hx⟩ : ∃ x, xs.getD i default = x := ⟨_, rfl⟩
      have hxr : (xs.reverse).getD q' default = x := by
        rw [← hx, List.getD_eq_getElem?_getD, List.getD_eq_getElem?_getD, List.getElem?_reverse (by rw [HX.out]; omega), HX.out]
        congr 2
        omega
      obtain ⟨l1, l2⟩ := rowF_mem (mem_of_getD' xs i (by rw [HX.out]; exact hlt) hx)
      rw [HF.out] at l1 l2
      obtain ⟨⟨g1, g2⟩, ⟨g3, g4⟩, g5, g6⟩ := boxesOk_at HOK.out (k := i) (by rw [HX.out]; exact hlt) hx
      have c0 : wr.cell? ⟨b, off + i * 3, none⟩ = _ := (hbel.cell (p := ⟨b, off + i * 3, none⟩) hb).trans (hc i 0 hlt (by omega))
      have c1 : wr.cell? ⟨b, off + i * 3 + 1, none⟩ = _ := (hbel.cell (p := ⟨b, off + i * 3 + 1, none⟩) hb).trans (hc i 1 hlt (by omega))
      have c2 : wr.cell? ⟨b, off + i * 3 + 2, none⟩ = _ := (hbel.cell (p := ⟨b, off + i * 3 + 2, none⟩) hb).trans (hc i 2 hlt (by omega))
      simp only [bxc, hx] at c0 c1 c2
      have HO := Lib.hid (hown.out.alloc (.cells #[.int .i64 x.w, .int .i64 x.h, .int .i64 x.d] 25))
      have HB1 := Lib.hid (Blk.new wr 25 #[.int .i64 x.w, .int .i64 x.h, .int .i64 x.d])
      have HS2 := Lib.hid (show w3.heap.size ≤ (wr.alloc (.cells #[.int .i64 x.w, .int .i64 x.h, .int .i64 x.d] 25)).heap.size by simp; omega)
      have HC := Lib.hid hc
      have Hx := Lib.hid hx
      have Hxr := Lib.hid hxr
      clear hx hxr hc
      go_wp2_with (at_builtin; (refine wpList_append_one _ rfl _ _ 43 rfl w3.heap.size 25 i0 _ 3 24 Try.underlying43 hi hz0 hz1' hz2' rfl (by omega) (some ⟨g, 0, none⟩) q' c' (((xs.reverse).take q').flatMap bxl) rfl HO.out wr.heap.size (bxl x) rfl rfl HB1.out (bxl_one _) (by omega) (by omega) HS2.out ?_); intro g' c'' w4 hown4 hgr4; (have hbel4 : Below w3.heap.size w3 w4 := (hbel.alloc hsz _).grown hgr4 HS2.out (by intro k hk; simp [Value.ownBlock] at hk; omega)); (have d0 : w4.cell? ⟨b, off + i * 3, none⟩ = _ := (hbel4.cell (p := ⟨b, off + i * 3, none⟩) hb).trans (HC.out i 0 hlt (by omega))); (have d1 : w4.cell? ⟨b, off + i * 3 + 1, none⟩ = _ := (hbel4.cell (p := ⟨b, off + i * 3 + 1, none⟩) hb).trans (HC.out i 1 hlt (by omega))); (have d2 : w4.cell? ⟨b, off + i * 3 + 2, none⟩ = _ := (hbel4.cell (p := ⟨b, off + i * 3 + 2, none⟩) hb).trans (HC.out i 2 hlt (by omega))); (simp only [bxc, Hx.out] at d0 d1 d2); (have hBb4 := HBb.out.below hbel4 (by omega)); (have tlt := hBb4.lt; have tc0 := hBb4.cell 0; have tf0 := hBb4.frozen 0; have tc1 := hBb4.cell 1; have tf1 := hBb4.frozen 1; have tc2 := hBb4.cell 2; have tf2 := hBb4.frozen 2; simp only [List.getElem?_toArray, List.getElem?_cons_zero, List.getElem?_cons_succ] at tc0 tc1 tc2); (have hown4' := Lib.hid hown4); (clear c0 c1 c2 hown4 hgr4))
      have e1 : decide (q < x.h) = false := decide_eq_false (by omega)
      have e2 : decide (r < x.d) = false := decide_eq_false (by omega)
      go_quiet (fail)
      go_wp2_with fail
      go_roundg i
      case measure => have := HK.out; omega
      case rel =>
        refine ⟨i, g', c'', q' + 1, s + x.w, (i : Int) - 1, rfl, rfl, rfl, rfl, rfl, by omega, ?_, ?_, below_drewN hbel4 _⟩
        · show _ = _
          rw [rowF_snoc xs.reverse q' (by rw [HRL.out]; omega), Hxr.out]
          simp only [rowStep, hs.out]
        · show World.ownsRow _ _ _ _ _ _ _
          rw [take_succ_snoc xs.reverse q' (by rw [HRL.out]; omega), Hxr.out, flat_snoc]
          exact hown4'.out
end Go.Proofs.Ytdbjjfjagalhbaa
