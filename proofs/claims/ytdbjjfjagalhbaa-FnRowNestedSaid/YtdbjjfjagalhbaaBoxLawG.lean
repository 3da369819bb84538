/- The law on nested rows of drawn boxes answers true: FnRowNested. Conditions: the code is a slice of bytes. -/
import Derived.Test.YtdbjjfjagalhbaaBoxDraw2
import Derived.Test.YtdbjjfjagalhbaaBoxS
import Derived.Test.YtdbjjfjagalhbaaBoxPlain2
import Derived.Deep.QuietTactic
import Derived.BigQuiet
namespace Go.Proofs.Ytdbjjfjagalhbaa
open Go.RowKit

theorem Row.cut {w : World} {B g n : Nat} {xs : List Bx} (h : Row w B 3 (some ⟨g, 0, none⟩) n (bxc xs)) (k : Nat) (hk : k ≤ n) : Row w B 3 (some ⟨g, 0, none⟩) k (bxc (xs.take k)) :=
  (h.init hk).congr fun i j hi _ => by
    have e : (xs.take k).getD i default = xs.getD i default := by
      rw [List.getD_eq_getElem?_getD, List.getD_eq_getElem?_getD, List.getElem?_take_of_lt hi]
    simp only [bxc, e]
theorem Row.rest {w : World} {B g n : Nat} {xs : List Bx} (h : Row w B 3 (some ⟨g, 0, none⟩) n (bxc xs)) (k : Nat) (hk : k ≤ n) : Row w B 3 (some ⟨g, k * 3, none⟩) (n - k) (bxc (xs.drop k)) := fun hn => by
  obtain ⟨b, off, e, hb, hc⟩ := h (by omega)
  injection e with e
  injection e with e1 e2
  subst e1 e2
  refine ⟨g, k * 3, rfl, hb, fun i j hi hj => ?_⟩
  have e : (xs.drop k).getD i default = xs.getD (k + i) default := by
    rw [List.getD_eq_getElem?_getD, List.getD_eq_getElem?_getD, List.getElem?_drop]
  have := hc (k + i) j (by omega) hj
  have e2 : k * 3 + i * 3 + j = 0 + (k + i) * 3 + j := by omega
  rw [e2, this]
  simp only [bxc, e]
theorem Row.two {w : World} {g : Nat} {t : TypeId} (a b : Bx) (h : Blk w g t #[.int .i64 a.w, .int .i64 a.h, .int .i64 a.d, .int .i64 b.w, .int .i64 b.h, .int .i64 b.d]) : Row w w.heap.size 3 (some ⟨g, 0, none⟩) 2 (bxc [a, b]) := fun _ =>
  ⟨g, 0, rfl, h.lt, fun i j hi hj => by
    rw [h.cell]
    match i, j, hi, hj with
    | 0, 0, _, _ => rfl
    | 0, 1, _, _ => rfl
    | 0, 2, _, _ => rfl
    | 1, 0, _, _ => rfl
    | 1, 1, _, _ => rfl
    | 1, 2, _, _ => rfl⟩

set_option maxHeartbeats 2000000 in
theorem law_RowNested (A : Option Addr) (n cap : Nat) (cs : List Int) (A' : Option Addr) (n' cap' : Nat) (cs' : List Int) (w : World) (hc : Code w A n cap cs) (hc' : Code w A' n' cap' cs') :
    Calls Try.prog 11 #[.slice A n cap, .slice A' n' cap'] w fun e w' => e = .returned (.bool true) ∧ Below w.heap.size w w' := by
  have hn := hc.1
  have hn' := hc'.1
  unfold maxLen at hn hn'
  clear hc'
  by_cases hbig : 1048576 < n
  · go_enter Try.func11, Try.ntmps11
    go_wp2
    go_returns
    exact ⟨rfl, Below.refl _ _⟩
  by_cases hbig' : 1048576 < n'
  · go_enter Try.func11, Try.ntmps11
    go_wp2
    go_returns
    exact ⟨rfl, Below.refl _ _⟩
  go_enter Try.func11, Try.ntmps11
  go_wp2_with fail
  ((with_reducible refine (DrawRowBox_any _ _ _ cs _ hc).mono ?_); rintro e w1 ⟨B, m, c, xs, rfl, hx, hm, hcp, hr1, hb1⟩)
  have HCP := Lib.hid hcp; clear hcp
  have HX := Lib.hid hx; clear hx
  have hz1 := hb1.size
  have hmx : m ≤ maxLen := by unfold maxLen; omega
  obtain ⟨⟨⟨p, q, r⟩, ok⟩, hx⟩ : ∃ r, rowB xs = r := ⟨_, rfl⟩
  have HB := Lib.hid hx; clear hx
  go_wp2_with fail
  ((with_reducible refine (rowBox_i _ _ _ xs _ HX.out hmx ?_).mono ?_); (exact hr1); rintro e w2 ⟨rfl, hb2⟩)
  (have hz2 := hb2.size; (try simp at hz2); obtain ⟨hc2, hf2⟩ := bcell hb2; (try have hz_w1_0_w2 : w1.heap.size < w2.heap.size := by omega); (try have hz_w1_1_w2 : w1.heap.size + 1 < w2.heap.size := by omega))
  rw [HB.out]
  have hr2 := hr1.then_ hb2
  go_wp2_with fail
  ((with_reducible refine (rowBox_s _ _ _ xs _ HX.out hmx ?_).mono ?_); (exact hr2.alloc' _); rintro e w3 ⟨rfl, hb3⟩)
  (have hz3 := hb3.size; (try simp at hz3); obtain ⟨hc3, hf3⟩ := bcell hb3; (try have hz_w1_0_w3 : w1.heap.size < w3.heap.size := by omega); (try have hz_w1_1_w3 : w1.heap.size + 1 < w3.heap.size := by omega); (try have hz_w2_0_w3 : w2.heap.size < w3.heap.size := by omega); (try have hz_w2_1_w3 : w2.heap.size + 1 < w3.heap.size := by omega))
  rw [HB.out]
  have hr3 := (hr2.alloc' _).then_ hb3
  cases ok
  · go_wp2_with fail
    all_goals (go_returns; exact ⟨rfl, by (repeat' (first | (with_reducible exact Below.refl _ _) | (with_reducible assumption) | (with_reducible refine Below.alloc ?_ ?_ _) | (with_reducible refine Below.drew ?_) | (with_reducible refine below_drewN ?_ _) | (with_reducible refine Below.setCell ?_ ?_ _) | (with_reducible refine below_then ?_ ?_ (by with_reducible assumption)) | (with_reducible exact Nat.le_refl _) | go_size | (simp only [*]; done)))⟩)
  have hkm : n' % (m + 1) ≤ m := by have := Nat.mod_lt n' (show 0 < m + 1 by omega); omega
  have hzk : (n' : Int) % ((m : Int) + 1) = ((n' % (m + 1) : Nat) : Int) := by simp
  obtain ⟨hn1, hn2, hn3⟩ := row_nested HB.out (n' % (m + 1))
  obtain ⟨x, hx⟩ : ∃ x, rowF (xs.take (n' % (m + 1))) = x := ⟨_, rfl⟩
  obtain ⟨y, hy⟩ : ∃ y, rowF (xs.drop (n' % (m + 1))) = y := ⟨_, rfl⟩
  rw [hx] at hn1
  rw [hy] at hn2
  rw [hx, hy] at hn3
  have HN1 := Lib.hid hn1
  have HN2 := Lib.hid hn2
  have HN3 := Lib.hid hn3
  obtain ⟨hm1, hm2, g, rfl⟩ := HCP.out
  have HT1 : Hid ((xs.take (n' % (m + 1))).length = (n' % (m + 1))) := by
    show _ = _
    rw [List.length_take, HX.out]; omega
  have HT2 : Hid ((xs.drop (n' % (m + 1))).length = m - (n' % (m + 1))) := by
    show _ = _
    rw [List.length_drop, HX.out]
  clear hn1 hn2 hn3 hx hy hc3 hf3 hc2 hf2
  have HBb := Lib.hid ((Blk.new w2 25 #[.int .i64 p, .int .i64 q, .int .i64 r]).then_ hb3)
  have hb30 := HBb.out
  have t0lt := hb30.lt
  have t0c0 := hb30.cell 0; have t0f0 := hb30.frozen 0
  have t0c1 := hb30.cell 1; have t0f1 := hb30.frozen 1
  have t0c2 := hb30.cell 2; have t0f2 := hb30.frozen 2
  simp only [List.getElem?_toArray, List.getElem?_cons_zero, List.getElem?_cons_succ] at t0c0 t0c1 t0c2
  clear hb30
  have HR3 := Lib.hid hr3
  have hkI2 : (0 : Int) ≤ (n' : Int) % ((m : Int) + 1) := by rw [hzk]; omega
  have hkI3 : (n' : Int) % ((m : Int) + 1) ≤ (m : Int) := by rw [hzk]; omega
  have hkI4 : (n' : Int) % ((m : Int) + 1) ≤ (c : Int) := by rw [hzk]; omega
  clear hzk
  have hkI5 : (m : Int) ≤ (c : Int) := by omega
  have hc0 : (n' % (m + 1)) ≤ c := by omega
  unfold maxLen at hm2
  clear hr1 hr2 hr3
  have hB3 : Below w.heap.size w (w3.alloc (.cells #[.int .i64 p, .int .i64 q, .int .i64 r] 25)) := by (repeat' (first | (with_reducible exact Below.refl _ _) | (with_reducible assumption) | (with_reducible refine Below.alloc ?_ ?_ _) | (with_reducible refine Below.drew ?_) | (with_reducible refine below_drewN ?_ _) | (with_reducible refine Below.setCell ?_ ?_ _) | (with_reducible refine below_then ?_ ?_ (by with_reducible assumption)) | (with_reducible exact Nat.le_refl _) | go_size | (simp only [*]; done)))
  go_wp2_with fail
  ((with_reducible refine (rowBox_i _ _ _ (xs.take (n' % (m + 1))) _ HT1.out (by unfold maxLen; omega) ?_).mono ?_); (exact (HR3.out.alloc' _).cut (n' % (m + 1)) hkm); rintro e w4 ⟨rfl, hb4⟩)
  rw [HN1.out]
  have hz4 := hb4.size
  simp only [World.size_alloc] at hz4
  have hB4 := below_then (Nat.le_refl _) hB3 hb4
  have HR4 := Lib.hid ((HR3.out.alloc' _).then_ hb4)
  have HB4 := Lib.hid ((HBb.out.alloc _).then_ hb4)
  have HX4 := Lib.hid (Blk.new w4 25 #[.int .i64 x.w, .int .i64 x.h, .int .i64 x.d])
  by_cases hck : c = (n' % (m + 1))
  all_goals
    go_wp2_with fail
    ((with_reducible refine (rowBox_i _ _ _ (xs.drop (n' % (m + 1))) _ HT2.out (by unfold maxLen; omega) ?_).mono ?_); (first | exact (HR4.out.alloc' _).rest (n' % (m + 1)) hkm | (exact fun h => absurd h (by omega))); rintro e w5 ⟨rfl, hb5⟩)
    rw [HN2.out]
    have hz5 := hb5.size
    simp only [World.size_alloc] at hz5
    have hB5 := below_then (Nat.le_refl _) (hB4.alloc hB4.size _) hb5
    have HB5 := Lib.hid ((HB4.out.alloc _).then_ hb5)
    have hX5 := (HX4.out.then_ hb5).alloc (.cells #[.int .i64 y.w, .int .i64 y.h, .int .i64 y.d] 25)
    have hY5 := Blk.new w5 25 #[.int .i64 y.w, .int .i64 y.h, .int .i64 y.d]
    have txlt := hX5.lt
    have txc0 := hX5.cell 0; have txf0 := hX5.frozen 0
    have txc1 := hX5.cell 1; have txf1 := hX5.frozen 1
    have txc2 := hX5.cell 2; have txf2 := hX5.frozen 2
    simp only [List.getElem?_toArray, List.getElem?_cons_zero, List.getElem?_cons_succ] at txc0 txc1 txc2
    have tylt := hY5.lt
    have tyc0 := hY5.cell 0; have tyf0 := hY5.frozen 0
    have tyc1 := hY5.cell 1; have tyf1 := hY5.frozen 1
    have tyc2 := hY5.cell 2; have tyf2 := hY5.frozen 2
    simp only [List.getElem?_toArray, List.getElem?_cons_zero, List.getElem?_cons_succ] at tyc0 tyc1 tyc2
    clear hX5 hY5
    go_wp2_with fail
    ((with_reducible refine (rowBox_i _ 2 _ [x, y] _ rfl (by unfold maxLen; omega) ?_).mono ?_); (exact Row.two x y (Blk.new_at _ _ _ _ (by simp))); rintro e w6 ⟨rfl, hb6⟩)
    rw [HN3.out]
    have hz6 := hb6.size
    simp only [World.size_alloc] at hz6
    have hB6 := below_then (Nat.le_refl _) ((hB5.alloc hB5.size _).alloc (by simp; have := hB5.size; omega) _) hb6
    have hBe := (((HB5.out.alloc _).alloc _).then_ hb6).alloc (.cells #[.int .i64 p, .int .i64 q, .int .i64 r] 25)
    have tblt := hBe.lt
    have tbc0 := hBe.cell 0; have tbf0 := hBe.frozen 0
    have tbc1 := hBe.cell 1; have tbf1 := hBe.frozen 1
    have tbc2 := hBe.cell 2; have tbf2 := hBe.frozen 2
    simp only [List.getElem?_toArray, List.getElem?_cons_zero, List.getElem?_cons_succ] at tbc0 tbc1 tbc2
    clear hBe
    go_wp2_with fail
    go_returns
    exact ⟨rfl, by (repeat' (first | (with_reducible exact Below.refl _ _) | (with_reducible assumption) | (with_reducible refine Below.alloc ?_ ?_ _) | (with_reducible refine Below.drew ?_) | (with_reducible refine below_drewN ?_ _) | (with_reducible refine Below.setCell ?_ ?_ _) | (with_reducible refine below_then ?_ ?_ (by with_reducible assumption)) | (with_reducible exact Nat.le_refl _) | go_size | (simp only [*]; done)))⟩
end Go.Proofs.Ytdbjjfjagalhbaa
