/- The laws on the widths of shapes answer true: FnExactWidthOfLine, FnWidthOfLine. Conditions: the slices read as lists. -/
import Derived.Test.YtifeapincbjeeaaShape
import Derived.Test.YtifeapincbjeeaaShapeDraw
import Derived.Test.YtifeapincbjeeaaIntLaws
import Derived.Deep.RegionHeld3
namespace Go.Proofs.Ytifeapincbjeeaa
open Go.RowKit

set_option maxHeartbeats 1000000 in
theorem law_ExactWidthOfLine (A : Option Addr) (n cap : Nat) (xs : List Int) (m : Int) (w : World) (hn : xs.length = n) (hm : n ≤ maxLen) (hr : Row w w.heap.size 1 A n (inc xs)) (hmb : -9223372036854775808 ≤ m ∧ m ≤ 9223372036854775807) :
    Calls Try.prog 3 #[.slice A n cap, .int .i64 m] w fun e w' => e = .returned (.bool true) ∧ Below w.heap.size w w' := by
  have hm' := hm
  unfold maxLen at hm'
  have hmm := hmb.2
  by_cases hbig : 1048576 < n
  · clear hn
    go_enter Try.func3, Try.ntmps3
    go_wp2_with fail
    go_returns
    exact ⟨rfl, Below.refl _ _⟩
  have hsm : n ≤ 1048576 := by omega
  have HN := Lib.hid hn; clear hn hbig
  go_enter Try.func3, Try.ntmps3
  go_wp2_with fail
  ((with_reducible refine (toIntS_any _ _ _ xs _ HN.out hsm ?_).mono ?_); (exact hr); rintro e w1 ⟨rfl, ho1, hb1⟩)
  go_wp2_with fail
  ((with_reducible refine (widthOfLine_s _ _ _ _ xs _ HN.out hm hmm ?_).mono ?_); (exact ho1.row); rintro e w2 ⟨rfl, hb2⟩)
  have hr2 := (hr.then_ hb1).then_ hb2
  have hz1 := hb1.size
  have hz2 := hb2.size
  go_wp2_with fail
  ((with_reducible refine (toIntS_any _ _ _ xs _ HN.out hsm ?_).mono ?_); (exact hr2); rintro e w3 ⟨rfl, ho3, hb3⟩)
  have hr3 := hr2.then_ hb3
  have hz3 := hb3.size
  go_wp2_with fail
  ((with_reducible refine (widthOfLine_i _ _ _ _ xs _ HN.out hm hmm ?_).mono ?_); (exact ho3.row); rintro e w4 ⟨rfl, hb4⟩)
  have hr4 := hr3.then_ hb4
  have ho4 := ho3.then_ hb4
  have hz4 := hb4.size
  go_wp2_with fail
  ((with_reducible refine (toIntS_any _ _ _ xs _ HN.out hsm ?_).mono ?_); (exact hr4); rintro e w5 ⟨rfl, ho5, hb5⟩)
  have ho5' := ho4.then_ hb5
  have hz5 := hb5.size
  go_wp2_with fail
  ((with_reducible refine (eqIntS_same _ _ _ _ _ xs _ hm ?_ ?_).mono ?_); (exact ho5'.row); (exact ho5.row); rintro e w6 ⟨rfl, hb6⟩)
  go_wp2
  go_returns
  exact ⟨rfl, by (repeat' (first | (with_reducible exact Below.refl _ _) | (with_reducible assumption) | (with_reducible refine Below.alloc ?_ ?_ _) | (with_reducible refine Below.drew ?_) | (with_reducible refine below_drewN ?_ _) | (with_reducible refine Below.setCell ?_ ?_ _) | (with_reducible refine below_then ?_ ?_ (by with_reducible assumption)) | (with_reducible exact Nat.le_refl _) | go_size | (simp only [*]; done)))⟩

def ShapeIntOut (w : World) (e : Ending) (w' : World) : Prop :=
  ∃ (A : Option Addr) (n c : Nat) (xs : List Int) (s : Int), e = .returned (.tuple #[.slice A n c, .int .i64 s]) ∧ xs.length = n ∧ n ≤ 4 ∧ -1 ≤ s ∧ s ≤ 6 ∧ Row w' w'.heap.size 1 A n (inc xs) ∧ Below w.heap.size w w'

set_option maxHeartbeats 1000000 in
theorem DrawWidthOfLine_any (A : Option Addr) (n cap : Nat) (cs : List Int) (w : World) (hc : Code w A n cap cs) :
    Calls Try.prog 12 #[.slice A n cap] w (ShapeIntOut w) := by
  obtain ⟨h1, h2, h3, h4, h5⟩ := hc
  have HH := Lib.hid h4; clear h4
  go_enter Try.func12, Try.ntmps12
  go_wp2_with fail
  ((with_reducible refine (newReader_any _ _ _ cs _ h1 h2 h3 HH.out h5).mono ?_); rintro e w1 ⟨rfl, hr1, hb1⟩)
  go_wp2_with fail
  ((with_reducible refine (anyShape_any _ _ _ hr1 (by omega)).mono ?_); rintro e w2 ⟨B, m, c, xs, p', rfl, hx, hm, _, hrow, hA, hp, hr2, ho2⟩)
  have HX := Lib.hid hx; clear hx
  have hb2 := hb1.trans (below_of_only ho2 (Nat.le_refl _) hb1.size)
  have hs2 := hb2.size
  go_wp2_with fail
  ((with_reducible refine (pick_any _ _ _ _ hr2 (by omega)).mono ?_); rintro e w3 ⟨x, rfl, hx0, hx1, hr3, ho3⟩)
  have hx2 := hx1 (by omega)
  go_wp2_with fail
  ((with_reducible refine (pick_any _ _ _ _ hr3 (by omega)).mono ?_); rintro e w4 ⟨y, rfl, hy0, hy1, hr4, ho4⟩)
  have hy2 := hy1 (by omega)
  have ho := only_trans ho3 ho4
  have hb4 : Below w.heap.size w w4 := hb2.trans (below_of_only ho (Nat.le_refl _) hs2)
  have hrow4 := (hrow.only ho hA (Nat.le_refl _)).more ho.size
  go_wp2
  go_ret2
  exact ⟨B, m, c, xs, x - y, rfl, HX.out, hm, by omega, by omega, hrow4, hb4⟩

theorem wof_mem {xs : List Int} {n k : Nat} (hn : xs.length = n) (h1 : 1 ≤ n) : wof xs k ∈ xs := by
  rw [wof, hn]
  exact mem_of_getD hn (j := min k (n - 1)) (by omega) rfl
theorem wof_last {xs : List Int} {n k : Nat} (hn : xs.length = n) (h1 : 1 ≤ n) (hk : n ≤ k) : wof xs k = lastOf xs := by
  rw [wof_ge hn (by omega), lastOf, if_neg (by omega), hn]

set_option maxHeartbeats 1000000 in
theorem law_WidthOfLine (A : Option Addr) (n cap : Nat) (cs : List Int) (w : World) (hc : Code w A n cap cs) :
    Calls Try.prog 4 #[.slice A n cap] w fun e w' => e = .returned (.bool true) ∧ Below w.heap.size w w' := by
  have hn := hc.1
  unfold maxLen at hn
  by_cases hbig : 1048576 < n
  · go_enter Try.func4, Try.ntmps4
    go_wp2
    go_returns
    exact ⟨rfl, Below.refl _ _⟩
  go_enter Try.func4, Try.ntmps4
  go_wp2_with fail
  ((with_reducible refine (DrawWidthOfLine_any _ _ _ cs _ hc).mono ?_); rintro e w1 ⟨B, m, c, xs, s, rfl, hx, hm, hs1, hs2, hr1, hb1⟩)
  have HX := Lib.hid hx; clear hx
  have hz1 := hb1.size
  have hmx : m ≤ maxLen := by unfold maxLen; omega
  go_wp2_with fail
  ((with_reducible refine (widthOfLine_i _ _ _ _ xs _ HX.out hmx (by omega) ?_).mono ?_); (exact hr1); rintro e w2 ⟨rfl, hb2⟩)
  have hr2 := hr1.then_ hb2
  have hz2 := hb2.size
  obtain ⟨v, hv⟩ : ∃ v, wol xs s = v := ⟨_, rfl⟩
  rw [hv]
  go_wp2_with fail
  ((with_reducible refine (widthOfLine_s _ _ _ _ xs _ HX.out hmx (by omega) ?_).mono ?_); (exact hr2); rintro e w3 ⟨rfl, hb3⟩)
  rw [hv]
  have hr3 := hr2.then_ hb3
  have hz3 := hb3.size
  by_cases hv0 : v = 0
  · subst hv0
    have HV := Lib.hid hv; clear hv
    go_wp2_with fail
    ((with_reducible refine (widthOfLine_s _ _ _ _ xs _ HX.out hmx (by omega) ?_).mono ?_); (exact hr3); rintro e w4 ⟨rfl, hb4⟩)
    rw [HV.out]
    have hz4 := hb4.size
    go_wp2
    go_returns
    exact ⟨rfl, by (repeat' (first | (with_reducible exact Below.refl _ _) | (with_reducible assumption) | (with_reducible refine Below.alloc ?_ ?_ _) | (with_reducible refine Below.drew ?_) | (with_reducible refine below_drewN ?_ _) | (with_reducible refine Below.setCell ?_ ?_ _) | (with_reducible refine below_then ?_ ?_ (by with_reducible assumption)) | (with_reducible exact Nat.le_refl _) | go_size | (simp only [*]; done)))⟩
  · have hok : shapeOk xs = true := by
      rcases h : shapeOk xs with _ | _
      · exact absurd (hv.symm.trans (wol_no h)) hv0
      · rfl
    have hs0 : 0 ≤ s := by
      rcases Int.lt_or_le s 0 with h | h
      · exact absurd (hv.symm.trans (wol_neg h)) hv0
      · exact h
    obtain ⟨k, rfl⟩ := Int.eq_ofNat_of_zero_le hs0
    have hl := shapeOk_len hok
    rw [HX.out] at hl
    rw [wol_yes hok] at hv
    have hbv : (v == 0) = false := by simp [hv0]
    have e1 : has xs v = true := has_iff.2 (hv ▸ wof_mem HX.out hl.1)
    have e2 : wol xs (1000 + (k : Int)) = lastOf xs := by
      rw [show (1000 : Int) + (k : Int) = ((1000 + k : Nat) : Int) by omega, wol_yes hok, wof_last HX.out hl.1 (by omega)]
    have e3 : wol xs 0 = xs.getD 0 default := by
      rw [show (0 : Int) = ((0 : Nat) : Int) from rfl, wol_yes hok, wof_lt HX.out (by omega)]
    have E1 := Lib.hid e1
    have E2 := Lib.hid e2
    have E3 := Lib.hid e3
    clear e1 e2 e3 hv hok hv0
    obtain ⟨b, off, rfl, hbb, hcc⟩ := hr3.at1 (by omega)
    have c0 : w3.cell? ⟨b, off, none⟩ = _ := hcc 0 (by omega)
    obtain ⟨x, hx⟩ : ∃ x, xs.getD 0 default = x := ⟨_, rfl⟩
    simp only [inc, hx] at c0
    have E4 := Lib.hid hx
    have HR3 := Lib.hid hr3
    clear hcc hx hr1 hr2 hr3
    have hm0 : (0 : Int) < (m : Int) := by omega
    have hm1 : 0 < m := by omega
    have hw1 : IntKind.i64.wrap (1000 + (k : Int)) = 1000 + (k : Int) := IntWalk.i64_in _ (by omega)
    go_wp2_with fail
    go_region_held3 (fun w' => w'.cell? ⟨b, off, none⟩ = some (.int .i64 x) ∧ Below w3.heap.size w3 w')
      ((refine (fun hB : Below w3.heap.size w3 _ => ⟨(hB.cell (p := ⟨b, off, none⟩) hbb).trans c0, hB⟩) ?_; first | exact (Below.refl _ _).drew | exact And.right (by assumption) | exact below_then (Nat.le_refl _) (And.right (by assumption)) (by assumption)))
      (first
        | (go_at_call 13; refine (isIn_any _ _ _ _ xs _ HX.out hmx (HR3.out.then_ (by first | exact And.right (by assumption) | exact (Below.refl _ _).drew))).mono ?_; rintro e w' ⟨rfl, hb⟩; rw [E1.out])
        | (go_at_call 14; refine (last_any _ _ _ xs _ HX.out hmx (HR3.out.then_ (by first | exact And.right (by assumption) | exact (Below.refl _ _).drew))).mono ?_; rintro e w' ⟨rfl, hb⟩)
        | (go_at_call 10; refine (widthOfLine_i _ _ _ _ xs _ HX.out hmx (by omega) (HR3.out.then_ (by first | exact And.right (by assumption) | exact (Below.refl _ _).drew))).mono ?_; rintro e w' ⟨rfl, hb⟩; first | rw [E2.out] | rw [E3.out, E4.out]))
    all_goals
      go_wp2
      go_returns
      exact ⟨rfl, by (repeat' (first | (with_reducible exact Below.refl _ _) | (with_reducible assumption) | (with_reducible refine Below.alloc ?_ ?_ _) | (with_reducible refine Below.drew ?_) | (with_reducible refine below_drewN ?_ _) | (with_reducible refine Below.setCell ?_ ?_ _) | (with_reducible refine below_then ?_ ?_ (by with_reducible assumption)) | (with_reducible exact Nat.le_refl _) | go_size | (simp only [*]; done)))⟩
end Go.Proofs.Ytifeapincbjeeaa
