/- The generators of lines of a paragraph return some items and two numbers. Conditions: the reader has yielded fewer than 2^46 numbers; the code is no longer than a slice can be. -/
import Derived.Test.YtpcjoehdbohaoaaBreaksOf
import Derived.Test.YtpcjoehdbohaoaaAnyItems
namespace Go.Proofs.Ytpcjoehdbohaoaa
open Go.RowKit

/-- What a call leaves that draws items and two numbers. -/
def SomeLine (w : World) (rb p K : Nat) (e : Ending) (w' : World) : Prop :=
  ∃ (g n c : Nat) (xs : List It) (p' : Nat) (f t : Int), e = .returned (.tuple #[.slice (some ⟨g, 0, none⟩) n c, .int .i64 f, .int .i64 t]) ∧ xs.length = n ∧ n ≤ 23 ∧ (n ≤ c ∧ c ≤ maxLen) ∧ Row w' w'.heap.size 6 (some ⟨g, 0, none⟩) n (itc xs) ∧ w.heap.size ≤ g ∧ p' ≤ p + K ∧ Rd w' rb p' ∧ w.grownBy w' (some rb)
theorem only_below {a w w1 : World} {rb : Nat} (h : a.grownBy w (some rb)) (hb : Below w.heap.size w w1) : a.grownBy w1 (some rb) := only_trans h (only_of_below hb _)
theorem Rd.belowW {w w' : World} {rb p : Nat} (h : Rd w rb p) (hb : Below w.heap.size w w') : Rd w' rb p := h.below hb h.lt

set_option maxRecDepth 100000 in
set_option maxHeartbeats 4000000 in
theorem someLine_any (rb p : Nat) (w : World) (h : Rd w rb p) (hp : p ≤ 35184372088832) : Calls Try.prog 43 #[.pointer (some ⟨rb, 0, none⟩)] w (fun e w' => SomeLine w rb p 90 e w') := by
  have hlt := h.lt
  go_enter Try.func43, Try.ntmps43
  go_wp2_with fail
  ((with_reducible refine (anyItems_any rb p _ h (by omega)).mono ?_); rintro e w1 ⟨g, n, c, xs, p1, rfl, hxl, hn, hcap, hrow, hg, hp1, hr1, hO1⟩)
  have HXL := Lib.hid hxl; clear hxl
  have hs1 := hO1.size
  have HR1 := Lib.hid hrow
  have HR0 := Lib.hid hrow
  clear hrow
  go_wp2_with fail
  ((with_reducible refine (breaksOf_s _ _ _ xs _ HXL.out (by unfold maxLen; omega) ?_).mono ?_); (exact HR1.out.alloc' _); rintro e w2 ⟨B, d, rfl, hob, hb2⟩)
  obtain ⟨ys, hys⟩ : ∃ ys, brksV xs = ys := ⟨_, rfl⟩
  obtain ⟨m, hm⟩ : ∃ m, ys.length = m := ⟨_, rfl⟩
  have hmb : m ≤ 23 := by
    have := brksV_len xs
    rw [hys, hm, HXL.out] at this
    omega
  rw [hys, hm] at hob
  rw [hys, hm]
  have HM := Lib.hid hm
  have HO2 := Lib.hid hob
  have hz2 := hb2.size
  simp only [World.size_alloc] at hz2
  have hO2 := only_below (only_alloc hO1 (.cells #[.int .i64 (-1)] 3)) hb2
  have hr2 := (hr1.alloc (.cells #[.int .i64 (-1)] 3)).belowW hb2
  have HA := Lib.hid (show OwnI w2 w1.heap.size (some ⟨w1.heap.size, 0, none⟩) 1 1 [-1] from (⟨rfl, .inr ⟨w1.heap.size, 1, _, rfl, Nat.le_refl _, (Blk.new w1 3 #[.int .i64 (-1)]).then_ hb2, Nat.le_refl _, by unfold maxLen; omega, rfl, rfl⟩⟩))
  clear hob hys hm HR1
  go_wp2_with (at_builtin; (refine wpList_append_ints _ rfl _ _ rfl w1.heap.size (w1.alloc (.cells #[.int .i64 (-1)] 3)).heap.size w1.heap.size 1 1 m d B [-1] ys rfl HA.out rfl HO2.out (by omega) (by omega) ?_); intro g3 c3 w3 hown3 hgr3; (have HO3 := Lib.hid hown3); (have HG3 := Lib.hid hgr3); clear hown3 hgr3)
  have hbel12 : Below w1.heap.size w1 w2 := below_then (Nat.le_refl _) ((Below.refl _ _).alloc (Nat.le_refl _) _) hb2
  have hO3 : w.grownBy w3 (some rb) := only_own (A := some ⟨w1.heap.size, 0, none⟩) (n := 1) (m := 1) hO2 HG3.out (by intro x hx; cases hx; simp; omega)
  have hr3 : Rd w3 rb p1 := hr2.own (A := some ⟨w1.heap.size, 0, none⟩) (n := 1) (m := 1) HG3.out (by intro x hx; cases hx; simp; omega)
  have hz3 := hO3.size
  have hz23 := HG3.out.size
  have hR3 : Row w3 w1.heap.size 6 (some ⟨g, 0, none⟩) n (itc xs) := (HR0.out.below hbel12).grown HG3.out (by omega) (fun k hk => by injection hk; omega)
  have hg3 := (HO3.out.lt g3 rfl)
  have HR3 := Lib.hid hR3
  clear hR3 HG3 HA HO2 hr2
  obtain ⟨bs, hbs⟩ : ∃ bs, [-1] ++ ys = bs := ⟨_, rfl⟩
  have hO := HO3.out
  rw [hbs] at hO
  clear HO3 hbs
  go_wp2_with fail
  ((with_reducible refine (pick_any _ _ _ _ hr3 (by omega)).mono ?_); rintro e w4 ⟨k1, rfl, hk0, hk1, hr4, ho4⟩)
  have hk2 := hk1 (by omega)
  clear hk1
  obtain ⟨k, rfl⟩ := Int.eq_ofNat_of_zero_le hk0
  have hO4 := only_trans hO3 ho4
  have hz4 := hO4.size
  have hz34 := ho4.size
  have hOw4 : OwnI w4 w1.heap.size (some ⟨g3, 0, none⟩) (1 + m) c3 bs := hO.kept ho4 (.inr (by simp [Value.ownBlock]; omega))
  have e4 := hOw4.cellI (j := k) (by omega)
  have HW4 := Lib.hid hOw4
  obtain ⟨fv, hfv⟩ : ∃ fv, bs.getD k default = fv := ⟨_, rfl⟩
  rw [hfv] at e4
  have HR4 := Lib.hid (Row.only HR3.out ho4 (by intro x hx; cases hx; simp; omega) (by omega))
  have hkl : (k : Int) < 1 + (m : Int) := by omega
  have hw4 := hr4.lt
  clear hO hOw4 HR3 hfv
  go_wp2_with fail
  ((with_reducible refine (pick_any _ _ _ _ hr4 (by omega)).mono ?_); rintro e w5 ⟨k3, rfl, hk0', hk1', hr5, ho5⟩)
  have hk2' := hk1' (by omega)
  clear hk1'
  obtain ⟨k', rfl⟩ := Int.eq_ofNat_of_zero_le hk0'
  have hO5 := only_trans hO4 ho5
  have hz5 := hO5.size
  have hz45 := ho5.size
  have hOw5 : OwnI w5 w1.heap.size (some ⟨g3, 0, none⟩) (1 + m) c3 bs := HW4.out.kept ho5 (.inr (by simp [Value.ownBlock]; omega))
  have e5 := hOw5.cellI (j := k') (by omega)
  obtain ⟨tv, htv⟩ : ∃ tv, bs.getD k' default = tv := ⟨_, rfl⟩
  rw [htv] at e5
  have HR5 : Hid (Row w5 w5.heap.size 6 (some ⟨g, 0, none⟩) n (itc xs)) := (Row.only HR4.out ho5 (by intro x hx; cases hx; simp; omega) (by omega)).more (by omega)
  have hkl' : (k' : Int) < 1 + (m : Int) := by omega
  have hw5 := hr5.lt
  clear hOw5 HR4 htv e4 HW4
  by_cases hft : tv < fv
  · go_wp2_with fail
    (first | go_returns | (refine bodyPost_ret (by simp [results, Try.results43, go_sem, *]; try rfl) rfl ?_))
    exact ⟨g, n, c, xs, _, tv, fv, rfl, HXL.out, hn, hcap, HR5.out, hg, by omega, hr5, hO5⟩
  · go_wp2_with fail
    ((with_reducible refine (pick_any _ _ _ _ hr5 (by omega)).mono ?_); rintro e w6 ⟨z, rfl, hz0, hz1, hr6, ho6⟩)
    clear hz1
    have hO6 := only_trans hO5 ho6
    have hz6 := hO6.size
    have HR6 := Lib.hid ((Row.only HR5.out ho6 (by intro x hx; cases hx; simp; omega) (Nat.le_refl _)).more ho6.size)
    by_cases z0 : z = 0
    · subst z0
      go_wp2_with fail
      ((with_reducible refine (one_any rb _ w6.heap.size 3 3 (fun i => [-1, (n : Int), 1].getD i 0) _ (hr6.alloc _) (by omega) (by omega) (by omega) (by omega) (lit_cells [-1, (n : Int), 1] (Blk.new _ _ _) rfl)).mono ?_); rintro e w7 ⟨v, _, rfl, hr7, ho7⟩)
      have HR7 := Lib.hid ((Row.only (HR6.out.alloc' (.cells #[.int .i64 (-1), .int .i64 (n : Int), .int .i64 1] 3)) ho7 (by intro x hx; cases hx; simp; omega) (Nat.le_refl _)).more ho7.size)
      go_wp2_with fail
      (first | go_returns | (refine bodyPost_ret (by simp [results, Try.results43, go_sem, *]; try rfl) rfl ?_))
      exact ⟨g, n, c, xs, _, fv, v, rfl, HXL.out, hn, hcap, HR7.out, hg, by omega, hr7, only_trans (only_alloc hO6 _) ho7⟩
    · have z0' : (z == 0) = false := by simp; omega
      go_wp2_with fail
      (first | go_returns | (refine bodyPost_ret (by simp [results, Try.results43, go_sem, *]; try rfl) rfl ?_))
      exact ⟨g, n, c, xs, _, fv, tv, rfl, HXL.out, hn, hcap, HR6.out, hg, by omega, hr6, hO6⟩
end Go.Proofs.Ytpcjoehdbohaoaa
