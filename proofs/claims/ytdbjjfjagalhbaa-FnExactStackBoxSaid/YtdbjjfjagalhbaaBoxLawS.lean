/- The laws on stacks of boxes answer true. Conditions: the slices read as lists. -/
import Derived.Test.YtdbjjfjagalhbaaBoxS
import Derived.Test.YtdbjjfjagalhbaaBoxStackI
namespace Go.Proofs.Ytdbjjfjagalhbaa
open Go.RowKit

set_option maxHeartbeats 1000000 in
theorem law_ExactStackBox (A : Option Addr) (n cap : Nat) (xs : List Bx) (s : Int) (w : World) (hn : xs.length = n) (hm : n ≤ maxLen) (hr : Row w w.heap.size 3 A n (bxc xs)) :
    Calls Try.prog 12 #[.slice A n cap, .int .i64 s] w fun e w' => e = .returned (.bool true) ∧ Below w.heap.size w w' := by
  by_cases hbig : 1048576 < n
  · clear hn
    go_enter Try.func12, Try.ntmps12
    go_wp2_with (go_at_call 25; refine (szBoxS_big _ _ _ _ hm hbig).mono ?_; rintro e w' ⟨rfl, rfl⟩)
    go_returns
    exact ⟨rfl, Below.refl _ _⟩
  have hsm : n ≤ 1048576 := by omega
  have HN := Lib.hid hn; clear hn hbig
  go_enter Try.func12, Try.ntmps12
  go_wp2_with fail
  ((with_reducible refine (szBoxS_ok _ _ _ _ hsm).mono ?_); rintro e w' ⟨rfl, rfl⟩)
  go_wp2_with fail
  ((with_reducible refine (toBoxS_any _ _ _ xs _ HN.out hsm ?_).mono ?_); (exact hr); rintro e w1 ⟨rfl, ho1, hb1⟩)
  go_wp2_with fail
  ((with_reducible refine (stackBox_s _ _ _ s xs _ HN.out hm ?_).mono ?_); ((repeat' (first | (with_reducible exact ho1.row) | (with_reducible refine Row.alloc' ?_ _)))); rintro e w2 ⟨rfl, hb2⟩)
  (have hz1 := hb1.size; have hz2 := hb2.size; obtain ⟨hc2, hf2⟩ := bcell hb2; have hr2 := (hr.then_ hb1).then_ hb2; clear ho1)
  go_wp2_with fail
  ((with_reducible refine (toBoxS_any _ _ _ xs _ HN.out hsm ?_).mono ?_); ((repeat' (first | (with_reducible exact hr2) | (with_reducible refine Row.alloc' ?_ _)))); rintro e w3 ⟨rfl, ho3, hb3⟩)
  (try simp only [World.size_alloc] at ho3)
  (have hz3 := hb3.size; simp at hz3; obtain ⟨hc3, hf3⟩ := bcell hb3; (try have hz_w2_0_w3 : w2.heap.size < w3.heap.size := by omega); have hr3 := (hr2.alloc' _).then_ hb3)
  go_wp2_with fail
  ((with_reducible refine (stackBox_i _ _ _ s xs _ HN.out hm ?_).mono ?_); ((repeat' (first | (with_reducible exact ho3.row) | (with_reducible refine Row.alloc' ?_ _)))); rintro e w4 ⟨rfl, hb4⟩)
  (have hz4 := hb4.size; (try simp at hz4); obtain ⟨hc4, hf4⟩ := bcell hb4; (try have hz_w2_0_w4 : w2.heap.size < w4.heap.size := by omega); (try have hz_w3_0_w4 : w3.heap.size < w4.heap.size := by omega))
  have ho4 := ho3.then_ hb4
  have hr4 := hr3.then_ hb4
  clear ho3
  go_wp2_with fail
  ((with_reducible refine (eqBox_same _ _ _ _).mono ?_); rintro e w5 ⟨rfl, hb5⟩)
  (have hz5 := hb5.size; (try simp at hz5); have ho5 := (ho4.alloc _).then_ hb5; have hr5 := (hr4.alloc' _).then_ hb5)
  go_wp2_with fail
  ((with_reducible refine (toBoxS_any _ _ _ xs _ HN.out hsm ?_).mono ?_); ((repeat' (first | (with_reducible exact hr5) | (with_reducible refine Row.alloc' ?_ _)))); rintro e w6 ⟨rfl, ho6, hb6⟩)
  (try simp only [World.size_alloc] at ho6)
  (have hz6 := hb6.size; (try simp at hz6); have ho5' := ho5.then_ hb6)
  go_wp2_with fail
  ((with_reducible refine (eqBoxS_same _ _ _ _ _ xs _ hm ?_ ?_).mono ?_); ((repeat' (first | (with_reducible exact ho5'.row) | (with_reducible refine Row.alloc' ?_ _)))); ((repeat' (first | (with_reducible exact ho6.row) | (with_reducible refine Row.alloc' ?_ _)))); rintro e w7 ⟨rfl, hb7⟩)
  go_wp2
  go_returns
  exact ⟨rfl, by (repeat' (first | (with_reducible exact Below.refl _ _) | (with_reducible assumption) | (with_reducible refine Below.alloc ?_ ?_ _) | (with_reducible refine Below.drew ?_) | (with_reducible refine below_drewN ?_ _) | (with_reducible refine Below.setCell ?_ ?_ _) | (with_reducible refine below_then ?_ ?_ (by with_reducible assumption)) | (with_reducible exact Nat.le_refl _) | go_size | (simp only [*]; done)))⟩
end Go.Proofs.Ytdbjjfjagalhbaa
