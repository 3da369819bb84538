/- The exact law on CountWidows answers true. Conditions: the slices read as lists. -/
import Derived.Test.YtlgbeoghjjjlmaaWidow2
namespace Go.Proofs.Ytlgbeoghjjjlmaa
open Go.RowKit

set_option maxHeartbeats 2000000 in
theorem law_ExactCountWidows (A : Option Addr) (n cap : Nat) (xs : List Int) (B : Option Addr) (m cap' : Nat) (ys : List Int) (w : World) (hn : xs.length = n) (hm : n ≤ maxLen) (hr : Row w w.heap.size 1 A n (inc xs)) (hn' : ys.length = m) (hm' : m ≤ maxLen) (hr' : Row w w.heap.size 1 B m (inc ys)) :
    Calls Try.prog 5 #[.slice A n cap, .slice B m cap'] w fun e w' => e = .returned (.bool true) ∧ Below w.heap.size w w' := by
  have hmm := hm
  have hmm' := hm'
  unfold maxLen at hmm hmm'
  by_cases hbig : 1048576 < n
  · clear hn
    go_enter Try.func5, Try.ntmps5
    go_wp2_with fail
    go_returns
    exact ⟨rfl, Below.refl _ _⟩
  by_cases hbig' : 1048576 < m
  · clear hn
    go_enter Try.func5, Try.ntmps5
    go_wp2_with fail
    go_returns
    exact ⟨rfl, Below.refl _ _⟩
  have hsm : n ≤ 1048576 := by omega
  have hsm' : m ≤ 1048576 := by omega
  have HN := Lib.hid hn; clear hn hbig
  have HN' := Lib.hid hn'; clear hn' hbig'
  go_enter Try.func5, Try.ntmps5
  go_wp2_with fail
  ((with_reducible refine (toIntS_any _ _ _ xs _ HN.out hsm ?_).mono ?_); (exact hr); rintro e w1 ⟨rfl, ho1, hb1⟩)
  have hz1 := hb1.size
  have hrx1 := hr.then_ hb1
  have hry1 := hr'.then_ hb1
  go_wp2_with fail
  ((with_reducible refine (toIntS_any _ _ _ ys _ HN'.out hsm' ?_).mono ?_); (exact hry1); rintro e w2 ⟨rfl, ho2, hb2⟩)
  have hz2 := hb2.size
  have hrx2 := hrx1.then_ hb2
  have hry2 := hry1.then_ hb2
  have ho1' := ho1.then_ hb2
  go_wp2_with fail
  ((with_reducible refine (countW_s _ _ _ _ _ _ xs ys _ HN.out hm ?_ HN'.out hm' ?_).mono ?_); (exact ho1'.row); (exact ho2.row); rintro e w3 ⟨rfl, hb3⟩)
  have hz3 := hb3.size
  have hrx3 := hrx2.then_ hb3
  have hry3 := hry2.then_ hb3
  clear ho1 ho2 ho1'
  go_wp2_with fail
  ((with_reducible refine (toIntS_any _ _ _ xs _ HN.out hsm ?_).mono ?_); (exact hrx3); rintro e w4 ⟨rfl, ho4, hb4⟩)
  have hz4 := hb4.size
  have hrx4 := hrx3.then_ hb4
  have hry4 := hry3.then_ hb4
  go_wp2_with fail
  ((with_reducible refine (toIntS_any _ _ _ ys _ HN'.out hsm' ?_).mono ?_); (exact hry4); rintro e w5 ⟨rfl, ho5, hb5⟩)
  have hz5 := hb5.size
  have hrx5 := hrx4.then_ hb5
  have hry5 := hry4.then_ hb5
  have ho4_5 := ho4.then_ hb5
  go_wp2_with fail
  ((with_reducible refine (countW_i _ _ _ _ _ _ xs ys _ HN.out hm ?_ HN'.out hm' ?_).mono ?_); (exact ho4_5.row); (exact ho5.row); rintro e w6 ⟨rfl, hb6⟩)
  have hz6 := hb6.size
  have hrx6 := hrx5.then_ hb6
  have hry6 := hry5.then_ hb6
  have ho4_6 := ho4_5.then_ hb6
  have ho5_6 := ho5.then_ hb6
  go_wp2_with fail
  ((with_reducible refine (toIntS_any _ _ _ xs _ HN.out hsm ?_).mono ?_); (exact hrx6); rintro e w7 ⟨rfl, ho7, hb7⟩)
  have hz7 := hb7.size
  have hry7 := hry6.then_ hb7
  have ho4_7 := ho4_6.then_ hb7
  have ho5_7 := ho5_6.then_ hb7
  go_wp2_with fail
  ((with_reducible refine (eqIntS_same _ _ _ _ _ xs _ hm ?_ ?_).mono ?_); (exact ho4_7.row); (exact ho7.row); rintro e w8 ⟨rfl, hb8⟩)
  have hz8 := hb8.size
  have hry8 := hry7.then_ hb8
  have ho5_8 := ho5_7.then_ hb8
  go_wp2_with fail
  ((with_reducible refine (toIntS_any _ _ _ ys _ HN'.out hsm' ?_).mono ?_); (exact hry8); rintro e w9 ⟨rfl, ho9, hb9⟩)
  have hz9 := hb9.size
  have ho5_9 := ho5_8.then_ hb9
  go_wp2_with fail
  ((with_reducible refine (eqIntS_same _ _ _ _ _ ys _ hm' ?_ ?_).mono ?_); (exact ho5_9.row); (exact ho9.row); rintro e w10 ⟨rfl, hb10⟩)
  go_wp2
  go_returns
  exact ⟨rfl, by (repeat' (first | (with_reducible exact Below.refl _ _) | (with_reducible assumption) | (with_reducible refine Below.alloc ?_ ?_ _) | (with_reducible refine Below.drew ?_) | (with_reducible refine below_drewN ?_ _) | (with_reducible refine Below.setCell ?_ ?_ _) | (with_reducible refine below_then ?_ ?_ (by with_reducible assumption)) | (with_reducible exact Nat.le_refl _) | go_size | (simp only [*]; done)))⟩
end Go.Proofs.Ytlgbeoghjjjlmaa
