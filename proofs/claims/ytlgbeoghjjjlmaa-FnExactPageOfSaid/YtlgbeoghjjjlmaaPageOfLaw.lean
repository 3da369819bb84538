/- The laws on the page of a line answer true: FnExactPageOf. Conditions: the slices read as lists. -/
import Derived.Test.YtlgbeoghjjjlmaaPageOf
namespace Go.Proofs.Ytlgbeoghjjjlmaa
open Go.RowKit

set_option maxHeartbeats 1000000 in
theorem law_ExactPageOf (A : Option Addr) (n cap : Nat) (xs : List Int) (m : Int) (w : World) (hn : xs.length = n) (hm : n ≤ maxLen) (hr : Row w w.heap.size 1 A n (inc xs)) (hxb : ∀ x ∈ xs, -9223372036854775808 ≤ x ∧ x ≤ 9223372036854775807) :
    Calls Try.prog 3 #[.slice A n cap, .int .i64 m] w fun e w' => e = .returned (.bool true) ∧ Below w.heap.size w w' := by
  have hm' := hm
  unfold maxLen at hm'
  by_cases hbig : 1048576 < n
  · clear hn
    go_enter Try.func3, Try.ntmps3
    go_wp2_with fail
    go_returns
    exact ⟨rfl, Below.refl _ _⟩
  have hsm : n ≤ 1048576 := by omega
  have HN := Lib.hid hn; clear hn hbig
  have HXB := Lib.hid hxb; clear hxb
  go_enter Try.func3, Try.ntmps3
  go_wp2_with fail
  ((with_reducible refine (toIntS_any _ _ _ xs _ HN.out hsm ?_).mono ?_); (exact hr); rintro e w1 ⟨rfl, ho1, hb1⟩)
  go_wp2_with fail
  ((with_reducible refine (pageOf_s _ _ _ _ xs _ HN.out hm ?_).mono ?_); (exact ho1.row); rintro e w2 ⟨rfl, hb2⟩)
  have hr2 := (hr.then_ hb1).then_ hb2
  have hz1 := hb1.size
  have hz2 := hb2.size
  go_wp2_with fail
  ((with_reducible refine (toIntS_any _ _ _ xs _ HN.out hsm ?_).mono ?_); (exact hr2); rintro e w3 ⟨rfl, ho3, hb3⟩)
  have hr3 := hr2.then_ hb3
  have hz3 := hb3.size
  go_wp2_with fail
  ((with_reducible refine (pageOf_i _ _ _ _ xs _ HN.out hm ?_ HXB.out).mono ?_); (exact ho3.row); rintro e w4 ⟨rfl, hb4⟩)
  have hr4 := hr3.then_ hb4
  have ho4 := ho3.then_ hb4
  have hz4 := hb4.size
  go_wp2_with fail
  ((with_reducible refine (toIntS_any _ _ _ xs _ HN.out hsm ?_).mono ?_); (exact hr4); rintro e w5 ⟨rfl, ho5, hb5⟩)
  have ho5' := ho4.then_ hb5
  have hz5 := hb5.size
  go_wp2_with fail
  ((with_reducible refine (eqIntS_same _ _ _ _ _ xs _ hm ?_ ?_).mono ?_); (exact ho5'.row); (exact ho5.row); rintro e w6 ⟨rfl, hb6⟩)
  go_wp2
  go_returns
  exact ⟨rfl, by (repeat' (first | (with_reducible exact Below.refl _ _) | (with_reducible assumption) | (with_reducible refine Below.alloc ?_ ?_ _) | (with_reducible refine Below.drew ?_) | (with_reducible refine below_drewN ?_ _) | (with_reducible refine Below.setCell ?_ ?_ _) | (with_reducible refine below_then ?_ ?_ (by with_reducible assumption)) | (with_reducible exact Nat.le_refl _) | go_size | (simp only [*]; done)))⟩

end Go.Proofs.Ytlgbeoghjjjlmaa
