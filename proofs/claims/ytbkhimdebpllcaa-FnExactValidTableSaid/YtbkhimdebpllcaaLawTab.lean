/- The exact law on ValidTable answers true. Conditions: the slices read as a table. -/
import Derived.Test.YtbkhimdebpllcaaTabValid
namespace Go.Proofs.Ytbkhimdebpllcaa
open Go.RowKit

set_option maxHeartbeats 2000000 in
theorem law_ExactValidTable (A : Option Addr) (n cap : Nat) (rs : List (List Cl)) (m : Int) (w : World) (hn : rs.length = n) (hm : n ≤ maxLen) (hr : Tab w w.heap.size A n rs) :
    Calls Try.prog 4 #[.slice A n cap, .int .i64 m] w fun e w' => e = .returned (.bool true) ∧ Below w.heap.size w w' := by
  obtain ⟨V, hV⟩ : ∃ V, tabOk rs m = V := ⟨_, rfl⟩
  have HV := Lib.hid hV
  clear hV hn
  go_enter Try.func4, Try.ntmps4
  go_wp2_with fail
  ((with_reducible refine (szCellSS_any _ _ _ rs _ hm ?_).mono ?_); (exact hr); rintro e w1 ⟨⟨v, rfl, hv1, hv2⟩, hb1⟩)
  have hr1 := hr.then_ hb1
  by_cases hbig : 1048576 < tot rs
  · have hneg := hv1 hbig
    clear hv1 hv2 hr1
    go_wp2_with fail
    go_ret
    exact ⟨rfl, hb1⟩
  have hsm : tot rs ≤ 1048576 := by omega
  have hpos := hv2 hsm
  clear hv1 hv2 hr
  go_wp2_with fail
  ((with_reducible refine (toCellSS_any _ _ _ rs _ hsm ?_).mono ?_); (exact hr1); rintro e w2 ⟨rfl, ⟨G2, hp2⟩, hb2⟩)
  have hr2 := hr1.then_ hb2
  have hB2 := below_then (Nat.le_refl _) hb1 hb2
  go_wp2_with fail
  ((with_reducible refine (validTable_S _ _ _ _ rs _ hm ?_).mono ?_); (exact hp2.tab); rintro e w3 ⟨rfl, hb3⟩)
  rw [HV.out]
  have hr3 := hr2.then_ hb3
  have hB3 := below_then (Nat.le_refl _) hB2 hb3
  go_wp2_with fail
  ((with_reducible refine (toCellSS_any _ _ _ rs _ hsm ?_).mono ?_); (exact hr3); rintro e w4 ⟨rfl, ⟨G4, hp4⟩, hb4⟩)
  have hr4 := hr3.then_ hb4
  have hB4 := below_then (Nat.le_refl _) hB3 hb4
  go_wp2_with fail
  ((with_reducible refine (validTable_i _ _ _ _ rs _ hm ?_).mono ?_); (exact hp4.tab); rintro e w5 ⟨rfl, hb5⟩)
  rw [HV.out]
  have hr5 := hr4.then_ hb5
  have hp5 := hp4.then_ hb5
  have hB5 := below_then (Nat.le_refl _) hB4 hb5
  rcases V with _ | _
  all_goals
    go_wp2_with fail
    ((with_reducible refine (toCellSS_any _ _ _ rs _ hsm ?_).mono ?_); (exact hr5); rintro e w6 ⟨rfl, ⟨G6, hp6⟩, hb6⟩)
    have hp56 := hp5.then_ hb6
    have hB6 := below_then (Nat.le_refl _) hB5 hb6
    go_wp2_with fail
    ((with_reducible refine (eqCellSS_same _ _ _ _ _ rs _ hm ?_ ?_).mono ?_); (exact hp56.tab); (exact hp6.tab); rintro e w7 ⟨rfl, hb7⟩)
    have hB7 := below_then (Nat.le_refl _) hB6 hb7
    go_wp2_with fail
    go_ret
    exact ⟨rfl, hB7⟩
end Go.Proofs.Ytbkhimdebpllcaa
