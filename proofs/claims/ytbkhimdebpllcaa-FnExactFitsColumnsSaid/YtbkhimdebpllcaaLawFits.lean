/- The exact law on FitsColumns answers true. Conditions: the slices read as a table and as a list. -/
import Derived.Test.YtbkhimdebpllcaaFitsS
namespace Go.Proofs.Ytbkhimdebpllcaa
open Go.RowKit

set_option maxHeartbeats 4000000 in
theorem law_ExactFitsColumns (A : Option Addr) (n cap : Nat) (rs : List (List Cl)) (B : Option Addr) (k capk : Nat) (ws : List Int) (w : World) (hn : rs.length = n) (hm : n ≤ maxLen) (hr : Tab w w.heap.size A n rs) (hl : ws.length = k) (hk : k ≤ maxLen) (hi : Row w w.heap.size 1 B k (inc ws)) :
    Calls Try.prog 9 #[.slice A n cap, .slice B k capk] w fun e w' => e = .returned (.bool true) ∧ Below w.heap.size w w' := by
  obtain ⟨V, hV⟩ : ∃ V, fitsV rs ws = V := ⟨_, rfl⟩
  have HV := Lib.hid hV
  have HL := Lib.hid hl
  clear hV hn hl
  have hkk := hk
  unfold maxLen at hkk
  by_cases hbk : 1048576 < k
  · go_enter Try.func9, Try.ntmps9
    go_wp2_with fail
    go_ret
    exact ⟨rfl, Below.refl _ _⟩
  have hkm : k ≤ 1048576 := by omega
  clear hbk
  go_enter Try.func9, Try.ntmps9
  go_wp2_with fail
  ((with_reducible refine (szCellSS_any _ _ _ rs _ hm ?_).mono ?_); (exact hr); rintro e w1 ⟨⟨v, rfl, hv1, hv2⟩, hb1⟩)
  have hr1 := hr.then_ hb1
  have hi1 := hi.then_ hb1
  by_cases hbig : 1048576 < tot rs
  · have hneg := hv1 hbig
    clear hv1 hv2 hr1 hi1
    go_wp2_with fail
    go_ret
    exact ⟨rfl, hb1⟩
  have hsm : tot rs ≤ 1048576 := by omega
  have hpos := hv2 hsm
  clear hv1 hv2 hr hi
  go_wp2_with fail
  ((with_reducible refine (toCellSS_any _ _ _ rs _ hsm ?_).mono ?_); (exact hr1); rintro e w2 ⟨rfl, ⟨G2, hp2⟩, hb2⟩)
  have hr2 := hr1.then_ hb2
  have hi2 := hi1.then_ hb2
  have hB2 := below_then (Nat.le_refl _) hb1 hb2
  go_wp2_with fail
  ((with_reducible refine (toIntS_any _ _ _ ws _ HL.out hkm ?_).mono ?_); (exact hi2); rintro e w3 ⟨rfl, hq3, hb3⟩)
  have hr3 := hr2.then_ hb3
  have hi3 := hi2.then_ hb3
  have hp3 := hp2.then_ hb3
  have hB3 := below_then (Nat.le_refl _) hB2 hb3
  go_wp2_with fail
  ((with_reducible refine (fitsColumns_S _ _ _ _ _ _ rs ws _ HL.out hk hm ?_ ?_).mono ?_); (exact hq3.row); (exact hp3.tab); rintro e w4 ⟨rfl, hb4⟩)
  rw [HV.out]
  have hr4 := hr3.then_ hb4
  have hi4 := hi3.then_ hb4
  have hB4 := below_then (Nat.le_refl _) hB3 hb4
  clear hq3 hp3
  go_wp2_with fail
  ((with_reducible refine (toCellSS_any _ _ _ rs _ hsm ?_).mono ?_); (exact hr4); rintro e w5 ⟨rfl, ⟨G5, hp5⟩, hb5⟩)
  have hr5 := hr4.then_ hb5
  have hi5 := hi4.then_ hb5
  have hB5 := below_then (Nat.le_refl _) hB4 hb5
  go_wp2_with fail
  ((with_reducible refine (toIntS_any _ _ _ ws _ HL.out hkm ?_).mono ?_); (exact hi5); rintro e w6 ⟨rfl, hq6, hb6⟩)
  have hr6 := hr5.then_ hb6
  have hi6 := hi5.then_ hb6
  have hp6 := hp5.then_ hb6
  have hB6 := below_then (Nat.le_refl _) hB5 hb6
  go_wp2_with fail
  ((with_reducible refine (fits_i _ _ _ _ _ _ rs ws _ HL.out hk ⟨Nat.le_refl _, hk⟩ hm ?_ ?_).mono ?_); (exact hq6.row); (exact hp6.tab); rintro e w7 ⟨rfl, hb7⟩)
  rw [HV.out]
  have hr7 := hr6.then_ hb7
  have hi7 := hi6.then_ hb7
  have hp7 := hp6.then_ hb7
  have hq7 := hq6.then_ hb7
  have hB7 := below_then (Nat.le_refl _) hB6 hb7
  rcases V with _ | _
  all_goals
    go_wp2_with fail
    ((with_reducible refine (toCellSS_any _ _ _ rs _ hsm ?_).mono ?_); (exact hr7); rintro e w8 ⟨rfl, ⟨G8, hp8⟩, hb8⟩)
    have hi8 := hi7.then_ hb8
    have hp78 := hp7.then_ hb8
    have hq8 := hq7.then_ hb8
    have hB8 := below_then (Nat.le_refl _) hB7 hb8
    go_wp2_with fail
    ((with_reducible refine (eqCellSS_same _ _ _ _ _ rs _ hm ?_ ?_).mono ?_); (exact hp78.tab); (exact hp8.tab); rintro e w9 ⟨rfl, hb9⟩)
    have hi9 := hi8.then_ hb9
    have hq9 := hq8.then_ hb9
    have hB9 := below_then (Nat.le_refl _) hB8 hb9
    go_wp2_with fail
    ((with_reducible refine (toIntS_any _ _ _ ws _ HL.out hkm ?_).mono ?_); (exact hi9); rintro e w10 ⟨rfl, hq10, hb10⟩)
    have hq11 := hq9.then_ hb10
    have hB10 := below_then (Nat.le_refl _) hB9 hb10
    go_wp2_with fail
    ((with_reducible refine (eqIntS_same _ _ _ _ _ ws _ hk ?_ ?_).mono ?_); (exact hq11.row); (exact hq10.row); rintro e w11 ⟨rfl, hb11⟩)
    have hB11 := below_then (Nat.le_refl _) hB10 hb11
    go_wp2_with fail
    go_ret
    exact ⟨rfl, hB11⟩
end Go.Proofs.Ytbkhimdebpllcaa
