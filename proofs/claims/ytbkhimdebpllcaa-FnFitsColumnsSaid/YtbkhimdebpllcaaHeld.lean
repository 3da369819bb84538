/- A slice that holds the marks 1, 2, .. is held. Conditions: the slice reads as the marks. -/
import Derived.Test.YtbkhimdebpllcaaMarks
namespace Go.Proofs.Ytbkhimdebpllcaa
open Go.RowKit

theorem heldIntS_any (A : Option Addr) (n c : Nat) (w : World) (hm : n ≤ 9223372036854775806) (hr : Row w w.heap.size 1 A n (inc (marks n))) :
    Calls Try.prog 17 #[.slice A n c, .int .i64 1] w fun e w' => e = .returned (.int .i64 (n + 1)) ∧ Below w.heap.size w w' := by
  go_enter Try.func17, Try.ntmps17
  go_wp2_with fail
  go_loopg [1, 5] n (fun k r i wr => ∃ j : Nat, j ≤ n ∧ k = n - j ∧ i = .int .i64 j ∧ r = .int .i64 ((j : Int) + 1) ∧ Below w.heap.size w wr)
  case atStart => exact ⟨0, Nat.zero_le _, rfl, rfl, by go_num, Below.refl _ _⟩
  case round =>
    obtain ⟨j, hj, hk, rfl, rfl, hbel⟩ := hrel
    have HK := Lib.hid hk; clear hk
    have hsz := hbel.size
    by_cases hlt : j < n
    · obtain ⟨b, off, rfl, hb, hc⟩ := hr.at1 (by omega)
      have c0 : wr.cell? ⟨b, off + j, none⟩ = _ := (hbel.cell (p := ⟨b, off + j, none⟩) hb).trans (hc j hlt)
      have e0 : (marks n).getD j default = (j : Int) + 1 := marks_at hlt
      simp only [inc, e0] at c0
      clear hc e0
      go_wp2_with fail
      go_roundg (n - (j + 1))
      case measure => have := HK.out; omega
      case rel => exact ⟨j + 1, by omega, rfl, by go_num, by go_num, by (repeat' (first | (with_reducible exact Below.refl _ _) | (with_reducible assumption) | (with_reducible refine Below.alloc ?_ ?_ _) | (with_reducible refine Below.drew ?_) | (with_reducible refine below_drewN ?_ _) | (with_reducible refine Below.setCell ?_ ?_ _) | (with_reducible refine below_then ?_ ?_ (by with_reducible assumption)) | (with_reducible exact Nat.le_refl _) | go_size | (simp only [*]; done)))⟩
    · go_wp2_with fail
      go_ret
      have ej : j = n := by omega
      subst ej
      exact ⟨rfl, hbel⟩
end Go.Proofs.Ytbkhimdebpllcaa
