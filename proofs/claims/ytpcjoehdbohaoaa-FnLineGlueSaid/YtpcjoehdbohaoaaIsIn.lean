/- isIn of the laws returns what the plain function says. Conditions: the slices read as lists. -/
import Derived.Test.YtpcjoehdbohaoaaInts
import Derived.Test.YtpcjoehdbohaoaaLists
namespace Go.Proofs.Ytpcjoehdbohaoaa
open Go.RowKit

theorem isIn_any (A : Option Addr) (n cap : Nat) (m : Int) (xs : List Int) (w : World) (hn : xs.length = n) (hm : n ≤ maxLen) (hr : Row w w.heap.size 1 A n (inc xs)) :
    Calls Try.prog 25 #[.slice A n cap, .int .i64 m] w fun e w' => e = .returned (.bool (has xs m)) ∧ Below w.heap.size w w' := by
  unfold maxLen at hm
  have HN := Lib.hid hn; clear hn
  go_enter Try.func25, Try.ntmps25
  go_wp2_with fail
  go_loopg [5] n (fun k i wr => ∃ j : Nat, j ≤ n ∧ k = n - j ∧ i = .int .i64 j ∧ Hid ((xs.take j).any (fun y => y == m) = false) ∧ Below w.heap.size w wr)
  case atStart => exact ⟨0, Nat.zero_le _, rfl, rfl, by simp [Hid], Below.refl _ _⟩
  case round =>
    obtain ⟨j, hj, hk, rfl, hall, hbel⟩ := hrel
    have HK := Lib.hid hk; clear hk
    have hsz := hbel.size
    by_cases hlt : j < n
    · obtain ⟨b, off, rfl, hb, hc⟩ := hr.at1 (by omega)
      have c0 : wr.cell? ⟨b, off + j, none⟩ = _ := (hbel.cell (p := ⟨b, off + j, none⟩) hb).trans (hc j hlt)
      obtain ⟨x, hx⟩ : ∃ x, xs.getD j default = x := ⟨_, rfl⟩
      simp only [inc, hx] at c0
      have Hx := Lib.hid hx; clear hx hc
      by_cases hv : x = m
      · subst hv
        go_wp2_with fail
        go_ret
        exact ⟨ret_bool (has_iff.2 (mem_of_getD HN.out hlt Hx.out)).symm, by (repeat' (first | (with_reducible exact Below.refl _ _) | (with_reducible assumption) | (with_reducible refine Below.alloc ?_ ?_ _) | (with_reducible refine Below.drew ?_) | (with_reducible refine below_drewN ?_ _) | (with_reducible refine Below.setCell ?_ ?_ _) | (with_reducible refine below_then ?_ ?_ (by with_reducible assumption)) | (with_reducible exact Nat.le_refl _) | go_size | (simp only [*]; done)))⟩
      · have hb : (x == m) = false := by simp [hv]
        have HV := Lib.hid hb
        clear hv
        go_wp2_with fail
        go_roundg (n - (j + 1))
        case measure => have := HK.out; omega
        case rel => exact ⟨j + 1, by omega, rfl, by go_num, by show _ = false; rw [tk_snoc' HN.out hlt Hx.out, List.any_append, hall.out]; simpa using HV.out, by (repeat' (first | (with_reducible exact Below.refl _ _) | (with_reducible assumption) | (with_reducible refine Below.alloc ?_ ?_ _) | (with_reducible refine Below.drew ?_) | (with_reducible refine below_drewN ?_ _) | (with_reducible refine Below.setCell ?_ ?_ _) | (with_reducible refine below_then ?_ ?_ (by with_reducible assumption)) | (with_reducible exact Nat.le_refl _) | go_size | (simp only [*]; done)))⟩
    · go_wp2_with fail
      go_ret
      exact ⟨ret_bool (by rw [has, ← hall.out, List.take_of_length_le (by rw [HN.out]; omega)]), hbel⟩

end Go.Proofs.Ytpcjoehdbohaoaa
