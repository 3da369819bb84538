/- equalInts and sum of the laws return what the plain functions say. Conditions: the slices read as lists; for sum the numbers are small and few. -/
import Derived.Test.YtbkhimdebpllcaaInts
import Derived.Test.YtbkhimdebpllcaaLists
namespace Go.Proofs.Ytbkhimdebpllcaa
open Go.RowKit

theorem equalInts_same (A A' : Option Addr) (n cap cap' : Nat) (xs : List Int) (w : World) (hm : n ≤ maxLen) (hr : Row w w.heap.size 1 A n (inc xs)) (hr' : Row w w.heap.size 1 A' n (inc xs)) :
    Calls Try.prog 24 #[.slice A n cap, .slice A' n cap'] w fun e w' => e = .returned (.bool true) ∧ Below w.heap.size w w' := by
  unfold maxLen at hm
  go_enter Try.func24, Try.ntmps24
  go_wp2_with fail
  go_loopg [5] n (fun k i wr => ∃ j : Nat, j ≤ n ∧ k = n - j ∧ i = .int .i64 j ∧ Below w.heap.size w wr)
  case atStart => exact ⟨0, Nat.zero_le _, rfl, rfl, Below.refl _ _⟩
  case round =>
    obtain ⟨j, hj, hk, rfl, hbel⟩ := hrel
    have HK := Lib.hid hk; clear hk
    have hsz := hbel.size
    by_cases hlt : j < n
    · obtain ⟨b', off', rfl, hb', hc'⟩ := hr'.at1 (by omega)
      have d0 : wr.cell? ⟨b', off' + j, none⟩ = _ := (hbel.cell (p := ⟨b', off' + j, none⟩) hb').trans (hc' j hlt)
      obtain ⟨b, off, rfl, hb, hc⟩ := hr.at1 (by omega)
      have c0 : wr.cell? ⟨b, off + j, none⟩ = _ := (hbel.cell (p := ⟨b, off + j, none⟩) hb).trans (hc j hlt)
      obtain ⟨x, hx⟩ : ∃ x, xs.getD j default = x := ⟨_, rfl⟩
      simp only [inc, hx] at c0 d0
      clear hc hc' hx
      have hlt' : (j : Int) < (n : Int) := by omega
      go_wp2_with fail
      go_region
      all_goals
        go_wp2_with fail
        go_roundg (n - (j + 1))
        case measure => have := HK.out; omega
        case rel => exact ⟨j + 1, by omega, rfl, by go_num, by (repeat' (first | (with_reducible exact Below.refl _ _) | (with_reducible assumption) | (with_reducible refine Below.alloc ?_ ?_ _) | (with_reducible refine Below.drew ?_) | (with_reducible refine below_drewN ?_ _) | (with_reducible refine Below.setCell ?_ ?_ _) | (with_reducible refine below_then ?_ ?_ (by with_reducible assumption)) | (with_reducible exact Nat.le_refl _) | go_size | (simp only [*]; done)))⟩
    · go_wp2_with fail
      go_ret
      exact ⟨rfl, hbel⟩

theorem sum_any (A : Option Addr) (n cap : Nat) (xs : List Int) (w : World) (hn : xs.length = n) (hm : n ≤ 1000000) (hxb : ∀ x ∈ xs, -1000000 ≤ x ∧ x ≤ 1000000) (hr : Row w w.heap.size 1 A n (inc xs)) :
    Calls Try.prog 25 #[.slice A n cap] w fun e w' => e = .returned (.int .i64 xs.sum) ∧ Below w.heap.size w w' := by
  have HN := Lib.hid hn; clear hn
  have HXB := Lib.hid hxb; clear hxb
  go_enter Try.func25, Try.ntmps25
  go_wp2_with fail
  go_loopg [3, 4] n (fun k t i wr => ∃ (j : Nat) (s : Int), j ≤ n ∧ k = n - j ∧ i = .int .i64 j ∧ t = .int .i64 s ∧ Hid ((xs.take j).sum = s) ∧ Below w.heap.size w wr)
  case atStart => exact ⟨0, 0, Nat.zero_le _, rfl, rfl, rfl, rfl, Below.refl _ _⟩
  case round =>
    obtain ⟨j, s, hj, hk, rfl, rfl, hs, hbel⟩ := hrel
    have HK := Lib.hid hk; clear hk
    have hsz := hbel.size
    have hsb := sum_bound (l := xs.take j) (a := -1000000) (b := 1000000) fun x hx => HXB.out x (List.mem_of_mem_take hx)
    rw [List.length_take, Nat.min_eq_left (by rw [HN.out]; exact hj), hs.out] at hsb
    obtain ⟨s0, s1⟩ := hsb
    by_cases hlt : j < n
    · obtain ⟨b, off, rfl, hb, hc⟩ := hr.at1 (by omega)
      have c0 : wr.cell? ⟨b, off + j, none⟩ = _ := (hbel.cell (p := ⟨b, off + j, none⟩) hb).trans (hc j hlt)
      obtain ⟨x, hx⟩ : ∃ x, xs.getD j default = x := ⟨_, rfl⟩
      simp only [inc, hx] at c0
      have Hx := Lib.hid hx; clear hx hc
      obtain ⟨x0, x1⟩ := HXB.out x (mem_of_getD HN.out hlt Hx.out)
      have hlt' : (j : Int) < (n : Int) := by omega
      go_wp2_with fail
      go_roundg (n - (j + 1))
      case measure => have := HK.out; omega
      case rel => exact ⟨j + 1, s + x, by omega, rfl, by go_num, by go_num, (by show _ = _; rw [tk_snoc' HN.out hlt Hx.out, sum_snoc, hs.out]), by (repeat' (first | (with_reducible exact Below.refl _ _) | (with_reducible assumption) | (with_reducible refine Below.alloc ?_ ?_ _) | (with_reducible refine Below.drew ?_) | (with_reducible refine below_drewN ?_ _) | (with_reducible refine Below.setCell ?_ ?_ _) | (with_reducible refine below_then ?_ ?_ (by with_reducible assumption)) | (with_reducible exact Nat.le_refl _) | go_size | (simp only [*]; done)))⟩
    · have e : xs.sum = s := by have := hs.out; rwa [List.take_of_length_le (by rw [HN.out]; omega)] at this
      have E := Lib.hid e; clear e
      go_wp2_with fail
      go_ret
      exact ⟨ret_int E.out.symm, hbel⟩
end Go.Proofs.Ytbkhimdebpllcaa
