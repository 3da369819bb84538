/- last of the laws returns what the plain function says. Conditions: the slices read as lists. -/
import Derived.Test.YtpcjoehdbohaoaaInts
import Derived.Test.YtpcjoehdbohaoaaLists
namespace Go.Proofs.Ytpcjoehdbohaoaa
open Go.RowKit

/-- The last number, -1 for none. -/
def lastOf (xs : List Int) : Int := if xs.length = 0 then -1 else xs.getD (xs.length - 1) default

theorem last_any (A : Option Addr) (n cap : Nat) (xs : List Int) (w : World) (hn : xs.length = n) (hm : n ≤ maxLen) (hr : Row w w.heap.size 1 A n (inc xs)) :
    Calls Try.prog 29 #[.slice A n cap] w fun e w' => e = .returned (.int .i64 (lastOf xs)) ∧ Below w.heap.size w w' := by
  unfold maxLen at hm
  have HN := Lib.hid hn; clear hn
  by_cases h0 : n = 0
  · subst h0
    rw [show lastOf xs = -1 by rw [lastOf, if_pos HN.out]]
    clear hr
    go_enter Try.func29, Try.ntmps29
    go_wp2_with fail
    go_ret
    exact ⟨rfl, Below.refl _ _⟩
  · have h1 : 0 < n := by omega
    have hb0 : ((n : Int) == 0) = false := by simp; omega
    obtain ⟨b, off, rfl, hb, hc⟩ := hr.at1 h1
    have c0 := hc (n - 1) (by omega)
    obtain ⟨x, hx⟩ : ∃ x, xs.getD (n - 1) default = x := ⟨_, rfl⟩
    simp only [inc, hx] at c0
    rw [show lastOf xs = x by rw [lastOf, if_neg (by rw [HN.out]; exact h0), HN.out, hx]]
    clear hx hc h0
    go_enter Try.func29, Try.ntmps29
    go_wp2_with fail
    go_ret
    exact ⟨rfl, Below.refl _ _⟩

end Go.Proofs.Ytpcjoehdbohaoaa
