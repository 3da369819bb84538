/- What the generators of numbers leave; small functions of the laws on slices of numbers: isIn, last, equalInts. Conditions: the slices read as lists. -/
import Derived.Test.YtbkhimdebpllcaaReader
import Derived.Test.YtbkhimdebpllcaaInts
import Derived.Test.YtbkhimdebpllcaaLists
namespace Go.Proofs.Ytbkhimdebpllcaa
open Go.RowKit

/-- What a call leaves that draws a slice of at most M numbers in lo..hi, by at most K numbers of the reader. -/
def DrawnInts (w : World) (rb p K M : Nat) (lo hi : Int) (e : Ending) (w' : World) : Prop :=
  ∃ (A : Option Addr) (n c : Nat) (xs : List Int) (p' : Nat), e = .returned (.slice A n c) ∧ xs.length = n ∧ n ≤ M ∧ (∀ x ∈ xs, lo ≤ x ∧ x ≤ hi) ∧ Row w' w'.heap.size 1 A n (inc xs) ∧ (∀ x, A = some x → rb < x.block) ∧ p' ≤ p + K ∧ Rd w' rb p' ∧ w.grownBy w' (some rb)

/-- What a call leaves that draws a number in lo..hi. -/
def DrawnInt (w : World) (rb p K : Nat) (lo hi : Int) (e : Ending) (w' : World) : Prop :=
  ∃ (x : Int) (p' : Nat), e = .returned (.int .i64 x) ∧ lo ≤ x ∧ x ≤ hi ∧ p' ≤ p + K ∧ Rd w' rb p' ∧ w.grownBy w' (some rb)

theorem mem_set {xs : List Int} {lo hi v : Int} {i : Nat} (h : ∀ x ∈ xs, lo ≤ x ∧ x ≤ hi) (hv : lo ≤ v ∧ v ≤ hi) : ∀ x ∈ xs.set i v, lo ≤ x ∧ x ≤ hi := by
  intro x hx
  rcases List.mem_or_eq_of_mem_set hx with h1 | h1
  · exact h x h1
  · subst h1; exact hv
theorem mem_snoc {xs : List Int} {lo hi v : Int} (h : ∀ x ∈ xs, lo ≤ x ∧ x ≤ hi) (hv : lo ≤ v ∧ v ≤ hi) : ∀ x ∈ xs ++ [v], lo ≤ x ∧ x ≤ hi := by
  intro x hx
  rcases List.mem_append.1 hx with h1 | h1
  · exact h x h1
  · obtain rfl := List.mem_singleton.1 h1
    exact hv
theorem own_nil (w : World) (base g : Nat) (h : Blk w g 3 #[]) (hg : base ≤ g) : OwnI w base (some ⟨g, 0, none⟩) 0 0 [] :=
  owns_nil w base 3 1 0 g _ h hg (Nat.zero_le _) rfl
end Go.Proofs.Ytbkhimdebpllcaa
