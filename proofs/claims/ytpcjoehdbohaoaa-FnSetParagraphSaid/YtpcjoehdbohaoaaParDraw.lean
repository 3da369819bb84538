/- DrawSetParagraph of the reference draws items, breaks and a width. Conditions: the code is a slice of bytes. -/
import Derived.Test.YtpcjoehdbohaoaaSomeBreaks
import Derived.Test.YtpcjoehdbohaoaaAnyItems
namespace Go.Proofs.Ytpcjoehdbohaoaa
open Go.RowKit

/-- What a call leaves that draws items, breaks and a width, out of a code. -/
def ParDraw (w : World) (e : Ending) (w' : World) : Prop :=
  ∃ (g n c : Nat) (xs : List It) (d : Int) (B : Option Addr) (q cb : Nat) (bs : List Int), e = .returned (.tuple #[.slice (some ⟨g, 0, none⟩) n c, .slice B q cb, .int .i64 d]) ∧ xs.length = n ∧ n ≤ 23 ∧ (n ≤ c ∧ c ≤ maxLen) ∧ Row w' w'.heap.size 6 (some ⟨g, 0, none⟩) n (itc xs) ∧ bs.length = q ∧ q ≤ n ∧ Row w' w'.heap.size 1 B q (inc bs) ∧ Below w.heap.size w w'

set_option maxHeartbeats 1000000 in
theorem DrawSetParagraph_any (A : Option Addr) (n cap : Nat) (cs : List Int) (w : World) (hc : Code w A n cap cs) :
    Calls Try.prog 36 #[.slice A n cap] w (ParDraw w) := by
  obtain ⟨h1, h2, h3, h4, h5⟩ := hc
  have HH := Lib.hid h4; clear h4
  go_enter Try.func36, Try.ntmps36
  go_wp2_with fail
  ((with_reducible refine (newReader_any _ _ _ cs _ h1 h2 h3 HH.out h5).mono ?_); rintro e w1 ⟨rfl, hr1, hb1⟩)
  have hs1 := hb1.size
  have hl1 := hr1.lt
  go_wp2_with fail
  ((with_reducible refine (anyItems_any _ _ _ hr1 (by omega)).mono ?_); rintro e w2 ⟨g, m, c, xs, p', rfl, hx, hm, hcp, hrow, hg, hp, hr2, ho2⟩)
  have HX := Lib.hid hx; clear hx
  have hb2 : Below w.heap.size w w2 := hb1.trans (below_of_only ho2 (Nat.le_refl _) hs1)
  have hs2 := hb2.size
  go_wp2_with fail
  ((with_reducible refine (someWidth_any _ _ _ hr2 (by omega)).mono ?_); rintro e w3 ⟨x, p3, rfl, hx0, hx1, hp3, hr3, ho3⟩)
  have hb3 : Below w.heap.size w w3 := hb2.trans (below_of_only ho3 (Nat.le_refl _) hs2)
  have hs3 := hb3.size
  have hrow3 := (Row.only hrow ho3 (by intro x hx; cases hx; simp; omega) (Nat.le_refl _)).more ho3.size
  go_wp2_with fail
  ((with_reducible refine (someBreaks_any _ p3 _ m c x 10000 xs _ HX.out (by omega) ?_ ?_ hr3 (by omega)).mono ?_); (exact hrow3); (intro x hx; cases hx; simp; omega); rintro e w5 ⟨B, q, cb, bs, p5, rfl, hq, hqn, hown, hp5, hr5, ho5⟩)
  have hb5 : Below w.heap.size w w5 := hb3.trans (below_of_only ho5 (Nat.le_refl _) hs3)
  have hrow5 := (Row.only hrow3 ho5 (by intro x hx; cases hx; simp; omega) (Nat.le_refl _)).more ho5.size
  go_wp2_with fail
  (first | go_returns | (refine bodyPost_ret (by simp [results, Try.results36, go_sem, *]; try rfl) rfl ?_))
  exact ⟨g, m, c, xs, x, B, q, cb, bs, rfl, HX.out, hm, hcp, hrow5, hq, hqn, hown.row, hb5⟩
end Go.Proofs.Ytpcjoehdbohaoaa
