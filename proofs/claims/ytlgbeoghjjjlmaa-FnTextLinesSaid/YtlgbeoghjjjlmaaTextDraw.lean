/- The generator of paragraphs and a height. Conditions: the code is a slice of bytes. -/
import Derived.Test.YtlgbeoghjjjlmaaSizesDraw
namespace Go.Proofs.Ytlgbeoghjjjlmaa
open Go.RowKit

def SizesNumOut (w : World) (e : Ending) (w' : World) : Prop :=
  ∃ (A : Option Addr) (n c : Nat) (xs : List Int) (t : Int), e = .returned (.tuple #[.slice A n c, .int .i64 t]) ∧ xs.length = n ∧ n ≤ 6 ∧ (∀ x ∈ xs, -1 ≤ x ∧ x ≤ 41) ∧ Row w' w'.heap.size 1 A n (inc xs) ∧ Below w.heap.size w w'

set_option maxHeartbeats 2000000 in
theorem DrawTextLines_any (A : Option Addr) (n cap : Nat) (cs : List Int) (w : World) (hc : Code w A n cap cs) :
    Calls Try.prog 20 #[.slice A n cap] w (SizesNumOut w) := by
  obtain ⟨h1, h2, h3, h4, h5⟩ := hc
  have HH := Lib.hid h4; clear h4
  go_enter Try.func20, Try.ntmps20
  go_wp2_with fail
  ((with_reducible refine (newReader_any _ _ _ cs _ h1 h2 h3 HH.out h5).mono ?_); rintro e w1 ⟨rfl, hr1, hb1⟩)
  have hs1 := hb1.size
  have hl1 := hr1.lt
  go_wp2_with fail
  ((with_reducible refine (someSizes_any _ _ _ hr1 (by omega)).mono ?_); rintro e w2 ⟨B, m, c, xs, p', rfl, hx, hm, hxb, hrow, hA, hp, hr2, ho2⟩)
  have HX := Lib.hid hx; clear hx
  have HXB := Lib.hid hxb; clear hxb
  have hb2 : Below w.heap.size w w2 := hb1.trans (below_of_only ho2 (Nat.le_refl _) hs1)
  have hs2 := hb2.size
  go_wp2_with fail
  ((with_reducible refine (one_any _ _ w2.heap.size 6 6 (fun i => [1, 5, 10, 1000, 0, 1001].getD i 0) _ (hr2.alloc _) (by omega) hr2.lt (by omega) (by omega) (lit_cells [1, 5, 10, 1000, 0, 1001] (Blk.new _ _ _) rfl)).mono ?_); rintro e w3 ⟨v, hv, rfl, hr3, ho3⟩)
  have hO3 := only_trans (only_alloc (only_refl w2 w.heap.size) _) ho3
  have hb3 : Below w.heap.size w w3 := hb2.trans (below_of_only hO3 (Nat.le_refl _) hs2)
  have hrow3 := (hrow.only hO3 hA (Nat.le_refl _)).more hO3.size
  go_wp2_with fail
  go_ret2
  exact ⟨B, m, c, xs, v, rfl, HX.out, hm, HXB.out, hrow3, hb3⟩
end Go.Proofs.Ytlgbeoghjjjlmaa
