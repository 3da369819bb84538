/- A width of lines: the test of the reference. No condition. -/
import Derived.Test.YtpcjoehdbohaoaaBase
namespace Go.Proofs.Ytpcjoehdbohaoaa
open Go.RowKit

def widthOk (a : Int) : Bool := inR a 1 10000
theorem validWidth_any (a : Int) (w : World) : Calls Try.prog 47 #[.int .i64 a] w fun e w' => e = .returned (.bool (widthOk a)) ∧ w = w' := by
  go_enter Try.func47, Try.ntmps47
  go_wp2_with fail
  ((with_reducible refine (inRange_any _ _ _ _).mono ?_); rintro e w' ⟨rfl, rfl⟩)
  go_wp2
  go_ret
  exact ⟨rfl, rfl⟩
end Go.Proofs.Ytpcjoehdbohaoaa
