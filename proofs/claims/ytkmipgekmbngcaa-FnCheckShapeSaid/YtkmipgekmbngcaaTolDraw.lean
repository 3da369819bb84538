/- The generator of tolerances returns some number. Conditions: the reader has yielded fewer than 2^47 numbers. -/
import Derived.Test.YtkmipgekmbngcaaAnyItems
namespace Go.Proofs.Ytkmipgekmbngcaa
open Go.RowKit

theorem someTolerance_any (rb p : Nat) (w : World) (h : Rd w rb p) (hp : p ≤ 140737488355328) : Calls Try.prog 37 #[.pointer (some ⟨rb, 0, none⟩)] w (DrawnN w rb p 2 (-1) 10001) := by
  have hlt := h.lt
  go_enter Try.func37, Try.ntmps37
  go_wp2_with fail
  ((with_reducible refine (one_any rb _ w.heap.size 10 10 (fun i => [10000, 10000, 10000, 2000, 200, 50, 0, 10001, -1, 5000].getD i 0) _ (h.alloc _) (by omega) (by omega) (by omega) (by omega) (lit_cells [10000, 10000, 10000, 2000, 200, 50, 0, 10001, -1, 5000] (Blk.new _ _ _) rfl)).mono ?_); rintro e w4 ⟨x, hx, rfl, hr4, ho4⟩)
  obtain ⟨b0, b1⟩ := lit_bound [10000, 10000, 10000, 2000, 200, 50, 0, 10001, -1, 5000] (-1) 10001 (by decide) (by decide) hx
  go_wp2_with fail
  go_ret
  exact ⟨x, _, rfl, b0, b1, by omega, hr4, only_trans (only_alloc (only_refl _ _) _) ho4⟩
end Go.Proofs.Ytkmipgekmbngcaa
