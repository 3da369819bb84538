/- The cost of a step between the nodes of a paragraph: -1 and all items. No program. No condition. -/
import Derived.Test.YtkmipgekmbngcaaSumPlain
namespace Go.Proofs.Ytkmipgekmbngcaa

/-- The cost of a step from node to node: node 0 is the beginning, node i + 1 is item i. -/
def ndC (xs : List It) (d tol : Int) (k i : Nat) : Option Int := lc xs d tol ((k : Int) - 1) ((i : Int) - 1)
end Go.Proofs.Ytkmipgekmbngcaa
