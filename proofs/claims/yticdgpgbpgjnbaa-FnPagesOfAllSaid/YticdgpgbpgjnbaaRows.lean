/-
  No cell of these rows narrows 'for every input' (looked for: loops, veiled, ifaces, maps, wideKeys, modest, calm, conditions, laid).
  DERIVED. THE GIVEN ROWS OF THIS SEAT. 12 by the template 'for every input the law returns true; each argument reads behind the call as it read before'; 0 by the template 'total and deterministic' (their statements: YticdgpgbpgjnbaaTotals.lean).
  GIVEN WITH THE SEED: the statements are not yours to turn. If you find one false, say at which input.
  Laid BY PROGRAM, IN A SANDBOX (cutbox-rows.mjs): the forced cells as the released guide's own fill.sh prints them over the translation 581f7961bc29ad80… (all of the seat's roots in one cut). By AI agents, Wed Nov 11 2026. No macro, syntax, notation, axiom, sorry.
-/
import Derived.Test.YticdgpgbpgjnbaaChecked
import GoSem.Claim
import GoSem.ClaimJoined
import GoSem.ClaimMapViews
import Derived.JoinedTies
import Derived.KernelRfl
namespace Go.Proofs.Yticdgpgbpgjnbaa
/- THE CELL 'sum', in the pinned program and in every row, IS THE sha256 OF THE DUMP (.gsa) THAT YticdgpgbpgjnbaaProg.lean LOADS. Nothing in Lean hashes anything: it is a label: what it is worth is what the hold of that sum in a sandbox is worth. -/
noncomputable def Try.pinned : Pinned := { name := "yticdgpgbpgjnbaa", sum := "581f7961bc29ad80d372d3c299e0371db6586b1e3c34d7591efc1e51cd1c4d80", checked := Try.checked }
namespace Rows
def none {H : Type} : Left H := { results := [], args := [] }

/-- 'laws.FnExactValidLines': WHATEVER THE INPUT: true; the input reads as it did. -/
def fnExactValidLinesSpec : ChangeSpec := { name := "fnExactValidLines", fn := fun _ => fun
  | [d] => { results := [.lit (.bool true)], args := [d] }
  | _ => none }
def fnExactValidLinesRow : OpenClaim := { program := "yticdgpgbpgjnbaa", sum := "581f7961bc29ad80d372d3c299e0371db6586b1e3c34d7591efc1e51cd1c4d80", func := "loop.example/typesetting/laws.FnExactValidLines", spec := "fnExactValidLines", apart := false }
def FnExactValidLinesSaid : Prop := fnExactValidLinesRow.holds Try.pinned (OpenSpec.ofChange fnExactValidLinesSpec)

/-- ITS FALSE NEIGHBOUR: 'it returns false'. Refute it at one input. -/
def fnExactValidLinesWrong : ChangeSpec := { name := "fnExactValidLines", fn := fun _ => fun
  | [d] => { results := [.lit (.bool false)], args := [d] }
  | _ => none }
def FnExactValidLinesWrongFalsely : Prop := fnExactValidLinesRow.holds Try.pinned (OpenSpec.ofChange fnExactValidLinesWrong)

/-- 'laws.FnExactPageHeight': WHATEVER THE INPUT: true; the input reads as it did. -/
def fnExactPageHeightSpec : ChangeSpec := { name := "fnExactPageHeight", fn := fun _ => fun
  | [d1, d2, d3] => { results := [.lit (.bool true)], args := [d1, d2, d3] }
  | _ => none }
def fnExactPageHeightRow : OpenClaim := { program := "yticdgpgbpgjnbaa", sum := "581f7961bc29ad80d372d3c299e0371db6586b1e3c34d7591efc1e51cd1c4d80", func := "loop.example/typesetting/laws.FnExactPageHeight", spec := "fnExactPageHeight", apart := false }
def FnExactPageHeightSaid : Prop := fnExactPageHeightRow.holds Try.pinned (OpenSpec.ofChange fnExactPageHeightSpec)

/-- ITS FALSE NEIGHBOUR: 'it returns false'. Refute it at one input. -/
def fnExactPageHeightWrong : ChangeSpec := { name := "fnExactPageHeight", fn := fun _ => fun
  | [d1, d2, d3] => { results := [.lit (.bool false)], args := [d1, d2, d3] }
  | _ => none }
def FnExactPageHeightWrongFalsely : Prop := fnExactPageHeightRow.holds Try.pinned (OpenSpec.ofChange fnExactPageHeightWrong)

/-- 'laws.FnPageHeight': WHATEVER THE INPUT: true; the input reads as it did. -/
def fnPageHeightSpec : ChangeSpec := { name := "fnPageHeight", fn := fun _ => fun
  | [d] => { results := [.lit (.bool true)], args := [d] }
  | _ => none }
def fnPageHeightRow : OpenClaim := { program := "yticdgpgbpgjnbaa", sum := "581f7961bc29ad80d372d3c299e0371db6586b1e3c34d7591efc1e51cd1c4d80", func := "loop.example/typesetting/laws.FnPageHeight", spec := "fnPageHeight", apart := false }
def FnPageHeightSaid : Prop := fnPageHeightRow.holds Try.pinned (OpenSpec.ofChange fnPageHeightSpec)

/-- ITS FALSE NEIGHBOUR: 'it returns false'. Refute it at one input. -/
def fnPageHeightWrong : ChangeSpec := { name := "fnPageHeight", fn := fun _ => fun
  | [d] => { results := [.lit (.bool false)], args := [d] }
  | _ => none }
def FnPageHeightWrongFalsely : Prop := fnPageHeightRow.holds Try.pinned (OpenSpec.ofChange fnPageHeightWrong)

/-- 'laws.FnExactFillPages': WHATEVER THE INPUT: true; the input reads as it did. -/
def fnExactFillPagesSpec : ChangeSpec := { name := "fnExactFillPages", fn := fun _ => fun
  | [d1, d2] => { results := [.lit (.bool true)], args := [d1, d2] }
  | _ => none }
def fnExactFillPagesRow : OpenClaim := { program := "yticdgpgbpgjnbaa", sum := "581f7961bc29ad80d372d3c299e0371db6586b1e3c34d7591efc1e51cd1c4d80", func := "loop.example/typesetting/laws.FnExactFillPages", spec := "fnExactFillPages", apart := false }
def FnExactFillPagesSaid : Prop := fnExactFillPagesRow.holds Try.pinned (OpenSpec.ofChange fnExactFillPagesSpec)

/-- ITS FALSE NEIGHBOUR: 'it returns false'. Refute it at one input. -/
def fnExactFillPagesWrong : ChangeSpec := { name := "fnExactFillPages", fn := fun _ => fun
  | [d1, d2] => { results := [.lit (.bool false)], args := [d1, d2] }
  | _ => none }
def FnExactFillPagesWrongFalsely : Prop := fnExactFillPagesRow.holds Try.pinned (OpenSpec.ofChange fnExactFillPagesWrong)

/-- 'laws.FnExactCheckPages': WHATEVER THE INPUT: true; the input reads as it did. -/
def fnExactCheckPagesSpec : ChangeSpec := { name := "fnExactCheckPages", fn := fun _ => fun
  | [d1, d2, d3] => { results := [.lit (.bool true)], args := [d1, d2, d3] }
  | _ => none }
def fnExactCheckPagesRow : OpenClaim := { program := "yticdgpgbpgjnbaa", sum := "581f7961bc29ad80d372d3c299e0371db6586b1e3c34d7591efc1e51cd1c4d80", func := "loop.example/typesetting/laws.FnExactCheckPages", spec := "fnExactCheckPages", apart := false }
def FnExactCheckPagesSaid : Prop := fnExactCheckPagesRow.holds Try.pinned (OpenSpec.ofChange fnExactCheckPagesSpec)

/-- ITS FALSE NEIGHBOUR: 'it returns false'. Refute it at one input. -/
def fnExactCheckPagesWrong : ChangeSpec := { name := "fnExactCheckPages", fn := fun _ => fun
  | [d1, d2, d3] => { results := [.lit (.bool false)], args := [d1, d2, d3] }
  | _ => none }
def FnExactCheckPagesWrongFalsely : Prop := fnExactCheckPagesRow.holds Try.pinned (OpenSpec.ofChange fnExactCheckPagesWrong)

/-- 'laws.FnFillPossible': WHATEVER THE INPUT: true; the input reads as it did. -/
def fnFillPossibleSpec : ChangeSpec := { name := "fnFillPossible", fn := fun _ => fun
  | [d] => { results := [.lit (.bool true)], args := [d] }
  | _ => none }
def fnFillPossibleRow : OpenClaim := { program := "yticdgpgbpgjnbaa", sum := "581f7961bc29ad80d372d3c299e0371db6586b1e3c34d7591efc1e51cd1c4d80", func := "loop.example/typesetting/laws.FnFillPossible", spec := "fnFillPossible", unfollowed := true, recurses := true, apart := false }
def FnFillPossibleSaid : Prop := fnFillPossibleRow.holds Try.pinned (OpenSpec.ofChange fnFillPossibleSpec)

/-- ITS FALSE NEIGHBOUR: 'it returns false'. Refute it at one input. -/
def fnFillPossibleWrong : ChangeSpec := { name := "fnFillPossible", fn := fun _ => fun
  | [d] => { results := [.lit (.bool false)], args := [d] }
  | _ => none }
def FnFillPossibleWrongFalsely : Prop := fnFillPossibleRow.holds Try.pinned (OpenSpec.ofChange fnFillPossibleWrong)

/-- 'laws.FnPagesOne': WHATEVER THE INPUT: true; the input reads as it did. -/
def fnPagesOneSpec : ChangeSpec := { name := "fnPagesOne", fn := fun _ => fun
  | [d] => { results := [.lit (.bool true)], args := [d] }
  | _ => none }
def fnPagesOneRow : OpenClaim := { program := "yticdgpgbpgjnbaa", sum := "581f7961bc29ad80d372d3c299e0371db6586b1e3c34d7591efc1e51cd1c4d80", func := "loop.example/typesetting/laws.FnPagesOne", spec := "fnPagesOne", unfollowed := true, recurses := true, apart := false }
def FnPagesOneSaid : Prop := fnPagesOneRow.holds Try.pinned (OpenSpec.ofChange fnPagesOneSpec)

/-- ITS FALSE NEIGHBOUR: 'it returns false'. Refute it at one input. -/
def fnPagesOneWrong : ChangeSpec := { name := "fnPagesOne", fn := fun _ => fun
  | [d] => { results := [.lit (.bool false)], args := [d] }
  | _ => none }
def FnPagesOneWrongFalsely : Prop := fnPagesOneRow.holds Try.pinned (OpenSpec.ofChange fnPagesOneWrong)

/-- 'laws.FnCheckPages': WHATEVER THE INPUT: true; the input reads as it did. -/
def fnCheckPagesSpec : ChangeSpec := { name := "fnCheckPages", fn := fun _ => fun
  | [d] => { results := [.lit (.bool true)], args := [d] }
  | _ => none }
def fnCheckPagesRow : OpenClaim := { program := "yticdgpgbpgjnbaa", sum := "581f7961bc29ad80d372d3c299e0371db6586b1e3c34d7591efc1e51cd1c4d80", func := "loop.example/typesetting/laws.FnCheckPages", spec := "fnCheckPages", apart := false }
def FnCheckPagesSaid : Prop := fnCheckPagesRow.holds Try.pinned (OpenSpec.ofChange fnCheckPagesSpec)

/-- ITS FALSE NEIGHBOUR: 'it returns false'. Refute it at one input. -/
def fnCheckPagesWrong : ChangeSpec := { name := "fnCheckPages", fn := fun _ => fun
  | [d] => { results := [.lit (.bool false)], args := [d] }
  | _ => none }
def FnCheckPagesWrongFalsely : Prop := fnCheckPagesRow.holds Try.pinned (OpenSpec.ofChange fnCheckPagesWrong)

/-- 'laws.FnExactBestPages': WHATEVER THE INPUT: true; the input reads as it did. -/
def fnExactBestPagesSpec : ChangeSpec := { name := "fnExactBestPages", fn := fun _ => fun
  | [d1, d2] => { results := [.lit (.bool true)], args := [d1, d2] }
  | _ => none }
def fnExactBestPagesRow : OpenClaim := { program := "yticdgpgbpgjnbaa", sum := "581f7961bc29ad80d372d3c299e0371db6586b1e3c34d7591efc1e51cd1c4d80", func := "loop.example/typesetting/laws.FnExactBestPages", spec := "fnExactBestPages", unfollowed := true, recurses := true, apart := false }
def FnExactBestPagesSaid : Prop := fnExactBestPagesRow.holds Try.pinned (OpenSpec.ofChange fnExactBestPagesSpec)

/-- ITS FALSE NEIGHBOUR: 'it returns false'. Refute it at one input. -/
def fnExactBestPagesWrong : ChangeSpec := { name := "fnExactBestPages", fn := fun _ => fun
  | [d1, d2] => { results := [.lit (.bool false)], args := [d1, d2] }
  | _ => none }
def FnExactBestPagesWrongFalsely : Prop := fnExactBestPagesRow.holds Try.pinned (OpenSpec.ofChange fnExactBestPagesWrong)

/-- 'laws.FnFillPages': WHATEVER THE INPUT: true; the input reads as it did. -/
def fnFillPagesSpec : ChangeSpec := { name := "fnFillPages", fn := fun _ => fun
  | [d] => { results := [.lit (.bool true)], args := [d] }
  | _ => none }
def fnFillPagesRow : OpenClaim := { program := "yticdgpgbpgjnbaa", sum := "581f7961bc29ad80d372d3c299e0371db6586b1e3c34d7591efc1e51cd1c4d80", func := "loop.example/typesetting/laws.FnFillPages", spec := "fnFillPages", unfollowed := true, recurses := true, apart := false }
def FnFillPagesSaid : Prop := fnFillPagesRow.holds Try.pinned (OpenSpec.ofChange fnFillPagesSpec)

/-- ITS FALSE NEIGHBOUR: 'it returns false'. Refute it at one input. -/
def fnFillPagesWrong : ChangeSpec := { name := "fnFillPages", fn := fun _ => fun
  | [d] => { results := [.lit (.bool false)], args := [d] }
  | _ => none }
def FnFillPagesWrongFalsely : Prop := fnFillPagesRow.holds Try.pinned (OpenSpec.ofChange fnFillPagesWrong)

/-- 'laws.FnBestPages': WHATEVER THE INPUT: true; the input reads as it did. -/
def fnBestPagesSpec : ChangeSpec := { name := "fnBestPages", fn := fun _ => fun
  | [d] => { results := [.lit (.bool true)], args := [d] }
  | _ => none }
def fnBestPagesRow : OpenClaim := { program := "yticdgpgbpgjnbaa", sum := "581f7961bc29ad80d372d3c299e0371db6586b1e3c34d7591efc1e51cd1c4d80", func := "loop.example/typesetting/laws.FnBestPages", spec := "fnBestPages", unfollowed := true, recurses := true, apart := false }
def FnBestPagesSaid : Prop := fnBestPagesRow.holds Try.pinned (OpenSpec.ofChange fnBestPagesSpec)

/-- ITS FALSE NEIGHBOUR: 'it returns false'. Refute it at one input. -/
def fnBestPagesWrong : ChangeSpec := { name := "fnBestPages", fn := fun _ => fun
  | [d] => { results := [.lit (.bool false)], args := [d] }
  | _ => none }
def FnBestPagesWrongFalsely : Prop := fnBestPagesRow.holds Try.pinned (OpenSpec.ofChange fnBestPagesWrong)

/-- 'laws.FnPagesOfAll': WHATEVER THE INPUT: true; the input reads as it did. -/
def fnPagesOfAllSpec : ChangeSpec := { name := "fnPagesOfAll", fn := fun _ => fun
  | [d] => { results := [.lit (.bool true)], args := [d] }
  | _ => none }
def fnPagesOfAllRow : OpenClaim := { program := "yticdgpgbpgjnbaa", sum := "581f7961bc29ad80d372d3c299e0371db6586b1e3c34d7591efc1e51cd1c4d80", func := "loop.example/typesetting/laws.FnPagesOfAll", spec := "fnPagesOfAll", unfollowed := true, recurses := true, apart := false }
def FnPagesOfAllSaid : Prop := fnPagesOfAllRow.holds Try.pinned (OpenSpec.ofChange fnPagesOfAllSpec)

/-- ITS FALSE NEIGHBOUR: 'it returns false'. Refute it at one input. -/
def fnPagesOfAllWrong : ChangeSpec := { name := "fnPagesOfAll", fn := fun _ => fun
  | [d] => { results := [.lit (.bool false)], args := [d] }
  | _ => none }
def FnPagesOfAllWrongFalsely : Prop := fnPagesOfAllRow.holds Try.pinned (OpenSpec.ofChange fnPagesOfAllWrong)

/- THE SECOND FORM. 'bulk': how many values and letters a reading holds, each counted each time it is reached (what is shared counts as often as it is met; a slice's spare places count too). A statement '..UptoSaid' is the law's where the arguments, and the package variables that the reading takes, are together of bulk at most 1048576: NARROWER than '..Said'. Prove '..Said' where nothing that the law and all that it calls make is longer than what came in: it says more and counts as full. Else prove '..UptoSaid'. A law counts once. -/
mutual
def uptoBulk {H : Type} : DataW H → Nat
  | .lit (.string bytes) => bytes.length + 1
  | .lit _ => 1
  | .nil => 1
  | .ptr d => uptoBulk d + 1
  | .slice elems spare => uptoBulkAll elems + uptoBulkAll spare + 1
  | .agg parts => uptoBulkAll parts + 1
  | .iface _ d => uptoBulk d + 1
  | .map entries => uptoBulkEntries entries + 1
  | .held _ => 1
def uptoBulkAll {H : Type} : List (DataW H) → Nat
  | [] => 0
  | d :: r => uptoBulk d + uptoBulkAll r
def uptoBulkEntries {H : Type} : List (Lit × DataW H) → Nat
  | [] => 0
  | x :: r => uptoBulkEntry x + uptoBulkEntries r
def uptoBulkEntry {H : Type} : Lit × DataW H → Nat
  | (.string bytes, d) => bytes.length + uptoBulk d + 1
  | (_, d) => uptoBulk d + 1
 end
def uptoSmall : (H : Type) → List (DataW H) → Bool := fun _ ds => decide (uptoBulkAll ds ≤ 1048576)
def OpenSpec.upto (s : _root_.Go.ChangeSpec) : _root_.Go.OpenSpec := { _root_.Go.OpenSpec.ofChange s with cond := some uptoSmall }

/-- 'laws.FnExactValidLines', WHERE WHAT IT READS IS OF BULK AT MOST 1048576: true; the input reads as it did. -/
def fnExactValidLinesUptoRow : OpenClaim := { program := "yticdgpgbpgjnbaa", sum := "581f7961bc29ad80d372d3c299e0371db6586b1e3c34d7591efc1e51cd1c4d80", func := "loop.example/typesetting/laws.FnExactValidLines", spec := "fnExactValidLines", apart := false, narrowed := true }
def FnExactValidLinesUptoSaid : Prop := fnExactValidLinesUptoRow.holds Try.pinned (OpenSpec.upto fnExactValidLinesSpec)

/-- 'laws.FnExactPageHeight', WHERE WHAT IT READS IS OF BULK AT MOST 1048576: true; the input reads as it did. -/
def fnExactPageHeightUptoRow : OpenClaim := { program := "yticdgpgbpgjnbaa", sum := "581f7961bc29ad80d372d3c299e0371db6586b1e3c34d7591efc1e51cd1c4d80", func := "loop.example/typesetting/laws.FnExactPageHeight", spec := "fnExactPageHeight", apart := false, narrowed := true }
def FnExactPageHeightUptoSaid : Prop := fnExactPageHeightUptoRow.holds Try.pinned (OpenSpec.upto fnExactPageHeightSpec)

/-- 'laws.FnPageHeight', WHERE WHAT IT READS IS OF BULK AT MOST 1048576: true; the input reads as it did. -/
def fnPageHeightUptoRow : OpenClaim := { program := "yticdgpgbpgjnbaa", sum := "581f7961bc29ad80d372d3c299e0371db6586b1e3c34d7591efc1e51cd1c4d80", func := "loop.example/typesetting/laws.FnPageHeight", spec := "fnPageHeight", apart := false, narrowed := true }
def FnPageHeightUptoSaid : Prop := fnPageHeightUptoRow.holds Try.pinned (OpenSpec.upto fnPageHeightSpec)

/-- 'laws.FnExactFillPages', WHERE WHAT IT READS IS OF BULK AT MOST 1048576: true; the input reads as it did. -/
def fnExactFillPagesUptoRow : OpenClaim := { program := "yticdgpgbpgjnbaa", sum := "581f7961bc29ad80d372d3c299e0371db6586b1e3c34d7591efc1e51cd1c4d80", func := "loop.example/typesetting/laws.FnExactFillPages", spec := "fnExactFillPages", apart := false, narrowed := true }
def FnExactFillPagesUptoSaid : Prop := fnExactFillPagesUptoRow.holds Try.pinned (OpenSpec.upto fnExactFillPagesSpec)

/-- 'laws.FnExactCheckPages', WHERE WHAT IT READS IS OF BULK AT MOST 1048576: true; the input reads as it did. -/
def fnExactCheckPagesUptoRow : OpenClaim := { program := "yticdgpgbpgjnbaa", sum := "581f7961bc29ad80d372d3c299e0371db6586b1e3c34d7591efc1e51cd1c4d80", func := "loop.example/typesetting/laws.FnExactCheckPages", spec := "fnExactCheckPages", apart := false, narrowed := true }
def FnExactCheckPagesUptoSaid : Prop := fnExactCheckPagesUptoRow.holds Try.pinned (OpenSpec.upto fnExactCheckPagesSpec)

/-- 'laws.FnFillPossible', WHERE WHAT IT READS IS OF BULK AT MOST 1048576: true; the input reads as it did. -/
def fnFillPossibleUptoRow : OpenClaim := { program := "yticdgpgbpgjnbaa", sum := "581f7961bc29ad80d372d3c299e0371db6586b1e3c34d7591efc1e51cd1c4d80", func := "loop.example/typesetting/laws.FnFillPossible", spec := "fnFillPossible", unfollowed := true, recurses := true, apart := false, narrowed := true }
def FnFillPossibleUptoSaid : Prop := fnFillPossibleUptoRow.holds Try.pinned (OpenSpec.upto fnFillPossibleSpec)

/-- 'laws.FnPagesOne', WHERE WHAT IT READS IS OF BULK AT MOST 1048576: true; the input reads as it did. -/
def fnPagesOneUptoRow : OpenClaim := { program := "yticdgpgbpgjnbaa", sum := "581f7961bc29ad80d372d3c299e0371db6586b1e3c34d7591efc1e51cd1c4d80", func := "loop.example/typesetting/laws.FnPagesOne", spec := "fnPagesOne", unfollowed := true, recurses := true, apart := false, narrowed := true }
def FnPagesOneUptoSaid : Prop := fnPagesOneUptoRow.holds Try.pinned (OpenSpec.upto fnPagesOneSpec)

/-- 'laws.FnCheckPages', WHERE WHAT IT READS IS OF BULK AT MOST 1048576: true; the input reads as it did. -/
def fnCheckPagesUptoRow : OpenClaim := { program := "yticdgpgbpgjnbaa", sum := "581f7961bc29ad80d372d3c299e0371db6586b1e3c34d7591efc1e51cd1c4d80", func := "loop.example/typesetting/laws.FnCheckPages", spec := "fnCheckPages", apart := false, narrowed := true }
def FnCheckPagesUptoSaid : Prop := fnCheckPagesUptoRow.holds Try.pinned (OpenSpec.upto fnCheckPagesSpec)

/-- 'laws.FnExactBestPages', WHERE WHAT IT READS IS OF BULK AT MOST 1048576: true; the input reads as it did. -/
def fnExactBestPagesUptoRow : OpenClaim := { program := "yticdgpgbpgjnbaa", sum := "581f7961bc29ad80d372d3c299e0371db6586b1e3c34d7591efc1e51cd1c4d80", func := "loop.example/typesetting/laws.FnExactBestPages", spec := "fnExactBestPages", unfollowed := true, recurses := true, apart := false, narrowed := true }
def FnExactBestPagesUptoSaid : Prop := fnExactBestPagesUptoRow.holds Try.pinned (OpenSpec.upto fnExactBestPagesSpec)

/-- 'laws.FnFillPages', WHERE WHAT IT READS IS OF BULK AT MOST 1048576: true; the input reads as it did. -/
def fnFillPagesUptoRow : OpenClaim := { program := "yticdgpgbpgjnbaa", sum := "581f7961bc29ad80d372d3c299e0371db6586b1e3c34d7591efc1e51cd1c4d80", func := "loop.example/typesetting/laws.FnFillPages", spec := "fnFillPages", unfollowed := true, recurses := true, apart := false, narrowed := true }
def FnFillPagesUptoSaid : Prop := fnFillPagesUptoRow.holds Try.pinned (OpenSpec.upto fnFillPagesSpec)

/-- 'laws.FnBestPages', WHERE WHAT IT READS IS OF BULK AT MOST 1048576: true; the input reads as it did. -/
def fnBestPagesUptoRow : OpenClaim := { program := "yticdgpgbpgjnbaa", sum := "581f7961bc29ad80d372d3c299e0371db6586b1e3c34d7591efc1e51cd1c4d80", func := "loop.example/typesetting/laws.FnBestPages", spec := "fnBestPages", unfollowed := true, recurses := true, apart := false, narrowed := true }
def FnBestPagesUptoSaid : Prop := fnBestPagesUptoRow.holds Try.pinned (OpenSpec.upto fnBestPagesSpec)

/-- 'laws.FnPagesOfAll', WHERE WHAT IT READS IS OF BULK AT MOST 1048576: true; the input reads as it did. -/
def fnPagesOfAllUptoRow : OpenClaim := { program := "yticdgpgbpgjnbaa", sum := "581f7961bc29ad80d372d3c299e0371db6586b1e3c34d7591efc1e51cd1c4d80", func := "loop.example/typesetting/laws.FnPagesOfAll", spec := "fnPagesOfAll", unfollowed := true, recurses := true, apart := false, narrowed := true }
def FnPagesOfAllUptoSaid : Prop := fnPagesOfAllUptoRow.holds Try.pinned (OpenSpec.upto fnPagesOfAllSpec)

end Rows
end Go.Proofs.Yticdgpgbpgjnbaa
