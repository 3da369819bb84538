/-
  No cell of these rows narrows 'for every input' (looked for: loops, veiled, ifaces, maps, wideKeys, modest, calm, conditions, laid).
  DERIVED. THE GIVEN ROWS OF THIS SEAT. 5 by the template 'for every input the law returns true; each argument reads behind the call as it read before'; 0 by the template 'total and deterministic' (their statements: YtifeapincbjeeaaTotals.lean).
  GIVEN WITH THE SEED: the statements are not yours to turn. If you find one false, say at which input.
  Laid BY PROGRAM, IN A SANDBOX (cutbox-rows.mjs): the forced cells as the released guide's own fill.sh prints them over the translation 9c72c07ad6eecb46… (all of the seat's roots in one cut). By AI agents, Wed Nov 11 2026. No macro, syntax, notation, axiom, sorry.
-/
import Derived.Test.YtifeapincbjeeaaChecked
import GoSem.Claim
import GoSem.ClaimJoined
import GoSem.ClaimMapViews
import Derived.JoinedTies
import Derived.KernelRfl
namespace Go.Proofs.Ytifeapincbjeeaa
/- THE CELL 'sum', in the pinned program and in every row, IS THE sha256 OF THE DUMP (.gsa) THAT YtifeapincbjeeaaProg.lean LOADS. Nothing in Lean hashes anything: it is a label: what it is worth is what the hold of that sum in a sandbox is worth. -/
noncomputable def Try.pinned : Pinned := { name := "ytifeapincbjeeaa", sum := "9c72c07ad6eecb4601388fcb308e8938cbc9e1a174359ad9774fc19025554731", checked := Try.checked }
namespace Rows
def none {H : Type} : Left H := { results := [], args := [] }

/-- 'laws.FnExactWidthOfLine': WHATEVER THE INPUT: true; the input reads as it did. -/
def fnExactWidthOfLineSpec : ChangeSpec := { name := "fnExactWidthOfLine", fn := fun _ => fun
  | [d1, d2] => { results := [.lit (.bool true)], args := [d1, d2] }
  | _ => none }
def fnExactWidthOfLineRow : OpenClaim := { program := "ytifeapincbjeeaa", sum := "9c72c07ad6eecb4601388fcb308e8938cbc9e1a174359ad9774fc19025554731", func := "loop.example/typesetting/laws.FnExactWidthOfLine", spec := "fnExactWidthOfLine", apart := false }
def FnExactWidthOfLineSaid : Prop := fnExactWidthOfLineRow.holds Try.pinned (OpenSpec.ofChange fnExactWidthOfLineSpec)

/-- ITS FALSE NEIGHBOUR: 'it returns false'. Refute it at one input. -/
def fnExactWidthOfLineWrong : ChangeSpec := { name := "fnExactWidthOfLine", fn := fun _ => fun
  | [d1, d2] => { results := [.lit (.bool false)], args := [d1, d2] }
  | _ => none }
def FnExactWidthOfLineWrongFalsely : Prop := fnExactWidthOfLineRow.holds Try.pinned (OpenSpec.ofChange fnExactWidthOfLineWrong)

/-- 'laws.FnWidthOfLine': WHATEVER THE INPUT: true; the input reads as it did. -/
def fnWidthOfLineSpec : ChangeSpec := { name := "fnWidthOfLine", fn := fun _ => fun
  | [d] => { results := [.lit (.bool true)], args := [d] }
  | _ => none }
def fnWidthOfLineRow : OpenClaim := { program := "ytifeapincbjeeaa", sum := "9c72c07ad6eecb4601388fcb308e8938cbc9e1a174359ad9774fc19025554731", func := "loop.example/typesetting/laws.FnWidthOfLine", spec := "fnWidthOfLine", apart := false }
def FnWidthOfLineSaid : Prop := fnWidthOfLineRow.holds Try.pinned (OpenSpec.ofChange fnWidthOfLineSpec)

/-- ITS FALSE NEIGHBOUR: 'it returns false'. Refute it at one input. -/
def fnWidthOfLineWrong : ChangeSpec := { name := "fnWidthOfLine", fn := fun _ => fun
  | [d] => { results := [.lit (.bool false)], args := [d] }
  | _ => none }
def FnWidthOfLineWrongFalsely : Prop := fnWidthOfLineRow.holds Try.pinned (OpenSpec.ofChange fnWidthOfLineWrong)

/-- 'laws.FnExactHangShape': WHATEVER THE INPUT: true; the input reads as it did. -/
def fnExactHangShapeSpec : ChangeSpec := { name := "fnExactHangShape", fn := fun _ => fun
  | [d1, d2, d3, d4] => { results := [.lit (.bool true)], args := [d1, d2, d3, d4] }
  | _ => none }
def fnExactHangShapeRow : OpenClaim := { program := "ytifeapincbjeeaa", sum := "9c72c07ad6eecb4601388fcb308e8938cbc9e1a174359ad9774fc19025554731", func := "loop.example/typesetting/laws.FnExactHangShape", spec := "fnExactHangShape", apart := false }
def FnExactHangShapeSaid : Prop := fnExactHangShapeRow.holds Try.pinned (OpenSpec.ofChange fnExactHangShapeSpec)

/-- ITS FALSE NEIGHBOUR: 'it returns false'. Refute it at one input. -/
def fnExactHangShapeWrong : ChangeSpec := { name := "fnExactHangShape", fn := fun _ => fun
  | [d1, d2, d3, d4] => { results := [.lit (.bool false)], args := [d1, d2, d3, d4] }
  | _ => none }
def FnExactHangShapeWrongFalsely : Prop := fnExactHangShapeRow.holds Try.pinned (OpenSpec.ofChange fnExactHangShapeWrong)

/-- 'laws.FnHangPlain': WHATEVER THE INPUT: true; the input reads as it did. -/
def fnHangPlainSpec : ChangeSpec := { name := "fnHangPlain", fn := fun _ => fun
  | [d] => { results := [.lit (.bool true)], args := [d] }
  | _ => none }
def fnHangPlainRow : OpenClaim := { program := "ytifeapincbjeeaa", sum := "9c72c07ad6eecb4601388fcb308e8938cbc9e1a174359ad9774fc19025554731", func := "loop.example/typesetting/laws.FnHangPlain", spec := "fnHangPlain", apart := false }
def FnHangPlainSaid : Prop := fnHangPlainRow.holds Try.pinned (OpenSpec.ofChange fnHangPlainSpec)

/-- ITS FALSE NEIGHBOUR: 'it returns false'. Refute it at one input. -/
def fnHangPlainWrong : ChangeSpec := { name := "fnHangPlain", fn := fun _ => fun
  | [d] => { results := [.lit (.bool false)], args := [d] }
  | _ => none }
def FnHangPlainWrongFalsely : Prop := fnHangPlainRow.holds Try.pinned (OpenSpec.ofChange fnHangPlainWrong)

/-- 'laws.FnHangShape': WHATEVER THE INPUT: true; the input reads as it did. -/
def fnHangShapeSpec : ChangeSpec := { name := "fnHangShape", fn := fun _ => fun
  | [d] => { results := [.lit (.bool true)], args := [d] }
  | _ => none }
def fnHangShapeRow : OpenClaim := { program := "ytifeapincbjeeaa", sum := "9c72c07ad6eecb4601388fcb308e8938cbc9e1a174359ad9774fc19025554731", func := "loop.example/typesetting/laws.FnHangShape", spec := "fnHangShape", apart := false }
def FnHangShapeSaid : Prop := fnHangShapeRow.holds Try.pinned (OpenSpec.ofChange fnHangShapeSpec)

/-- ITS FALSE NEIGHBOUR: 'it returns false'. Refute it at one input. -/
def fnHangShapeWrong : ChangeSpec := { name := "fnHangShape", fn := fun _ => fun
  | [d] => { results := [.lit (.bool false)], args := [d] }
  | _ => none }
def FnHangShapeWrongFalsely : Prop := fnHangShapeRow.holds Try.pinned (OpenSpec.ofChange fnHangShapeWrong)

/- THE SECOND FORM. 'bulk': how many values and letters a reading holds, each counted each time it is reached (what is shared counts as often as it is met; a slice's spare places count too). A statement '..UptoSaid' is the law's where the arguments, and the package variables that the reading takes, are together of bulk at most 1048576: NARROWER than '..Said'. Prove '..Said' where nothing that the law and all that it calls make is longer than what came in: it says more and counts as full. Else prove '..UptoSaid'. A law counts once. -/
mutual
def uptoBulk {H : Type} : DataW H → Nat
  | .lit (.string bytes) => bytes.length + 1
  | .lit _ => 1
  | .nil => 1
  | .ptr d => uptoBulk d + 1
  | .slice elems spare => uptoBulkAll elems + uptoBulkAll spare + 1
  | .agg parts => uptoBulkAll parts + 1
  | .iface _ d => uptoBulk d + 1
  | .map entries => uptoBulkEntries entries + 1
  | .held _ => 1
def uptoBulkAll {H : Type} : List (DataW H) → Nat
  | [] => 0
  | d :: r => uptoBulk d + uptoBulkAll r
def uptoBulkEntries {H : Type} : List (Lit × DataW H) → Nat
  | [] => 0
  | x :: r => uptoBulkEntry x + uptoBulkEntries r
def uptoBulkEntry {H : Type} : Lit × DataW H → Nat
  | (.string bytes, d) => bytes.length + uptoBulk d + 1
  | (_, d) => uptoBulk d + 1
 end
def uptoSmall : (H : Type) → List (DataW H) → Bool := fun _ ds => decide (uptoBulkAll ds ≤ 1048576)
def OpenSpec.upto (s : _root_.Go.ChangeSpec) : _root_.Go.OpenSpec := { _root_.Go.OpenSpec.ofChange s with cond := some uptoSmall }

/-- 'laws.FnExactWidthOfLine', WHERE WHAT IT READS IS OF BULK AT MOST 1048576: true; the input reads as it did. -/
def fnExactWidthOfLineUptoRow : OpenClaim := { program := "ytifeapincbjeeaa", sum := "9c72c07ad6eecb4601388fcb308e8938cbc9e1a174359ad9774fc19025554731", func := "loop.example/typesetting/laws.FnExactWidthOfLine", spec := "fnExactWidthOfLine", apart := false, narrowed := true }
def FnExactWidthOfLineUptoSaid : Prop := fnExactWidthOfLineUptoRow.holds Try.pinned (OpenSpec.upto fnExactWidthOfLineSpec)

/-- 'laws.FnWidthOfLine', WHERE WHAT IT READS IS OF BULK AT MOST 1048576: true; the input reads as it did. -/
def fnWidthOfLineUptoRow : OpenClaim := { program := "ytifeapincbjeeaa", sum := "9c72c07ad6eecb4601388fcb308e8938cbc9e1a174359ad9774fc19025554731", func := "loop.example/typesetting/laws.FnWidthOfLine", spec := "fnWidthOfLine", apart := false, narrowed := true }
def FnWidthOfLineUptoSaid : Prop := fnWidthOfLineUptoRow.holds Try.pinned (OpenSpec.upto fnWidthOfLineSpec)

/-- 'laws.FnExactHangShape', WHERE WHAT IT READS IS OF BULK AT MOST 1048576: true; the input reads as it did. -/
def fnExactHangShapeUptoRow : OpenClaim := { program := "ytifeapincbjeeaa", sum := "9c72c07ad6eecb4601388fcb308e8938cbc9e1a174359ad9774fc19025554731", func := "loop.example/typesetting/laws.FnExactHangShape", spec := "fnExactHangShape", apart := false, narrowed := true }
def FnExactHangShapeUptoSaid : Prop := fnExactHangShapeUptoRow.holds Try.pinned (OpenSpec.upto fnExactHangShapeSpec)

/-- 'laws.FnHangPlain', WHERE WHAT IT READS IS OF BULK AT MOST 1048576: true; the input reads as it did. -/
def fnHangPlainUptoRow : OpenClaim := { program := "ytifeapincbjeeaa", sum := "9c72c07ad6eecb4601388fcb308e8938cbc9e1a174359ad9774fc19025554731", func := "loop.example/typesetting/laws.FnHangPlain", spec := "fnHangPlain", apart := false, narrowed := true }
def FnHangPlainUptoSaid : Prop := fnHangPlainUptoRow.holds Try.pinned (OpenSpec.upto fnHangPlainSpec)

/-- 'laws.FnHangShape', WHERE WHAT IT READS IS OF BULK AT MOST 1048576: true; the input reads as it did. -/
def fnHangShapeUptoRow : OpenClaim := { program := "ytifeapincbjeeaa", sum := "9c72c07ad6eecb4601388fcb308e8938cbc9e1a174359ad9774fc19025554731", func := "loop.example/typesetting/laws.FnHangShape", spec := "fnHangShape", apart := false, narrowed := true }
def FnHangShapeUptoSaid : Prop := fnHangShapeUptoRow.holds Try.pinned (OpenSpec.upto fnHangShapeSpec)

end Rows
end Go.Proofs.Ytifeapincbjeeaa
