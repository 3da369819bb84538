/-
  No cell of these rows narrows 'for every input' (looked for: loops, veiled, ifaces, maps, wideKeys, modest, calm, conditions, laid).
  DERIVED. THE GIVEN ROWS OF THIS SEAT. 8 by the template 'for every input the law returns true; each argument reads behind the call as it read before'; 0 by the template 'total and deterministic' (their statements: YtpcjoehdbohaoaaTotals.lean).
  GIVEN WITH THE SEED: the statements are not yours to turn. If you find one false, say at which input.
  Laid BY PROGRAM, IN A SANDBOX (cutbox-rows.mjs): the forced cells as the released guide's own fill.sh prints them over the translation 1ca4b6f752958095… (all of the seat's roots in one cut). By AI agents, Wed Nov 11 2026. No macro, syntax, notation, axiom, sorry.
-/
import Derived.Test.YtpcjoehdbohaoaaChecked
import GoSem.Claim
import GoSem.ClaimJoined
import GoSem.ClaimMapViews
import Derived.JoinedTies
import Derived.KernelRfl
namespace Go.Proofs.Ytpcjoehdbohaoaa
/- THE CELL 'sum', in the pinned program and in every row, IS THE sha256 OF THE DUMP (.gsa) THAT YtpcjoehdbohaoaaProg.lean LOADS. Nothing in Lean hashes anything: it is a label: what it is worth is what the hold of that sum in a sandbox is worth. -/
noncomputable def Try.pinned : Pinned := { name := "ytpcjoehdbohaoaa", sum := "1ca4b6f7529580959c24498d83df8234fcb8638a4854782ce95fe14d63ba0b61", checked := Try.checked }
namespace Rows
def none {H : Type} : Left H := { results := [], args := [] }

/-- 'laws.FnExactBoxesOf': WHATEVER THE INPUT: true; the input reads as it did. -/
def fnExactBoxesOfSpec : ChangeSpec := { name := "fnExactBoxesOf", fn := fun _ => fun
  | [d1, d2, d3] => { results := [.lit (.bool true)], args := [d1, d2, d3] }
  | _ => none }
def fnExactBoxesOfRow : OpenClaim := { program := "ytpcjoehdbohaoaa", sum := "1ca4b6f7529580959c24498d83df8234fcb8638a4854782ce95fe14d63ba0b61", func := "loop.example/typesetting/laws.FnExactBoxesOf", spec := "fnExactBoxesOf", unfollowed := true, recurses := true, apart := false }
def FnExactBoxesOfSaid : Prop := fnExactBoxesOfRow.holds Try.pinned (OpenSpec.ofChange fnExactBoxesOfSpec)

/-- ITS FALSE NEIGHBOUR: 'it returns false'. Refute it at one input. -/
def fnExactBoxesOfWrong : ChangeSpec := { name := "fnExactBoxesOf", fn := fun _ => fun
  | [d1, d2, d3] => { results := [.lit (.bool false)], args := [d1, d2, d3] }
  | _ => none }
def FnExactBoxesOfWrongFalsely : Prop := fnExactBoxesOfRow.holds Try.pinned (OpenSpec.ofChange fnExactBoxesOfWrong)

/-- 'laws.FnLineGlue': WHATEVER THE INPUT: true; the input reads as it did. -/
def fnLineGlueSpec : ChangeSpec := { name := "fnLineGlue", fn := fun _ => fun
  | [d] => { results := [.lit (.bool true)], args := [d] }
  | _ => none }
def fnLineGlueRow : OpenClaim := { program := "ytpcjoehdbohaoaa", sum := "1ca4b6f7529580959c24498d83df8234fcb8638a4854782ce95fe14d63ba0b61", func := "loop.example/typesetting/laws.FnLineGlue", spec := "fnLineGlue", unfollowed := true, recurses := true, apart := false }
def FnLineGlueSaid : Prop := fnLineGlueRow.holds Try.pinned (OpenSpec.ofChange fnLineGlueSpec)

/-- ITS FALSE NEIGHBOUR: 'it returns false'. Refute it at one input. -/
def fnLineGlueWrong : ChangeSpec := { name := "fnLineGlue", fn := fun _ => fun
  | [d] => { results := [.lit (.bool false)], args := [d] }
  | _ => none }
def FnLineGlueWrongFalsely : Prop := fnLineGlueRow.holds Try.pinned (OpenSpec.ofChange fnLineGlueWrong)

/-- 'laws.FnBoxesOf': WHATEVER THE INPUT: true; the input reads as it did. -/
def fnBoxesOfSpec : ChangeSpec := { name := "fnBoxesOf", fn := fun _ => fun
  | [d] => { results := [.lit (.bool true)], args := [d] }
  | _ => none }
def fnBoxesOfRow : OpenClaim := { program := "ytpcjoehdbohaoaa", sum := "1ca4b6f7529580959c24498d83df8234fcb8638a4854782ce95fe14d63ba0b61", func := "loop.example/typesetting/laws.FnBoxesOf", spec := "fnBoxesOf", unfollowed := true, recurses := true, apart := false }
def FnBoxesOfSaid : Prop := fnBoxesOfRow.holds Try.pinned (OpenSpec.ofChange fnBoxesOfSpec)

/-- ITS FALSE NEIGHBOUR: 'it returns false'. Refute it at one input. -/
def fnBoxesOfWrong : ChangeSpec := { name := "fnBoxesOf", fn := fun _ => fun
  | [d] => { results := [.lit (.bool false)], args := [d] }
  | _ => none }
def FnBoxesOfWrongFalsely : Prop := fnBoxesOfRow.holds Try.pinned (OpenSpec.ofChange fnBoxesOfWrong)

/-- 'laws.FnExactSetLine': WHATEVER THE INPUT: true; the input reads as it did. -/
def fnExactSetLineSpec : ChangeSpec := { name := "fnExactSetLine", fn := fun _ => fun
  | [d1, d2, d3, d4] => { results := [.lit (.bool true)], args := [d1, d2, d3, d4] }
  | _ => none }
def fnExactSetLineRow : OpenClaim := { program := "ytpcjoehdbohaoaa", sum := "1ca4b6f7529580959c24498d83df8234fcb8638a4854782ce95fe14d63ba0b61", func := "loop.example/typesetting/laws.FnExactSetLine", spec := "fnExactSetLine", unfollowed := true, recurses := true, apart := false }
def FnExactSetLineSaid : Prop := fnExactSetLineRow.holds Try.pinned (OpenSpec.ofChange fnExactSetLineSpec)

/-- ITS FALSE NEIGHBOUR: 'it returns false'. Refute it at one input. -/
def fnExactSetLineWrong : ChangeSpec := { name := "fnExactSetLine", fn := fun _ => fun
  | [d1, d2, d3, d4] => { results := [.lit (.bool false)], args := [d1, d2, d3, d4] }
  | _ => none }
def FnExactSetLineWrongFalsely : Prop := fnExactSetLineRow.holds Try.pinned (OpenSpec.ofChange fnExactSetLineWrong)

/-- 'laws.FnSetBoxes': WHATEVER THE INPUT: true; the input reads as it did. -/
def fnSetBoxesSpec : ChangeSpec := { name := "fnSetBoxes", fn := fun _ => fun
  | [d] => { results := [.lit (.bool true)], args := [d] }
  | _ => none }
def fnSetBoxesRow : OpenClaim := { program := "ytpcjoehdbohaoaa", sum := "1ca4b6f7529580959c24498d83df8234fcb8638a4854782ce95fe14d63ba0b61", func := "loop.example/typesetting/laws.FnSetBoxes", spec := "fnSetBoxes", unfollowed := true, recurses := true, apart := false }
def FnSetBoxesSaid : Prop := fnSetBoxesRow.holds Try.pinned (OpenSpec.ofChange fnSetBoxesSpec)

/-- ITS FALSE NEIGHBOUR: 'it returns false'. Refute it at one input. -/
def fnSetBoxesWrong : ChangeSpec := { name := "fnSetBoxes", fn := fun _ => fun
  | [d] => { results := [.lit (.bool false)], args := [d] }
  | _ => none }
def FnSetBoxesWrongFalsely : Prop := fnSetBoxesRow.holds Try.pinned (OpenSpec.ofChange fnSetBoxesWrong)

/-- 'laws.FnSetLine': WHATEVER THE INPUT: true; the input reads as it did. -/
def fnSetLineSpec : ChangeSpec := { name := "fnSetLine", fn := fun _ => fun
  | [d] => { results := [.lit (.bool true)], args := [d] }
  | _ => none }
def fnSetLineRow : OpenClaim := { program := "ytpcjoehdbohaoaa", sum := "1ca4b6f7529580959c24498d83df8234fcb8638a4854782ce95fe14d63ba0b61", func := "loop.example/typesetting/laws.FnSetLine", spec := "fnSetLine", unfollowed := true, recurses := true, apart := false }
def FnSetLineSaid : Prop := fnSetLineRow.holds Try.pinned (OpenSpec.ofChange fnSetLineSpec)

/-- ITS FALSE NEIGHBOUR: 'it returns false'. Refute it at one input. -/
def fnSetLineWrong : ChangeSpec := { name := "fnSetLine", fn := fun _ => fun
  | [d] => { results := [.lit (.bool false)], args := [d] }
  | _ => none }
def FnSetLineWrongFalsely : Prop := fnSetLineRow.holds Try.pinned (OpenSpec.ofChange fnSetLineWrong)

/-- 'laws.FnExactSetParagraph': WHATEVER THE INPUT: true; the input reads as it did. -/
def fnExactSetParagraphSpec : ChangeSpec := { name := "fnExactSetParagraph", fn := fun _ => fun
  | [d1, d2, d3] => { results := [.lit (.bool true)], args := [d1, d2, d3] }
  | _ => none }
def fnExactSetParagraphRow : OpenClaim := { program := "ytpcjoehdbohaoaa", sum := "1ca4b6f7529580959c24498d83df8234fcb8638a4854782ce95fe14d63ba0b61", func := "loop.example/typesetting/laws.FnExactSetParagraph", spec := "fnExactSetParagraph", unfollowed := true, recurses := true, apart := false }
def FnExactSetParagraphSaid : Prop := fnExactSetParagraphRow.holds Try.pinned (OpenSpec.ofChange fnExactSetParagraphSpec)

/-- ITS FALSE NEIGHBOUR: 'it returns false'. Refute it at one input. -/
def fnExactSetParagraphWrong : ChangeSpec := { name := "fnExactSetParagraph", fn := fun _ => fun
  | [d1, d2, d3] => { results := [.lit (.bool false)], args := [d1, d2, d3] }
  | _ => none }
def FnExactSetParagraphWrongFalsely : Prop := fnExactSetParagraphRow.holds Try.pinned (OpenSpec.ofChange fnExactSetParagraphWrong)

/-- 'laws.FnSetParagraph': WHATEVER THE INPUT: true; the input reads as it did. -/
def fnSetParagraphSpec : ChangeSpec := { name := "fnSetParagraph", fn := fun _ => fun
  | [d] => { results := [.lit (.bool true)], args := [d] }
  | _ => none }
def fnSetParagraphRow : OpenClaim := { program := "ytpcjoehdbohaoaa", sum := "1ca4b6f7529580959c24498d83df8234fcb8638a4854782ce95fe14d63ba0b61", func := "loop.example/typesetting/laws.FnSetParagraph", spec := "fnSetParagraph", unfollowed := true, recurses := true, apart := false }
def FnSetParagraphSaid : Prop := fnSetParagraphRow.holds Try.pinned (OpenSpec.ofChange fnSetParagraphSpec)

/-- ITS FALSE NEIGHBOUR: 'it returns false'. Refute it at one input. -/
def fnSetParagraphWrong : ChangeSpec := { name := "fnSetParagraph", fn := fun _ => fun
  | [d] => { results := [.lit (.bool false)], args := [d] }
  | _ => none }
def FnSetParagraphWrongFalsely : Prop := fnSetParagraphRow.holds Try.pinned (OpenSpec.ofChange fnSetParagraphWrong)

/- THE SECOND FORM. 'bulk': how many values and letters a reading holds, each counted each time it is reached (what is shared counts as often as it is met; a slice's spare places count too). A statement '..UptoSaid' is the law's where the arguments, and the package variables that the reading takes, are together of bulk at most 1048576: NARROWER than '..Said'. Prove '..Said' where nothing that the law and all that it calls make is longer than what came in: it says more and counts as full. Else prove '..UptoSaid'. A law counts once. -/
mutual
def uptoBulk {H : Type} : DataW H → Nat
  | .lit (.string bytes) => bytes.length + 1
  | .lit _ => 1
  | .nil => 1
  | .ptr d => uptoBulk d + 1
  | .slice elems spare => uptoBulkAll elems + uptoBulkAll spare + 1
  | .agg parts => uptoBulkAll parts + 1
  | .iface _ d => uptoBulk d + 1
  | .map entries => uptoBulkEntries entries + 1
  | .held _ => 1
def uptoBulkAll {H : Type} : List (DataW H) → Nat
  | [] => 0
  | d :: r => uptoBulk d + uptoBulkAll r
def uptoBulkEntries {H : Type} : List (Lit × DataW H) → Nat
  | [] => 0
  | x :: r => uptoBulkEntry x + uptoBulkEntries r
def uptoBulkEntry {H : Type} : Lit × DataW H → Nat
  | (.string bytes, d) => bytes.length + uptoBulk d + 1
  | (_, d) => uptoBulk d + 1
 end
def uptoSmall : (H : Type) → List (DataW H) → Bool := fun _ ds => decide (uptoBulkAll ds ≤ 1048576)
def OpenSpec.upto (s : _root_.Go.ChangeSpec) : _root_.Go.OpenSpec := { _root_.Go.OpenSpec.ofChange s with cond := some uptoSmall }

/-- 'laws.FnExactBoxesOf', WHERE WHAT IT READS IS OF BULK AT MOST 1048576: true; the input reads as it did. -/
def fnExactBoxesOfUptoRow : OpenClaim := { program := "ytpcjoehdbohaoaa", sum := "1ca4b6f7529580959c24498d83df8234fcb8638a4854782ce95fe14d63ba0b61", func := "loop.example/typesetting/laws.FnExactBoxesOf", spec := "fnExactBoxesOf", unfollowed := true, recurses := true, apart := false, narrowed := true }
def FnExactBoxesOfUptoSaid : Prop := fnExactBoxesOfUptoRow.holds Try.pinned (OpenSpec.upto fnExactBoxesOfSpec)

/-- 'laws.FnLineGlue', WHERE WHAT IT READS IS OF BULK AT MOST 1048576: true; the input reads as it did. -/
def fnLineGlueUptoRow : OpenClaim := { program := "ytpcjoehdbohaoaa", sum := "1ca4b6f7529580959c24498d83df8234fcb8638a4854782ce95fe14d63ba0b61", func := "loop.example/typesetting/laws.FnLineGlue", spec := "fnLineGlue", unfollowed := true, recurses := true, apart := false, narrowed := true }
def FnLineGlueUptoSaid : Prop := fnLineGlueUptoRow.holds Try.pinned (OpenSpec.upto fnLineGlueSpec)

/-- 'laws.FnBoxesOf', WHERE WHAT IT READS IS OF BULK AT MOST 1048576: true; the input reads as it did. -/
def fnBoxesOfUptoRow : OpenClaim := { program := "ytpcjoehdbohaoaa", sum := "1ca4b6f7529580959c24498d83df8234fcb8638a4854782ce95fe14d63ba0b61", func := "loop.example/typesetting/laws.FnBoxesOf", spec := "fnBoxesOf", unfollowed := true, recurses := true, apart := false, narrowed := true }
def FnBoxesOfUptoSaid : Prop := fnBoxesOfUptoRow.holds Try.pinned (OpenSpec.upto fnBoxesOfSpec)

/-- 'laws.FnExactSetLine', WHERE WHAT IT READS IS OF BULK AT MOST 1048576: true; the input reads as it did. -/
def fnExactSetLineUptoRow : OpenClaim := { program := "ytpcjoehdbohaoaa", sum := "1ca4b6f7529580959c24498d83df8234fcb8638a4854782ce95fe14d63ba0b61", func := "loop.example/typesetting/laws.FnExactSetLine", spec := "fnExactSetLine", unfollowed := true, recurses := true, apart := false, narrowed := true }
def FnExactSetLineUptoSaid : Prop := fnExactSetLineUptoRow.holds Try.pinned (OpenSpec.upto fnExactSetLineSpec)

/-- 'laws.FnSetBoxes', WHERE WHAT IT READS IS OF BULK AT MOST 1048576: true; the input reads as it did. -/
def fnSetBoxesUptoRow : OpenClaim := { program := "ytpcjoehdbohaoaa", sum := "1ca4b6f7529580959c24498d83df8234fcb8638a4854782ce95fe14d63ba0b61", func := "loop.example/typesetting/laws.FnSetBoxes", spec := "fnSetBoxes", unfollowed := true, recurses := true, apart := false, narrowed := true }
def FnSetBoxesUptoSaid : Prop := fnSetBoxesUptoRow.holds Try.pinned (OpenSpec.upto fnSetBoxesSpec)

/-- 'laws.FnSetLine', WHERE WHAT IT READS IS OF BULK AT MOST 1048576: true; the input reads as it did. -/
def fnSetLineUptoRow : OpenClaim := { program := "ytpcjoehdbohaoaa", sum := "1ca4b6f7529580959c24498d83df8234fcb8638a4854782ce95fe14d63ba0b61", func := "loop.example/typesetting/laws.FnSetLine", spec := "fnSetLine", unfollowed := true, recurses := true, apart := false, narrowed := true }
def FnSetLineUptoSaid : Prop := fnSetLineUptoRow.holds Try.pinned (OpenSpec.upto fnSetLineSpec)

/-- 'laws.FnExactSetParagraph', WHERE WHAT IT READS IS OF BULK AT MOST 1048576: true; the input reads as it did. -/
def fnExactSetParagraphUptoRow : OpenClaim := { program := "ytpcjoehdbohaoaa", sum := "1ca4b6f7529580959c24498d83df8234fcb8638a4854782ce95fe14d63ba0b61", func := "loop.example/typesetting/laws.FnExactSetParagraph", spec := "fnExactSetParagraph", unfollowed := true, recurses := true, apart := false, narrowed := true }
def FnExactSetParagraphUptoSaid : Prop := fnExactSetParagraphUptoRow.holds Try.pinned (OpenSpec.upto fnExactSetParagraphSpec)

/-- 'laws.FnSetParagraph', WHERE WHAT IT READS IS OF BULK AT MOST 1048576: true; the input reads as it did. -/
def fnSetParagraphUptoRow : OpenClaim := { program := "ytpcjoehdbohaoaa", sum := "1ca4b6f7529580959c24498d83df8234fcb8638a4854782ce95fe14d63ba0b61", func := "loop.example/typesetting/laws.FnSetParagraph", spec := "fnSetParagraph", unfollowed := true, recurses := true, apart := false, narrowed := true }
def FnSetParagraphUptoSaid : Prop := fnSetParagraphUptoRow.holds Try.pinned (OpenSpec.upto fnSetParagraphSpec)

end Rows
end Go.Proofs.Ytpcjoehdbohaoaa
