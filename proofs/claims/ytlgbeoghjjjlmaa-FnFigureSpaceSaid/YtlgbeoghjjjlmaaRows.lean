/-
  No cell of these rows narrows 'for every input' (looked for: loops, veiled, ifaces, maps, wideKeys, modest, calm, conditions, laid).
  DERIVED. THE GIVEN ROWS OF THIS SEAT. 10 by the template 'for every input the law returns true; each argument reads behind the call as it read before'; 0 by the template 'total and deterministic' (their statements: YtlgbeoghjjjlmaaTotals.lean).
  GIVEN WITH THE SEED: the statements are not yours to turn. If you find one false, say at which input.
  Laid BY PROGRAM, IN A SANDBOX (cutbox-rows.mjs): the forced cells as the released guide's own fill.sh prints them over the translation 9bc15651604aeb56… (all of the seat's roots in one cut). By AI agents, Wed Nov 11 2026. No macro, syntax, notation, axiom, sorry.
-/
import Derived.Test.YtlgbeoghjjjlmaaChecked
import GoSem.Claim
import GoSem.ClaimJoined
import GoSem.ClaimMapViews
import Derived.JoinedTies
import Derived.KernelRfl
namespace Go.Proofs.Ytlgbeoghjjjlmaa
/- THE CELL 'sum', in the pinned program and in every row, IS THE sha256 OF THE DUMP (.gsa) THAT YtlgbeoghjjjlmaaProg.lean LOADS. Nothing in Lean hashes anything: it is a label: what it is worth is what the hold of that sum in a sandbox is worth. -/
noncomputable def Try.pinned : Pinned := { name := "ytlgbeoghjjjlmaa", sum := "9bc15651604aeb5604ebcf2c3dd05a204db3762b644f35dd623c02b8c9a5633f", checked := Try.checked }
namespace Rows
def none {H : Type} : Left H := { results := [], args := [] }

/-- 'laws.FnExactPageOf': WHATEVER THE INPUT: true; the input reads as it did. -/
def fnExactPageOfSpec : ChangeSpec := { name := "fnExactPageOf", fn := fun _ => fun
  | [d1, d2] => { results := [.lit (.bool true)], args := [d1, d2] }
  | _ => none }
def fnExactPageOfRow : OpenClaim := { program := "ytlgbeoghjjjlmaa", sum := "9bc15651604aeb5604ebcf2c3dd05a204db3762b644f35dd623c02b8c9a5633f", func := "loop.example/typesetting/laws.FnExactPageOf", spec := "fnExactPageOf", unfollowed := true, recurses := true, apart := false }
def FnExactPageOfSaid : Prop := fnExactPageOfRow.holds Try.pinned (OpenSpec.ofChange fnExactPageOfSpec)

/-- ITS FALSE NEIGHBOUR: 'it returns false'. Refute it at one input. -/
def fnExactPageOfWrong : ChangeSpec := { name := "fnExactPageOf", fn := fun _ => fun
  | [d1, d2] => { results := [.lit (.bool false)], args := [d1, d2] }
  | _ => none }
def FnExactPageOfWrongFalsely : Prop := fnExactPageOfRow.holds Try.pinned (OpenSpec.ofChange fnExactPageOfWrong)

/-- 'laws.FnPageOf': WHATEVER THE INPUT: true; the input reads as it did. -/
def fnPageOfSpec : ChangeSpec := { name := "fnPageOf", fn := fun _ => fun
  | [d] => { results := [.lit (.bool true)], args := [d] }
  | _ => none }
def fnPageOfRow : OpenClaim := { program := "ytlgbeoghjjjlmaa", sum := "9bc15651604aeb5604ebcf2c3dd05a204db3762b644f35dd623c02b8c9a5633f", func := "loop.example/typesetting/laws.FnPageOf", spec := "fnPageOf", unfollowed := true, recurses := true, apart := false }
def FnPageOfSaid : Prop := fnPageOfRow.holds Try.pinned (OpenSpec.ofChange fnPageOfSpec)

/-- ITS FALSE NEIGHBOUR: 'it returns false'. Refute it at one input. -/
def fnPageOfWrong : ChangeSpec := { name := "fnPageOf", fn := fun _ => fun
  | [d] => { results := [.lit (.bool false)], args := [d] }
  | _ => none }
def FnPageOfWrongFalsely : Prop := fnPageOfRow.holds Try.pinned (OpenSpec.ofChange fnPageOfWrong)

/-- 'laws.FnExactCountWidows': WHATEVER THE INPUT: true; the input reads as it did. -/
def fnExactCountWidowsSpec : ChangeSpec := { name := "fnExactCountWidows", fn := fun _ => fun
  | [d1, d2] => { results := [.lit (.bool true)], args := [d1, d2] }
  | _ => none }
def fnExactCountWidowsRow : OpenClaim := { program := "ytlgbeoghjjjlmaa", sum := "9bc15651604aeb5604ebcf2c3dd05a204db3762b644f35dd623c02b8c9a5633f", func := "loop.example/typesetting/laws.FnExactCountWidows", spec := "fnExactCountWidows", apart := false }
def FnExactCountWidowsSaid : Prop := fnExactCountWidowsRow.holds Try.pinned (OpenSpec.ofChange fnExactCountWidowsSpec)

/-- ITS FALSE NEIGHBOUR: 'it returns false'. Refute it at one input. -/
def fnExactCountWidowsWrong : ChangeSpec := { name := "fnExactCountWidows", fn := fun _ => fun
  | [d1, d2] => { results := [.lit (.bool false)], args := [d1, d2] }
  | _ => none }
def FnExactCountWidowsWrongFalsely : Prop := fnExactCountWidowsRow.holds Try.pinned (OpenSpec.ofChange fnExactCountWidowsWrong)

/-- 'laws.FnTextLines': WHATEVER THE INPUT: true; the input reads as it did. -/
def fnTextLinesSpec : ChangeSpec := { name := "fnTextLines", fn := fun _ => fun
  | [d] => { results := [.lit (.bool true)], args := [d] }
  | _ => none }
def fnTextLinesRow : OpenClaim := { program := "ytlgbeoghjjjlmaa", sum := "9bc15651604aeb5604ebcf2c3dd05a204db3762b644f35dd623c02b8c9a5633f", func := "loop.example/typesetting/laws.FnTextLines", spec := "fnTextLines", apart := false }
def FnTextLinesSaid : Prop := fnTextLinesRow.holds Try.pinned (OpenSpec.ofChange fnTextLinesSpec)

/-- ITS FALSE NEIGHBOUR: 'it returns false'. Refute it at one input. -/
def fnTextLinesWrong : ChangeSpec := { name := "fnTextLines", fn := fun _ => fun
  | [d] => { results := [.lit (.bool false)], args := [d] }
  | _ => none }
def FnTextLinesWrongFalsely : Prop := fnTextLinesRow.holds Try.pinned (OpenSpec.ofChange fnTextLinesWrong)

/-- 'laws.FnCountWidows': WHATEVER THE INPUT: true; the input reads as it did. -/
def fnCountWidowsSpec : ChangeSpec := { name := "fnCountWidows", fn := fun _ => fun
  | [d] => { results := [.lit (.bool true)], args := [d] }
  | _ => none }
def fnCountWidowsRow : OpenClaim := { program := "ytlgbeoghjjjlmaa", sum := "9bc15651604aeb5604ebcf2c3dd05a204db3762b644f35dd623c02b8c9a5633f", func := "loop.example/typesetting/laws.FnCountWidows", spec := "fnCountWidows", apart := false }
def FnCountWidowsSaid : Prop := fnCountWidowsRow.holds Try.pinned (OpenSpec.ofChange fnCountWidowsSpec)

/-- ITS FALSE NEIGHBOUR: 'it returns false'. Refute it at one input. -/
def fnCountWidowsWrong : ChangeSpec := { name := "fnCountWidows", fn := fun _ => fun
  | [d] => { results := [.lit (.bool false)], args := [d] }
  | _ => none }
def FnCountWidowsWrongFalsely : Prop := fnCountWidowsRow.holds Try.pinned (OpenSpec.ofChange fnCountWidowsWrong)

/-- 'laws.FnExactTextLines': WHATEVER THE INPUT: true; the input reads as it did. -/
def fnExactTextLinesSpec : ChangeSpec := { name := "fnExactTextLines", fn := fun _ => fun
  | [d1, d2] => { results := [.lit (.bool true)], args := [d1, d2] }
  | _ => none }
def fnExactTextLinesRow : OpenClaim := { program := "ytlgbeoghjjjlmaa", sum := "9bc15651604aeb5604ebcf2c3dd05a204db3762b644f35dd623c02b8c9a5633f", func := "loop.example/typesetting/laws.FnExactTextLines", spec := "fnExactTextLines", apart := false }
def FnExactTextLinesSaid : Prop := fnExactTextLinesRow.holds Try.pinned (OpenSpec.ofChange fnExactTextLinesSpec)

/-- ITS FALSE NEIGHBOUR: 'it returns false'. Refute it at one input. -/
def fnExactTextLinesWrong : ChangeSpec := { name := "fnExactTextLines", fn := fun _ => fun
  | [d1, d2] => { results := [.lit (.bool false)], args := [d1, d2] }
  | _ => none }
def FnExactTextLinesWrongFalsely : Prop := fnExactTextLinesRow.holds Try.pinned (OpenSpec.ofChange fnExactTextLinesWrong)

/-- 'laws.FnWidowPenalties': WHATEVER THE INPUT: true; the input reads as it did. -/
def fnWidowPenaltiesSpec : ChangeSpec := { name := "fnWidowPenalties", fn := fun _ => fun
  | [d] => { results := [.lit (.bool true)], args := [d] }
  | _ => none }
def fnWidowPenaltiesRow : OpenClaim := { program := "ytlgbeoghjjjlmaa", sum := "9bc15651604aeb5604ebcf2c3dd05a204db3762b644f35dd623c02b8c9a5633f", func := "loop.example/typesetting/laws.FnWidowPenalties", spec := "fnWidowPenalties", apart := false }
def FnWidowPenaltiesSaid : Prop := fnWidowPenaltiesRow.holds Try.pinned (OpenSpec.ofChange fnWidowPenaltiesSpec)

/-- ITS FALSE NEIGHBOUR: 'it returns false'. Refute it at one input. -/
def fnWidowPenaltiesWrong : ChangeSpec := { name := "fnWidowPenalties", fn := fun _ => fun
  | [d] => { results := [.lit (.bool false)], args := [d] }
  | _ => none }
def FnWidowPenaltiesWrongFalsely : Prop := fnWidowPenaltiesRow.holds Try.pinned (OpenSpec.ofChange fnWidowPenaltiesWrong)

/-- 'laws.FnExactValidFigures': WHATEVER THE INPUT: true; the input reads as it did. -/
def fnExactValidFiguresSpec : ChangeSpec := { name := "fnExactValidFigures", fn := fun _ => fun
  | [d] => { results := [.lit (.bool true)], args := [d] }
  | _ => none }
def fnExactValidFiguresRow : OpenClaim := { program := "ytlgbeoghjjjlmaa", sum := "9bc15651604aeb5604ebcf2c3dd05a204db3762b644f35dd623c02b8c9a5633f", func := "loop.example/typesetting/laws.FnExactValidFigures", spec := "fnExactValidFigures", apart := false }
def FnExactValidFiguresSaid : Prop := fnExactValidFiguresRow.holds Try.pinned (OpenSpec.ofChange fnExactValidFiguresSpec)

/-- ITS FALSE NEIGHBOUR: 'it returns false'. Refute it at one input. -/
def fnExactValidFiguresWrong : ChangeSpec := { name := "fnExactValidFigures", fn := fun _ => fun
  | [d] => { results := [.lit (.bool false)], args := [d] }
  | _ => none }
def FnExactValidFiguresWrongFalsely : Prop := fnExactValidFiguresRow.holds Try.pinned (OpenSpec.ofChange fnExactValidFiguresWrong)

/-- 'laws.FnExactCheckFigures': WHATEVER THE INPUT: true; the input reads as it did. -/
def fnExactCheckFiguresSpec : ChangeSpec := { name := "fnExactCheckFigures", fn := fun _ => fun
  | [d1, d2, d3] => { results := [.lit (.bool true)], args := [d1, d2, d3] }
  | _ => none }
def fnExactCheckFiguresRow : OpenClaim := { program := "ytlgbeoghjjjlmaa", sum := "9bc15651604aeb5604ebcf2c3dd05a204db3762b644f35dd623c02b8c9a5633f", func := "loop.example/typesetting/laws.FnExactCheckFigures", spec := "fnExactCheckFigures", apart := false }
def FnExactCheckFiguresSaid : Prop := fnExactCheckFiguresRow.holds Try.pinned (OpenSpec.ofChange fnExactCheckFiguresSpec)

/-- ITS FALSE NEIGHBOUR: 'it returns false'. Refute it at one input. -/
def fnExactCheckFiguresWrong : ChangeSpec := { name := "fnExactCheckFigures", fn := fun _ => fun
  | [d1, d2, d3] => { results := [.lit (.bool false)], args := [d1, d2, d3] }
  | _ => none }
def FnExactCheckFiguresWrongFalsely : Prop := fnExactCheckFiguresRow.holds Try.pinned (OpenSpec.ofChange fnExactCheckFiguresWrong)

/-- 'laws.FnFigureSpace': WHATEVER THE INPUT: true; the input reads as it did. -/
def fnFigureSpaceSpec : ChangeSpec := { name := "fnFigureSpace", fn := fun _ => fun
  | [d1, d2] => { results := [.lit (.bool true)], args := [d1, d2] }
  | _ => none }
def fnFigureSpaceRow : OpenClaim := { program := "ytlgbeoghjjjlmaa", sum := "9bc15651604aeb5604ebcf2c3dd05a204db3762b644f35dd623c02b8c9a5633f", func := "loop.example/typesetting/laws.FnFigureSpace", spec := "fnFigureSpace", apart := false }
def FnFigureSpaceSaid : Prop := fnFigureSpaceRow.holds Try.pinned (OpenSpec.ofChange fnFigureSpaceSpec)

/-- ITS FALSE NEIGHBOUR: 'it returns false'. Refute it at one input. -/
def fnFigureSpaceWrong : ChangeSpec := { name := "fnFigureSpace", fn := fun _ => fun
  | [d1, d2] => { results := [.lit (.bool false)], args := [d1, d2] }
  | _ => none }
def FnFigureSpaceWrongFalsely : Prop := fnFigureSpaceRow.holds Try.pinned (OpenSpec.ofChange fnFigureSpaceWrong)

/- THE SECOND FORM. 'bulk': how many values and letters a reading holds, each counted each time it is reached (what is shared counts as often as it is met; a slice's spare places count too). A statement '..UptoSaid' is the law's where the arguments, and the package variables that the reading takes, are together of bulk at most 1048576: NARROWER than '..Said'. Prove '..Said' where nothing that the law and all that it calls make is longer than what came in: it says more and counts as full. Else prove '..UptoSaid'. A law counts once. -/
mutual
def uptoBulk {H : Type} : DataW H → Nat
  | .lit (.string bytes) => bytes.length + 1
  | .lit _ => 1
  | .nil => 1
  | .ptr d => uptoBulk d + 1
  | .slice elems spare => uptoBulkAll elems + uptoBulkAll spare + 1
  | .agg parts => uptoBulkAll parts + 1
  | .iface _ d => uptoBulk d + 1
  | .map entries => uptoBulkEntries entries + 1
  | .held _ => 1
def uptoBulkAll {H : Type} : List (DataW H) → Nat
  | [] => 0
  | d :: r => uptoBulk d + uptoBulkAll r
def uptoBulkEntries {H : Type} : List (Lit × DataW H) → Nat
  | [] => 0
  | x :: r => uptoBulkEntry x + uptoBulkEntries r
def uptoBulkEntry {H : Type} : Lit × DataW H → Nat
  | (.string bytes, d) => bytes.length + uptoBulk d + 1
  | (_, d) => uptoBulk d + 1
 end
def uptoSmall : (H : Type) → List (DataW H) → Bool := fun _ ds => decide (uptoBulkAll ds ≤ 1048576)
def OpenSpec.upto (s : _root_.Go.ChangeSpec) : _root_.Go.OpenSpec := { _root_.Go.OpenSpec.ofChange s with cond := some uptoSmall }

/-- 'laws.FnExactPageOf', WHERE WHAT IT READS IS OF BULK AT MOST 1048576: true; the input reads as it did. -/
def fnExactPageOfUptoRow : OpenClaim := { program := "ytlgbeoghjjjlmaa", sum := "9bc15651604aeb5604ebcf2c3dd05a204db3762b644f35dd623c02b8c9a5633f", func := "loop.example/typesetting/laws.FnExactPageOf", spec := "fnExactPageOf", unfollowed := true, recurses := true, apart := false, narrowed := true }
def FnExactPageOfUptoSaid : Prop := fnExactPageOfUptoRow.holds Try.pinned (OpenSpec.upto fnExactPageOfSpec)

/-- 'laws.FnPageOf', WHERE WHAT IT READS IS OF BULK AT MOST 1048576: true; the input reads as it did. -/
def fnPageOfUptoRow : OpenClaim := { program := "ytlgbeoghjjjlmaa", sum := "9bc15651604aeb5604ebcf2c3dd05a204db3762b644f35dd623c02b8c9a5633f", func := "loop.example/typesetting/laws.FnPageOf", spec := "fnPageOf", unfollowed := true, recurses := true, apart := false, narrowed := true }
def FnPageOfUptoSaid : Prop := fnPageOfUptoRow.holds Try.pinned (OpenSpec.upto fnPageOfSpec)

/-- 'laws.FnExactCountWidows', WHERE WHAT IT READS IS OF BULK AT MOST 1048576: true; the input reads as it did. -/
def fnExactCountWidowsUptoRow : OpenClaim := { program := "ytlgbeoghjjjlmaa", sum := "9bc15651604aeb5604ebcf2c3dd05a204db3762b644f35dd623c02b8c9a5633f", func := "loop.example/typesetting/laws.FnExactCountWidows", spec := "fnExactCountWidows", apart := false, narrowed := true }
def FnExactCountWidowsUptoSaid : Prop := fnExactCountWidowsUptoRow.holds Try.pinned (OpenSpec.upto fnExactCountWidowsSpec)

/-- 'laws.FnTextLines', WHERE WHAT IT READS IS OF BULK AT MOST 1048576: true; the input reads as it did. -/
def fnTextLinesUptoRow : OpenClaim := { program := "ytlgbeoghjjjlmaa", sum := "9bc15651604aeb5604ebcf2c3dd05a204db3762b644f35dd623c02b8c9a5633f", func := "loop.example/typesetting/laws.FnTextLines", spec := "fnTextLines", apart := false, narrowed := true }
def FnTextLinesUptoSaid : Prop := fnTextLinesUptoRow.holds Try.pinned (OpenSpec.upto fnTextLinesSpec)

/-- 'laws.FnCountWidows', WHERE WHAT IT READS IS OF BULK AT MOST 1048576: true; the input reads as it did. -/
def fnCountWidowsUptoRow : OpenClaim := { program := "ytlgbeoghjjjlmaa", sum := "9bc15651604aeb5604ebcf2c3dd05a204db3762b644f35dd623c02b8c9a5633f", func := "loop.example/typesetting/laws.FnCountWidows", spec := "fnCountWidows", apart := false, narrowed := true }
def FnCountWidowsUptoSaid : Prop := fnCountWidowsUptoRow.holds Try.pinned (OpenSpec.upto fnCountWidowsSpec)

/-- 'laws.FnExactTextLines', WHERE WHAT IT READS IS OF BULK AT MOST 1048576: true; the input reads as it did. -/
def fnExactTextLinesUptoRow : OpenClaim := { program := "ytlgbeoghjjjlmaa", sum := "9bc15651604aeb5604ebcf2c3dd05a204db3762b644f35dd623c02b8c9a5633f", func := "loop.example/typesetting/laws.FnExactTextLines", spec := "fnExactTextLines", apart := false, narrowed := true }
def FnExactTextLinesUptoSaid : Prop := fnExactTextLinesUptoRow.holds Try.pinned (OpenSpec.upto fnExactTextLinesSpec)

/-- 'laws.FnWidowPenalties', WHERE WHAT IT READS IS OF BULK AT MOST 1048576: true; the input reads as it did. -/
def fnWidowPenaltiesUptoRow : OpenClaim := { program := "ytlgbeoghjjjlmaa", sum := "9bc15651604aeb5604ebcf2c3dd05a204db3762b644f35dd623c02b8c9a5633f", func := "loop.example/typesetting/laws.FnWidowPenalties", spec := "fnWidowPenalties", apart := false, narrowed := true }
def FnWidowPenaltiesUptoSaid : Prop := fnWidowPenaltiesUptoRow.holds Try.pinned (OpenSpec.upto fnWidowPenaltiesSpec)

/-- 'laws.FnExactValidFigures', WHERE WHAT IT READS IS OF BULK AT MOST 1048576: true; the input reads as it did. -/
def fnExactValidFiguresUptoRow : OpenClaim := { program := "ytlgbeoghjjjlmaa", sum := "9bc15651604aeb5604ebcf2c3dd05a204db3762b644f35dd623c02b8c9a5633f", func := "loop.example/typesetting/laws.FnExactValidFigures", spec := "fnExactValidFigures", apart := false, narrowed := true }
def FnExactValidFiguresUptoSaid : Prop := fnExactValidFiguresUptoRow.holds Try.pinned (OpenSpec.upto fnExactValidFiguresSpec)

/-- 'laws.FnExactCheckFigures', WHERE WHAT IT READS IS OF BULK AT MOST 1048576: true; the input reads as it did. -/
def fnExactCheckFiguresUptoRow : OpenClaim := { program := "ytlgbeoghjjjlmaa", sum := "9bc15651604aeb5604ebcf2c3dd05a204db3762b644f35dd623c02b8c9a5633f", func := "loop.example/typesetting/laws.FnExactCheckFigures", spec := "fnExactCheckFigures", apart := false, narrowed := true }
def FnExactCheckFiguresUptoSaid : Prop := fnExactCheckFiguresUptoRow.holds Try.pinned (OpenSpec.upto fnExactCheckFiguresSpec)

/-- 'laws.FnFigureSpace', WHERE WHAT IT READS IS OF BULK AT MOST 1048576: true; the input reads as it did. -/
def fnFigureSpaceUptoRow : OpenClaim := { program := "ytlgbeoghjjjlmaa", sum := "9bc15651604aeb5604ebcf2c3dd05a204db3762b644f35dd623c02b8c9a5633f", func := "loop.example/typesetting/laws.FnFigureSpace", spec := "fnFigureSpace", apart := false, narrowed := true }
def FnFigureSpaceUptoSaid : Prop := fnFigureSpaceUptoRow.holds Try.pinned (OpenSpec.upto fnFigureSpaceSpec)

end Rows
end Go.Proofs.Ytlgbeoghjjjlmaa
