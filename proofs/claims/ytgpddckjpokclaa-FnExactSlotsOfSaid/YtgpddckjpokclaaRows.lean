/-
  No cell of these rows narrows 'for every input' (looked for: loops, veiled, ifaces, maps, wideKeys, modest, calm, conditions, laid).
  DERIVED. THE GIVEN ROWS OF THIS SEAT. 8 by the template 'for every input the law returns true; each argument reads behind the call as it read before'; 0 by the template 'total and deterministic' (their statements: YtgpddckjpokclaaTotals.lean).
  GIVEN WITH THE SEED: the statements are not yours to turn. If you find one false, say at which input.
  Laid BY PROGRAM, IN A SANDBOX (cutbox-rows.mjs): the forced cells as the released guide's own fill.sh prints them over the translation 77bf781478efe879… (all of the seat's roots in one cut). By AI agents, Wed Nov 11 2026. No macro, syntax, notation, axiom, sorry.
-/
import Derived.Test.YtgpddckjpokclaaChecked
import GoSem.Claim
import GoSem.ClaimJoined
import GoSem.ClaimMapViews
import Derived.JoinedTies
import Derived.KernelRfl
namespace Go.Proofs.Ytgpddckjpokclaa
/- THE CELL 'sum', in the pinned program and in every row, IS THE sha256 OF THE DUMP (.gsa) THAT YtgpddckjpokclaaProg.lean LOADS. Nothing in Lean hashes anything: it is a label: what it is worth is what the hold of that sum in a sandbox is worth. -/
noncomputable def Try.pinned : Pinned := { name := "ytgpddckjpokclaa", sum := "77bf781478efe87946b52e7ed34e46b5344fd4d77db1145e90363fed91fcdef2", checked := Try.checked }
namespace Rows
def none {H : Type} : Left H := { results := [], args := [] }

/-- 'laws.FnExactWordsOf': WHATEVER THE INPUT: true; the input reads as it did. -/
def fnExactWordsOfSpec : ChangeSpec := { name := "fnExactWordsOf", fn := fun _ => fun
  | [d] => { results := [.lit (.bool true)], args := [d] }
  | _ => none }
def fnExactWordsOfRow : OpenClaim := { program := "ytgpddckjpokclaa", sum := "77bf781478efe87946b52e7ed34e46b5344fd4d77db1145e90363fed91fcdef2", func := "loop.example/g00844/laws.FnExactWordsOf", spec := "fnExactWordsOf", unfollowed := true, recurses := true, apart := false }
def FnExactWordsOfSaid : Prop := fnExactWordsOfRow.holds Try.pinned (OpenSpec.ofChange fnExactWordsOfSpec)

/-- ITS FALSE NEIGHBOUR: 'it returns false'. Refute it at one input. -/
def fnExactWordsOfWrong : ChangeSpec := { name := "fnExactWordsOf", fn := fun _ => fun
  | [d] => { results := [.lit (.bool false)], args := [d] }
  | _ => none }
def FnExactWordsOfWrongFalsely : Prop := fnExactWordsOfRow.holds Try.pinned (OpenSpec.ofChange fnExactWordsOfWrong)

/-- 'laws.FnExactNewShelf': WHATEVER THE INPUT: true; the input reads as it did. -/
def fnExactNewShelfSpec : ChangeSpec := { name := "fnExactNewShelf", fn := fun _ => fun
  | [d1, d2] => { results := [.lit (.bool true)], args := [d1, d2] }
  | _ => none }
def fnExactNewShelfRow : OpenClaim := { program := "ytgpddckjpokclaa", sum := "77bf781478efe87946b52e7ed34e46b5344fd4d77db1145e90363fed91fcdef2", func := "loop.example/g00844/laws.FnExactNewShelf", spec := "fnExactNewShelf", apart := false }
def FnExactNewShelfSaid : Prop := fnExactNewShelfRow.holds Try.pinned (OpenSpec.ofChange fnExactNewShelfSpec)

/-- ITS FALSE NEIGHBOUR: 'it returns false'. Refute it at one input. -/
def fnExactNewShelfWrong : ChangeSpec := { name := "fnExactNewShelf", fn := fun _ => fun
  | [d1, d2] => { results := [.lit (.bool false)], args := [d1, d2] }
  | _ => none }
def FnExactNewShelfWrongFalsely : Prop := fnExactNewShelfRow.holds Try.pinned (OpenSpec.ofChange fnExactNewShelfWrong)

/-- 'laws.FnExactPrintOf': WHATEVER THE INPUT: true; the input reads as it did. -/
def fnExactPrintOfSpec : ChangeSpec := { name := "fnExactPrintOf", fn := fun _ => fun
  | [d] => { results := [.lit (.bool true)], args := [d] }
  | _ => none }
def fnExactPrintOfRow : OpenClaim := { program := "ytgpddckjpokclaa", sum := "77bf781478efe87946b52e7ed34e46b5344fd4d77db1145e90363fed91fcdef2", func := "loop.example/g00844/laws.FnExactPrintOf", spec := "fnExactPrintOf", unfollowed := true, recurses := true, apart := false }
def FnExactPrintOfSaid : Prop := fnExactPrintOfRow.holds Try.pinned (OpenSpec.ofChange fnExactPrintOfSpec)

/-- ITS FALSE NEIGHBOUR: 'it returns false'. Refute it at one input. -/
def fnExactPrintOfWrong : ChangeSpec := { name := "fnExactPrintOf", fn := fun _ => fun
  | [d] => { results := [.lit (.bool false)], args := [d] }
  | _ => none }
def FnExactPrintOfWrongFalsely : Prop := fnExactPrintOfRow.holds Try.pinned (OpenSpec.ofChange fnExactPrintOfWrong)

/-- 'laws.FnExactSlotsOf': WHATEVER THE INPUT: true; the input reads as it did. -/
def fnExactSlotsOfSpec : ChangeSpec := { name := "fnExactSlotsOf", fn := fun _ => fun
  | [d] => { results := [.lit (.bool true)], args := [d] }
  | _ => none }
def fnExactSlotsOfRow : OpenClaim := { program := "ytgpddckjpokclaa", sum := "77bf781478efe87946b52e7ed34e46b5344fd4d77db1145e90363fed91fcdef2", func := "loop.example/g00844/laws.FnExactSlotsOf", spec := "fnExactSlotsOf", unfollowed := true, recurses := true, apart := false }
def FnExactSlotsOfSaid : Prop := fnExactSlotsOfRow.holds Try.pinned (OpenSpec.ofChange fnExactSlotsOfSpec)

/-- ITS FALSE NEIGHBOUR: 'it returns false'. Refute it at one input. -/
def fnExactSlotsOfWrong : ChangeSpec := { name := "fnExactSlotsOf", fn := fun _ => fun
  | [d] => { results := [.lit (.bool false)], args := [d] }
  | _ => none }
def FnExactSlotsOfWrongFalsely : Prop := fnExactSlotsOfRow.holds Try.pinned (OpenSpec.ofChange fnExactSlotsOfWrong)

/-- 'laws.FnLarger': WHATEVER THE INPUT: true; the input reads as it did. -/
def fnLargerSpec : ChangeSpec := { name := "fnLarger", fn := fun _ => fun
  | [d] => { results := [.lit (.bool true)], args := [d] }
  | _ => none }
def fnLargerRow : OpenClaim := { program := "ytgpddckjpokclaa", sum := "77bf781478efe87946b52e7ed34e46b5344fd4d77db1145e90363fed91fcdef2", func := "loop.example/g00844/laws.FnLarger", spec := "fnLarger", apart := false }
def FnLargerSaid : Prop := fnLargerRow.holds Try.pinned (OpenSpec.ofChange fnLargerSpec)

/-- ITS FALSE NEIGHBOUR: 'it returns false'. Refute it at one input. -/
def fnLargerWrong : ChangeSpec := { name := "fnLarger", fn := fun _ => fun
  | [d] => { results := [.lit (.bool false)], args := [d] }
  | _ => none }
def FnLargerWrongFalsely : Prop := fnLargerRow.holds Try.pinned (OpenSpec.ofChange fnLargerWrong)

/-- 'laws.FnExactApplyStep': WHATEVER THE INPUT: true; the input reads as it did. -/
def fnExactApplyStepSpec : ChangeSpec := { name := "fnExactApplyStep", fn := fun _ => fun
  | [d1, d2, d3] => { results := [.lit (.bool true)], args := [d1, d2, d3] }
  | _ => none }
def fnExactApplyStepRow : OpenClaim := { program := "ytgpddckjpokclaa", sum := "77bf781478efe87946b52e7ed34e46b5344fd4d77db1145e90363fed91fcdef2", func := "loop.example/g00844/laws.FnExactApplyStep", spec := "fnExactApplyStep", unfollowed := true, recurses := true, apart := false }
def FnExactApplyStepSaid : Prop := fnExactApplyStepRow.holds Try.pinned (OpenSpec.ofChange fnExactApplyStepSpec)

/-- ITS FALSE NEIGHBOUR: 'it returns false'. Refute it at one input. -/
def fnExactApplyStepWrong : ChangeSpec := { name := "fnExactApplyStep", fn := fun _ => fun
  | [d1, d2, d3] => { results := [.lit (.bool false)], args := [d1, d2, d3] }
  | _ => none }
def FnExactApplyStepWrongFalsely : Prop := fnExactApplyStepRow.holds Try.pinned (OpenSpec.ofChange fnExactApplyStepWrong)

/-- 'laws.FnExactStepsAt': WHATEVER THE INPUT: true; the input reads as it did. -/
def fnExactStepsAtSpec : ChangeSpec := { name := "fnExactStepsAt", fn := fun _ => fun
  | [d1, d2] => { results := [.lit (.bool true)], args := [d1, d2] }
  | _ => none }
def fnExactStepsAtRow : OpenClaim := { program := "ytgpddckjpokclaa", sum := "77bf781478efe87946b52e7ed34e46b5344fd4d77db1145e90363fed91fcdef2", func := "loop.example/g00844/laws.FnExactStepsAt", spec := "fnExactStepsAt", unfollowed := true, recurses := true, apart := false }
def FnExactStepsAtSaid : Prop := fnExactStepsAtRow.holds Try.pinned (OpenSpec.ofChange fnExactStepsAtSpec)

/-- ITS FALSE NEIGHBOUR: 'it returns false'. Refute it at one input. -/
def fnExactStepsAtWrong : ChangeSpec := { name := "fnExactStepsAt", fn := fun _ => fun
  | [d1, d2] => { results := [.lit (.bool false)], args := [d1, d2] }
  | _ => none }
def FnExactStepsAtWrongFalsely : Prop := fnExactStepsAtRow.holds Try.pinned (OpenSpec.ofChange fnExactStepsAtWrong)

/-- 'laws.FnCodes': WHATEVER THE INPUT: true; the input reads as it did. -/
def fnCodesSpec : ChangeSpec := { name := "fnCodes", fn := fun _ => fun
  | [d] => { results := [.lit (.bool true)], args := [d] }
  | _ => none }
def fnCodesRow : OpenClaim := { program := "ytgpddckjpokclaa", sum := "77bf781478efe87946b52e7ed34e46b5344fd4d77db1145e90363fed91fcdef2", func := "loop.example/g00844/laws.FnCodes", spec := "fnCodes", unfollowed := true, recurses := true, apart := false }
def FnCodesSaid : Prop := fnCodesRow.holds Try.pinned (OpenSpec.ofChange fnCodesSpec)

/-- ITS FALSE NEIGHBOUR: 'it returns false'. Refute it at one input. -/
def fnCodesWrong : ChangeSpec := { name := "fnCodes", fn := fun _ => fun
  | [d] => { results := [.lit (.bool false)], args := [d] }
  | _ => none }
def FnCodesWrongFalsely : Prop := fnCodesRow.holds Try.pinned (OpenSpec.ofChange fnCodesWrong)

/- THE SECOND FORM. 'bulk': how many values and letters a reading holds, each counted each time it is reached (what is shared counts as often as it is met; a slice's spare places count too). A statement '..UptoSaid' is the law's where the arguments, and the package variables that the reading takes, are together of bulk at most 1048576: NARROWER than '..Said'. Prove '..Said' where nothing that the law and all that it calls make is longer than what came in: it says more and counts as full. Else prove '..UptoSaid'. A law counts once. -/
mutual
def uptoBulk {H : Type} : DataW H → Nat
  | .lit (.string bytes) => bytes.length + 1
  | .lit _ => 1
  | .nil => 1
  | .ptr d => uptoBulk d + 1
  | .slice elems spare => uptoBulkAll elems + uptoBulkAll spare + 1
  | .agg parts => uptoBulkAll parts + 1
  | .iface _ d => uptoBulk d + 1
  | .map entries => uptoBulkEntries entries + 1
  | .held _ => 1
def uptoBulkAll {H : Type} : List (DataW H) → Nat
  | [] => 0
  | d :: r => uptoBulk d + uptoBulkAll r
def uptoBulkEntries {H : Type} : List (Lit × DataW H) → Nat
  | [] => 0
  | x :: r => uptoBulkEntry x + uptoBulkEntries r
def uptoBulkEntry {H : Type} : Lit × DataW H → Nat
  | (.string bytes, d) => bytes.length + uptoBulk d + 1
  | (_, d) => uptoBulk d + 1
 end
def uptoSmall : (H : Type) → List (DataW H) → Bool := fun _ ds => decide (uptoBulkAll ds ≤ 1048576)
def OpenSpec.upto (s : _root_.Go.ChangeSpec) : _root_.Go.OpenSpec := { _root_.Go.OpenSpec.ofChange s with cond := some uptoSmall }

/-- 'laws.FnExactWordsOf', WHERE WHAT IT READS IS OF BULK AT MOST 1048576: true; the input reads as it did. -/
def fnExactWordsOfUptoRow : OpenClaim := { program := "ytgpddckjpokclaa", sum := "77bf781478efe87946b52e7ed34e46b5344fd4d77db1145e90363fed91fcdef2", func := "loop.example/g00844/laws.FnExactWordsOf", spec := "fnExactWordsOf", unfollowed := true, recurses := true, apart := false, narrowed := true }
def FnExactWordsOfUptoSaid : Prop := fnExactWordsOfUptoRow.holds Try.pinned (OpenSpec.upto fnExactWordsOfSpec)

/-- 'laws.FnExactNewShelf', WHERE WHAT IT READS IS OF BULK AT MOST 1048576: true; the input reads as it did. -/
def fnExactNewShelfUptoRow : OpenClaim := { program := "ytgpddckjpokclaa", sum := "77bf781478efe87946b52e7ed34e46b5344fd4d77db1145e90363fed91fcdef2", func := "loop.example/g00844/laws.FnExactNewShelf", spec := "fnExactNewShelf", apart := false, narrowed := true }
def FnExactNewShelfUptoSaid : Prop := fnExactNewShelfUptoRow.holds Try.pinned (OpenSpec.upto fnExactNewShelfSpec)

/-- 'laws.FnExactPrintOf', WHERE WHAT IT READS IS OF BULK AT MOST 1048576: true; the input reads as it did. -/
def fnExactPrintOfUptoRow : OpenClaim := { program := "ytgpddckjpokclaa", sum := "77bf781478efe87946b52e7ed34e46b5344fd4d77db1145e90363fed91fcdef2", func := "loop.example/g00844/laws.FnExactPrintOf", spec := "fnExactPrintOf", unfollowed := true, recurses := true, apart := false, narrowed := true }
def FnExactPrintOfUptoSaid : Prop := fnExactPrintOfUptoRow.holds Try.pinned (OpenSpec.upto fnExactPrintOfSpec)

/-- 'laws.FnExactSlotsOf', WHERE WHAT IT READS IS OF BULK AT MOST 1048576: true; the input reads as it did. -/
def fnExactSlotsOfUptoRow : OpenClaim := { program := "ytgpddckjpokclaa", sum := "77bf781478efe87946b52e7ed34e46b5344fd4d77db1145e90363fed91fcdef2", func := "loop.example/g00844/laws.FnExactSlotsOf", spec := "fnExactSlotsOf", unfollowed := true, recurses := true, apart := false, narrowed := true }
def FnExactSlotsOfUptoSaid : Prop := fnExactSlotsOfUptoRow.holds Try.pinned (OpenSpec.upto fnExactSlotsOfSpec)

/-- 'laws.FnLarger', WHERE WHAT IT READS IS OF BULK AT MOST 1048576: true; the input reads as it did. -/
def fnLargerUptoRow : OpenClaim := { program := "ytgpddckjpokclaa", sum := "77bf781478efe87946b52e7ed34e46b5344fd4d77db1145e90363fed91fcdef2", func := "loop.example/g00844/laws.FnLarger", spec := "fnLarger", apart := false, narrowed := true }
def FnLargerUptoSaid : Prop := fnLargerUptoRow.holds Try.pinned (OpenSpec.upto fnLargerSpec)

/-- 'laws.FnExactApplyStep', WHERE WHAT IT READS IS OF BULK AT MOST 1048576: true; the input reads as it did. -/
def fnExactApplyStepUptoRow : OpenClaim := { program := "ytgpddckjpokclaa", sum := "77bf781478efe87946b52e7ed34e46b5344fd4d77db1145e90363fed91fcdef2", func := "loop.example/g00844/laws.FnExactApplyStep", spec := "fnExactApplyStep", unfollowed := true, recurses := true, apart := false, narrowed := true }
def FnExactApplyStepUptoSaid : Prop := fnExactApplyStepUptoRow.holds Try.pinned (OpenSpec.upto fnExactApplyStepSpec)

/-- 'laws.FnExactStepsAt', WHERE WHAT IT READS IS OF BULK AT MOST 1048576: true; the input reads as it did. -/
def fnExactStepsAtUptoRow : OpenClaim := { program := "ytgpddckjpokclaa", sum := "77bf781478efe87946b52e7ed34e46b5344fd4d77db1145e90363fed91fcdef2", func := "loop.example/g00844/laws.FnExactStepsAt", spec := "fnExactStepsAt", unfollowed := true, recurses := true, apart := false, narrowed := true }
def FnExactStepsAtUptoSaid : Prop := fnExactStepsAtUptoRow.holds Try.pinned (OpenSpec.upto fnExactStepsAtSpec)

/-- 'laws.FnCodes', WHERE WHAT IT READS IS OF BULK AT MOST 1048576: true; the input reads as it did. -/
def fnCodesUptoRow : OpenClaim := { program := "ytgpddckjpokclaa", sum := "77bf781478efe87946b52e7ed34e46b5344fd4d77db1145e90363fed91fcdef2", func := "loop.example/g00844/laws.FnCodes", spec := "fnCodes", unfollowed := true, recurses := true, apart := false, narrowed := true }
def FnCodesUptoSaid : Prop := fnCodesUptoRow.holds Try.pinned (OpenSpec.upto fnCodesSpec)

end Rows
end Go.Proofs.Ytgpddckjpokclaa
