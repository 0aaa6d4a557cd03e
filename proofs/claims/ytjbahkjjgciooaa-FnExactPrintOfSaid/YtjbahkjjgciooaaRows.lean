/-
  No cell of these rows narrows 'for every input' (looked for: loops, veiled, ifaces, maps, wideKeys, modest, calm, conditions, laid).
  DERIVED. THE GIVEN ROWS OF THIS SEAT. 7 by the template 'for every input the law returns true; each argument reads behind the call as it read before'; 0 by the template 'total and deterministic' (their statements: YtjbahkjjgciooaaTotals.lean).
  GIVEN WITH THE SEED: the statements are not yours to turn. If you find one false, say at which input.
  Laid BY PROGRAM, IN A SANDBOX (cutbox-rows.mjs): the forced cells as the released guide's own fill.sh prints them over the translation e6243f3b034c7761… (all of the seat's roots in one cut). By AI agents, Wed Nov 11 2026. No macro, syntax, notation, axiom, sorry.
-/
import Derived.Test.YtjbahkjjgciooaaChecked
import GoSem.Claim
import GoSem.ClaimJoined
import GoSem.ClaimMapViews
import Derived.JoinedTies
import Derived.KernelRfl
namespace Go.Proofs.Ytjbahkjjgciooaa
/- THE CELL 'sum', in the pinned program and in every row, IS THE sha256 OF THE DUMP (.gsa) THAT YtjbahkjjgciooaaProg.lean LOADS. Nothing in Lean hashes anything: it is a label: what it is worth is what the hold of that sum in a sandbox is worth. -/
noncomputable def Try.pinned : Pinned := { name := "ytjbahkjjgciooaa", sum := "e6243f3b034c7761a69ef6c7f4359e2a4a96fa21623a6ae59d119b610baf42ef", checked := Try.checked }
namespace Rows
def none {H : Type} : Left H := { results := [], args := [] }

/-- 'laws.FnExactWordsOf': WHATEVER THE INPUT: true; the input reads as it did. -/
def fnExactWordsOfSpec : ChangeSpec := { name := "fnExactWordsOf", fn := fun _ => fun
  | [d] => { results := [.lit (.bool true)], args := [d] }
  | _ => none }
def fnExactWordsOfRow : OpenClaim := { program := "ytjbahkjjgciooaa", sum := "e6243f3b034c7761a69ef6c7f4359e2a4a96fa21623a6ae59d119b610baf42ef", func := "loop.example/g00844/laws.FnExactWordsOf", spec := "fnExactWordsOf", unfollowed := true, recurses := true, apart := false }
def FnExactWordsOfSaid : Prop := fnExactWordsOfRow.holds Try.pinned (OpenSpec.ofChange fnExactWordsOfSpec)

/-- ITS FALSE NEIGHBOUR: 'it returns false'. Refute it at one input. -/
def fnExactWordsOfWrong : ChangeSpec := { name := "fnExactWordsOf", fn := fun _ => fun
  | [d] => { results := [.lit (.bool false)], args := [d] }
  | _ => none }
def FnExactWordsOfWrongFalsely : Prop := fnExactWordsOfRow.holds Try.pinned (OpenSpec.ofChange fnExactWordsOfWrong)

/-- 'laws.FnExactPrintOf': WHATEVER THE INPUT: true; the input reads as it did. -/
def fnExactPrintOfSpec : ChangeSpec := { name := "fnExactPrintOf", fn := fun _ => fun
  | [d] => { results := [.lit (.bool true)], args := [d] }
  | _ => none }
def fnExactPrintOfRow : OpenClaim := { program := "ytjbahkjjgciooaa", sum := "e6243f3b034c7761a69ef6c7f4359e2a4a96fa21623a6ae59d119b610baf42ef", func := "loop.example/g00844/laws.FnExactPrintOf", spec := "fnExactPrintOf", unfollowed := true, recurses := true, apart := false }
def FnExactPrintOfSaid : Prop := fnExactPrintOfRow.holds Try.pinned (OpenSpec.ofChange fnExactPrintOfSpec)

/-- ITS FALSE NEIGHBOUR: 'it returns false'. Refute it at one input. -/
def fnExactPrintOfWrong : ChangeSpec := { name := "fnExactPrintOf", fn := fun _ => fun
  | [d] => { results := [.lit (.bool false)], args := [d] }
  | _ => none }
def FnExactPrintOfWrongFalsely : Prop := fnExactPrintOfRow.holds Try.pinned (OpenSpec.ofChange fnExactPrintOfWrong)

/-- 'laws.FnExactApplyStep': WHATEVER THE INPUT: true; the input reads as it did. -/
def fnExactApplyStepSpec : ChangeSpec := { name := "fnExactApplyStep", fn := fun _ => fun
  | [d1, d2, d3] => { results := [.lit (.bool true)], args := [d1, d2, d3] }
  | _ => none }
def fnExactApplyStepRow : OpenClaim := { program := "ytjbahkjjgciooaa", sum := "e6243f3b034c7761a69ef6c7f4359e2a4a96fa21623a6ae59d119b610baf42ef", func := "loop.example/g00844/laws.FnExactApplyStep", spec := "fnExactApplyStep", unfollowed := true, recurses := true, apart := false }
def FnExactApplyStepSaid : Prop := fnExactApplyStepRow.holds Try.pinned (OpenSpec.ofChange fnExactApplyStepSpec)

/-- ITS FALSE NEIGHBOUR: 'it returns false'. Refute it at one input. -/
def fnExactApplyStepWrong : ChangeSpec := { name := "fnExactApplyStep", fn := fun _ => fun
  | [d1, d2, d3] => { results := [.lit (.bool false)], args := [d1, d2, d3] }
  | _ => none }
def FnExactApplyStepWrongFalsely : Prop := fnExactApplyStepRow.holds Try.pinned (OpenSpec.ofChange fnExactApplyStepWrong)

/-- 'laws.FnExactStepsAt': WHATEVER THE INPUT: true; the input reads as it did. -/
def fnExactStepsAtSpec : ChangeSpec := { name := "fnExactStepsAt", fn := fun _ => fun
  | [d1, d2] => { results := [.lit (.bool true)], args := [d1, d2] }
  | _ => none }
def fnExactStepsAtRow : OpenClaim := { program := "ytjbahkjjgciooaa", sum := "e6243f3b034c7761a69ef6c7f4359e2a4a96fa21623a6ae59d119b610baf42ef", func := "loop.example/g00844/laws.FnExactStepsAt", spec := "fnExactStepsAt", unfollowed := true, recurses := true, apart := false }
def FnExactStepsAtSaid : Prop := fnExactStepsAtRow.holds Try.pinned (OpenSpec.ofChange fnExactStepsAtSpec)

/-- ITS FALSE NEIGHBOUR: 'it returns false'. Refute it at one input. -/
def fnExactStepsAtWrong : ChangeSpec := { name := "fnExactStepsAt", fn := fun _ => fun
  | [d1, d2] => { results := [.lit (.bool false)], args := [d1, d2] }
  | _ => none }
def FnExactStepsAtWrongFalsely : Prop := fnExactStepsAtRow.holds Try.pinned (OpenSpec.ofChange fnExactStepsAtWrong)

/-- 'laws.FnExactCertOk': WHATEVER THE INPUT: true; the input reads as it did. -/
def fnExactCertOkSpec : ChangeSpec := { name := "fnExactCertOk", fn := fun _ => fun
  | [d1, d2, d3, d4] => { results := [.lit (.bool true)], args := [d1, d2, d3, d4] }
  | _ => none }
def fnExactCertOkRow : OpenClaim := { program := "ytjbahkjjgciooaa", sum := "e6243f3b034c7761a69ef6c7f4359e2a4a96fa21623a6ae59d119b610baf42ef", func := "loop.example/g00844/laws.FnExactCertOk", spec := "fnExactCertOk", unfollowed := true, recurses := true, apart := false }
def FnExactCertOkSaid : Prop := fnExactCertOkRow.holds Try.pinned (OpenSpec.ofChange fnExactCertOkSpec)

/-- ITS FALSE NEIGHBOUR: 'it returns false'. Refute it at one input. -/
def fnExactCertOkWrong : ChangeSpec := { name := "fnExactCertOk", fn := fun _ => fun
  | [d1, d2, d3, d4] => { results := [.lit (.bool false)], args := [d1, d2, d3, d4] }
  | _ => none }
def FnExactCertOkWrongFalsely : Prop := fnExactCertOkRow.holds Try.pinned (OpenSpec.ofChange fnExactCertOkWrong)

/-- 'laws.FnExactReplaySteps': WHATEVER THE INPUT: true; the input reads as it did. -/
def fnExactReplayStepsSpec : ChangeSpec := { name := "fnExactReplaySteps", fn := fun _ => fun
  | [d1, d2, d3] => { results := [.lit (.bool true)], args := [d1, d2, d3] }
  | _ => none }
def fnExactReplayStepsRow : OpenClaim := { program := "ytjbahkjjgciooaa", sum := "e6243f3b034c7761a69ef6c7f4359e2a4a96fa21623a6ae59d119b610baf42ef", func := "loop.example/g00844/laws.FnExactReplaySteps", spec := "fnExactReplaySteps", unfollowed := true, recurses := true, apart := false }
def FnExactReplayStepsSaid : Prop := fnExactReplayStepsRow.holds Try.pinned (OpenSpec.ofChange fnExactReplayStepsSpec)

/-- ITS FALSE NEIGHBOUR: 'it returns false'. Refute it at one input. -/
def fnExactReplayStepsWrong : ChangeSpec := { name := "fnExactReplaySteps", fn := fun _ => fun
  | [d1, d2, d3] => { results := [.lit (.bool false)], args := [d1, d2, d3] }
  | _ => none }
def FnExactReplayStepsWrongFalsely : Prop := fnExactReplayStepsRow.holds Try.pinned (OpenSpec.ofChange fnExactReplayStepsWrong)

/-- 'laws.FnCodes': WHATEVER THE INPUT: true; the input reads as it did. -/
def fnCodesSpec : ChangeSpec := { name := "fnCodes", fn := fun _ => fun
  | [d] => { results := [.lit (.bool true)], args := [d] }
  | _ => none }
def fnCodesRow : OpenClaim := { program := "ytjbahkjjgciooaa", sum := "e6243f3b034c7761a69ef6c7f4359e2a4a96fa21623a6ae59d119b610baf42ef", func := "loop.example/g00844/laws.FnCodes", spec := "fnCodes", unfollowed := true, recurses := true, apart := false }
def FnCodesSaid : Prop := fnCodesRow.holds Try.pinned (OpenSpec.ofChange fnCodesSpec)

/-- ITS FALSE NEIGHBOUR: 'it returns false'. Refute it at one input. -/
def fnCodesWrong : ChangeSpec := { name := "fnCodes", fn := fun _ => fun
  | [d] => { results := [.lit (.bool false)], args := [d] }
  | _ => none }
def FnCodesWrongFalsely : Prop := fnCodesRow.holds Try.pinned (OpenSpec.ofChange fnCodesWrong)

/- THE SECOND FORM. 'bulk': how many values and letters a reading holds, each counted each time it is reached (what is shared counts as often as it is met; a slice's spare places count too). A statement '..UptoSaid' is the law's where the arguments, and the package variables that the reading takes, are together of bulk at most 1048576: NARROWER than '..Said'. Prove '..Said' where nothing that the law and all that it calls make is longer than what came in: it says more and counts as full. Else prove '..UptoSaid'. A law counts once. -/
mutual
def uptoBulk {H : Type} : DataW H → Nat
  | .lit (.string bytes) => bytes.length + 1
  | .lit _ => 1
  | .nil => 1
  | .ptr d => uptoBulk d + 1
  | .slice elems spare => uptoBulkAll elems + uptoBulkAll spare + 1
  | .agg parts => uptoBulkAll parts + 1
  | .iface _ d => uptoBulk d + 1
  | .map entries => uptoBulkEntries entries + 1
  | .held _ => 1
def uptoBulkAll {H : Type} : List (DataW H) → Nat
  | [] => 0
  | d :: r => uptoBulk d + uptoBulkAll r
def uptoBulkEntries {H : Type} : List (Lit × DataW H) → Nat
  | [] => 0
  | x :: r => uptoBulkEntry x + uptoBulkEntries r
def uptoBulkEntry {H : Type} : Lit × DataW H → Nat
  | (.string bytes, d) => bytes.length + uptoBulk d + 1
  | (_, d) => uptoBulk d + 1
 end
def uptoSmall : (H : Type) → List (DataW H) → Bool := fun _ ds => decide (uptoBulkAll ds ≤ 1048576)
def OpenSpec.upto (s : _root_.Go.ChangeSpec) : _root_.Go.OpenSpec := { _root_.Go.OpenSpec.ofChange s with cond := some uptoSmall }

/-- 'laws.FnExactWordsOf', WHERE WHAT IT READS IS OF BULK AT MOST 1048576: true; the input reads as it did. -/
def fnExactWordsOfUptoRow : OpenClaim := { program := "ytjbahkjjgciooaa", sum := "e6243f3b034c7761a69ef6c7f4359e2a4a96fa21623a6ae59d119b610baf42ef", func := "loop.example/g00844/laws.FnExactWordsOf", spec := "fnExactWordsOf", unfollowed := true, recurses := true, apart := false, narrowed := true }
def FnExactWordsOfUptoSaid : Prop := fnExactWordsOfUptoRow.holds Try.pinned (OpenSpec.upto fnExactWordsOfSpec)

/-- 'laws.FnExactPrintOf', WHERE WHAT IT READS IS OF BULK AT MOST 1048576: true; the input reads as it did. -/
def fnExactPrintOfUptoRow : OpenClaim := { program := "ytjbahkjjgciooaa", sum := "e6243f3b034c7761a69ef6c7f4359e2a4a96fa21623a6ae59d119b610baf42ef", func := "loop.example/g00844/laws.FnExactPrintOf", spec := "fnExactPrintOf", unfollowed := true, recurses := true, apart := false, narrowed := true }
def FnExactPrintOfUptoSaid : Prop := fnExactPrintOfUptoRow.holds Try.pinned (OpenSpec.upto fnExactPrintOfSpec)

/-- 'laws.FnExactApplyStep', WHERE WHAT IT READS IS OF BULK AT MOST 1048576: true; the input reads as it did. -/
def fnExactApplyStepUptoRow : OpenClaim := { program := "ytjbahkjjgciooaa", sum := "e6243f3b034c7761a69ef6c7f4359e2a4a96fa21623a6ae59d119b610baf42ef", func := "loop.example/g00844/laws.FnExactApplyStep", spec := "fnExactApplyStep", unfollowed := true, recurses := true, apart := false, narrowed := true }
def FnExactApplyStepUptoSaid : Prop := fnExactApplyStepUptoRow.holds Try.pinned (OpenSpec.upto fnExactApplyStepSpec)

/-- 'laws.FnExactStepsAt', WHERE WHAT IT READS IS OF BULK AT MOST 1048576: true; the input reads as it did. -/
def fnExactStepsAtUptoRow : OpenClaim := { program := "ytjbahkjjgciooaa", sum := "e6243f3b034c7761a69ef6c7f4359e2a4a96fa21623a6ae59d119b610baf42ef", func := "loop.example/g00844/laws.FnExactStepsAt", spec := "fnExactStepsAt", unfollowed := true, recurses := true, apart := false, narrowed := true }
def FnExactStepsAtUptoSaid : Prop := fnExactStepsAtUptoRow.holds Try.pinned (OpenSpec.upto fnExactStepsAtSpec)

/-- 'laws.FnExactCertOk', WHERE WHAT IT READS IS OF BULK AT MOST 1048576: true; the input reads as it did. -/
def fnExactCertOkUptoRow : OpenClaim := { program := "ytjbahkjjgciooaa", sum := "e6243f3b034c7761a69ef6c7f4359e2a4a96fa21623a6ae59d119b610baf42ef", func := "loop.example/g00844/laws.FnExactCertOk", spec := "fnExactCertOk", unfollowed := true, recurses := true, apart := false, narrowed := true }
def FnExactCertOkUptoSaid : Prop := fnExactCertOkUptoRow.holds Try.pinned (OpenSpec.upto fnExactCertOkSpec)

/-- 'laws.FnExactReplaySteps', WHERE WHAT IT READS IS OF BULK AT MOST 1048576: true; the input reads as it did. -/
def fnExactReplayStepsUptoRow : OpenClaim := { program := "ytjbahkjjgciooaa", sum := "e6243f3b034c7761a69ef6c7f4359e2a4a96fa21623a6ae59d119b610baf42ef", func := "loop.example/g00844/laws.FnExactReplaySteps", spec := "fnExactReplaySteps", unfollowed := true, recurses := true, apart := false, narrowed := true }
def FnExactReplayStepsUptoSaid : Prop := fnExactReplayStepsUptoRow.holds Try.pinned (OpenSpec.upto fnExactReplayStepsSpec)

/-- 'laws.FnCodes', WHERE WHAT IT READS IS OF BULK AT MOST 1048576: true; the input reads as it did. -/
def fnCodesUptoRow : OpenClaim := { program := "ytjbahkjjgciooaa", sum := "e6243f3b034c7761a69ef6c7f4359e2a4a96fa21623a6ae59d119b610baf42ef", func := "loop.example/g00844/laws.FnCodes", spec := "fnCodes", unfollowed := true, recurses := true, apart := false, narrowed := true }
def FnCodesUptoSaid : Prop := fnCodesUptoRow.holds Try.pinned (OpenSpec.upto fnCodesSpec)

end Rows
end Go.Proofs.Ytjbahkjjgciooaa
