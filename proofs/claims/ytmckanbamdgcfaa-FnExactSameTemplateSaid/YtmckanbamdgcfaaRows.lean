/-
  No cell of these rows narrows 'for every input' (looked for: loops, veiled, ifaces, maps, wideKeys, modest, calm, conditions, laid).
  DERIVED. THE GIVEN ROWS OF THIS SEAT. 4 by the template 'for every input the law returns true; each argument reads behind the call as it read before'; 0 by the template 'total and deterministic' (their statements: YtmckanbamdgcfaaTotals.lean).
  GIVEN WITH THE SEED: the statements are not yours to turn. If you find one false, say at which input.
  Laid BY PROGRAM, IN A SANDBOX (cutbox-rows.mjs): the forced cells as the released guide's own fill.sh prints them over the translation ab5b120d9b124362… (all of the seat's roots in one cut). By AI agents, Wed Nov 11 2026. No macro, syntax, notation, axiom, sorry.
-/
import Derived.Test.YtmckanbamdgcfaaChecked
import GoSem.Claim
import GoSem.ClaimJoined
import GoSem.ClaimMapViews
import Derived.JoinedTies
import Derived.KernelRfl
namespace Go.Proofs.Ytmckanbamdgcfaa
/- THE CELL 'sum', in the pinned program and in every row, IS THE sha256 OF THE DUMP (.gsa) THAT YtmckanbamdgcfaaProg.lean LOADS. Nothing in Lean hashes anything: it is a label: what it is worth is what the hold of that sum in a sandbox is worth. -/
noncomputable def Try.pinned : Pinned := { name := "ytmckanbamdgcfaa", sum := "ab5b120d9b124362b1377a2bfb9b76512210592121db66db69ca6a32d7c258e4", checked := Try.checked }
namespace Rows
def none {H : Type} : Left H := { results := [], args := [] }

/-- 'laws.FnExactSlotsOk': WHATEVER THE INPUT: true; the input reads as it did. -/
def fnExactSlotsOkSpec : ChangeSpec := { name := "fnExactSlotsOk", fn := fun _ => fun
  | [d1, d2] => { results := [.lit (.bool true)], args := [d1, d2] }
  | _ => none }
def fnExactSlotsOkRow : OpenClaim := { program := "ytmckanbamdgcfaa", sum := "ab5b120d9b124362b1377a2bfb9b76512210592121db66db69ca6a32d7c258e4", func := "loop.example/g00844/laws.FnExactSlotsOk", spec := "fnExactSlotsOk", unfollowed := true, recurses := true, apart := false }
def FnExactSlotsOkSaid : Prop := fnExactSlotsOkRow.holds Try.pinned (OpenSpec.ofChange fnExactSlotsOkSpec)

/-- ITS FALSE NEIGHBOUR: 'it returns false'. Refute it at one input. -/
def fnExactSlotsOkWrong : ChangeSpec := { name := "fnExactSlotsOk", fn := fun _ => fun
  | [d1, d2] => { results := [.lit (.bool false)], args := [d1, d2] }
  | _ => none }
def FnExactSlotsOkWrongFalsely : Prop := fnExactSlotsOkRow.holds Try.pinned (OpenSpec.ofChange fnExactSlotsOkWrong)

/-- 'laws.FnExactClosed': WHATEVER THE INPUT: true; the input reads as it did. -/
def fnExactClosedSpec : ChangeSpec := { name := "fnExactClosed", fn := fun _ => fun
  | [d] => { results := [.lit (.bool true)], args := [d] }
  | _ => none }
def fnExactClosedRow : OpenClaim := { program := "ytmckanbamdgcfaa", sum := "ab5b120d9b124362b1377a2bfb9b76512210592121db66db69ca6a32d7c258e4", func := "loop.example/g00844/laws.FnExactClosed", spec := "fnExactClosed", unfollowed := true, recurses := true, apart := false }
def FnExactClosedSaid : Prop := fnExactClosedRow.holds Try.pinned (OpenSpec.ofChange fnExactClosedSpec)

/-- ITS FALSE NEIGHBOUR: 'it returns false'. Refute it at one input. -/
def fnExactClosedWrong : ChangeSpec := { name := "fnExactClosed", fn := fun _ => fun
  | [d] => { results := [.lit (.bool false)], args := [d] }
  | _ => none }
def FnExactClosedWrongFalsely : Prop := fnExactClosedRow.holds Try.pinned (OpenSpec.ofChange fnExactClosedWrong)

/-- 'laws.FnExactPrintOf': WHATEVER THE INPUT: true; the input reads as it did. -/
def fnExactPrintOfSpec : ChangeSpec := { name := "fnExactPrintOf", fn := fun _ => fun
  | [d] => { results := [.lit (.bool true)], args := [d] }
  | _ => none }
def fnExactPrintOfRow : OpenClaim := { program := "ytmckanbamdgcfaa", sum := "ab5b120d9b124362b1377a2bfb9b76512210592121db66db69ca6a32d7c258e4", func := "loop.example/g00844/laws.FnExactPrintOf", spec := "fnExactPrintOf", unfollowed := true, recurses := true, apart := false }
def FnExactPrintOfSaid : Prop := fnExactPrintOfRow.holds Try.pinned (OpenSpec.ofChange fnExactPrintOfSpec)

/-- ITS FALSE NEIGHBOUR: 'it returns false'. Refute it at one input. -/
def fnExactPrintOfWrong : ChangeSpec := { name := "fnExactPrintOf", fn := fun _ => fun
  | [d] => { results := [.lit (.bool false)], args := [d] }
  | _ => none }
def FnExactPrintOfWrongFalsely : Prop := fnExactPrintOfRow.holds Try.pinned (OpenSpec.ofChange fnExactPrintOfWrong)

/-- 'laws.FnExactSameTemplate': WHATEVER THE INPUT: true; the input reads as it did. -/
def fnExactSameTemplateSpec : ChangeSpec := { name := "fnExactSameTemplate", fn := fun _ => fun
  | [d1, d2] => { results := [.lit (.bool true)], args := [d1, d2] }
  | _ => none }
def fnExactSameTemplateRow : OpenClaim := { program := "ytmckanbamdgcfaa", sum := "ab5b120d9b124362b1377a2bfb9b76512210592121db66db69ca6a32d7c258e4", func := "loop.example/g00844/laws.FnExactSameTemplate", spec := "fnExactSameTemplate", unfollowed := true, recurses := true, apart := false }
def FnExactSameTemplateSaid : Prop := fnExactSameTemplateRow.holds Try.pinned (OpenSpec.ofChange fnExactSameTemplateSpec)

/-- ITS FALSE NEIGHBOUR: 'it returns false'. Refute it at one input. -/
def fnExactSameTemplateWrong : ChangeSpec := { name := "fnExactSameTemplate", fn := fun _ => fun
  | [d1, d2] => { results := [.lit (.bool false)], args := [d1, d2] }
  | _ => none }
def FnExactSameTemplateWrongFalsely : Prop := fnExactSameTemplateRow.holds Try.pinned (OpenSpec.ofChange fnExactSameTemplateWrong)

/- THE SECOND FORM. 'bulk': how many values and letters a reading holds, each counted each time it is reached (what is shared counts as often as it is met; a slice's spare places count too). A statement '..UptoSaid' is the law's where the arguments, and the package variables that the reading takes, are together of bulk at most 1048576: NARROWER than '..Said'. Prove '..Said' where nothing that the law and all that it calls make is longer than what came in: it says more and counts as full. Else prove '..UptoSaid'. A law counts once. -/
mutual
def uptoBulk {H : Type} : DataW H → Nat
  | .lit (.string bytes) => bytes.length + 1
  | .lit _ => 1
  | .nil => 1
  | .ptr d => uptoBulk d + 1
  | .slice elems spare => uptoBulkAll elems + uptoBulkAll spare + 1
  | .agg parts => uptoBulkAll parts + 1
  | .iface _ d => uptoBulk d + 1
  | .map entries => uptoBulkEntries entries + 1
  | .held _ => 1
def uptoBulkAll {H : Type} : List (DataW H) → Nat
  | [] => 0
  | d :: r => uptoBulk d + uptoBulkAll r
def uptoBulkEntries {H : Type} : List (Lit × DataW H) → Nat
  | [] => 0
  | x :: r => uptoBulkEntry x + uptoBulkEntries r
def uptoBulkEntry {H : Type} : Lit × DataW H → Nat
  | (.string bytes, d) => bytes.length + uptoBulk d + 1
  | (_, d) => uptoBulk d + 1
 end
def uptoSmall : (H : Type) → List (DataW H) → Bool := fun _ ds => decide (uptoBulkAll ds ≤ 1048576)
def OpenSpec.upto (s : _root_.Go.ChangeSpec) : _root_.Go.OpenSpec := { _root_.Go.OpenSpec.ofChange s with cond := some uptoSmall }

/-- 'laws.FnExactSlotsOk', WHERE WHAT IT READS IS OF BULK AT MOST 1048576: true; the input reads as it did. -/
def fnExactSlotsOkUptoRow : OpenClaim := { program := "ytmckanbamdgcfaa", sum := "ab5b120d9b124362b1377a2bfb9b76512210592121db66db69ca6a32d7c258e4", func := "loop.example/g00844/laws.FnExactSlotsOk", spec := "fnExactSlotsOk", unfollowed := true, recurses := true, apart := false, narrowed := true }
def FnExactSlotsOkUptoSaid : Prop := fnExactSlotsOkUptoRow.holds Try.pinned (OpenSpec.upto fnExactSlotsOkSpec)

/-- 'laws.FnExactClosed', WHERE WHAT IT READS IS OF BULK AT MOST 1048576: true; the input reads as it did. -/
def fnExactClosedUptoRow : OpenClaim := { program := "ytmckanbamdgcfaa", sum := "ab5b120d9b124362b1377a2bfb9b76512210592121db66db69ca6a32d7c258e4", func := "loop.example/g00844/laws.FnExactClosed", spec := "fnExactClosed", unfollowed := true, recurses := true, apart := false, narrowed := true }
def FnExactClosedUptoSaid : Prop := fnExactClosedUptoRow.holds Try.pinned (OpenSpec.upto fnExactClosedSpec)

/-- 'laws.FnExactPrintOf', WHERE WHAT IT READS IS OF BULK AT MOST 1048576: true; the input reads as it did. -/
def fnExactPrintOfUptoRow : OpenClaim := { program := "ytmckanbamdgcfaa", sum := "ab5b120d9b124362b1377a2bfb9b76512210592121db66db69ca6a32d7c258e4", func := "loop.example/g00844/laws.FnExactPrintOf", spec := "fnExactPrintOf", unfollowed := true, recurses := true, apart := false, narrowed := true }
def FnExactPrintOfUptoSaid : Prop := fnExactPrintOfUptoRow.holds Try.pinned (OpenSpec.upto fnExactPrintOfSpec)

/-- 'laws.FnExactSameTemplate', WHERE WHAT IT READS IS OF BULK AT MOST 1048576: true; the input reads as it did. -/
def fnExactSameTemplateUptoRow : OpenClaim := { program := "ytmckanbamdgcfaa", sum := "ab5b120d9b124362b1377a2bfb9b76512210592121db66db69ca6a32d7c258e4", func := "loop.example/g00844/laws.FnExactSameTemplate", spec := "fnExactSameTemplate", unfollowed := true, recurses := true, apart := false, narrowed := true }
def FnExactSameTemplateUptoSaid : Prop := fnExactSameTemplateUptoRow.holds Try.pinned (OpenSpec.upto fnExactSameTemplateSpec)

end Rows
end Go.Proofs.Ytmckanbamdgcfaa
