/-
  No cell of these rows narrows 'for every input' (looked for: loops, veiled, ifaces, maps, wideKeys, modest, calm, conditions, laid).
  DERIVED. THE GIVEN ROWS OF THIS SEAT. 5 by the template 'for every input the law returns true; each argument reads behind the call as it read before'; 0 by the template 'total and deterministic' (their statements: YtedmjpefmoeldaaGreatTotals.lean).
  GIVEN WITH THE SEED: the statements are not yours to turn. If you find one false, say at which input.
  Laid BY PROGRAM, IN A SANDBOX (cutbox-rows.mjs): the forced cells as the released guide's own fill.sh prints them over the translation 14c6b4257a4e392b… (all of the seat's roots in one cut). By AI agents, Wed Nov 11 2026. No macro, syntax, notation, axiom, sorry.
-/
import Derived.Test.YtedmjpefmoeldaaGreatChecked
import GoSem.Claim
import GoSem.ClaimJoined
import GoSem.ClaimMapViews
import Derived.JoinedTies
import Derived.KernelRfl
namespace Go.Proofs.YtedmjpefmoeldaaGreat
/- THE CELL 'sum', in the pinned program and in every row, IS THE sha256 OF THE DUMP (.gsa) THAT YtedmjpefmoeldaaGreatProg.lean LOADS. Nothing in Lean hashes anything: it is a label: what it is worth is what the hold of that sum in a sandbox is worth. -/
noncomputable def Tryz.pinned : Pinned := { name := "ytedmjpefmoeldaagreat", sum := "14c6b4257a4e392bafa79acfa08efb6eef111b981e328759151dcfeb17c7a3d7", checked := Tryz.checked }
namespace Rows
def none {H : Type} : Left H := { results := [], args := [] }

/-- 'laws.FnExactShelfOk': WHATEVER THE INPUT: true; the input reads as it did. -/
def fnExactShelfOkSpec : ChangeSpec := { name := "fnExactShelfOk", fn := fun _ => fun
  | [d] => { results := [.lit (.bool true)], args := [d] }
  | _ => none }
def fnExactShelfOkRow : OpenClaim := { program := "ytedmjpefmoeldaagreat", sum := "14c6b4257a4e392bafa79acfa08efb6eef111b981e328759151dcfeb17c7a3d7", func := "loop.example/g00844/laws.FnExactShelfOk", spec := "fnExactShelfOk", unfollowed := true, recurses := true, apart := false }
def FnExactShelfOkSaid : Prop := fnExactShelfOkRow.holds Tryz.pinned (OpenSpec.ofChange fnExactShelfOkSpec)

/-- ITS FALSE NEIGHBOUR: 'it returns false'. Refute it at one input. -/
def fnExactShelfOkWrong : ChangeSpec := { name := "fnExactShelfOk", fn := fun _ => fun
  | [d] => { results := [.lit (.bool false)], args := [d] }
  | _ => none }
def FnExactShelfOkWrongFalsely : Prop := fnExactShelfOkRow.holds Tryz.pinned (OpenSpec.ofChange fnExactShelfOkWrong)

/-- 'laws.FnExactFindEntry': WHATEVER THE INPUT: true; the input reads as it did. -/
def fnExactFindEntrySpec : ChangeSpec := { name := "fnExactFindEntry", fn := fun _ => fun
  | [d1, d2] => { results := [.lit (.bool true)], args := [d1, d2] }
  | _ => none }
def fnExactFindEntryRow : OpenClaim := { program := "ytedmjpefmoeldaagreat", sum := "14c6b4257a4e392bafa79acfa08efb6eef111b981e328759151dcfeb17c7a3d7", func := "loop.example/g00844/laws.FnExactFindEntry", spec := "fnExactFindEntry", unfollowed := true, recurses := true, apart := false }
def FnExactFindEntrySaid : Prop := fnExactFindEntryRow.holds Tryz.pinned (OpenSpec.ofChange fnExactFindEntrySpec)

/-- ITS FALSE NEIGHBOUR: 'it returns false'. Refute it at one input. -/
def fnExactFindEntryWrong : ChangeSpec := { name := "fnExactFindEntry", fn := fun _ => fun
  | [d1, d2] => { results := [.lit (.bool false)], args := [d1, d2] }
  | _ => none }
def FnExactFindEntryWrongFalsely : Prop := fnExactFindEntryRow.holds Tryz.pinned (OpenSpec.ofChange fnExactFindEntryWrong)

/-- 'laws.FnExactBumpCat': WHATEVER THE INPUT: true; the input reads as it did. -/
def fnExactBumpCatSpec : ChangeSpec := { name := "fnExactBumpCat", fn := fun _ => fun
  | [d] => { results := [.lit (.bool true)], args := [d] }
  | _ => none }
def fnExactBumpCatRow : OpenClaim := { program := "ytedmjpefmoeldaagreat", sum := "14c6b4257a4e392bafa79acfa08efb6eef111b981e328759151dcfeb17c7a3d7", func := "loop.example/g00844/laws.FnExactBumpCat", spec := "fnExactBumpCat", unfollowed := true, recurses := true, apart := false }
def FnExactBumpCatSaid : Prop := fnExactBumpCatRow.holds Tryz.pinned (OpenSpec.ofChange fnExactBumpCatSpec)

/-- ITS FALSE NEIGHBOUR: 'it returns false'. Refute it at one input. -/
def fnExactBumpCatWrong : ChangeSpec := { name := "fnExactBumpCat", fn := fun _ => fun
  | [d] => { results := [.lit (.bool false)], args := [d] }
  | _ => none }
def FnExactBumpCatWrongFalsely : Prop := fnExactBumpCatRow.holds Tryz.pinned (OpenSpec.ofChange fnExactBumpCatWrong)

/-- 'laws.FnExactBumpStat': WHATEVER THE INPUT: true; the input reads as it did. -/
def fnExactBumpStatSpec : ChangeSpec := { name := "fnExactBumpStat", fn := fun _ => fun
  | [d] => { results := [.lit (.bool true)], args := [d] }
  | _ => none }
def fnExactBumpStatRow : OpenClaim := { program := "ytedmjpefmoeldaagreat", sum := "14c6b4257a4e392bafa79acfa08efb6eef111b981e328759151dcfeb17c7a3d7", func := "loop.example/g00844/laws.FnExactBumpStat", spec := "fnExactBumpStat", unfollowed := true, recurses := true, apart := false }
def FnExactBumpStatSaid : Prop := fnExactBumpStatRow.holds Tryz.pinned (OpenSpec.ofChange fnExactBumpStatSpec)

/-- ITS FALSE NEIGHBOUR: 'it returns false'. Refute it at one input. -/
def fnExactBumpStatWrong : ChangeSpec := { name := "fnExactBumpStat", fn := fun _ => fun
  | [d] => { results := [.lit (.bool false)], args := [d] }
  | _ => none }
def FnExactBumpStatWrongFalsely : Prop := fnExactBumpStatRow.holds Tryz.pinned (OpenSpec.ofChange fnExactBumpStatWrong)

/-- 'laws.FnExactDropStale': WHATEVER THE INPUT: true; the input reads as it did. -/
def fnExactDropStaleSpec : ChangeSpec := { name := "fnExactDropStale", fn := fun _ => fun
  | [d] => { results := [.lit (.bool true)], args := [d] }
  | _ => none }
def fnExactDropStaleRow : OpenClaim := { program := "ytedmjpefmoeldaagreat", sum := "14c6b4257a4e392bafa79acfa08efb6eef111b981e328759151dcfeb17c7a3d7", func := "loop.example/g00844/laws.FnExactDropStale", spec := "fnExactDropStale", unfollowed := true, recurses := true, apart := false }
def FnExactDropStaleSaid : Prop := fnExactDropStaleRow.holds Tryz.pinned (OpenSpec.ofChange fnExactDropStaleSpec)

/-- ITS FALSE NEIGHBOUR: 'it returns false'. Refute it at one input. -/
def fnExactDropStaleWrong : ChangeSpec := { name := "fnExactDropStale", fn := fun _ => fun
  | [d] => { results := [.lit (.bool false)], args := [d] }
  | _ => none }
def FnExactDropStaleWrongFalsely : Prop := fnExactDropStaleRow.holds Tryz.pinned (OpenSpec.ofChange fnExactDropStaleWrong)

/- THE SECOND FORM. 'bulk': how many values and letters a reading holds, each counted each time it is reached (what is shared counts as often as it is met; a slice's spare places count too). A statement '..UptoSaid' is the law's where the arguments, and the package variables that the reading takes, are together of bulk at most 1048576: NARROWER than '..Said'. Prove '..Said' where nothing that the law and all that it calls make is longer than what came in: it says more and counts as full. Else prove '..UptoSaid'. A law counts once. -/
mutual
def uptoBulk {H : Type} : DataW H → Nat
  | .lit (.string bytes) => bytes.length + 1
  | .lit _ => 1
  | .nil => 1
  | .ptr d => uptoBulk d + 1
  | .slice elems spare => uptoBulkAll elems + uptoBulkAll spare + 1
  | .agg parts => uptoBulkAll parts + 1
  | .iface _ d => uptoBulk d + 1
  | .map entries => uptoBulkEntries entries + 1
  | .held _ => 1
def uptoBulkAll {H : Type} : List (DataW H) → Nat
  | [] => 0
  | d :: r => uptoBulk d + uptoBulkAll r
def uptoBulkEntries {H : Type} : List (Lit × DataW H) → Nat
  | [] => 0
  | x :: r => uptoBulkEntry x + uptoBulkEntries r
def uptoBulkEntry {H : Type} : Lit × DataW H → Nat
  | (.string bytes, d) => bytes.length + uptoBulk d + 1
  | (_, d) => uptoBulk d + 1
 end
def uptoSmall : (H : Type) → List (DataW H) → Bool := fun _ ds => decide (uptoBulkAll ds ≤ 1048576)
def OpenSpec.upto (s : _root_.Go.ChangeSpec) : _root_.Go.OpenSpec := { _root_.Go.OpenSpec.ofChange s with cond := some uptoSmall }

/-- 'laws.FnExactShelfOk', WHERE WHAT IT READS IS OF BULK AT MOST 1048576: true; the input reads as it did. -/
def fnExactShelfOkUptoRow : OpenClaim := { program := "ytedmjpefmoeldaagreat", sum := "14c6b4257a4e392bafa79acfa08efb6eef111b981e328759151dcfeb17c7a3d7", func := "loop.example/g00844/laws.FnExactShelfOk", spec := "fnExactShelfOk", unfollowed := true, recurses := true, apart := false, narrowed := true }
def FnExactShelfOkUptoSaid : Prop := fnExactShelfOkUptoRow.holds Tryz.pinned (OpenSpec.upto fnExactShelfOkSpec)

/-- 'laws.FnExactFindEntry', WHERE WHAT IT READS IS OF BULK AT MOST 1048576: true; the input reads as it did. -/
def fnExactFindEntryUptoRow : OpenClaim := { program := "ytedmjpefmoeldaagreat", sum := "14c6b4257a4e392bafa79acfa08efb6eef111b981e328759151dcfeb17c7a3d7", func := "loop.example/g00844/laws.FnExactFindEntry", spec := "fnExactFindEntry", unfollowed := true, recurses := true, apart := false, narrowed := true }
def FnExactFindEntryUptoSaid : Prop := fnExactFindEntryUptoRow.holds Tryz.pinned (OpenSpec.upto fnExactFindEntrySpec)

/-- 'laws.FnExactBumpCat', WHERE WHAT IT READS IS OF BULK AT MOST 1048576: true; the input reads as it did. -/
def fnExactBumpCatUptoRow : OpenClaim := { program := "ytedmjpefmoeldaagreat", sum := "14c6b4257a4e392bafa79acfa08efb6eef111b981e328759151dcfeb17c7a3d7", func := "loop.example/g00844/laws.FnExactBumpCat", spec := "fnExactBumpCat", unfollowed := true, recurses := true, apart := false, narrowed := true }
def FnExactBumpCatUptoSaid : Prop := fnExactBumpCatUptoRow.holds Tryz.pinned (OpenSpec.upto fnExactBumpCatSpec)

/-- 'laws.FnExactBumpStat', WHERE WHAT IT READS IS OF BULK AT MOST 1048576: true; the input reads as it did. -/
def fnExactBumpStatUptoRow : OpenClaim := { program := "ytedmjpefmoeldaagreat", sum := "14c6b4257a4e392bafa79acfa08efb6eef111b981e328759151dcfeb17c7a3d7", func := "loop.example/g00844/laws.FnExactBumpStat", spec := "fnExactBumpStat", unfollowed := true, recurses := true, apart := false, narrowed := true }
def FnExactBumpStatUptoSaid : Prop := fnExactBumpStatUptoRow.holds Tryz.pinned (OpenSpec.upto fnExactBumpStatSpec)

/-- 'laws.FnExactDropStale', WHERE WHAT IT READS IS OF BULK AT MOST 1048576: true; the input reads as it did. -/
def fnExactDropStaleUptoRow : OpenClaim := { program := "ytedmjpefmoeldaagreat", sum := "14c6b4257a4e392bafa79acfa08efb6eef111b981e328759151dcfeb17c7a3d7", func := "loop.example/g00844/laws.FnExactDropStale", spec := "fnExactDropStale", unfollowed := true, recurses := true, apart := false, narrowed := true }
def FnExactDropStaleUptoSaid : Prop := fnExactDropStaleUptoRow.holds Tryz.pinned (OpenSpec.upto fnExactDropStaleSpec)

end Rows
end Go.Proofs.YtedmjpefmoeldaaGreat
