/-
  No cell of these rows narrows 'for every input' (looked for: loops, veiled, ifaces, maps, wideKeys, modest, calm, conditions, laid).
  DERIVED. THE GIVEN ROWS OF THIS SEAT. 6 by the template 'for every input the law returns true; each argument reads behind the call as it read before'; 0 by the template 'total and deterministic' (their statements: YtdihadbgbjhebaaTotals.lean).
  GIVEN WITH THE SEED: the statements are not yours to turn. If you find one false, say at which input.
  Laid BY PROGRAM, IN A SANDBOX (cutbox-rows.mjs): the forced cells as the released guide's own fill.sh prints them over the translation 1fb76288eab53a57… (all of the seat's roots in one cut). By AI agents, Wed Nov 11 2026. No macro, syntax, notation, axiom, sorry.
-/
import Derived.Test.YtdihadbgbjhebaaChecked
import GoSem.Claim
import GoSem.ClaimJoined
import GoSem.ClaimMapViews
import Derived.JoinedTies
import Derived.KernelRfl
namespace Go.Proofs.Ytdihadbgbjhebaa
/- THE CELL 'sum', in the pinned program and in every row, IS THE sha256 OF THE DUMP (.gsa) THAT YtdihadbgbjhebaaProg.lean LOADS. Nothing in Lean hashes anything: it is a label: what it is worth is what the hold of that sum in a sandbox is worth. -/
noncomputable def Try.pinned : Pinned := { name := "ytdihadbgbjhebaa", sum := "1fb76288eab53a5709f8a3a0194eb384755e3ce40040990ceb3559afb29ff0e5", checked := Try.checked }
namespace Rows
def none {H : Type} : Left H := { results := [], args := [] }

/-- 'laws.FnExactRuleName': WHATEVER THE INPUT: true; the input reads as it did. -/
def fnExactRuleNameSpec : ChangeSpec := { name := "fnExactRuleName", fn := fun _ => fun
  | [d] => { results := [.lit (.bool true)], args := [d] }
  | _ => none }
def fnExactRuleNameRow : OpenClaim := { program := "ytdihadbgbjhebaa", sum := "1fb76288eab53a5709f8a3a0194eb384755e3ce40040990ceb3559afb29ff0e5", func := "loop.example/g00844/laws.FnExactRuleName", spec := "fnExactRuleName", apart := false }
def FnExactRuleNameSaid : Prop := fnExactRuleNameRow.holds Try.pinned (OpenSpec.ofChange fnExactRuleNameSpec)

/-- ITS FALSE NEIGHBOUR: 'it returns false'. Refute it at one input. -/
def fnExactRuleNameWrong : ChangeSpec := { name := "fnExactRuleName", fn := fun _ => fun
  | [d] => { results := [.lit (.bool false)], args := [d] }
  | _ => none }
def FnExactRuleNameWrongFalsely : Prop := fnExactRuleNameRow.holds Try.pinned (OpenSpec.ofChange fnExactRuleNameWrong)

/-- 'laws.FnExactRulesIn': WHATEVER THE INPUT: true; the input reads as it did. -/
def fnExactRulesInSpec : ChangeSpec := { name := "fnExactRulesIn", fn := fun _ => fun
  | [d] => { results := [.lit (.bool true)], args := [d] }
  | _ => none }
def fnExactRulesInRow : OpenClaim := { program := "ytdihadbgbjhebaa", sum := "1fb76288eab53a5709f8a3a0194eb384755e3ce40040990ceb3559afb29ff0e5", func := "loop.example/g00844/laws.FnExactRulesIn", spec := "fnExactRulesIn", apart := false }
def FnExactRulesInSaid : Prop := fnExactRulesInRow.holds Try.pinned (OpenSpec.ofChange fnExactRulesInSpec)

/-- ITS FALSE NEIGHBOUR: 'it returns false'. Refute it at one input. -/
def fnExactRulesInWrong : ChangeSpec := { name := "fnExactRulesIn", fn := fun _ => fun
  | [d] => { results := [.lit (.bool false)], args := [d] }
  | _ => none }
def FnExactRulesInWrongFalsely : Prop := fnExactRulesInRow.holds Try.pinned (OpenSpec.ofChange fnExactRulesInWrong)

/-- 'laws.FnExactWordsOf': WHATEVER THE INPUT: true; the input reads as it did. -/
def fnExactWordsOfSpec : ChangeSpec := { name := "fnExactWordsOf", fn := fun _ => fun
  | [d] => { results := [.lit (.bool true)], args := [d] }
  | _ => none }
def fnExactWordsOfRow : OpenClaim := { program := "ytdihadbgbjhebaa", sum := "1fb76288eab53a5709f8a3a0194eb384755e3ce40040990ceb3559afb29ff0e5", func := "loop.example/g00844/laws.FnExactWordsOf", spec := "fnExactWordsOf", unfollowed := true, recurses := true, apart := false }
def FnExactWordsOfSaid : Prop := fnExactWordsOfRow.holds Try.pinned (OpenSpec.ofChange fnExactWordsOfSpec)

/-- ITS FALSE NEIGHBOUR: 'it returns false'. Refute it at one input. -/
def fnExactWordsOfWrong : ChangeSpec := { name := "fnExactWordsOf", fn := fun _ => fun
  | [d] => { results := [.lit (.bool false)], args := [d] }
  | _ => none }
def FnExactWordsOfWrongFalsely : Prop := fnExactWordsOfRow.holds Try.pinned (OpenSpec.ofChange fnExactWordsOfWrong)

/-- 'laws.FnCodes': WHATEVER THE INPUT: true; the input reads as it did. -/
def fnCodesSpec : ChangeSpec := { name := "fnCodes", fn := fun _ => fun
  | [d] => { results := [.lit (.bool true)], args := [d] }
  | _ => none }
def fnCodesRow : OpenClaim := { program := "ytdihadbgbjhebaa", sum := "1fb76288eab53a5709f8a3a0194eb384755e3ce40040990ceb3559afb29ff0e5", func := "loop.example/g00844/laws.FnCodes", spec := "fnCodes", unfollowed := true, recurses := true, apart := false }
def FnCodesSaid : Prop := fnCodesRow.holds Try.pinned (OpenSpec.ofChange fnCodesSpec)

/-- ITS FALSE NEIGHBOUR: 'it returns false'. Refute it at one input. -/
def fnCodesWrong : ChangeSpec := { name := "fnCodes", fn := fun _ => fun
  | [d] => { results := [.lit (.bool false)], args := [d] }
  | _ => none }
def FnCodesWrongFalsely : Prop := fnCodesRow.holds Try.pinned (OpenSpec.ofChange fnCodesWrong)

/-- 'laws.FnExactLiteralsOf': WHATEVER THE INPUT: true; the input reads as it did. -/
def fnExactLiteralsOfSpec : ChangeSpec := { name := "fnExactLiteralsOf", fn := fun _ => fun
  | [d] => { results := [.lit (.bool true)], args := [d] }
  | _ => none }
def fnExactLiteralsOfRow : OpenClaim := { program := "ytdihadbgbjhebaa", sum := "1fb76288eab53a5709f8a3a0194eb384755e3ce40040990ceb3559afb29ff0e5", func := "loop.example/g00844/laws.FnExactLiteralsOf", spec := "fnExactLiteralsOf", unfollowed := true, recurses := true, apart := false }
def FnExactLiteralsOfSaid : Prop := fnExactLiteralsOfRow.holds Try.pinned (OpenSpec.ofChange fnExactLiteralsOfSpec)

/-- ITS FALSE NEIGHBOUR: 'it returns false'. Refute it at one input. -/
def fnExactLiteralsOfWrong : ChangeSpec := { name := "fnExactLiteralsOf", fn := fun _ => fun
  | [d] => { results := [.lit (.bool false)], args := [d] }
  | _ => none }
def FnExactLiteralsOfWrongFalsely : Prop := fnExactLiteralsOfRow.holds Try.pinned (OpenSpec.ofChange fnExactLiteralsOfWrong)

/-- 'laws.FnExactNewShelf': WHATEVER THE INPUT: true; the input reads as it did. -/
def fnExactNewShelfSpec : ChangeSpec := { name := "fnExactNewShelf", fn := fun _ => fun
  | [d1, d2] => { results := [.lit (.bool true)], args := [d1, d2] }
  | _ => none }
def fnExactNewShelfRow : OpenClaim := { program := "ytdihadbgbjhebaa", sum := "1fb76288eab53a5709f8a3a0194eb384755e3ce40040990ceb3559afb29ff0e5", func := "loop.example/g00844/laws.FnExactNewShelf", spec := "fnExactNewShelf", apart := false }
def FnExactNewShelfSaid : Prop := fnExactNewShelfRow.holds Try.pinned (OpenSpec.ofChange fnExactNewShelfSpec)

/-- ITS FALSE NEIGHBOUR: 'it returns false'. Refute it at one input. -/
def fnExactNewShelfWrong : ChangeSpec := { name := "fnExactNewShelf", fn := fun _ => fun
  | [d1, d2] => { results := [.lit (.bool false)], args := [d1, d2] }
  | _ => none }
def FnExactNewShelfWrongFalsely : Prop := fnExactNewShelfRow.holds Try.pinned (OpenSpec.ofChange fnExactNewShelfWrong)

/- THE SECOND FORM. 'bulk': how many values and letters a reading holds, each counted each time it is reached (what is shared counts as often as it is met; a slice's spare places count too). A statement '..UptoSaid' is the law's where the arguments, and the package variables that the reading takes, are together of bulk at most 1048576: NARROWER than '..Said'. Prove '..Said' where nothing that the law and all that it calls make is longer than what came in: it says more and counts as full. Else prove '..UptoSaid'. A law counts once. -/
mutual
def uptoBulk {H : Type} : DataW H → Nat
  | .lit (.string bytes) => bytes.length + 1
  | .lit _ => 1
  | .nil => 1
  | .ptr d => uptoBulk d + 1
  | .slice elems spare => uptoBulkAll elems + uptoBulkAll spare + 1
  | .agg parts => uptoBulkAll parts + 1
  | .iface _ d => uptoBulk d + 1
  | .map entries => uptoBulkEntries entries + 1
  | .held _ => 1
def uptoBulkAll {H : Type} : List (DataW H) → Nat
  | [] => 0
  | d :: r => uptoBulk d + uptoBulkAll r
def uptoBulkEntries {H : Type} : List (Lit × DataW H) → Nat
  | [] => 0
  | x :: r => uptoBulkEntry x + uptoBulkEntries r
def uptoBulkEntry {H : Type} : Lit × DataW H → Nat
  | (.string bytes, d) => bytes.length + uptoBulk d + 1
  | (_, d) => uptoBulk d + 1
 end
def uptoSmall : (H : Type) → List (DataW H) → Bool := fun _ ds => decide (uptoBulkAll ds ≤ 1048576)
def OpenSpec.upto (s : _root_.Go.ChangeSpec) : _root_.Go.OpenSpec := { _root_.Go.OpenSpec.ofChange s with cond := some uptoSmall }

/-- 'laws.FnExactRuleName', WHERE WHAT IT READS IS OF BULK AT MOST 1048576: true; the input reads as it did. -/
def fnExactRuleNameUptoRow : OpenClaim := { program := "ytdihadbgbjhebaa", sum := "1fb76288eab53a5709f8a3a0194eb384755e3ce40040990ceb3559afb29ff0e5", func := "loop.example/g00844/laws.FnExactRuleName", spec := "fnExactRuleName", apart := false, narrowed := true }
def FnExactRuleNameUptoSaid : Prop := fnExactRuleNameUptoRow.holds Try.pinned (OpenSpec.upto fnExactRuleNameSpec)

/-- 'laws.FnExactRulesIn', WHERE WHAT IT READS IS OF BULK AT MOST 1048576: true; the input reads as it did. -/
def fnExactRulesInUptoRow : OpenClaim := { program := "ytdihadbgbjhebaa", sum := "1fb76288eab53a5709f8a3a0194eb384755e3ce40040990ceb3559afb29ff0e5", func := "loop.example/g00844/laws.FnExactRulesIn", spec := "fnExactRulesIn", apart := false, narrowed := true }
def FnExactRulesInUptoSaid : Prop := fnExactRulesInUptoRow.holds Try.pinned (OpenSpec.upto fnExactRulesInSpec)

/-- 'laws.FnExactWordsOf', WHERE WHAT IT READS IS OF BULK AT MOST 1048576: true; the input reads as it did. -/
def fnExactWordsOfUptoRow : OpenClaim := { program := "ytdihadbgbjhebaa", sum := "1fb76288eab53a5709f8a3a0194eb384755e3ce40040990ceb3559afb29ff0e5", func := "loop.example/g00844/laws.FnExactWordsOf", spec := "fnExactWordsOf", unfollowed := true, recurses := true, apart := false, narrowed := true }
def FnExactWordsOfUptoSaid : Prop := fnExactWordsOfUptoRow.holds Try.pinned (OpenSpec.upto fnExactWordsOfSpec)

/-- 'laws.FnCodes', WHERE WHAT IT READS IS OF BULK AT MOST 1048576: true; the input reads as it did. -/
def fnCodesUptoRow : OpenClaim := { program := "ytdihadbgbjhebaa", sum := "1fb76288eab53a5709f8a3a0194eb384755e3ce40040990ceb3559afb29ff0e5", func := "loop.example/g00844/laws.FnCodes", spec := "fnCodes", unfollowed := true, recurses := true, apart := false, narrowed := true }
def FnCodesUptoSaid : Prop := fnCodesUptoRow.holds Try.pinned (OpenSpec.upto fnCodesSpec)

/-- 'laws.FnExactLiteralsOf', WHERE WHAT IT READS IS OF BULK AT MOST 1048576: true; the input reads as it did. -/
def fnExactLiteralsOfUptoRow : OpenClaim := { program := "ytdihadbgbjhebaa", sum := "1fb76288eab53a5709f8a3a0194eb384755e3ce40040990ceb3559afb29ff0e5", func := "loop.example/g00844/laws.FnExactLiteralsOf", spec := "fnExactLiteralsOf", unfollowed := true, recurses := true, apart := false, narrowed := true }
def FnExactLiteralsOfUptoSaid : Prop := fnExactLiteralsOfUptoRow.holds Try.pinned (OpenSpec.upto fnExactLiteralsOfSpec)

/-- 'laws.FnExactNewShelf', WHERE WHAT IT READS IS OF BULK AT MOST 1048576: true; the input reads as it did. -/
def fnExactNewShelfUptoRow : OpenClaim := { program := "ytdihadbgbjhebaa", sum := "1fb76288eab53a5709f8a3a0194eb384755e3ce40040990ceb3559afb29ff0e5", func := "loop.example/g00844/laws.FnExactNewShelf", spec := "fnExactNewShelf", apart := false, narrowed := true }
def FnExactNewShelfUptoSaid : Prop := fnExactNewShelfUptoRow.holds Try.pinned (OpenSpec.upto fnExactNewShelfSpec)

end Rows
end Go.Proofs.Ytdihadbgbjhebaa
