/-
  No cell of these rows narrows 'for every input' (looked for: loops, veiled, ifaces, maps, wideKeys, modest, calm, conditions, laid).
  DERIVED. THE GIVEN ROWS OF THIS SEAT. 11 by the template 'for every input the law returns true; each argument reads behind the call as it read before'; 0 by the template 'total and deterministic' (their statements: YtcipgfjhodgncaaTotals.lean).
  GIVEN WITH THE SEED: the statements are not yours to turn. If you find one false, say at which input.
  Laid BY PROGRAM, IN A SANDBOX (cutbox-rows.mjs): the forced cells as the released guide's own fill.sh prints them over the translation f53a6d8c40e8e438… (all of the seat's roots in one cut). By AI agents, Wed Nov 11 2026. No macro, syntax, notation, axiom, sorry.
-/
import Derived.Test.YtcipgfjhodgncaaChecked
import GoSem.Claim
import GoSem.ClaimJoined
import GoSem.ClaimMapViews
import Derived.JoinedTies
import Derived.KernelRfl
namespace Go.Proofs.Ytcipgfjhodgncaa
/- THE CELL 'sum', in the pinned program and in every row, IS THE sha256 OF THE DUMP (.gsa) THAT YtcipgfjhodgncaaProg.lean LOADS. Nothing in Lean hashes anything: it is a label: what it is worth is what the hold of that sum in a sandbox is worth. -/
noncomputable def Try.pinned : Pinned := { name := "ytcipgfjhodgncaa", sum := "f53a6d8c40e8e438678d75f64bee67d2df792435d0d7a1cb2f35784d34dbe97b", checked := Try.checked }
namespace Rows
def none {H : Type} : Left H := { results := [], args := [] }

/-- 'laws.FnExactNewCache': WHATEVER THE INPUT: true; the input reads as it did. -/
def fnExactNewCacheSpec : ChangeSpec := { name := "fnExactNewCache", fn := fun _ => fun
  | [d] => { results := [.lit (.bool true)], args := [d] }
  | _ => none }
def fnExactNewCacheRow : OpenClaim := { program := "ytcipgfjhodgncaa", sum := "f53a6d8c40e8e438678d75f64bee67d2df792435d0d7a1cb2f35784d34dbe97b", func := "loop.example/g00844/laws.FnExactNewCache", spec := "fnExactNewCache", apart := false }
def FnExactNewCacheSaid : Prop := fnExactNewCacheRow.holds Try.pinned (OpenSpec.ofChange fnExactNewCacheSpec)

/-- ITS FALSE NEIGHBOUR: 'it returns false'. Refute it at one input. -/
def fnExactNewCacheWrong : ChangeSpec := { name := "fnExactNewCache", fn := fun _ => fun
  | [d] => { results := [.lit (.bool false)], args := [d] }
  | _ => none }
def FnExactNewCacheWrongFalsely : Prop := fnExactNewCacheRow.holds Try.pinned (OpenSpec.ofChange fnExactNewCacheWrong)

/-- 'laws.FnExactCacheOk': WHATEVER THE INPUT: true; the input reads as it did. -/
def fnExactCacheOkSpec : ChangeSpec := { name := "fnExactCacheOk", fn := fun _ => fun
  | [d] => { results := [.lit (.bool true)], args := [d] }
  | _ => none }
def fnExactCacheOkRow : OpenClaim := { program := "ytcipgfjhodgncaa", sum := "f53a6d8c40e8e438678d75f64bee67d2df792435d0d7a1cb2f35784d34dbe97b", func := "loop.example/g00844/laws.FnExactCacheOk", spec := "fnExactCacheOk", apart := false }
def FnExactCacheOkSaid : Prop := fnExactCacheOkRow.holds Try.pinned (OpenSpec.ofChange fnExactCacheOkSpec)

/-- ITS FALSE NEIGHBOUR: 'it returns false'. Refute it at one input. -/
def fnExactCacheOkWrong : ChangeSpec := { name := "fnExactCacheOk", fn := fun _ => fun
  | [d] => { results := [.lit (.bool false)], args := [d] }
  | _ => none }
def FnExactCacheOkWrongFalsely : Prop := fnExactCacheOkRow.holds Try.pinned (OpenSpec.ofChange fnExactCacheOkWrong)

/-- 'laws.FnExactOldestKey': WHATEVER THE INPUT: true; the input reads as it did. -/
def fnExactOldestKeySpec : ChangeSpec := { name := "fnExactOldestKey", fn := fun _ => fun
  | [d] => { results := [.lit (.bool true)], args := [d] }
  | _ => none }
def fnExactOldestKeyRow : OpenClaim := { program := "ytcipgfjhodgncaa", sum := "f53a6d8c40e8e438678d75f64bee67d2df792435d0d7a1cb2f35784d34dbe97b", func := "loop.example/g00844/laws.FnExactOldestKey", spec := "fnExactOldestKey", apart := false }
def FnExactOldestKeySaid : Prop := fnExactOldestKeyRow.holds Try.pinned (OpenSpec.ofChange fnExactOldestKeySpec)

/-- ITS FALSE NEIGHBOUR: 'it returns false'. Refute it at one input. -/
def fnExactOldestKeyWrong : ChangeSpec := { name := "fnExactOldestKey", fn := fun _ => fun
  | [d] => { results := [.lit (.bool false)], args := [d] }
  | _ => none }
def FnExactOldestKeyWrongFalsely : Prop := fnExactOldestKeyRow.holds Try.pinned (OpenSpec.ofChange fnExactOldestKeyWrong)

/-- 'laws.FnExactPeekKey': WHATEVER THE INPUT: true; the input reads as it did. -/
def fnExactPeekKeySpec : ChangeSpec := { name := "fnExactPeekKey", fn := fun _ => fun
  | [d1, d2] => { results := [.lit (.bool true)], args := [d1, d2] }
  | _ => none }
def fnExactPeekKeyRow : OpenClaim := { program := "ytcipgfjhodgncaa", sum := "f53a6d8c40e8e438678d75f64bee67d2df792435d0d7a1cb2f35784d34dbe97b", func := "loop.example/g00844/laws.FnExactPeekKey", spec := "fnExactPeekKey", apart := false }
def FnExactPeekKeySaid : Prop := fnExactPeekKeyRow.holds Try.pinned (OpenSpec.ofChange fnExactPeekKeySpec)

/-- ITS FALSE NEIGHBOUR: 'it returns false'. Refute it at one input. -/
def fnExactPeekKeyWrong : ChangeSpec := { name := "fnExactPeekKey", fn := fun _ => fun
  | [d1, d2] => { results := [.lit (.bool false)], args := [d1, d2] }
  | _ => none }
def FnExactPeekKeyWrongFalsely : Prop := fnExactPeekKeyRow.holds Try.pinned (OpenSpec.ofChange fnExactPeekKeyWrong)

/-- 'laws.FnExactResizeCache': WHATEVER THE INPUT: true; the input reads as it did. -/
def fnExactResizeCacheSpec : ChangeSpec := { name := "fnExactResizeCache", fn := fun _ => fun
  | [d1, d2] => { results := [.lit (.bool true)], args := [d1, d2] }
  | _ => none }
def fnExactResizeCacheRow : OpenClaim := { program := "ytcipgfjhodgncaa", sum := "f53a6d8c40e8e438678d75f64bee67d2df792435d0d7a1cb2f35784d34dbe97b", func := "loop.example/g00844/laws.FnExactResizeCache", spec := "fnExactResizeCache", apart := false }
def FnExactResizeCacheSaid : Prop := fnExactResizeCacheRow.holds Try.pinned (OpenSpec.ofChange fnExactResizeCacheSpec)

/-- ITS FALSE NEIGHBOUR: 'it returns false'. Refute it at one input. -/
def fnExactResizeCacheWrong : ChangeSpec := { name := "fnExactResizeCache", fn := fun _ => fun
  | [d1, d2] => { results := [.lit (.bool false)], args := [d1, d2] }
  | _ => none }
def FnExactResizeCacheWrongFalsely : Prop := fnExactResizeCacheRow.holds Try.pinned (OpenSpec.ofChange fnExactResizeCacheWrong)

/-- 'laws.FnExactDropKey': WHATEVER THE INPUT: true; the input reads as it did. -/
def fnExactDropKeySpec : ChangeSpec := { name := "fnExactDropKey", fn := fun _ => fun
  | [d1, d2] => { results := [.lit (.bool true)], args := [d1, d2] }
  | _ => none }
def fnExactDropKeyRow : OpenClaim := { program := "ytcipgfjhodgncaa", sum := "f53a6d8c40e8e438678d75f64bee67d2df792435d0d7a1cb2f35784d34dbe97b", func := "loop.example/g00844/laws.FnExactDropKey", spec := "fnExactDropKey", apart := false }
def FnExactDropKeySaid : Prop := fnExactDropKeyRow.holds Try.pinned (OpenSpec.ofChange fnExactDropKeySpec)

/-- ITS FALSE NEIGHBOUR: 'it returns false'. Refute it at one input. -/
def fnExactDropKeyWrong : ChangeSpec := { name := "fnExactDropKey", fn := fun _ => fun
  | [d1, d2] => { results := [.lit (.bool false)], args := [d1, d2] }
  | _ => none }
def FnExactDropKeyWrongFalsely : Prop := fnExactDropKeyRow.holds Try.pinned (OpenSpec.ofChange fnExactDropKeyWrong)

/-- 'laws.FnExactHitsIn': WHATEVER THE INPUT: true; the input reads as it did. -/
def fnExactHitsInSpec : ChangeSpec := { name := "fnExactHitsIn", fn := fun _ => fun
  | [d1, d2] => { results := [.lit (.bool true)], args := [d1, d2] }
  | _ => none }
def fnExactHitsInRow : OpenClaim := { program := "ytcipgfjhodgncaa", sum := "f53a6d8c40e8e438678d75f64bee67d2df792435d0d7a1cb2f35784d34dbe97b", func := "loop.example/g00844/laws.FnExactHitsIn", spec := "fnExactHitsIn", apart := false }
def FnExactHitsInSaid : Prop := fnExactHitsInRow.holds Try.pinned (OpenSpec.ofChange fnExactHitsInSpec)

/-- ITS FALSE NEIGHBOUR: 'it returns false'. Refute it at one input. -/
def fnExactHitsInWrong : ChangeSpec := { name := "fnExactHitsIn", fn := fun _ => fun
  | [d1, d2] => { results := [.lit (.bool false)], args := [d1, d2] }
  | _ => none }
def FnExactHitsInWrongFalsely : Prop := fnExactHitsInRow.holds Try.pinned (OpenSpec.ofChange fnExactHitsInWrong)

/-- 'laws.FnExactGetKey': WHATEVER THE INPUT: true; the input reads as it did. -/
def fnExactGetKeySpec : ChangeSpec := { name := "fnExactGetKey", fn := fun _ => fun
  | [d1, d2] => { results := [.lit (.bool true)], args := [d1, d2] }
  | _ => none }
def fnExactGetKeyRow : OpenClaim := { program := "ytcipgfjhodgncaa", sum := "f53a6d8c40e8e438678d75f64bee67d2df792435d0d7a1cb2f35784d34dbe97b", func := "loop.example/g00844/laws.FnExactGetKey", spec := "fnExactGetKey", apart := false }
def FnExactGetKeySaid : Prop := fnExactGetKeyRow.holds Try.pinned (OpenSpec.ofChange fnExactGetKeySpec)

/-- ITS FALSE NEIGHBOUR: 'it returns false'. Refute it at one input. -/
def fnExactGetKeyWrong : ChangeSpec := { name := "fnExactGetKey", fn := fun _ => fun
  | [d1, d2] => { results := [.lit (.bool false)], args := [d1, d2] }
  | _ => none }
def FnExactGetKeyWrongFalsely : Prop := fnExactGetKeyRow.holds Try.pinned (OpenSpec.ofChange fnExactGetKeyWrong)

/-- 'laws.FnExactPutKey': WHATEVER THE INPUT: true; the input reads as it did. -/
def fnExactPutKeySpec : ChangeSpec := { name := "fnExactPutKey", fn := fun _ => fun
  | [d1, d2, d3] => { results := [.lit (.bool true)], args := [d1, d2, d3] }
  | _ => none }
def fnExactPutKeyRow : OpenClaim := { program := "ytcipgfjhodgncaa", sum := "f53a6d8c40e8e438678d75f64bee67d2df792435d0d7a1cb2f35784d34dbe97b", func := "loop.example/g00844/laws.FnExactPutKey", spec := "fnExactPutKey", apart := false }
def FnExactPutKeySaid : Prop := fnExactPutKeyRow.holds Try.pinned (OpenSpec.ofChange fnExactPutKeySpec)

/-- ITS FALSE NEIGHBOUR: 'it returns false'. Refute it at one input. -/
def fnExactPutKeyWrong : ChangeSpec := { name := "fnExactPutKey", fn := fun _ => fun
  | [d1, d2, d3] => { results := [.lit (.bool false)], args := [d1, d2, d3] }
  | _ => none }
def FnExactPutKeyWrongFalsely : Prop := fnExactPutKeyRow.holds Try.pinned (OpenSpec.ofChange fnExactPutKeyWrong)

/-- 'laws.FnExactPlayCache': WHATEVER THE INPUT: true; the input reads as it did. -/
def fnExactPlayCacheSpec : ChangeSpec := { name := "fnExactPlayCache", fn := fun _ => fun
  | [d1, d2] => { results := [.lit (.bool true)], args := [d1, d2] }
  | _ => none }
def fnExactPlayCacheRow : OpenClaim := { program := "ytcipgfjhodgncaa", sum := "f53a6d8c40e8e438678d75f64bee67d2df792435d0d7a1cb2f35784d34dbe97b", func := "loop.example/g00844/laws.FnExactPlayCache", spec := "fnExactPlayCache", apart := false }
def FnExactPlayCacheSaid : Prop := fnExactPlayCacheRow.holds Try.pinned (OpenSpec.ofChange fnExactPlayCacheSpec)

/-- ITS FALSE NEIGHBOUR: 'it returns false'. Refute it at one input. -/
def fnExactPlayCacheWrong : ChangeSpec := { name := "fnExactPlayCache", fn := fun _ => fun
  | [d1, d2] => { results := [.lit (.bool false)], args := [d1, d2] }
  | _ => none }
def FnExactPlayCacheWrongFalsely : Prop := fnExactPlayCacheRow.holds Try.pinned (OpenSpec.ofChange fnExactPlayCacheWrong)

/-- 'laws.FnLarger': WHATEVER THE INPUT: true; the input reads as it did. -/
def fnLargerSpec : ChangeSpec := { name := "fnLarger", fn := fun _ => fun
  | [d] => { results := [.lit (.bool true)], args := [d] }
  | _ => none }
def fnLargerRow : OpenClaim := { program := "ytcipgfjhodgncaa", sum := "f53a6d8c40e8e438678d75f64bee67d2df792435d0d7a1cb2f35784d34dbe97b", func := "loop.example/g00844/laws.FnLarger", spec := "fnLarger", apart := false }
def FnLargerSaid : Prop := fnLargerRow.holds Try.pinned (OpenSpec.ofChange fnLargerSpec)

/-- ITS FALSE NEIGHBOUR: 'it returns false'. Refute it at one input. -/
def fnLargerWrong : ChangeSpec := { name := "fnLarger", fn := fun _ => fun
  | [d] => { results := [.lit (.bool false)], args := [d] }
  | _ => none }
def FnLargerWrongFalsely : Prop := fnLargerRow.holds Try.pinned (OpenSpec.ofChange fnLargerWrong)

/- THE SECOND FORM. 'bulk': how many values and letters a reading holds, each counted each time it is reached (what is shared counts as often as it is met; a slice's spare places count too). A statement '..UptoSaid' is the law's where the arguments, and the package variables that the reading takes, are together of bulk at most 1048576: NARROWER than '..Said'. Prove '..Said' where nothing that the law and all that it calls make is longer than what came in: it says more and counts as full. Else prove '..UptoSaid'. A law counts once. -/
mutual
def uptoBulk {H : Type} : DataW H → Nat
  | .lit (.string bytes) => bytes.length + 1
  | .lit _ => 1
  | .nil => 1
  | .ptr d => uptoBulk d + 1
  | .slice elems spare => uptoBulkAll elems + uptoBulkAll spare + 1
  | .agg parts => uptoBulkAll parts + 1
  | .iface _ d => uptoBulk d + 1
  | .map entries => uptoBulkEntries entries + 1
  | .held _ => 1
def uptoBulkAll {H : Type} : List (DataW H) → Nat
  | [] => 0
  | d :: r => uptoBulk d + uptoBulkAll r
def uptoBulkEntries {H : Type} : List (Lit × DataW H) → Nat
  | [] => 0
  | x :: r => uptoBulkEntry x + uptoBulkEntries r
def uptoBulkEntry {H : Type} : Lit × DataW H → Nat
  | (.string bytes, d) => bytes.length + uptoBulk d + 1
  | (_, d) => uptoBulk d + 1
 end
def uptoSmall : (H : Type) → List (DataW H) → Bool := fun _ ds => decide (uptoBulkAll ds ≤ 1048576)
def OpenSpec.upto (s : _root_.Go.ChangeSpec) : _root_.Go.OpenSpec := { _root_.Go.OpenSpec.ofChange s with cond := some uptoSmall }

/-- 'laws.FnExactNewCache', WHERE WHAT IT READS IS OF BULK AT MOST 1048576: true; the input reads as it did. -/
def fnExactNewCacheUptoRow : OpenClaim := { program := "ytcipgfjhodgncaa", sum := "f53a6d8c40e8e438678d75f64bee67d2df792435d0d7a1cb2f35784d34dbe97b", func := "loop.example/g00844/laws.FnExactNewCache", spec := "fnExactNewCache", apart := false, narrowed := true }
def FnExactNewCacheUptoSaid : Prop := fnExactNewCacheUptoRow.holds Try.pinned (OpenSpec.upto fnExactNewCacheSpec)

/-- 'laws.FnExactCacheOk', WHERE WHAT IT READS IS OF BULK AT MOST 1048576: true; the input reads as it did. -/
def fnExactCacheOkUptoRow : OpenClaim := { program := "ytcipgfjhodgncaa", sum := "f53a6d8c40e8e438678d75f64bee67d2df792435d0d7a1cb2f35784d34dbe97b", func := "loop.example/g00844/laws.FnExactCacheOk", spec := "fnExactCacheOk", apart := false, narrowed := true }
def FnExactCacheOkUptoSaid : Prop := fnExactCacheOkUptoRow.holds Try.pinned (OpenSpec.upto fnExactCacheOkSpec)

/-- 'laws.FnExactOldestKey', WHERE WHAT IT READS IS OF BULK AT MOST 1048576: true; the input reads as it did. -/
def fnExactOldestKeyUptoRow : OpenClaim := { program := "ytcipgfjhodgncaa", sum := "f53a6d8c40e8e438678d75f64bee67d2df792435d0d7a1cb2f35784d34dbe97b", func := "loop.example/g00844/laws.FnExactOldestKey", spec := "fnExactOldestKey", apart := false, narrowed := true }
def FnExactOldestKeyUptoSaid : Prop := fnExactOldestKeyUptoRow.holds Try.pinned (OpenSpec.upto fnExactOldestKeySpec)

/-- 'laws.FnExactPeekKey', WHERE WHAT IT READS IS OF BULK AT MOST 1048576: true; the input reads as it did. -/
def fnExactPeekKeyUptoRow : OpenClaim := { program := "ytcipgfjhodgncaa", sum := "f53a6d8c40e8e438678d75f64bee67d2df792435d0d7a1cb2f35784d34dbe97b", func := "loop.example/g00844/laws.FnExactPeekKey", spec := "fnExactPeekKey", apart := false, narrowed := true }
def FnExactPeekKeyUptoSaid : Prop := fnExactPeekKeyUptoRow.holds Try.pinned (OpenSpec.upto fnExactPeekKeySpec)

/-- 'laws.FnExactResizeCache', WHERE WHAT IT READS IS OF BULK AT MOST 1048576: true; the input reads as it did. -/
def fnExactResizeCacheUptoRow : OpenClaim := { program := "ytcipgfjhodgncaa", sum := "f53a6d8c40e8e438678d75f64bee67d2df792435d0d7a1cb2f35784d34dbe97b", func := "loop.example/g00844/laws.FnExactResizeCache", spec := "fnExactResizeCache", apart := false, narrowed := true }
def FnExactResizeCacheUptoSaid : Prop := fnExactResizeCacheUptoRow.holds Try.pinned (OpenSpec.upto fnExactResizeCacheSpec)

/-- 'laws.FnExactDropKey', WHERE WHAT IT READS IS OF BULK AT MOST 1048576: true; the input reads as it did. -/
def fnExactDropKeyUptoRow : OpenClaim := { program := "ytcipgfjhodgncaa", sum := "f53a6d8c40e8e438678d75f64bee67d2df792435d0d7a1cb2f35784d34dbe97b", func := "loop.example/g00844/laws.FnExactDropKey", spec := "fnExactDropKey", apart := false, narrowed := true }
def FnExactDropKeyUptoSaid : Prop := fnExactDropKeyUptoRow.holds Try.pinned (OpenSpec.upto fnExactDropKeySpec)

/-- 'laws.FnExactHitsIn', WHERE WHAT IT READS IS OF BULK AT MOST 1048576: true; the input reads as it did. -/
def fnExactHitsInUptoRow : OpenClaim := { program := "ytcipgfjhodgncaa", sum := "f53a6d8c40e8e438678d75f64bee67d2df792435d0d7a1cb2f35784d34dbe97b", func := "loop.example/g00844/laws.FnExactHitsIn", spec := "fnExactHitsIn", apart := false, narrowed := true }
def FnExactHitsInUptoSaid : Prop := fnExactHitsInUptoRow.holds Try.pinned (OpenSpec.upto fnExactHitsInSpec)

/-- 'laws.FnExactGetKey', WHERE WHAT IT READS IS OF BULK AT MOST 1048576: true; the input reads as it did. -/
def fnExactGetKeyUptoRow : OpenClaim := { program := "ytcipgfjhodgncaa", sum := "f53a6d8c40e8e438678d75f64bee67d2df792435d0d7a1cb2f35784d34dbe97b", func := "loop.example/g00844/laws.FnExactGetKey", spec := "fnExactGetKey", apart := false, narrowed := true }
def FnExactGetKeyUptoSaid : Prop := fnExactGetKeyUptoRow.holds Try.pinned (OpenSpec.upto fnExactGetKeySpec)

/-- 'laws.FnExactPutKey', WHERE WHAT IT READS IS OF BULK AT MOST 1048576: true; the input reads as it did. -/
def fnExactPutKeyUptoRow : OpenClaim := { program := "ytcipgfjhodgncaa", sum := "f53a6d8c40e8e438678d75f64bee67d2df792435d0d7a1cb2f35784d34dbe97b", func := "loop.example/g00844/laws.FnExactPutKey", spec := "fnExactPutKey", apart := false, narrowed := true }
def FnExactPutKeyUptoSaid : Prop := fnExactPutKeyUptoRow.holds Try.pinned (OpenSpec.upto fnExactPutKeySpec)

/-- 'laws.FnExactPlayCache', WHERE WHAT IT READS IS OF BULK AT MOST 1048576: true; the input reads as it did. -/
def fnExactPlayCacheUptoRow : OpenClaim := { program := "ytcipgfjhodgncaa", sum := "f53a6d8c40e8e438678d75f64bee67d2df792435d0d7a1cb2f35784d34dbe97b", func := "loop.example/g00844/laws.FnExactPlayCache", spec := "fnExactPlayCache", apart := false, narrowed := true }
def FnExactPlayCacheUptoSaid : Prop := fnExactPlayCacheUptoRow.holds Try.pinned (OpenSpec.upto fnExactPlayCacheSpec)

/-- 'laws.FnLarger', WHERE WHAT IT READS IS OF BULK AT MOST 1048576: true; the input reads as it did. -/
def fnLargerUptoRow : OpenClaim := { program := "ytcipgfjhodgncaa", sum := "f53a6d8c40e8e438678d75f64bee67d2df792435d0d7a1cb2f35784d34dbe97b", func := "loop.example/g00844/laws.FnLarger", spec := "fnLarger", apart := false, narrowed := true }
def FnLargerUptoSaid : Prop := fnLargerUptoRow.holds Try.pinned (OpenSpec.upto fnLargerSpec)

end Rows
end Go.Proofs.Ytcipgfjhodgncaa
