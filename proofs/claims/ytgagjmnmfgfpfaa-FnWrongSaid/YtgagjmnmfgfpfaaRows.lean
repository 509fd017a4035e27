/-
  No cell of these rows narrows 'for every input' (looked for: loops, veiled, ifaces, maps, wideKeys, modest, calm, conditions, laid).
  DERIVED. THE GIVEN ROWS OF THIS SEAT. 11 by the template 'for every input the law returns true; each argument reads behind the call as it read before'; 0 by the template 'total and deterministic' (their statements: YtgagjmnmfgfpfaaTotals.lean).
  GIVEN WITH THE SEED: the statements are not yours to turn. If you find one false, say at which input.
  Laid BY PROGRAM, IN A SANDBOX (cutbox-rows.mjs): the forced cells as the released guide's own fill.sh prints them over the translation 050b623d392e8564… (all of the seat's roots in one cut). By AI agents, Wed Nov 11 2026. No macro, syntax, notation, axiom, sorry.
-/
import Derived.Test.YtgagjmnmfgfpfaaChecked
import GoSem.Claim
import GoSem.ClaimJoined
import GoSem.ClaimMapViews
import Derived.JoinedTies
import Derived.KernelRfl
namespace Go.Proofs.Ytgagjmnmfgfpfaa
/- THE CELL 'sum', in the pinned program and in every row, IS THE sha256 OF THE DUMP (.gsa) THAT YtgagjmnmfgfpfaaProg.lean LOADS. Nothing in Lean hashes anything: it is a label: what it is worth is what the hold of that sum in a sandbox is worth. -/
noncomputable def Try.pinned : Pinned := { name := "ytgagjmnmfgfpfaa", sum := "050b623d392e8564de303c24e574d9df31aea70baa3e86cc93dfe250a6d517fa", checked := Try.checked }
namespace Rows
def none {H : Type} : Left H := { results := [], args := [] }

/-- 'laws.FnExactKeySteps': WHATEVER THE INPUT: true; the input reads as it did. -/
def fnExactKeyStepsSpec : ChangeSpec := { name := "fnExactKeySteps", fn := fun _ => fun
  | [d1, d2] => { results := [.lit (.bool true)], args := [d1, d2] }
  | _ => none }
def fnExactKeyStepsRow : OpenClaim := { program := "ytgagjmnmfgfpfaa", sum := "050b623d392e8564de303c24e574d9df31aea70baa3e86cc93dfe250a6d517fa", func := "loop.example/g01130/laws.FnExactKeySteps", spec := "fnExactKeySteps", inPlace := ["internal/bytealg.IndexByteString"], apart := false }
def FnExactKeyStepsSaid : Prop := fnExactKeyStepsRow.holds Try.pinned (OpenSpec.ofChange fnExactKeyStepsSpec)

/-- ITS FALSE NEIGHBOUR: 'it returns false'. Refute it at one input. -/
def fnExactKeyStepsWrong : ChangeSpec := { name := "fnExactKeySteps", fn := fun _ => fun
  | [d1, d2] => { results := [.lit (.bool false)], args := [d1, d2] }
  | _ => none }
def FnExactKeyStepsWrongFalsely : Prop := fnExactKeyStepsRow.holds Try.pinned (OpenSpec.ofChange fnExactKeyStepsWrong)

/-- 'laws.FnExactApplyScript': WHATEVER THE INPUT: true; the input reads as it did. -/
def fnExactApplyScriptSpec : ChangeSpec := { name := "fnExactApplyScript", fn := fun _ => fun
  | [d1, d2, d3] => { results := [.lit (.bool true)], args := [d1, d2, d3] }
  | _ => none }
def fnExactApplyScriptRow : OpenClaim := { program := "ytgagjmnmfgfpfaa", sum := "050b623d392e8564de303c24e574d9df31aea70baa3e86cc93dfe250a6d517fa", func := "loop.example/g01130/laws.FnExactApplyScript", spec := "fnExactApplyScript", inPlace := ["internal/bytealg.IndexByteString"], apart := false }
def FnExactApplyScriptSaid : Prop := fnExactApplyScriptRow.holds Try.pinned (OpenSpec.ofChange fnExactApplyScriptSpec)

/-- ITS FALSE NEIGHBOUR: 'it returns false'. Refute it at one input. -/
def fnExactApplyScriptWrong : ChangeSpec := { name := "fnExactApplyScript", fn := fun _ => fun
  | [d1, d2, d3] => { results := [.lit (.bool false)], args := [d1, d2, d3] }
  | _ => none }
def FnExactApplyScriptWrongFalsely : Prop := fnExactApplyScriptRow.holds Try.pinned (OpenSpec.ofChange fnExactApplyScriptWrong)

/-- 'laws.FnExactEditDistance': WHATEVER THE INPUT: true; the input reads as it did. -/
def fnExactEditDistanceSpec : ChangeSpec := { name := "fnExactEditDistance", fn := fun _ => fun
  | [d1, d2] => { results := [.lit (.bool true)], args := [d1, d2] }
  | _ => none }
def fnExactEditDistanceRow : OpenClaim := { program := "ytgagjmnmfgfpfaa", sum := "050b623d392e8564de303c24e574d9df31aea70baa3e86cc93dfe250a6d517fa", func := "loop.example/g01130/laws.FnExactEditDistance", spec := "fnExactEditDistance", inPlace := ["internal/bytealg.IndexByteString"], apart := false }
def FnExactEditDistanceSaid : Prop := fnExactEditDistanceRow.holds Try.pinned (OpenSpec.ofChange fnExactEditDistanceSpec)

/-- ITS FALSE NEIGHBOUR: 'it returns false'. Refute it at one input. -/
def fnExactEditDistanceWrong : ChangeSpec := { name := "fnExactEditDistance", fn := fun _ => fun
  | [d1, d2] => { results := [.lit (.bool false)], args := [d1, d2] }
  | _ => none }
def FnExactEditDistanceWrongFalsely : Prop := fnExactEditDistanceRow.holds Try.pinned (OpenSpec.ofChange fnExactEditDistanceWrong)

/-- 'laws.FnExactTypingDistance': WHATEVER THE INPUT: true; the input reads as it did. -/
def fnExactTypingDistanceSpec : ChangeSpec := { name := "fnExactTypingDistance", fn := fun _ => fun
  | [d1, d2] => { results := [.lit (.bool true)], args := [d1, d2] }
  | _ => none }
def fnExactTypingDistanceRow : OpenClaim := { program := "ytgagjmnmfgfpfaa", sum := "050b623d392e8564de303c24e574d9df31aea70baa3e86cc93dfe250a6d517fa", func := "loop.example/g01130/laws.FnExactTypingDistance", spec := "fnExactTypingDistance", inPlace := ["internal/bytealg.IndexByteString"], apart := false }
def FnExactTypingDistanceSaid : Prop := fnExactTypingDistanceRow.holds Try.pinned (OpenSpec.ofChange fnExactTypingDistanceSpec)

/-- ITS FALSE NEIGHBOUR: 'it returns false'. Refute it at one input. -/
def fnExactTypingDistanceWrong : ChangeSpec := { name := "fnExactTypingDistance", fn := fun _ => fun
  | [d1, d2] => { results := [.lit (.bool false)], args := [d1, d2] }
  | _ => none }
def FnExactTypingDistanceWrongFalsely : Prop := fnExactTypingDistanceRow.holds Try.pinned (OpenSpec.ofChange fnExactTypingDistanceWrong)

/-- 'laws.FnEdits': WHATEVER THE INPUT: true; the input reads as it did. -/
def fnEditsSpec : ChangeSpec := { name := "fnEdits", fn := fun _ => fun
  | [d1, d2] => { results := [.lit (.bool true)], args := [d1, d2] }
  | _ => none }
def fnEditsRow : OpenClaim := { program := "ytgagjmnmfgfpfaa", sum := "050b623d392e8564de303c24e574d9df31aea70baa3e86cc93dfe250a6d517fa", func := "loop.example/g01130/laws.FnEdits", spec := "fnEdits", inPlace := ["internal/bytealg.IndexByteString"], apart := false }
def FnEditsSaid : Prop := fnEditsRow.holds Try.pinned (OpenSpec.ofChange fnEditsSpec)

/-- ITS FALSE NEIGHBOUR: 'it returns false'. Refute it at one input. -/
def fnEditsWrong : ChangeSpec := { name := "fnEdits", fn := fun _ => fun
  | [d1, d2] => { results := [.lit (.bool false)], args := [d1, d2] }
  | _ => none }
def FnEditsWrongFalsely : Prop := fnEditsRow.holds Try.pinned (OpenSpec.ofChange fnEditsWrong)

/-- 'laws.FnExactScriptOf': WHATEVER THE INPUT: true; the input reads as it did. -/
def fnExactScriptOfSpec : ChangeSpec := { name := "fnExactScriptOf", fn := fun _ => fun
  | [d1, d2] => { results := [.lit (.bool true)], args := [d1, d2] }
  | _ => none }
def fnExactScriptOfRow : OpenClaim := { program := "ytgagjmnmfgfpfaa", sum := "050b623d392e8564de303c24e574d9df31aea70baa3e86cc93dfe250a6d517fa", func := "loop.example/g01130/laws.FnExactScriptOf", spec := "fnExactScriptOf", inPlace := ["internal/bytealg.IndexByteString"], apart := false }
def FnExactScriptOfSaid : Prop := fnExactScriptOfRow.holds Try.pinned (OpenSpec.ofChange fnExactScriptOfSpec)

/-- ITS FALSE NEIGHBOUR: 'it returns false'. Refute it at one input. -/
def fnExactScriptOfWrong : ChangeSpec := { name := "fnExactScriptOf", fn := fun _ => fun
  | [d1, d2] => { results := [.lit (.bool false)], args := [d1, d2] }
  | _ => none }
def FnExactScriptOfWrongFalsely : Prop := fnExactScriptOfRow.holds Try.pinned (OpenSpec.ofChange fnExactScriptOfWrong)

/-- 'laws.FnExactLeastTyping': WHATEVER THE INPUT: true; the input reads as it did. -/
def fnExactLeastTypingSpec : ChangeSpec := { name := "fnExactLeastTyping", fn := fun _ => fun
  | [d] => { results := [.lit (.bool true)], args := [d] }
  | _ => none }
def fnExactLeastTypingRow : OpenClaim := { program := "ytgagjmnmfgfpfaa", sum := "050b623d392e8564de303c24e574d9df31aea70baa3e86cc93dfe250a6d517fa", func := "loop.example/g01130/laws.FnExactLeastTyping", spec := "fnExactLeastTyping", inPlace := ["internal/bytealg.IndexByteString"], unfollowed := true, recurses := true, apart := false }
def FnExactLeastTypingSaid : Prop := fnExactLeastTypingRow.holds Try.pinned (OpenSpec.ofChange fnExactLeastTypingSpec)

/-- ITS FALSE NEIGHBOUR: 'it returns false'. Refute it at one input. -/
def fnExactLeastTypingWrong : ChangeSpec := { name := "fnExactLeastTyping", fn := fun _ => fun
  | [d] => { results := [.lit (.bool false)], args := [d] }
  | _ => none }
def FnExactLeastTypingWrongFalsely : Prop := fnExactLeastTypingRow.holds Try.pinned (OpenSpec.ofChange fnExactLeastTypingWrong)

/-- 'laws.FnExactNearWords': WHATEVER THE INPUT: true; the input reads as it did. -/
def fnExactNearWordsSpec : ChangeSpec := { name := "fnExactNearWords", fn := fun _ => fun
  | [d1, d2] => { results := [.lit (.bool true)], args := [d1, d2] }
  | _ => none }
def fnExactNearWordsRow : OpenClaim := { program := "ytgagjmnmfgfpfaa", sum := "050b623d392e8564de303c24e574d9df31aea70baa3e86cc93dfe250a6d517fa", func := "loop.example/g01130/laws.FnExactNearWords", spec := "fnExactNearWords", inPlace := ["internal/bytealg.IndexByteString"], recurses := true, apart := false }
def FnExactNearWordsSaid : Prop := fnExactNearWordsRow.holds Try.pinned (OpenSpec.ofChange fnExactNearWordsSpec)

/-- ITS FALSE NEIGHBOUR: 'it returns false'. Refute it at one input. -/
def fnExactNearWordsWrong : ChangeSpec := { name := "fnExactNearWords", fn := fun _ => fun
  | [d1, d2] => { results := [.lit (.bool false)], args := [d1, d2] }
  | _ => none }
def FnExactNearWordsWrongFalsely : Prop := fnExactNearWordsRow.holds Try.pinned (OpenSpec.ofChange fnExactNearWordsWrong)

/-- 'laws.FnExactWrongWords': WHATEVER THE INPUT: true; the input reads as it did. -/
def fnExactWrongWordsSpec : ChangeSpec := { name := "fnExactWrongWords", fn := fun _ => fun
  | [d1, d2, d3] => { results := [.lit (.bool true)], args := [d1, d2, d3] }
  | _ => none }
def fnExactWrongWordsRow : OpenClaim := { program := "ytgagjmnmfgfpfaa", sum := "050b623d392e8564de303c24e574d9df31aea70baa3e86cc93dfe250a6d517fa", func := "loop.example/g01130/laws.FnExactWrongWords", spec := "fnExactWrongWords", inPlace := ["internal/bytealg.IndexByteString"], unfollowed := true, recurses := true, apart := false }
def FnExactWrongWordsSaid : Prop := fnExactWrongWordsRow.holds Try.pinned (OpenSpec.ofChange fnExactWrongWordsSpec)

/-- ITS FALSE NEIGHBOUR: 'it returns false'. Refute it at one input. -/
def fnExactWrongWordsWrong : ChangeSpec := { name := "fnExactWrongWords", fn := fun _ => fun
  | [d1, d2, d3] => { results := [.lit (.bool false)], args := [d1, d2, d3] }
  | _ => none }
def FnExactWrongWordsWrongFalsely : Prop := fnExactWrongWordsRow.holds Try.pinned (OpenSpec.ofChange fnExactWrongWordsWrong)

/-- 'laws.FnWrong': WHATEVER THE INPUT: true; the input reads as it did. -/
def fnWrongSpec : ChangeSpec := { name := "fnWrong", fn := fun _ => fun
  | [d1, d2] => { results := [.lit (.bool true)], args := [d1, d2] }
  | _ => none }
def fnWrongRow : OpenClaim := { program := "ytgagjmnmfgfpfaa", sum := "050b623d392e8564de303c24e574d9df31aea70baa3e86cc93dfe250a6d517fa", func := "loop.example/g01130/laws.FnWrong", spec := "fnWrong", inPlace := ["internal/bytealg.IndexByteString"], unfollowed := true, recurses := true, apart := false }
def FnWrongSaid : Prop := fnWrongRow.holds Try.pinned (OpenSpec.ofChange fnWrongSpec)

/-- ITS FALSE NEIGHBOUR: 'it returns false'. Refute it at one input. -/
def fnWrongWrong : ChangeSpec := { name := "fnWrong", fn := fun _ => fun
  | [d1, d2] => { results := [.lit (.bool false)], args := [d1, d2] }
  | _ => none }
def FnWrongWrongFalsely : Prop := fnWrongRow.holds Try.pinned (OpenSpec.ofChange fnWrongWrong)

/-- 'laws.FnNear': WHATEVER THE INPUT: true; the input reads as it did. -/
def fnNearSpec : ChangeSpec := { name := "fnNear", fn := fun _ => fun
  | [d1, d2] => { results := [.lit (.bool true)], args := [d1, d2] }
  | _ => none }
def fnNearRow : OpenClaim := { program := "ytgagjmnmfgfpfaa", sum := "050b623d392e8564de303c24e574d9df31aea70baa3e86cc93dfe250a6d517fa", func := "loop.example/g01130/laws.FnNear", spec := "fnNear", inPlace := ["internal/bytealg.IndexByteString"], unfollowed := true, recurses := true, apart := false }
def FnNearSaid : Prop := fnNearRow.holds Try.pinned (OpenSpec.ofChange fnNearSpec)

/-- ITS FALSE NEIGHBOUR: 'it returns false'. Refute it at one input. -/
def fnNearWrong : ChangeSpec := { name := "fnNear", fn := fun _ => fun
  | [d1, d2] => { results := [.lit (.bool false)], args := [d1, d2] }
  | _ => none }
def FnNearWrongFalsely : Prop := fnNearRow.holds Try.pinned (OpenSpec.ofChange fnNearWrong)

/- THE SECOND FORM. 'bulk': how many values and letters a reading holds, each counted each time it is reached (what is shared counts as often as it is met; a slice's spare places count too). A statement '..UptoSaid' is the law's where the arguments, and the package variables that the reading takes, are together of bulk at most 1048576: NARROWER than '..Said'. Prove '..Said' where nothing that the law and all that it calls make is longer than what came in: it says more and counts as full. Else prove '..UptoSaid'. A law counts once. -/
mutual
def uptoBulk {H : Type} : DataW H → Nat
  | .lit (.string bytes) => bytes.length + 1
  | .lit _ => 1
  | .nil => 1
  | .ptr d => uptoBulk d + 1
  | .slice elems spare => uptoBulkAll elems + uptoBulkAll spare + 1
  | .agg parts => uptoBulkAll parts + 1
  | .iface _ d => uptoBulk d + 1
  | .map entries => uptoBulkEntries entries + 1
  | .held _ => 1
def uptoBulkAll {H : Type} : List (DataW H) → Nat
  | [] => 0
  | d :: r => uptoBulk d + uptoBulkAll r
def uptoBulkEntries {H : Type} : List (Lit × DataW H) → Nat
  | [] => 0
  | x :: r => uptoBulkEntry x + uptoBulkEntries r
def uptoBulkEntry {H : Type} : Lit × DataW H → Nat
  | (.string bytes, d) => bytes.length + uptoBulk d + 1
  | (_, d) => uptoBulk d + 1
 end
def uptoSmall : (H : Type) → List (DataW H) → Bool := fun _ ds => decide (uptoBulkAll ds ≤ 1048576)
def OpenSpec.upto (s : _root_.Go.ChangeSpec) : _root_.Go.OpenSpec := { _root_.Go.OpenSpec.ofChange s with cond := some uptoSmall }

/-- 'laws.FnExactKeySteps', WHERE WHAT IT READS IS OF BULK AT MOST 1048576: true; the input reads as it did. -/
def fnExactKeyStepsUptoRow : OpenClaim := { program := "ytgagjmnmfgfpfaa", sum := "050b623d392e8564de303c24e574d9df31aea70baa3e86cc93dfe250a6d517fa", func := "loop.example/g01130/laws.FnExactKeySteps", spec := "fnExactKeySteps", inPlace := ["internal/bytealg.IndexByteString"], apart := false, narrowed := true }
def FnExactKeyStepsUptoSaid : Prop := fnExactKeyStepsUptoRow.holds Try.pinned (OpenSpec.upto fnExactKeyStepsSpec)

/-- 'laws.FnExactApplyScript', WHERE WHAT IT READS IS OF BULK AT MOST 1048576: true; the input reads as it did. -/
def fnExactApplyScriptUptoRow : OpenClaim := { program := "ytgagjmnmfgfpfaa", sum := "050b623d392e8564de303c24e574d9df31aea70baa3e86cc93dfe250a6d517fa", func := "loop.example/g01130/laws.FnExactApplyScript", spec := "fnExactApplyScript", inPlace := ["internal/bytealg.IndexByteString"], apart := false, narrowed := true }
def FnExactApplyScriptUptoSaid : Prop := fnExactApplyScriptUptoRow.holds Try.pinned (OpenSpec.upto fnExactApplyScriptSpec)

/-- 'laws.FnExactEditDistance', WHERE WHAT IT READS IS OF BULK AT MOST 1048576: true; the input reads as it did. -/
def fnExactEditDistanceUptoRow : OpenClaim := { program := "ytgagjmnmfgfpfaa", sum := "050b623d392e8564de303c24e574d9df31aea70baa3e86cc93dfe250a6d517fa", func := "loop.example/g01130/laws.FnExactEditDistance", spec := "fnExactEditDistance", inPlace := ["internal/bytealg.IndexByteString"], apart := false, narrowed := true }
def FnExactEditDistanceUptoSaid : Prop := fnExactEditDistanceUptoRow.holds Try.pinned (OpenSpec.upto fnExactEditDistanceSpec)

/-- 'laws.FnExactTypingDistance', WHERE WHAT IT READS IS OF BULK AT MOST 1048576: true; the input reads as it did. -/
def fnExactTypingDistanceUptoRow : OpenClaim := { program := "ytgagjmnmfgfpfaa", sum := "050b623d392e8564de303c24e574d9df31aea70baa3e86cc93dfe250a6d517fa", func := "loop.example/g01130/laws.FnExactTypingDistance", spec := "fnExactTypingDistance", inPlace := ["internal/bytealg.IndexByteString"], apart := false, narrowed := true }
def FnExactTypingDistanceUptoSaid : Prop := fnExactTypingDistanceUptoRow.holds Try.pinned (OpenSpec.upto fnExactTypingDistanceSpec)

/-- 'laws.FnEdits', WHERE WHAT IT READS IS OF BULK AT MOST 1048576: true; the input reads as it did. -/
def fnEditsUptoRow : OpenClaim := { program := "ytgagjmnmfgfpfaa", sum := "050b623d392e8564de303c24e574d9df31aea70baa3e86cc93dfe250a6d517fa", func := "loop.example/g01130/laws.FnEdits", spec := "fnEdits", inPlace := ["internal/bytealg.IndexByteString"], apart := false, narrowed := true }
def FnEditsUptoSaid : Prop := fnEditsUptoRow.holds Try.pinned (OpenSpec.upto fnEditsSpec)

/-- 'laws.FnExactScriptOf', WHERE WHAT IT READS IS OF BULK AT MOST 1048576: true; the input reads as it did. -/
def fnExactScriptOfUptoRow : OpenClaim := { program := "ytgagjmnmfgfpfaa", sum := "050b623d392e8564de303c24e574d9df31aea70baa3e86cc93dfe250a6d517fa", func := "loop.example/g01130/laws.FnExactScriptOf", spec := "fnExactScriptOf", inPlace := ["internal/bytealg.IndexByteString"], apart := false, narrowed := true }
def FnExactScriptOfUptoSaid : Prop := fnExactScriptOfUptoRow.holds Try.pinned (OpenSpec.upto fnExactScriptOfSpec)

/-- 'laws.FnExactLeastTyping', WHERE WHAT IT READS IS OF BULK AT MOST 1048576: true; the input reads as it did. -/
def fnExactLeastTypingUptoRow : OpenClaim := { program := "ytgagjmnmfgfpfaa", sum := "050b623d392e8564de303c24e574d9df31aea70baa3e86cc93dfe250a6d517fa", func := "loop.example/g01130/laws.FnExactLeastTyping", spec := "fnExactLeastTyping", inPlace := ["internal/bytealg.IndexByteString"], unfollowed := true, recurses := true, apart := false, narrowed := true }
def FnExactLeastTypingUptoSaid : Prop := fnExactLeastTypingUptoRow.holds Try.pinned (OpenSpec.upto fnExactLeastTypingSpec)

/-- 'laws.FnExactNearWords', WHERE WHAT IT READS IS OF BULK AT MOST 1048576: true; the input reads as it did. -/
def fnExactNearWordsUptoRow : OpenClaim := { program := "ytgagjmnmfgfpfaa", sum := "050b623d392e8564de303c24e574d9df31aea70baa3e86cc93dfe250a6d517fa", func := "loop.example/g01130/laws.FnExactNearWords", spec := "fnExactNearWords", inPlace := ["internal/bytealg.IndexByteString"], recurses := true, apart := false, narrowed := true }
def FnExactNearWordsUptoSaid : Prop := fnExactNearWordsUptoRow.holds Try.pinned (OpenSpec.upto fnExactNearWordsSpec)

/-- 'laws.FnExactWrongWords', WHERE WHAT IT READS IS OF BULK AT MOST 1048576: true; the input reads as it did. -/
def fnExactWrongWordsUptoRow : OpenClaim := { program := "ytgagjmnmfgfpfaa", sum := "050b623d392e8564de303c24e574d9df31aea70baa3e86cc93dfe250a6d517fa", func := "loop.example/g01130/laws.FnExactWrongWords", spec := "fnExactWrongWords", inPlace := ["internal/bytealg.IndexByteString"], unfollowed := true, recurses := true, apart := false, narrowed := true }
def FnExactWrongWordsUptoSaid : Prop := fnExactWrongWordsUptoRow.holds Try.pinned (OpenSpec.upto fnExactWrongWordsSpec)

/-- 'laws.FnWrong', WHERE WHAT IT READS IS OF BULK AT MOST 1048576: true; the input reads as it did. -/
def fnWrongUptoRow : OpenClaim := { program := "ytgagjmnmfgfpfaa", sum := "050b623d392e8564de303c24e574d9df31aea70baa3e86cc93dfe250a6d517fa", func := "loop.example/g01130/laws.FnWrong", spec := "fnWrong", inPlace := ["internal/bytealg.IndexByteString"], unfollowed := true, recurses := true, apart := false, narrowed := true }
def FnWrongUptoSaid : Prop := fnWrongUptoRow.holds Try.pinned (OpenSpec.upto fnWrongSpec)

/-- 'laws.FnNear', WHERE WHAT IT READS IS OF BULK AT MOST 1048576: true; the input reads as it did. -/
def fnNearUptoRow : OpenClaim := { program := "ytgagjmnmfgfpfaa", sum := "050b623d392e8564de303c24e574d9df31aea70baa3e86cc93dfe250a6d517fa", func := "loop.example/g01130/laws.FnNear", spec := "fnNear", inPlace := ["internal/bytealg.IndexByteString"], unfollowed := true, recurses := true, apart := false, narrowed := true }
def FnNearUptoSaid : Prop := fnNearUptoRow.holds Try.pinned (OpenSpec.upto fnNearSpec)

end Rows
end Go.Proofs.Ytgagjmnmfgfpfaa
