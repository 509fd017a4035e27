/-
  No cell of these rows narrows 'for every input' (looked for: loops, veiled, ifaces, maps, wideKeys, modest, calm, conditions, laid).
  DERIVED. THE GIVEN ROWS OF THIS SEAT. 8 by the template 'for every input the law returns true; each argument reads behind the call as it read before'; 0 by the template 'total and deterministic' (their statements: YtdlagajnefkklaaTotals.lean).
  GIVEN WITH THE SEED: the statements are not yours to turn. If you find one false, say at which input.
  Laid BY PROGRAM, IN A SANDBOX (cutbox-rows.mjs): the forced cells as the released guide's own fill.sh prints them over the translation a8797ad5dfcb577c… (all of the seat's roots in one cut). By AI agents, Wed Nov 11 2026. No macro, syntax, notation, axiom, sorry.
-/
import Derived.Test.YtdlagajnefkklaaChecked
import GoSem.Claim
import GoSem.ClaimJoined
import GoSem.ClaimMapViews
import Derived.JoinedTies
import Derived.KernelRfl
namespace Go.Proofs.Ytdlagajnefkklaa
/- THE CELL 'sum', in the pinned program and in every row, IS THE sha256 OF THE DUMP (.gsa) THAT YtdlagajnefkklaaProg.lean LOADS. Nothing in Lean hashes anything: it is a label: what it is worth is what the hold of that sum in a sandbox is worth. -/
noncomputable def Try.pinned : Pinned := { name := "ytdlagajnefkklaa", sum := "a8797ad5dfcb577c115f1a495ca169b1bb048b63010c89fa9c5ed033cac6696d", checked := Try.checked }
namespace Rows
def none {H : Type} : Left H := { results := [], args := [] }

/-- 'laws.FnExactValidSpeech': WHATEVER THE INPUT: true; the input reads as it did. -/
def fnExactValidSpeechSpec : ChangeSpec := { name := "fnExactValidSpeech", fn := fun _ => fun
  | [d] => { results := [.lit (.bool true)], args := [d] }
  | _ => none }
def fnExactValidSpeechRow : OpenClaim := { program := "ytdlagajnefkklaa", sum := "a8797ad5dfcb577c115f1a495ca169b1bb048b63010c89fa9c5ed033cac6696d", func := "loop.example/g01130/laws.FnExactValidSpeech", spec := "fnExactValidSpeech", inPlace := ["internal/bytealg.IndexByteString"], unfollowed := true, recurses := true, apart := false }
def FnExactValidSpeechSaid : Prop := fnExactValidSpeechRow.holds Try.pinned (OpenSpec.ofChange fnExactValidSpeechSpec)

/-- ITS FALSE NEIGHBOUR: 'it returns false'. Refute it at one input. -/
def fnExactValidSpeechWrong : ChangeSpec := { name := "fnExactValidSpeech", fn := fun _ => fun
  | [d] => { results := [.lit (.bool false)], args := [d] }
  | _ => none }
def FnExactValidSpeechWrongFalsely : Prop := fnExactValidSpeechRow.holds Try.pinned (OpenSpec.ofChange fnExactValidSpeechWrong)

/-- 'laws.FnExactIsLexicon': WHATEVER THE INPUT: true; the input reads as it did. -/
def fnExactIsLexiconSpec : ChangeSpec := { name := "fnExactIsLexicon", fn := fun _ => fun
  | [d] => { results := [.lit (.bool true)], args := [d] }
  | _ => none }
def fnExactIsLexiconRow : OpenClaim := { program := "ytdlagajnefkklaa", sum := "a8797ad5dfcb577c115f1a495ca169b1bb048b63010c89fa9c5ed033cac6696d", func := "loop.example/g01130/laws.FnExactIsLexicon", spec := "fnExactIsLexicon", apart := false }
def FnExactIsLexiconSaid : Prop := fnExactIsLexiconRow.holds Try.pinned (OpenSpec.ofChange fnExactIsLexiconSpec)

/-- ITS FALSE NEIGHBOUR: 'it returns false'. Refute it at one input. -/
def fnExactIsLexiconWrong : ChangeSpec := { name := "fnExactIsLexicon", fn := fun _ => fun
  | [d] => { results := [.lit (.bool false)], args := [d] }
  | _ => none }
def FnExactIsLexiconWrongFalsely : Prop := fnExactIsLexiconRow.holds Try.pinned (OpenSpec.ofChange fnExactIsLexiconWrong)

/-- 'laws.FnExactWordDistance': WHATEVER THE INPUT: true; the input reads as it did. -/
def fnExactWordDistanceSpec : ChangeSpec := { name := "fnExactWordDistance", fn := fun _ => fun
  | [d1, d2] => { results := [.lit (.bool true)], args := [d1, d2] }
  | _ => none }
def fnExactWordDistanceRow : OpenClaim := { program := "ytdlagajnefkklaa", sum := "a8797ad5dfcb577c115f1a495ca169b1bb048b63010c89fa9c5ed033cac6696d", func := "loop.example/g01130/laws.FnExactWordDistance", spec := "fnExactWordDistance", apart := false }
def FnExactWordDistanceSaid : Prop := fnExactWordDistanceRow.holds Try.pinned (OpenSpec.ofChange fnExactWordDistanceSpec)

/-- ITS FALSE NEIGHBOUR: 'it returns false'. Refute it at one input. -/
def fnExactWordDistanceWrong : ChangeSpec := { name := "fnExactWordDistance", fn := fun _ => fun
  | [d1, d2] => { results := [.lit (.bool false)], args := [d1, d2] }
  | _ => none }
def FnExactWordDistanceWrongFalsely : Prop := fnExactWordDistanceRow.holds Try.pinned (OpenSpec.ofChange fnExactWordDistanceWrong)

/-- 'laws.FnExactLeastGap': WHATEVER THE INPUT: true; the input reads as it did. -/
def fnExactLeastGapSpec : ChangeSpec := { name := "fnExactLeastGap", fn := fun _ => fun
  | [d] => { results := [.lit (.bool true)], args := [d] }
  | _ => none }
def fnExactLeastGapRow : OpenClaim := { program := "ytdlagajnefkklaa", sum := "a8797ad5dfcb577c115f1a495ca169b1bb048b63010c89fa9c5ed033cac6696d", func := "loop.example/g01130/laws.FnExactLeastGap", spec := "fnExactLeastGap", apart := false }
def FnExactLeastGapSaid : Prop := fnExactLeastGapRow.holds Try.pinned (OpenSpec.ofChange fnExactLeastGapSpec)

/-- ITS FALSE NEIGHBOUR: 'it returns false'. Refute it at one input. -/
def fnExactLeastGapWrong : ChangeSpec := { name := "fnExactLeastGap", fn := fun _ => fun
  | [d] => { results := [.lit (.bool false)], args := [d] }
  | _ => none }
def FnExactLeastGapWrongFalsely : Prop := fnExactLeastGapRow.holds Try.pinned (OpenSpec.ofChange fnExactLeastGapWrong)

/-- 'laws.FnExactHearWord': WHATEVER THE INPUT: true; the input reads as it did. -/
def fnExactHearWordSpec : ChangeSpec := { name := "fnExactHearWord", fn := fun _ => fun
  | [d1, d2, d3] => { results := [.lit (.bool true)], args := [d1, d2, d3] }
  | _ => none }
def fnExactHearWordRow : OpenClaim := { program := "ytdlagajnefkklaa", sum := "a8797ad5dfcb577c115f1a495ca169b1bb048b63010c89fa9c5ed033cac6696d", func := "loop.example/g01130/laws.FnExactHearWord", spec := "fnExactHearWord", apart := false }
def FnExactHearWordSaid : Prop := fnExactHearWordRow.holds Try.pinned (OpenSpec.ofChange fnExactHearWordSpec)

/-- ITS FALSE NEIGHBOUR: 'it returns false'. Refute it at one input. -/
def fnExactHearWordWrong : ChangeSpec := { name := "fnExactHearWord", fn := fun _ => fun
  | [d1, d2, d3] => { results := [.lit (.bool false)], args := [d1, d2, d3] }
  | _ => none }
def FnExactHearWordWrongFalsely : Prop := fnExactHearWordRow.holds Try.pinned (OpenSpec.ofChange fnExactHearWordWrong)

/-- 'laws.FnHeardWords': WHATEVER THE INPUT: true; the input reads as it did. -/
def fnHeardWordsSpec : ChangeSpec := { name := "fnHeardWords", fn := fun _ => fun
  | [d1, d2] => { results := [.lit (.bool true)], args := [d1, d2] }
  | _ => none }
def fnHeardWordsRow : OpenClaim := { program := "ytdlagajnefkklaa", sum := "a8797ad5dfcb577c115f1a495ca169b1bb048b63010c89fa9c5ed033cac6696d", func := "loop.example/g01130/laws.FnHeardWords", spec := "fnHeardWords", apart := false }
def FnHeardWordsSaid : Prop := fnHeardWordsRow.holds Try.pinned (OpenSpec.ofChange fnHeardWordsSpec)

/-- ITS FALSE NEIGHBOUR: 'it returns false'. Refute it at one input. -/
def fnHeardWordsWrong : ChangeSpec := { name := "fnHeardWords", fn := fun _ => fun
  | [d1, d2] => { results := [.lit (.bool false)], args := [d1, d2] }
  | _ => none }
def FnHeardWordsWrongFalsely : Prop := fnHeardWordsRow.holds Try.pinned (OpenSpec.ofChange fnHeardWordsWrong)

/-- 'laws.FnExactGroupWord': WHATEVER THE INPUT: true; the input reads as it did. -/
def fnExactGroupWordSpec : ChangeSpec := { name := "fnExactGroupWord", fn := fun _ => fun
  | [d1, d2] => { results := [.lit (.bool true)], args := [d1, d2] }
  | _ => none }
def fnExactGroupWordRow : OpenClaim := { program := "ytdlagajnefkklaa", sum := "a8797ad5dfcb577c115f1a495ca169b1bb048b63010c89fa9c5ed033cac6696d", func := "loop.example/g01130/laws.FnExactGroupWord", spec := "fnExactGroupWord", inPlace := ["internal/bytealg.IndexByteString", "internal/abi.NoEscape", "internal/bytealg.MakeNoZero"], apart := false }
def FnExactGroupWordSaid : Prop := fnExactGroupWordRow.holds Try.pinned (OpenSpec.ofChange fnExactGroupWordSpec)

/-- ITS FALSE NEIGHBOUR: 'it returns false'. Refute it at one input. -/
def fnExactGroupWordWrong : ChangeSpec := { name := "fnExactGroupWord", fn := fun _ => fun
  | [d1, d2] => { results := [.lit (.bool false)], args := [d1, d2] }
  | _ => none }
def FnExactGroupWordWrongFalsely : Prop := fnExactGroupWordRow.holds Try.pinned (OpenSpec.ofChange fnExactGroupWordWrong)

/-- 'laws.FnExactSpeakNumber': WHATEVER THE INPUT: true; the input reads as it did. -/
def fnExactSpeakNumberSpec : ChangeSpec := { name := "fnExactSpeakNumber", fn := fun _ => fun
  | [d1, d2, d3] => { results := [.lit (.bool true)], args := [d1, d2, d3] }
  | _ => none }
def fnExactSpeakNumberRow : OpenClaim := { program := "ytdlagajnefkklaa", sum := "a8797ad5dfcb577c115f1a495ca169b1bb048b63010c89fa9c5ed033cac6696d", func := "loop.example/g01130/laws.FnExactSpeakNumber", spec := "fnExactSpeakNumber", inPlace := ["internal/bytealg.IndexByteString", "internal/abi.NoEscape", "internal/bytealg.MakeNoZero"], unfollowed := true, recurses := true, apart := false }
def FnExactSpeakNumberSaid : Prop := fnExactSpeakNumberRow.holds Try.pinned (OpenSpec.ofChange fnExactSpeakNumberSpec)

/-- ITS FALSE NEIGHBOUR: 'it returns false'. Refute it at one input. -/
def fnExactSpeakNumberWrong : ChangeSpec := { name := "fnExactSpeakNumber", fn := fun _ => fun
  | [d1, d2, d3] => { results := [.lit (.bool false)], args := [d1, d2, d3] }
  | _ => none }
def FnExactSpeakNumberWrongFalsely : Prop := fnExactSpeakNumberRow.holds Try.pinned (OpenSpec.ofChange fnExactSpeakNumberWrong)

/- THE SECOND FORM. 'bulk': how many values and letters a reading holds, each counted each time it is reached (what is shared counts as often as it is met; a slice's spare places count too). A statement '..UptoSaid' is the law's where the arguments, and the package variables that the reading takes, are together of bulk at most 1048576: NARROWER than '..Said'. Prove '..Said' where nothing that the law and all that it calls make is longer than what came in: it says more and counts as full. Else prove '..UptoSaid'. A law counts once. -/
mutual
def uptoBulk {H : Type} : DataW H → Nat
  | .lit (.string bytes) => bytes.length + 1
  | .lit _ => 1
  | .nil => 1
  | .ptr d => uptoBulk d + 1
  | .slice elems spare => uptoBulkAll elems + uptoBulkAll spare + 1
  | .agg parts => uptoBulkAll parts + 1
  | .iface _ d => uptoBulk d + 1
  | .map entries => uptoBulkEntries entries + 1
  | .held _ => 1
def uptoBulkAll {H : Type} : List (DataW H) → Nat
  | [] => 0
  | d :: r => uptoBulk d + uptoBulkAll r
def uptoBulkEntries {H : Type} : List (Lit × DataW H) → Nat
  | [] => 0
  | x :: r => uptoBulkEntry x + uptoBulkEntries r
def uptoBulkEntry {H : Type} : Lit × DataW H → Nat
  | (.string bytes, d) => bytes.length + uptoBulk d + 1
  | (_, d) => uptoBulk d + 1
 end
def uptoSmall : (H : Type) → List (DataW H) → Bool := fun _ ds => decide (uptoBulkAll ds ≤ 1048576)
def OpenSpec.upto (s : _root_.Go.ChangeSpec) : _root_.Go.OpenSpec := { _root_.Go.OpenSpec.ofChange s with cond := some uptoSmall }

/-- 'laws.FnExactValidSpeech', WHERE WHAT IT READS IS OF BULK AT MOST 1048576: true; the input reads as it did. -/
def fnExactValidSpeechUptoRow : OpenClaim := { program := "ytdlagajnefkklaa", sum := "a8797ad5dfcb577c115f1a495ca169b1bb048b63010c89fa9c5ed033cac6696d", func := "loop.example/g01130/laws.FnExactValidSpeech", spec := "fnExactValidSpeech", inPlace := ["internal/bytealg.IndexByteString"], unfollowed := true, recurses := true, apart := false, narrowed := true }
def FnExactValidSpeechUptoSaid : Prop := fnExactValidSpeechUptoRow.holds Try.pinned (OpenSpec.upto fnExactValidSpeechSpec)

/-- 'laws.FnExactIsLexicon', WHERE WHAT IT READS IS OF BULK AT MOST 1048576: true; the input reads as it did. -/
def fnExactIsLexiconUptoRow : OpenClaim := { program := "ytdlagajnefkklaa", sum := "a8797ad5dfcb577c115f1a495ca169b1bb048b63010c89fa9c5ed033cac6696d", func := "loop.example/g01130/laws.FnExactIsLexicon", spec := "fnExactIsLexicon", apart := false, narrowed := true }
def FnExactIsLexiconUptoSaid : Prop := fnExactIsLexiconUptoRow.holds Try.pinned (OpenSpec.upto fnExactIsLexiconSpec)

/-- 'laws.FnExactWordDistance', WHERE WHAT IT READS IS OF BULK AT MOST 1048576: true; the input reads as it did. -/
def fnExactWordDistanceUptoRow : OpenClaim := { program := "ytdlagajnefkklaa", sum := "a8797ad5dfcb577c115f1a495ca169b1bb048b63010c89fa9c5ed033cac6696d", func := "loop.example/g01130/laws.FnExactWordDistance", spec := "fnExactWordDistance", apart := false, narrowed := true }
def FnExactWordDistanceUptoSaid : Prop := fnExactWordDistanceUptoRow.holds Try.pinned (OpenSpec.upto fnExactWordDistanceSpec)

/-- 'laws.FnExactLeastGap', WHERE WHAT IT READS IS OF BULK AT MOST 1048576: true; the input reads as it did. -/
def fnExactLeastGapUptoRow : OpenClaim := { program := "ytdlagajnefkklaa", sum := "a8797ad5dfcb577c115f1a495ca169b1bb048b63010c89fa9c5ed033cac6696d", func := "loop.example/g01130/laws.FnExactLeastGap", spec := "fnExactLeastGap", apart := false, narrowed := true }
def FnExactLeastGapUptoSaid : Prop := fnExactLeastGapUptoRow.holds Try.pinned (OpenSpec.upto fnExactLeastGapSpec)

/-- 'laws.FnExactHearWord', WHERE WHAT IT READS IS OF BULK AT MOST 1048576: true; the input reads as it did. -/
def fnExactHearWordUptoRow : OpenClaim := { program := "ytdlagajnefkklaa", sum := "a8797ad5dfcb577c115f1a495ca169b1bb048b63010c89fa9c5ed033cac6696d", func := "loop.example/g01130/laws.FnExactHearWord", spec := "fnExactHearWord", apart := false, narrowed := true }
def FnExactHearWordUptoSaid : Prop := fnExactHearWordUptoRow.holds Try.pinned (OpenSpec.upto fnExactHearWordSpec)

/-- 'laws.FnHeardWords', WHERE WHAT IT READS IS OF BULK AT MOST 1048576: true; the input reads as it did. -/
def fnHeardWordsUptoRow : OpenClaim := { program := "ytdlagajnefkklaa", sum := "a8797ad5dfcb577c115f1a495ca169b1bb048b63010c89fa9c5ed033cac6696d", func := "loop.example/g01130/laws.FnHeardWords", spec := "fnHeardWords", apart := false, narrowed := true }
def FnHeardWordsUptoSaid : Prop := fnHeardWordsUptoRow.holds Try.pinned (OpenSpec.upto fnHeardWordsSpec)

/-- 'laws.FnExactGroupWord', WHERE WHAT IT READS IS OF BULK AT MOST 1048576: true; the input reads as it did. -/
def fnExactGroupWordUptoRow : OpenClaim := { program := "ytdlagajnefkklaa", sum := "a8797ad5dfcb577c115f1a495ca169b1bb048b63010c89fa9c5ed033cac6696d", func := "loop.example/g01130/laws.FnExactGroupWord", spec := "fnExactGroupWord", inPlace := ["internal/bytealg.IndexByteString", "internal/abi.NoEscape", "internal/bytealg.MakeNoZero"], apart := false, narrowed := true }
def FnExactGroupWordUptoSaid : Prop := fnExactGroupWordUptoRow.holds Try.pinned (OpenSpec.upto fnExactGroupWordSpec)

/-- 'laws.FnExactSpeakNumber', WHERE WHAT IT READS IS OF BULK AT MOST 1048576: true; the input reads as it did. -/
def fnExactSpeakNumberUptoRow : OpenClaim := { program := "ytdlagajnefkklaa", sum := "a8797ad5dfcb577c115f1a495ca169b1bb048b63010c89fa9c5ed033cac6696d", func := "loop.example/g01130/laws.FnExactSpeakNumber", spec := "fnExactSpeakNumber", inPlace := ["internal/bytealg.IndexByteString", "internal/abi.NoEscape", "internal/bytealg.MakeNoZero"], unfollowed := true, recurses := true, apart := false, narrowed := true }
def FnExactSpeakNumberUptoSaid : Prop := fnExactSpeakNumberUptoRow.holds Try.pinned (OpenSpec.upto fnExactSpeakNumberSpec)

end Rows
end Go.Proofs.Ytdlagajnefkklaa
