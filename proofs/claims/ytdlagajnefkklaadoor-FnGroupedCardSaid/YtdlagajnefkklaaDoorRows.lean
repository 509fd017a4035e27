/-
  NARROWER THAN 'FOR EVERY INPUT', by the rows' own cells (each row's printed sentence says how): FnExactUngroupWord: laid · FnGrouped: laid · FnExactHearNumber: laid · FnSpoken: laid.
  DERIVED. THE GIVEN ROWS OF THIS SEAT. 4 by the template 'for every input the law returns true; each argument reads behind the call as it read before'; 0 by the template 'total and deterministic' (their statements: YtdlagajnefkklaaDoorTotals.lean).
  GIVEN WITH THE SEED: the statements are not yours to turn. If you find one false, say at which input.
  Laid BY PROGRAM, IN A SANDBOX (cutbox-rows.mjs): the forced cells as the released guide's own fill.sh prints them over the translation 24937444a6a645ca… (all of the seat's roots in one cut). By AI agents, Wed Nov 11 2026. No macro, syntax, notation, axiom, sorry.
-/
import Derived.Test.YtdlagajnefkklaaDoorChecked
import GoSem.PinnedTables
import GoSem.Claim
import GoSem.ClaimJoined
import GoSem.ClaimMapViews
import Derived.JoinedTies
import Derived.KernelRfl
namespace Go.Proofs.YtdlagajnefkklaaDoor
/- THE CELL 'sum', in the pinned program and in every row, IS THE sha256 OF THE DUMP (.gsa) THAT YtdlagajnefkklaaDoorProg.lean LOADS. Nothing in Lean hashes anything: it is a label: what it is worth is what the hold of that sum in a sandbox is worth. -/
noncomputable def Tryd.pinned : Pinned := { name := "ytdlagajnefkklaadoor", sum := "24937444a6a645ca140c628472f30a48aaa9e580afa04a27eb69dc3a22bdc4ce", checked := Tryd.checked }
namespace Rows
def none {H : Type} : Left H := { results := [], args := [] }

/- WHAT THE LISTED PACKAGE-LEVEL VARIABLES READ AS WHEN THE CALL BEGINS. Each datum BY PROGRAM (the guide's laid-datum.mjs) off the statement by which the dump's own 'gosem.cut.vars' lays the variable. In a bare row this is a premise. The card (YtdlagajnefkklaaDoorCards.lean) ties it to the program's text. -/
def laid_unicode_utf8_acceptRanges {H : Type} : DataW H := .agg [.agg [.lit (.int .u8 128), .lit (.int .u8 191)], .agg [.lit (.int .u8 160), .lit (.int .u8 191)], .agg [.lit (.int .u8 128), .lit (.int .u8 159)], .agg [.lit (.int .u8 144), .lit (.int .u8 191)], .agg [.lit (.int .u8 128), .lit (.int .u8 143)], .agg [.lit (.int .u8 0), .lit (.int .u8 0)], .agg [.lit (.int .u8 0), .lit (.int .u8 0)], .agg [.lit (.int .u8 0), .lit (.int .u8 0)], .agg [.lit (.int .u8 0), .lit (.int .u8 0)], .agg [.lit (.int .u8 0), .lit (.int .u8 0)], .agg [.lit (.int .u8 0), .lit (.int .u8 0)], .agg [.lit (.int .u8 0), .lit (.int .u8 0)], .agg [.lit (.int .u8 0), .lit (.int .u8 0)], .agg [.lit (.int .u8 0), .lit (.int .u8 0)], .agg [.lit (.int .u8 0), .lit (.int .u8 0)], .agg [.lit (.int .u8 0), .lit (.int .u8 0)]]
/-- One of Go's own tables, pinned by name: the form's constant. -/
def laid_unicode_utf8_first : DataW Unit := Go.Pinned.utf8First

/-- 'laws.FnExactUngroupWord': WHATEVER THE INPUT: true; the input reads as it did. -/
def fnExactUngroupWordSpec : ChangeSpec := { name := "fnExactUngroupWord", fn := fun _ => fun
  | [d1, d2] => { results := [.lit (.bool true)], args := [d1, d2] }
  | _ => none }
def fnExactUngroupWordRow : OpenClaim := { program := "ytdlagajnefkklaadoor", sum := "24937444a6a645ca140c628472f30a48aaa9e580afa04a27eb69dc3a22bdc4ce", func := "loop.example/g01130/laws.FnExactUngroupWord", spec := "fnExactUngroupWord", inPlace := ["internal/bytealg.CountString", "internal/bytealg.IndexByteString", "internal/bytealg.IndexString", "internal/abi.NoEscape", "internal/bytealg.MakeNoZero"], named := ["internal/bytealg.MaxLen", "unicode/utf8.first", "unicode/utf8.acceptRanges"], apart := false, laid := [("unicode/utf8.acceptRanges", laid_unicode_utf8_acceptRanges), ("unicode/utf8.first", laid_unicode_utf8_first)] }
def FnExactUngroupWordSaid : Prop := fnExactUngroupWordRow.holds Tryd.pinned (OpenSpec.ofChange fnExactUngroupWordSpec)

/-- ITS FALSE NEIGHBOUR: 'it returns false'. Refute it at one input. -/
def fnExactUngroupWordWrong : ChangeSpec := { name := "fnExactUngroupWord", fn := fun _ => fun
  | [d1, d2] => { results := [.lit (.bool false)], args := [d1, d2] }
  | _ => none }
def FnExactUngroupWordWrongFalsely : Prop := fnExactUngroupWordRow.holds Tryd.pinned (OpenSpec.ofChange fnExactUngroupWordWrong)

/-- 'laws.FnGrouped': WHATEVER THE INPUT: true; the input reads as it did. -/
def fnGroupedSpec : ChangeSpec := { name := "fnGrouped", fn := fun _ => fun
  | [d1, d2] => { results := [.lit (.bool true)], args := [d1, d2] }
  | _ => none }
def fnGroupedRow : OpenClaim := { program := "ytdlagajnefkklaadoor", sum := "24937444a6a645ca140c628472f30a48aaa9e580afa04a27eb69dc3a22bdc4ce", func := "loop.example/g01130/laws.FnGrouped", spec := "fnGrouped", inPlace := ["internal/bytealg.IndexByteString", "internal/abi.NoEscape", "internal/bytealg.MakeNoZero", "internal/bytealg.CountString", "internal/bytealg.IndexString"], named := ["internal/bytealg.MaxLen", "unicode/utf8.first", "unicode/utf8.acceptRanges"], apart := false, laid := [("unicode/utf8.acceptRanges", laid_unicode_utf8_acceptRanges), ("unicode/utf8.first", laid_unicode_utf8_first)] }
def FnGroupedSaid : Prop := fnGroupedRow.holds Tryd.pinned (OpenSpec.ofChange fnGroupedSpec)

/-- ITS FALSE NEIGHBOUR: 'it returns false'. Refute it at one input. -/
def fnGroupedWrong : ChangeSpec := { name := "fnGrouped", fn := fun _ => fun
  | [d1, d2] => { results := [.lit (.bool false)], args := [d1, d2] }
  | _ => none }
def FnGroupedWrongFalsely : Prop := fnGroupedRow.holds Tryd.pinned (OpenSpec.ofChange fnGroupedWrong)

/-- 'laws.FnExactHearNumber': WHATEVER THE INPUT: true; the input reads as it did. -/
def fnExactHearNumberSpec : ChangeSpec := { name := "fnExactHearNumber", fn := fun _ => fun
  | [d1, d2] => { results := [.lit (.bool true)], args := [d1, d2] }
  | _ => none }
def fnExactHearNumberRow : OpenClaim := { program := "ytdlagajnefkklaadoor", sum := "24937444a6a645ca140c628472f30a48aaa9e580afa04a27eb69dc3a22bdc4ce", func := "loop.example/g01130/laws.FnExactHearNumber", spec := "fnExactHearNumber", inPlace := ["internal/bytealg.IndexByteString", "internal/bytealg.CountString", "internal/bytealg.IndexString"], unfollowed := true, recurses := true, named := ["unicode/utf8.first", "unicode/utf8.acceptRanges", "internal/bytealg.MaxLen"], apart := false, laid := [("unicode/utf8.acceptRanges", laid_unicode_utf8_acceptRanges), ("unicode/utf8.first", laid_unicode_utf8_first)] }
def FnExactHearNumberSaid : Prop := fnExactHearNumberRow.holds Tryd.pinned (OpenSpec.ofChange fnExactHearNumberSpec)

/-- ITS FALSE NEIGHBOUR: 'it returns false'. Refute it at one input. -/
def fnExactHearNumberWrong : ChangeSpec := { name := "fnExactHearNumber", fn := fun _ => fun
  | [d1, d2] => { results := [.lit (.bool false)], args := [d1, d2] }
  | _ => none }
def FnExactHearNumberWrongFalsely : Prop := fnExactHearNumberRow.holds Tryd.pinned (OpenSpec.ofChange fnExactHearNumberWrong)

/-- 'laws.FnSpoken': WHATEVER THE INPUT: true; the input reads as it did. -/
def fnSpokenSpec : ChangeSpec := { name := "fnSpoken", fn := fun _ => fun
  | [d1, d2] => { results := [.lit (.bool true)], args := [d1, d2] }
  | _ => none }
def fnSpokenRow : OpenClaim := { program := "ytdlagajnefkklaadoor", sum := "24937444a6a645ca140c628472f30a48aaa9e580afa04a27eb69dc3a22bdc4ce", func := "loop.example/g01130/laws.FnSpoken", spec := "fnSpoken", inPlace := ["internal/bytealg.IndexByteString", "internal/abi.NoEscape", "internal/bytealg.MakeNoZero", "internal/bytealg.CountString", "internal/bytealg.IndexString"], unfollowed := true, recurses := true, named := ["unicode/utf8.first", "unicode/utf8.acceptRanges", "internal/bytealg.MaxLen"], apart := false, laid := [("unicode/utf8.acceptRanges", laid_unicode_utf8_acceptRanges), ("unicode/utf8.first", laid_unicode_utf8_first)] }
def FnSpokenSaid : Prop := fnSpokenRow.holds Tryd.pinned (OpenSpec.ofChange fnSpokenSpec)

/-- ITS FALSE NEIGHBOUR: 'it returns false'. Refute it at one input. -/
def fnSpokenWrong : ChangeSpec := { name := "fnSpoken", fn := fun _ => fun
  | [d1, d2] => { results := [.lit (.bool false)], args := [d1, d2] }
  | _ => none }
def FnSpokenWrongFalsely : Prop := fnSpokenRow.holds Tryd.pinned (OpenSpec.ofChange fnSpokenWrong)

/- THE SECOND FORM. 'bulk': how many values and letters a reading holds, each counted each time it is reached (what is shared counts as often as it is met; a slice's spare places count too). A statement '..UptoSaid' is the law's where the arguments, and the package variables that the reading takes, are together of bulk at most 1048576: NARROWER than '..Said'. Prove '..Said' where nothing that the law and all that it calls make is longer than what came in: it says more and counts as full. Else prove '..UptoSaid'. A law counts once. -/
mutual
def uptoBulk {H : Type} : DataW H → Nat
  | .lit (.string bytes) => bytes.length + 1
  | .lit _ => 1
  | .nil => 1
  | .ptr d => uptoBulk d + 1
  | .slice elems spare => uptoBulkAll elems + uptoBulkAll spare + 1
  | .agg parts => uptoBulkAll parts + 1
  | .iface _ d => uptoBulk d + 1
  | .map entries => uptoBulkEntries entries + 1
  | .held _ => 1
def uptoBulkAll {H : Type} : List (DataW H) → Nat
  | [] => 0
  | d :: r => uptoBulk d + uptoBulkAll r
def uptoBulkEntries {H : Type} : List (Lit × DataW H) → Nat
  | [] => 0
  | x :: r => uptoBulkEntry x + uptoBulkEntries r
def uptoBulkEntry {H : Type} : Lit × DataW H → Nat
  | (.string bytes, d) => bytes.length + uptoBulk d + 1
  | (_, d) => uptoBulk d + 1
 end
def uptoSmall : (H : Type) → List (DataW H) → Bool := fun _ ds => decide (uptoBulkAll ds ≤ 1048576)
def OpenSpec.upto (s : _root_.Go.ChangeSpec) : _root_.Go.OpenSpec := { _root_.Go.OpenSpec.ofChange s with cond := some uptoSmall }

/-- 'laws.FnExactUngroupWord', WHERE WHAT IT READS IS OF BULK AT MOST 1048576: true; the input reads as it did. -/
def fnExactUngroupWordUptoRow : OpenClaim := { program := "ytdlagajnefkklaadoor", sum := "24937444a6a645ca140c628472f30a48aaa9e580afa04a27eb69dc3a22bdc4ce", func := "loop.example/g01130/laws.FnExactUngroupWord", spec := "fnExactUngroupWord", inPlace := ["internal/bytealg.CountString", "internal/bytealg.IndexByteString", "internal/bytealg.IndexString", "internal/abi.NoEscape", "internal/bytealg.MakeNoZero"], named := ["internal/bytealg.MaxLen", "unicode/utf8.first", "unicode/utf8.acceptRanges"], apart := false, laid := [("unicode/utf8.acceptRanges", laid_unicode_utf8_acceptRanges), ("unicode/utf8.first", laid_unicode_utf8_first)], narrowed := true }
def FnExactUngroupWordUptoSaid : Prop := fnExactUngroupWordUptoRow.holds Tryd.pinned (OpenSpec.upto fnExactUngroupWordSpec)

/-- 'laws.FnGrouped', WHERE WHAT IT READS IS OF BULK AT MOST 1048576: true; the input reads as it did. -/
def fnGroupedUptoRow : OpenClaim := { program := "ytdlagajnefkklaadoor", sum := "24937444a6a645ca140c628472f30a48aaa9e580afa04a27eb69dc3a22bdc4ce", func := "loop.example/g01130/laws.FnGrouped", spec := "fnGrouped", inPlace := ["internal/bytealg.IndexByteString", "internal/abi.NoEscape", "internal/bytealg.MakeNoZero", "internal/bytealg.CountString", "internal/bytealg.IndexString"], named := ["internal/bytealg.MaxLen", "unicode/utf8.first", "unicode/utf8.acceptRanges"], apart := false, laid := [("unicode/utf8.acceptRanges", laid_unicode_utf8_acceptRanges), ("unicode/utf8.first", laid_unicode_utf8_first)], narrowed := true }
def FnGroupedUptoSaid : Prop := fnGroupedUptoRow.holds Tryd.pinned (OpenSpec.upto fnGroupedSpec)

/-- 'laws.FnExactHearNumber', WHERE WHAT IT READS IS OF BULK AT MOST 1048576: true; the input reads as it did. -/
def fnExactHearNumberUptoRow : OpenClaim := { program := "ytdlagajnefkklaadoor", sum := "24937444a6a645ca140c628472f30a48aaa9e580afa04a27eb69dc3a22bdc4ce", func := "loop.example/g01130/laws.FnExactHearNumber", spec := "fnExactHearNumber", inPlace := ["internal/bytealg.IndexByteString", "internal/bytealg.CountString", "internal/bytealg.IndexString"], unfollowed := true, recurses := true, named := ["unicode/utf8.first", "unicode/utf8.acceptRanges", "internal/bytealg.MaxLen"], apart := false, laid := [("unicode/utf8.acceptRanges", laid_unicode_utf8_acceptRanges), ("unicode/utf8.first", laid_unicode_utf8_first)], narrowed := true }
def FnExactHearNumberUptoSaid : Prop := fnExactHearNumberUptoRow.holds Tryd.pinned (OpenSpec.upto fnExactHearNumberSpec)

/-- 'laws.FnSpoken', WHERE WHAT IT READS IS OF BULK AT MOST 1048576: true; the input reads as it did. -/
def fnSpokenUptoRow : OpenClaim := { program := "ytdlagajnefkklaadoor", sum := "24937444a6a645ca140c628472f30a48aaa9e580afa04a27eb69dc3a22bdc4ce", func := "loop.example/g01130/laws.FnSpoken", spec := "fnSpoken", inPlace := ["internal/bytealg.IndexByteString", "internal/abi.NoEscape", "internal/bytealg.MakeNoZero", "internal/bytealg.CountString", "internal/bytealg.IndexString"], unfollowed := true, recurses := true, named := ["unicode/utf8.first", "unicode/utf8.acceptRanges", "internal/bytealg.MaxLen"], apart := false, laid := [("unicode/utf8.acceptRanges", laid_unicode_utf8_acceptRanges), ("unicode/utf8.first", laid_unicode_utf8_first)], narrowed := true }
def FnSpokenUptoSaid : Prop := fnSpokenUptoRow.holds Tryd.pinned (OpenSpec.upto fnSpokenSpec)

end Rows
end Go.Proofs.YtdlagajnefkklaaDoor
