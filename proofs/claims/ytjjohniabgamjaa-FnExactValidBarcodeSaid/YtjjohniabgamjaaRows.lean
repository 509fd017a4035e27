/-
  No cell of these rows narrows 'for every input' (looked for: loops, veiled, ifaces, maps, wideKeys, modest, calm, conditions, laid).
  DERIVED. THE GIVEN ROWS OF THIS SEAT. 8 by the template 'for every input the law returns true; each argument reads behind the call as it read before'; 0 by the template 'total and deterministic' (their statements: YtjjohniabgamjaaTotals.lean).
  GIVEN WITH THE SEED: the statements are not yours to turn. If you find one false, say at which input.
  Laid BY PROGRAM, IN A SANDBOX (cutbox-rows.mjs): the forced cells as the released guide's own fill.sh prints them over the translation 647cdf59f68545f8… (all of the seat's roots in one cut). By AI agents, Wed Nov 11 2026. No macro, syntax, notation, axiom, sorry.
-/
import Derived.Test.YtjjohniabgamjaaChecked
import GoSem.Claim
import GoSem.ClaimJoined
import GoSem.ClaimMapViews
import Derived.JoinedTies
import Derived.KernelRfl
namespace Go.Proofs.Ytjjohniabgamjaa
/- THE CELL 'sum', in the pinned program and in every row, IS THE sha256 OF THE DUMP (.gsa) THAT YtjjohniabgamjaaProg.lean LOADS. Nothing in Lean hashes anything: it is a label: what it is worth is what the hold of that sum in a sandbox is worth. -/
noncomputable def Try.pinned : Pinned := { name := "ytjjohniabgamjaa", sum := "647cdf59f68545f8e93ac136d3d143d361b89cb7a3174edfac113e6bfe0c008d", checked := Try.checked }
namespace Rows
def none {H : Type} : Left H := { results := [], args := [] }

/-- 'laws.FnExactCountPatterns': WHATEVER THE INPUT: true; the input reads as it did. -/
def fnExactCountPatternsSpec : ChangeSpec := { name := "fnExactCountPatterns", fn := fun _ => fun
  | [d1, d2, d3] => { results := [.lit (.bool true)], args := [d1, d2, d3] }
  | _ => none }
def fnExactCountPatternsRow : OpenClaim := { program := "ytjjohniabgamjaa", sum := "647cdf59f68545f8e93ac136d3d143d361b89cb7a3174edfac113e6bfe0c008d", func := "loop.example/g01130/laws.FnExactCountPatterns", spec := "fnExactCountPatterns", apart := false }
def FnExactCountPatternsSaid : Prop := fnExactCountPatternsRow.holds Try.pinned (OpenSpec.ofChange fnExactCountPatternsSpec)

/-- ITS FALSE NEIGHBOUR: 'it returns false'. Refute it at one input. -/
def fnExactCountPatternsWrong : ChangeSpec := { name := "fnExactCountPatterns", fn := fun _ => fun
  | [d1, d2, d3] => { results := [.lit (.bool false)], args := [d1, d2, d3] }
  | _ => none }
def FnExactCountPatternsWrongFalsely : Prop := fnExactCountPatternsRow.holds Try.pinned (OpenSpec.ofChange fnExactCountPatternsWrong)

/-- 'laws.FnPatterns': WHATEVER THE INPUT: true; the input reads as it did. -/
def fnPatternsSpec : ChangeSpec := { name := "fnPatterns", fn := fun _ => fun
  | [d1, d2] => { results := [.lit (.bool true)], args := [d1, d2] }
  | _ => none }
def fnPatternsRow : OpenClaim := { program := "ytjjohniabgamjaa", sum := "647cdf59f68545f8e93ac136d3d143d361b89cb7a3174edfac113e6bfe0c008d", func := "loop.example/g01130/laws.FnPatterns", spec := "fnPatterns", apart := false }
def FnPatternsSaid : Prop := fnPatternsRow.holds Try.pinned (OpenSpec.ofChange fnPatternsSpec)

/-- ITS FALSE NEIGHBOUR: 'it returns false'. Refute it at one input. -/
def fnPatternsWrong : ChangeSpec := { name := "fnPatterns", fn := fun _ => fun
  | [d1, d2] => { results := [.lit (.bool false)], args := [d1, d2] }
  | _ => none }
def FnPatternsWrongFalsely : Prop := fnPatternsRow.holds Try.pinned (OpenSpec.ofChange fnPatternsWrong)

/-- 'laws.FnExactPatternDistance': WHATEVER THE INPUT: true; the input reads as it did. -/
def fnExactPatternDistanceSpec : ChangeSpec := { name := "fnExactPatternDistance", fn := fun _ => fun
  | [d1, d2] => { results := [.lit (.bool true)], args := [d1, d2] }
  | _ => none }
def fnExactPatternDistanceRow : OpenClaim := { program := "ytjjohniabgamjaa", sum := "647cdf59f68545f8e93ac136d3d143d361b89cb7a3174edfac113e6bfe0c008d", func := "loop.example/g01130/laws.FnExactPatternDistance", spec := "fnExactPatternDistance", apart := false }
def FnExactPatternDistanceSaid : Prop := fnExactPatternDistanceRow.holds Try.pinned (OpenSpec.ofChange fnExactPatternDistanceSpec)

/-- ITS FALSE NEIGHBOUR: 'it returns false'. Refute it at one input. -/
def fnExactPatternDistanceWrong : ChangeSpec := { name := "fnExactPatternDistance", fn := fun _ => fun
  | [d1, d2] => { results := [.lit (.bool false)], args := [d1, d2] }
  | _ => none }
def FnExactPatternDistanceWrongFalsely : Prop := fnExactPatternDistanceRow.holds Try.pinned (OpenSpec.ofChange fnExactPatternDistanceWrong)

/-- 'laws.FnExactPatternAt': WHATEVER THE INPUT: true; the input reads as it did. -/
def fnExactPatternAtSpec : ChangeSpec := { name := "fnExactPatternAt", fn := fun _ => fun
  | [d1, d2, d3, d4] => { results := [.lit (.bool true)], args := [d1, d2, d3, d4] }
  | _ => none }
def fnExactPatternAtRow : OpenClaim := { program := "ytjjohniabgamjaa", sum := "647cdf59f68545f8e93ac136d3d143d361b89cb7a3174edfac113e6bfe0c008d", func := "loop.example/g01130/laws.FnExactPatternAt", spec := "fnExactPatternAt", apart := false }
def FnExactPatternAtSaid : Prop := fnExactPatternAtRow.holds Try.pinned (OpenSpec.ofChange fnExactPatternAtSpec)

/-- ITS FALSE NEIGHBOUR: 'it returns false'. Refute it at one input. -/
def fnExactPatternAtWrong : ChangeSpec := { name := "fnExactPatternAt", fn := fun _ => fun
  | [d1, d2, d3, d4] => { results := [.lit (.bool false)], args := [d1, d2, d3, d4] }
  | _ => none }
def FnExactPatternAtWrongFalsely : Prop := fnExactPatternAtRow.holds Try.pinned (OpenSpec.ofChange fnExactPatternAtWrong)

/-- 'laws.FnExactScaleStripes': WHATEVER THE INPUT: true; the input reads as it did. -/
def fnExactScaleStripesSpec : ChangeSpec := { name := "fnExactScaleStripes", fn := fun _ => fun
  | [d1, d2] => { results := [.lit (.bool true)], args := [d1, d2] }
  | _ => none }
def fnExactScaleStripesRow : OpenClaim := { program := "ytjjohniabgamjaa", sum := "647cdf59f68545f8e93ac136d3d143d361b89cb7a3174edfac113e6bfe0c008d", func := "loop.example/g01130/laws.FnExactScaleStripes", spec := "fnExactScaleStripes", unfollowed := true, recurses := true, apart := false }
def FnExactScaleStripesSaid : Prop := fnExactScaleStripesRow.holds Try.pinned (OpenSpec.ofChange fnExactScaleStripesSpec)

/-- ITS FALSE NEIGHBOUR: 'it returns false'. Refute it at one input. -/
def fnExactScaleStripesWrong : ChangeSpec := { name := "fnExactScaleStripes", fn := fun _ => fun
  | [d1, d2] => { results := [.lit (.bool false)], args := [d1, d2] }
  | _ => none }
def FnExactScaleStripesWrongFalsely : Prop := fnExactScaleStripesRow.holds Try.pinned (OpenSpec.ofChange fnExactScaleStripesWrong)

/-- 'laws.FnExactEdgesOf': WHATEVER THE INPUT: true; the input reads as it did. -/
def fnExactEdgesOfSpec : ChangeSpec := { name := "fnExactEdgesOf", fn := fun _ => fun
  | [d] => { results := [.lit (.bool true)], args := [d] }
  | _ => none }
def fnExactEdgesOfRow : OpenClaim := { program := "ytjjohniabgamjaa", sum := "647cdf59f68545f8e93ac136d3d143d361b89cb7a3174edfac113e6bfe0c008d", func := "loop.example/g01130/laws.FnExactEdgesOf", spec := "fnExactEdgesOf", apart := false }
def FnExactEdgesOfSaid : Prop := fnExactEdgesOfRow.holds Try.pinned (OpenSpec.ofChange fnExactEdgesOfSpec)

/-- ITS FALSE NEIGHBOUR: 'it returns false'. Refute it at one input. -/
def fnExactEdgesOfWrong : ChangeSpec := { name := "fnExactEdgesOf", fn := fun _ => fun
  | [d] => { results := [.lit (.bool false)], args := [d] }
  | _ => none }
def FnExactEdgesOfWrongFalsely : Prop := fnExactEdgesOfRow.holds Try.pinned (OpenSpec.ofChange fnExactEdgesOfWrong)

/-- 'laws.FnExactSpreadStripes': WHATEVER THE INPUT: true; the input reads as it did. -/
def fnExactSpreadStripesSpec : ChangeSpec := { name := "fnExactSpreadStripes", fn := fun _ => fun
  | [d1, d2] => { results := [.lit (.bool true)], args := [d1, d2] }
  | _ => none }
def fnExactSpreadStripesRow : OpenClaim := { program := "ytjjohniabgamjaa", sum := "647cdf59f68545f8e93ac136d3d143d361b89cb7a3174edfac113e6bfe0c008d", func := "loop.example/g01130/laws.FnExactSpreadStripes", spec := "fnExactSpreadStripes", unfollowed := true, recurses := true, apart := false }
def FnExactSpreadStripesSaid : Prop := fnExactSpreadStripesRow.holds Try.pinned (OpenSpec.ofChange fnExactSpreadStripesSpec)

/-- ITS FALSE NEIGHBOUR: 'it returns false'. Refute it at one input. -/
def fnExactSpreadStripesWrong : ChangeSpec := { name := "fnExactSpreadStripes", fn := fun _ => fun
  | [d1, d2] => { results := [.lit (.bool false)], args := [d1, d2] }
  | _ => none }
def FnExactSpreadStripesWrongFalsely : Prop := fnExactSpreadStripesRow.holds Try.pinned (OpenSpec.ofChange fnExactSpreadStripesWrong)

/-- 'laws.FnExactValidBarcode': WHATEVER THE INPUT: true; the input reads as it did. -/
def fnExactValidBarcodeSpec : ChangeSpec := { name := "fnExactValidBarcode", fn := fun _ => fun
  | [d] => { results := [.lit (.bool true)], args := [d] }
  | _ => none }
def fnExactValidBarcodeRow : OpenClaim := { program := "ytjjohniabgamjaa", sum := "647cdf59f68545f8e93ac136d3d143d361b89cb7a3174edfac113e6bfe0c008d", func := "loop.example/g01130/laws.FnExactValidBarcode", spec := "fnExactValidBarcode", apart := false }
def FnExactValidBarcodeSaid : Prop := fnExactValidBarcodeRow.holds Try.pinned (OpenSpec.ofChange fnExactValidBarcodeSpec)

/-- ITS FALSE NEIGHBOUR: 'it returns false'. Refute it at one input. -/
def fnExactValidBarcodeWrong : ChangeSpec := { name := "fnExactValidBarcode", fn := fun _ => fun
  | [d] => { results := [.lit (.bool false)], args := [d] }
  | _ => none }
def FnExactValidBarcodeWrongFalsely : Prop := fnExactValidBarcodeRow.holds Try.pinned (OpenSpec.ofChange fnExactValidBarcodeWrong)

/- THE SECOND FORM. 'bulk': how many values and letters a reading holds, each counted each time it is reached (what is shared counts as often as it is met; a slice's spare places count too). A statement '..UptoSaid' is the law's where the arguments, and the package variables that the reading takes, are together of bulk at most 1048576: NARROWER than '..Said'. Prove '..Said' where nothing that the law and all that it calls make is longer than what came in: it says more and counts as full. Else prove '..UptoSaid'. A law counts once. -/
mutual
def uptoBulk {H : Type} : DataW H → Nat
  | .lit (.string bytes) => bytes.length + 1
  | .lit _ => 1
  | .nil => 1
  | .ptr d => uptoBulk d + 1
  | .slice elems spare => uptoBulkAll elems + uptoBulkAll spare + 1
  | .agg parts => uptoBulkAll parts + 1
  | .iface _ d => uptoBulk d + 1
  | .map entries => uptoBulkEntries entries + 1
  | .held _ => 1
def uptoBulkAll {H : Type} : List (DataW H) → Nat
  | [] => 0
  | d :: r => uptoBulk d + uptoBulkAll r
def uptoBulkEntries {H : Type} : List (Lit × DataW H) → Nat
  | [] => 0
  | x :: r => uptoBulkEntry x + uptoBulkEntries r
def uptoBulkEntry {H : Type} : Lit × DataW H → Nat
  | (.string bytes, d) => bytes.length + uptoBulk d + 1
  | (_, d) => uptoBulk d + 1
 end
def uptoSmall : (H : Type) → List (DataW H) → Bool := fun _ ds => decide (uptoBulkAll ds ≤ 1048576)
def OpenSpec.upto (s : _root_.Go.ChangeSpec) : _root_.Go.OpenSpec := { _root_.Go.OpenSpec.ofChange s with cond := some uptoSmall }

/-- 'laws.FnExactCountPatterns', WHERE WHAT IT READS IS OF BULK AT MOST 1048576: true; the input reads as it did. -/
def fnExactCountPatternsUptoRow : OpenClaim := { program := "ytjjohniabgamjaa", sum := "647cdf59f68545f8e93ac136d3d143d361b89cb7a3174edfac113e6bfe0c008d", func := "loop.example/g01130/laws.FnExactCountPatterns", spec := "fnExactCountPatterns", apart := false, narrowed := true }
def FnExactCountPatternsUptoSaid : Prop := fnExactCountPatternsUptoRow.holds Try.pinned (OpenSpec.upto fnExactCountPatternsSpec)

/-- 'laws.FnPatterns', WHERE WHAT IT READS IS OF BULK AT MOST 1048576: true; the input reads as it did. -/
def fnPatternsUptoRow : OpenClaim := { program := "ytjjohniabgamjaa", sum := "647cdf59f68545f8e93ac136d3d143d361b89cb7a3174edfac113e6bfe0c008d", func := "loop.example/g01130/laws.FnPatterns", spec := "fnPatterns", apart := false, narrowed := true }
def FnPatternsUptoSaid : Prop := fnPatternsUptoRow.holds Try.pinned (OpenSpec.upto fnPatternsSpec)

/-- 'laws.FnExactPatternDistance', WHERE WHAT IT READS IS OF BULK AT MOST 1048576: true; the input reads as it did. -/
def fnExactPatternDistanceUptoRow : OpenClaim := { program := "ytjjohniabgamjaa", sum := "647cdf59f68545f8e93ac136d3d143d361b89cb7a3174edfac113e6bfe0c008d", func := "loop.example/g01130/laws.FnExactPatternDistance", spec := "fnExactPatternDistance", apart := false, narrowed := true }
def FnExactPatternDistanceUptoSaid : Prop := fnExactPatternDistanceUptoRow.holds Try.pinned (OpenSpec.upto fnExactPatternDistanceSpec)

/-- 'laws.FnExactPatternAt', WHERE WHAT IT READS IS OF BULK AT MOST 1048576: true; the input reads as it did. -/
def fnExactPatternAtUptoRow : OpenClaim := { program := "ytjjohniabgamjaa", sum := "647cdf59f68545f8e93ac136d3d143d361b89cb7a3174edfac113e6bfe0c008d", func := "loop.example/g01130/laws.FnExactPatternAt", spec := "fnExactPatternAt", apart := false, narrowed := true }
def FnExactPatternAtUptoSaid : Prop := fnExactPatternAtUptoRow.holds Try.pinned (OpenSpec.upto fnExactPatternAtSpec)

/-- 'laws.FnExactScaleStripes', WHERE WHAT IT READS IS OF BULK AT MOST 1048576: true; the input reads as it did. -/
def fnExactScaleStripesUptoRow : OpenClaim := { program := "ytjjohniabgamjaa", sum := "647cdf59f68545f8e93ac136d3d143d361b89cb7a3174edfac113e6bfe0c008d", func := "loop.example/g01130/laws.FnExactScaleStripes", spec := "fnExactScaleStripes", unfollowed := true, recurses := true, apart := false, narrowed := true }
def FnExactScaleStripesUptoSaid : Prop := fnExactScaleStripesUptoRow.holds Try.pinned (OpenSpec.upto fnExactScaleStripesSpec)

/-- 'laws.FnExactEdgesOf', WHERE WHAT IT READS IS OF BULK AT MOST 1048576: true; the input reads as it did. -/
def fnExactEdgesOfUptoRow : OpenClaim := { program := "ytjjohniabgamjaa", sum := "647cdf59f68545f8e93ac136d3d143d361b89cb7a3174edfac113e6bfe0c008d", func := "loop.example/g01130/laws.FnExactEdgesOf", spec := "fnExactEdgesOf", apart := false, narrowed := true }
def FnExactEdgesOfUptoSaid : Prop := fnExactEdgesOfUptoRow.holds Try.pinned (OpenSpec.upto fnExactEdgesOfSpec)

/-- 'laws.FnExactSpreadStripes', WHERE WHAT IT READS IS OF BULK AT MOST 1048576: true; the input reads as it did. -/
def fnExactSpreadStripesUptoRow : OpenClaim := { program := "ytjjohniabgamjaa", sum := "647cdf59f68545f8e93ac136d3d143d361b89cb7a3174edfac113e6bfe0c008d", func := "loop.example/g01130/laws.FnExactSpreadStripes", spec := "fnExactSpreadStripes", unfollowed := true, recurses := true, apart := false, narrowed := true }
def FnExactSpreadStripesUptoSaid : Prop := fnExactSpreadStripesUptoRow.holds Try.pinned (OpenSpec.upto fnExactSpreadStripesSpec)

/-- 'laws.FnExactValidBarcode', WHERE WHAT IT READS IS OF BULK AT MOST 1048576: true; the input reads as it did. -/
def fnExactValidBarcodeUptoRow : OpenClaim := { program := "ytjjohniabgamjaa", sum := "647cdf59f68545f8e93ac136d3d143d361b89cb7a3174edfac113e6bfe0c008d", func := "loop.example/g01130/laws.FnExactValidBarcode", spec := "fnExactValidBarcode", apart := false, narrowed := true }
def FnExactValidBarcodeUptoSaid : Prop := fnExactValidBarcodeUptoRow.holds Try.pinned (OpenSpec.upto fnExactValidBarcodeSpec)

end Rows
end Go.Proofs.Ytjjohniabgamjaa
