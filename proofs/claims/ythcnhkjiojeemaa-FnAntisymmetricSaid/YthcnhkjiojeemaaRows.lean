/-
  No cell of these rows narrows 'for every input' (looked for: loops, veiled, ifaces, maps, wideKeys, modest, calm, conditions, laid).
  DERIVED. THE GIVEN ROWS OF THIS SEAT. 4 by the template 'for every input the law returns true; each argument reads behind the call as it read before'; 0 by the template 'total and deterministic' (their statements: YthcnhkjiojeemaaTotals.lean).
  GIVEN WITH THE SEED: the statements are not yours to turn. If you find one false, say at which input.
  Laid BY PROGRAM, IN A SANDBOX (cutbox-rows.mjs): the forced cells as the released guide's own fill.sh prints them over the translation f8a448750473944b… (all of the seat's roots in one cut). By AI agents, Wed Nov 11 2026. No macro, syntax, notation, axiom, sorry.
-/
import Derived.Test.YthcnhkjiojeemaaChecked
import GoSem.Claim
import GoSem.ClaimJoined
import GoSem.ClaimMapViews
import Derived.JoinedTies
import Derived.KernelRfl
namespace Go.Proofs.Ythcnhkjiojeemaa
/- THE CELL 'sum', in the pinned program and in every row, IS THE sha256 OF THE DUMP (.gsa) THAT YthcnhkjiojeemaaProg.lean LOADS. Nothing in Lean hashes anything: it is a label: what it is worth is what the hold of that sum in a sandbox is worth. -/
noncomputable def Try.pinned : Pinned := { name := "ythcnhkjiojeemaa", sum := "f8a448750473944b8eab0a8ead52a6dc4c2add72ea79adfe5d172f97521271c0", checked := Try.checked }
namespace Rows
def none {H : Type} : Left H := { results := [], args := [] }

/-- 'laws.FnSearched': WHATEVER THE INPUT: true; the input reads as it did. -/
def fnSearchedSpec : ChangeSpec := { name := "fnSearched", fn := fun _ => fun
  | [d1, d2] => { results := [.lit (.bool true)], args := [d1, d2] }
  | _ => none }
def fnSearchedRow : OpenClaim := { program := "ythcnhkjiojeemaa", sum := "f8a448750473944b8eab0a8ead52a6dc4c2add72ea79adfe5d172f97521271c0", func := "loop.example/g01130/laws.FnSearched", spec := "fnSearched", unfollowed := true, recurses := true, apart := false }
def FnSearchedSaid : Prop := fnSearchedRow.holds Try.pinned (OpenSpec.ofChange fnSearchedSpec)

/-- ITS FALSE NEIGHBOUR: 'it returns false'. Refute it at one input. -/
def fnSearchedWrong : ChangeSpec := { name := "fnSearched", fn := fun _ => fun
  | [d1, d2] => { results := [.lit (.bool false)], args := [d1, d2] }
  | _ => none }
def FnSearchedWrongFalsely : Prop := fnSearchedRow.holds Try.pinned (OpenSpec.ofChange fnSearchedWrong)

/-- 'laws.FnAntisymmetric': WHATEVER THE INPUT: true; the input reads as it did. -/
def fnAntisymmetricSpec : ChangeSpec := { name := "fnAntisymmetric", fn := fun _ => fun
  | [d1, d2] => { results := [.lit (.bool true)], args := [d1, d2] }
  | _ => none }
def fnAntisymmetricRow : OpenClaim := { program := "ythcnhkjiojeemaa", sum := "f8a448750473944b8eab0a8ead52a6dc4c2add72ea79adfe5d172f97521271c0", func := "loop.example/g01130/laws.FnAntisymmetric", spec := "fnAntisymmetric", unfollowed := true, recurses := true, apart := false }
def FnAntisymmetricSaid : Prop := fnAntisymmetricRow.holds Try.pinned (OpenSpec.ofChange fnAntisymmetricSpec)

/-- ITS FALSE NEIGHBOUR: 'it returns false'. Refute it at one input. -/
def fnAntisymmetricWrong : ChangeSpec := { name := "fnAntisymmetric", fn := fun _ => fun
  | [d1, d2] => { results := [.lit (.bool false)], args := [d1, d2] }
  | _ => none }
def FnAntisymmetricWrongFalsely : Prop := fnAntisymmetricRow.holds Try.pinned (OpenSpec.ofChange fnAntisymmetricWrong)

/-- 'laws.FnProduct': WHATEVER THE INPUT: true; the input reads as it did. -/
def fnProductSpec : ChangeSpec := { name := "fnProduct", fn := fun _ => fun
  | [d1, d2] => { results := [.lit (.bool true)], args := [d1, d2] }
  | _ => none }
def fnProductRow : OpenClaim := { program := "ythcnhkjiojeemaa", sum := "f8a448750473944b8eab0a8ead52a6dc4c2add72ea79adfe5d172f97521271c0", func := "loop.example/g01130/laws.FnProduct", spec := "fnProduct", unfollowed := true, recurses := true, apart := false }
def FnProductSaid : Prop := fnProductRow.holds Try.pinned (OpenSpec.ofChange fnProductSpec)

/-- ITS FALSE NEIGHBOUR: 'it returns false'. Refute it at one input. -/
def fnProductWrong : ChangeSpec := { name := "fnProduct", fn := fun _ => fun
  | [d1, d2] => { results := [.lit (.bool false)], args := [d1, d2] }
  | _ => none }
def FnProductWrongFalsely : Prop := fnProductRow.holds Try.pinned (OpenSpec.ofChange fnProductWrong)

/-- 'laws.FnExactTableChain': WHATEVER THE INPUT: true; the input reads as it did. -/
def fnExactTableChainSpec : ChangeSpec := { name := "fnExactTableChain", fn := fun _ => fun
  | [d1, d2] => { results := [.lit (.bool true)], args := [d1, d2] }
  | _ => none }
def fnExactTableChainRow : OpenClaim := { program := "ythcnhkjiojeemaa", sum := "f8a448750473944b8eab0a8ead52a6dc4c2add72ea79adfe5d172f97521271c0", func := "loop.example/g01130/laws.FnExactTableChain", spec := "fnExactTableChain", unfollowed := true, recurses := true, apart := false }
def FnExactTableChainSaid : Prop := fnExactTableChainRow.holds Try.pinned (OpenSpec.ofChange fnExactTableChainSpec)

/-- ITS FALSE NEIGHBOUR: 'it returns false'. Refute it at one input. -/
def fnExactTableChainWrong : ChangeSpec := { name := "fnExactTableChain", fn := fun _ => fun
  | [d1, d2] => { results := [.lit (.bool false)], args := [d1, d2] }
  | _ => none }
def FnExactTableChainWrongFalsely : Prop := fnExactTableChainRow.holds Try.pinned (OpenSpec.ofChange fnExactTableChainWrong)

/- THE SECOND FORM. 'bulk': how many values and letters a reading holds, each counted each time it is reached (what is shared counts as often as it is met; a slice's spare places count too). A statement '..UptoSaid' is the law's where the arguments, and the package variables that the reading takes, are together of bulk at most 1048576: NARROWER than '..Said'. Prove '..Said' where nothing that the law and all that it calls make is longer than what came in: it says more and counts as full. Else prove '..UptoSaid'. A law counts once. -/
mutual
def uptoBulk {H : Type} : DataW H → Nat
  | .lit (.string bytes) => bytes.length + 1
  | .lit _ => 1
  | .nil => 1
  | .ptr d => uptoBulk d + 1
  | .slice elems spare => uptoBulkAll elems + uptoBulkAll spare + 1
  | .agg parts => uptoBulkAll parts + 1
  | .iface _ d => uptoBulk d + 1
  | .map entries => uptoBulkEntries entries + 1
  | .held _ => 1
def uptoBulkAll {H : Type} : List (DataW H) → Nat
  | [] => 0
  | d :: r => uptoBulk d + uptoBulkAll r
def uptoBulkEntries {H : Type} : List (Lit × DataW H) → Nat
  | [] => 0
  | x :: r => uptoBulkEntry x + uptoBulkEntries r
def uptoBulkEntry {H : Type} : Lit × DataW H → Nat
  | (.string bytes, d) => bytes.length + uptoBulk d + 1
  | (_, d) => uptoBulk d + 1
 end
def uptoSmall : (H : Type) → List (DataW H) → Bool := fun _ ds => decide (uptoBulkAll ds ≤ 1048576)
def OpenSpec.upto (s : _root_.Go.ChangeSpec) : _root_.Go.OpenSpec := { _root_.Go.OpenSpec.ofChange s with cond := some uptoSmall }

/-- 'laws.FnSearched', WHERE WHAT IT READS IS OF BULK AT MOST 1048576: true; the input reads as it did. -/
def fnSearchedUptoRow : OpenClaim := { program := "ythcnhkjiojeemaa", sum := "f8a448750473944b8eab0a8ead52a6dc4c2add72ea79adfe5d172f97521271c0", func := "loop.example/g01130/laws.FnSearched", spec := "fnSearched", unfollowed := true, recurses := true, apart := false, narrowed := true }
def FnSearchedUptoSaid : Prop := fnSearchedUptoRow.holds Try.pinned (OpenSpec.upto fnSearchedSpec)

/-- 'laws.FnAntisymmetric', WHERE WHAT IT READS IS OF BULK AT MOST 1048576: true; the input reads as it did. -/
def fnAntisymmetricUptoRow : OpenClaim := { program := "ythcnhkjiojeemaa", sum := "f8a448750473944b8eab0a8ead52a6dc4c2add72ea79adfe5d172f97521271c0", func := "loop.example/g01130/laws.FnAntisymmetric", spec := "fnAntisymmetric", unfollowed := true, recurses := true, apart := false, narrowed := true }
def FnAntisymmetricUptoSaid : Prop := fnAntisymmetricUptoRow.holds Try.pinned (OpenSpec.upto fnAntisymmetricSpec)

/-- 'laws.FnProduct', WHERE WHAT IT READS IS OF BULK AT MOST 1048576: true; the input reads as it did. -/
def fnProductUptoRow : OpenClaim := { program := "ythcnhkjiojeemaa", sum := "f8a448750473944b8eab0a8ead52a6dc4c2add72ea79adfe5d172f97521271c0", func := "loop.example/g01130/laws.FnProduct", spec := "fnProduct", unfollowed := true, recurses := true, apart := false, narrowed := true }
def FnProductUptoSaid : Prop := fnProductUptoRow.holds Try.pinned (OpenSpec.upto fnProductSpec)

/-- 'laws.FnExactTableChain', WHERE WHAT IT READS IS OF BULK AT MOST 1048576: true; the input reads as it did. -/
def fnExactTableChainUptoRow : OpenClaim := { program := "ythcnhkjiojeemaa", sum := "f8a448750473944b8eab0a8ead52a6dc4c2add72ea79adfe5d172f97521271c0", func := "loop.example/g01130/laws.FnExactTableChain", spec := "fnExactTableChain", unfollowed := true, recurses := true, apart := false, narrowed := true }
def FnExactTableChainUptoSaid : Prop := fnExactTableChainUptoRow.holds Try.pinned (OpenSpec.upto fnExactTableChainSpec)

end Rows
end Go.Proofs.Ythcnhkjiojeemaa
