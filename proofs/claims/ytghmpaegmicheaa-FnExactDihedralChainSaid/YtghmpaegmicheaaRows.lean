/-
  No cell of these rows narrows 'for every input' (looked for: loops, veiled, ifaces, maps, wideKeys, modest, calm, conditions, laid).
  DERIVED. THE GIVEN ROWS OF THIS SEAT. 8 by the template 'for every input the law returns true; each argument reads behind the call as it read before'; 0 by the template 'total and deterministic' (their statements: YtghmpaegmicheaaTotals.lean).
  GIVEN WITH THE SEED: the statements are not yours to turn. If you find one false, say at which input.
  Laid BY PROGRAM, IN A SANDBOX (cutbox-rows.mjs): the forced cells as the released guide's own fill.sh prints them over the translation 6179b42b6579326b… (all of the seat's roots in one cut). By AI agents, Wed Nov 11 2026. No macro, syntax, notation, axiom, sorry.
-/
import Derived.Test.YtghmpaegmicheaaChecked
import GoSem.Claim
import GoSem.ClaimJoined
import GoSem.ClaimMapViews
import Derived.JoinedTies
import Derived.KernelRfl
namespace Go.Proofs.Ytghmpaegmicheaa
/- THE CELL 'sum', in the pinned program and in every row, IS THE sha256 OF THE DUMP (.gsa) THAT YtghmpaegmicheaaProg.lean LOADS. Nothing in Lean hashes anything: it is a label: what it is worth is what the hold of that sum in a sandbox is worth. -/
noncomputable def Try.pinned : Pinned := { name := "ytghmpaegmicheaa", sum := "6179b42b6579326bafa596656c0a06507800ea5b64e44211494d46c966f34f74", checked := Try.checked }
namespace Rows
def none {H : Type} : Left H := { results := [], args := [] }

/-- 'laws.FnExactLeastAntisymmetric': WHATEVER THE INPUT: true; the input reads as it did. -/
def fnExactLeastAntisymmetricSpec : ChangeSpec := { name := "fnExactLeastAntisymmetric", fn := fun _ => fun
  | [d] => { results := [.lit (.bool true)], args := [d] }
  | _ => none }
def fnExactLeastAntisymmetricRow : OpenClaim := { program := "ytghmpaegmicheaa", sum := "6179b42b6579326bafa596656c0a06507800ea5b64e44211494d46c966f34f74", func := "loop.example/g01130/laws.FnExactLeastAntisymmetric", spec := "fnExactLeastAntisymmetric", unfollowed := true, recurses := true, apart := false }
def FnExactLeastAntisymmetricSaid : Prop := fnExactLeastAntisymmetricRow.holds Try.pinned (OpenSpec.ofChange fnExactLeastAntisymmetricSpec)

/-- ITS FALSE NEIGHBOUR: 'it returns false'. Refute it at one input. -/
def fnExactLeastAntisymmetricWrong : ChangeSpec := { name := "fnExactLeastAntisymmetric", fn := fun _ => fun
  | [d] => { results := [.lit (.bool false)], args := [d] }
  | _ => none }
def FnExactLeastAntisymmetricWrongFalsely : Prop := fnExactLeastAntisymmetricRow.holds Try.pinned (OpenSpec.ofChange fnExactLeastAntisymmetricWrong)

/-- 'laws.FnExactLeastComplete': WHATEVER THE INPUT: true; the input reads as it did. -/
def fnExactLeastCompleteSpec : ChangeSpec := { name := "fnExactLeastComplete", fn := fun _ => fun
  | [d] => { results := [.lit (.bool true)], args := [d] }
  | _ => none }
def fnExactLeastCompleteRow : OpenClaim := { program := "ytghmpaegmicheaa", sum := "6179b42b6579326bafa596656c0a06507800ea5b64e44211494d46c966f34f74", func := "loop.example/g01130/laws.FnExactLeastComplete", spec := "fnExactLeastComplete", unfollowed := true, recurses := true, apart := false }
def FnExactLeastCompleteSaid : Prop := fnExactLeastCompleteRow.holds Try.pinned (OpenSpec.ofChange fnExactLeastCompleteSpec)

/-- ITS FALSE NEIGHBOUR: 'it returns false'. Refute it at one input. -/
def fnExactLeastCompleteWrong : ChangeSpec := { name := "fnExactLeastComplete", fn := fun _ => fun
  | [d] => { results := [.lit (.bool false)], args := [d] }
  | _ => none }
def FnExactLeastCompleteWrongFalsely : Prop := fnExactLeastCompleteRow.holds Try.pinned (OpenSpec.ofChange fnExactLeastCompleteWrong)

/-- 'laws.FnMappings': WHATEVER THE INPUT: true; the input reads as it did. -/
def fnMappingsSpec : ChangeSpec := { name := "fnMappings", fn := fun _ => fun
  | [d1, d2] => { results := [.lit (.bool true)], args := [d1, d2] }
  | _ => none }
def fnMappingsRow : OpenClaim := { program := "ytghmpaegmicheaa", sum := "6179b42b6579326bafa596656c0a06507800ea5b64e44211494d46c966f34f74", func := "loop.example/g01130/laws.FnMappings", spec := "fnMappings", unfollowed := true, recurses := true, apart := false }
def FnMappingsSaid : Prop := fnMappingsRow.holds Try.pinned (OpenSpec.ofChange fnMappingsSpec)

/-- ITS FALSE NEIGHBOUR: 'it returns false'. Refute it at one input. -/
def fnMappingsWrong : ChangeSpec := { name := "fnMappings", fn := fun _ => fun
  | [d1, d2] => { results := [.lit (.bool false)], args := [d1, d2] }
  | _ => none }
def FnMappingsWrongFalsely : Prop := fnMappingsRow.holds Try.pinned (OpenSpec.ofChange fnMappingsWrong)

/-- 'laws.FnGroups': WHATEVER THE INPUT: true; the input reads as it did. -/
def fnGroupsSpec : ChangeSpec := { name := "fnGroups", fn := fun _ => fun
  | [d1, d2] => { results := [.lit (.bool true)], args := [d1, d2] }
  | _ => none }
def fnGroupsRow : OpenClaim := { program := "ytghmpaegmicheaa", sum := "6179b42b6579326bafa596656c0a06507800ea5b64e44211494d46c966f34f74", func := "loop.example/g01130/laws.FnGroups", spec := "fnGroups", unfollowed := true, recurses := true, apart := false }
def FnGroupsSaid : Prop := fnGroupsRow.holds Try.pinned (OpenSpec.ofChange fnGroupsSpec)

/-- ITS FALSE NEIGHBOUR: 'it returns false'. Refute it at one input. -/
def fnGroupsWrong : ChangeSpec := { name := "fnGroups", fn := fun _ => fun
  | [d1, d2] => { results := [.lit (.bool false)], args := [d1, d2] }
  | _ => none }
def FnGroupsWrongFalsely : Prop := fnGroupsRow.holds Try.pinned (OpenSpec.ofChange fnGroupsWrong)

/-- 'laws.FnExactSubgroupOf': WHATEVER THE INPUT: true; the input reads as it did. -/
def fnExactSubgroupOfSpec : ChangeSpec := { name := "fnExactSubgroupOf", fn := fun _ => fun
  | [d1, d2] => { results := [.lit (.bool true)], args := [d1, d2] }
  | _ => none }
def fnExactSubgroupOfRow : OpenClaim := { program := "ytghmpaegmicheaa", sum := "6179b42b6579326bafa596656c0a06507800ea5b64e44211494d46c966f34f74", func := "loop.example/g01130/laws.FnExactSubgroupOf", spec := "fnExactSubgroupOf", unfollowed := true, recurses := true, apart := false }
def FnExactSubgroupOfSaid : Prop := fnExactSubgroupOfRow.holds Try.pinned (OpenSpec.ofChange fnExactSubgroupOfSpec)

/-- ITS FALSE NEIGHBOUR: 'it returns false'. Refute it at one input. -/
def fnExactSubgroupOfWrong : ChangeSpec := { name := "fnExactSubgroupOf", fn := fun _ => fun
  | [d1, d2] => { results := [.lit (.bool false)], args := [d1, d2] }
  | _ => none }
def FnExactSubgroupOfWrongFalsely : Prop := fnExactSubgroupOfRow.holds Try.pinned (OpenSpec.ofChange fnExactSubgroupOfWrong)

/-- 'laws.FnSubgroups': WHATEVER THE INPUT: true; the input reads as it did. -/
def fnSubgroupsSpec : ChangeSpec := { name := "fnSubgroups", fn := fun _ => fun
  | [d1, d2] => { results := [.lit (.bool true)], args := [d1, d2] }
  | _ => none }
def fnSubgroupsRow : OpenClaim := { program := "ytghmpaegmicheaa", sum := "6179b42b6579326bafa596656c0a06507800ea5b64e44211494d46c966f34f74", func := "loop.example/g01130/laws.FnSubgroups", spec := "fnSubgroups", unfollowed := true, recurses := true, apart := false }
def FnSubgroupsSaid : Prop := fnSubgroupsRow.holds Try.pinned (OpenSpec.ofChange fnSubgroupsSpec)

/-- ITS FALSE NEIGHBOUR: 'it returns false'. Refute it at one input. -/
def fnSubgroupsWrong : ChangeSpec := { name := "fnSubgroups", fn := fun _ => fun
  | [d1, d2] => { results := [.lit (.bool false)], args := [d1, d2] }
  | _ => none }
def FnSubgroupsWrongFalsely : Prop := fnSubgroupsRow.holds Try.pinned (OpenSpec.ofChange fnSubgroupsWrong)

/-- 'laws.FnExactGroupChain': WHATEVER THE INPUT: true; the input reads as it did. -/
def fnExactGroupChainSpec : ChangeSpec := { name := "fnExactGroupChain", fn := fun _ => fun
  | [d1, d2, d3] => { results := [.lit (.bool true)], args := [d1, d2, d3] }
  | _ => none }
def fnExactGroupChainRow : OpenClaim := { program := "ytghmpaegmicheaa", sum := "6179b42b6579326bafa596656c0a06507800ea5b64e44211494d46c966f34f74", func := "loop.example/g01130/laws.FnExactGroupChain", spec := "fnExactGroupChain", unfollowed := true, recurses := true, apart := false }
def FnExactGroupChainSaid : Prop := fnExactGroupChainRow.holds Try.pinned (OpenSpec.ofChange fnExactGroupChainSpec)

/-- ITS FALSE NEIGHBOUR: 'it returns false'. Refute it at one input. -/
def fnExactGroupChainWrong : ChangeSpec := { name := "fnExactGroupChain", fn := fun _ => fun
  | [d1, d2, d3] => { results := [.lit (.bool false)], args := [d1, d2, d3] }
  | _ => none }
def FnExactGroupChainWrongFalsely : Prop := fnExactGroupChainRow.holds Try.pinned (OpenSpec.ofChange fnExactGroupChainWrong)

/-- 'laws.FnExactDihedralChain': WHATEVER THE INPUT: true; the input reads as it did. -/
def fnExactDihedralChainSpec : ChangeSpec := { name := "fnExactDihedralChain", fn := fun _ => fun
  | [d] => { results := [.lit (.bool true)], args := [d] }
  | _ => none }
def fnExactDihedralChainRow : OpenClaim := { program := "ytghmpaegmicheaa", sum := "6179b42b6579326bafa596656c0a06507800ea5b64e44211494d46c966f34f74", func := "loop.example/g01130/laws.FnExactDihedralChain", spec := "fnExactDihedralChain", unfollowed := true, recurses := true, apart := false }
def FnExactDihedralChainSaid : Prop := fnExactDihedralChainRow.holds Try.pinned (OpenSpec.ofChange fnExactDihedralChainSpec)

/-- ITS FALSE NEIGHBOUR: 'it returns false'. Refute it at one input. -/
def fnExactDihedralChainWrong : ChangeSpec := { name := "fnExactDihedralChain", fn := fun _ => fun
  | [d] => { results := [.lit (.bool false)], args := [d] }
  | _ => none }
def FnExactDihedralChainWrongFalsely : Prop := fnExactDihedralChainRow.holds Try.pinned (OpenSpec.ofChange fnExactDihedralChainWrong)

/- THE SECOND FORM. 'bulk': how many values and letters a reading holds, each counted each time it is reached (what is shared counts as often as it is met; a slice's spare places count too). A statement '..UptoSaid' is the law's where the arguments, and the package variables that the reading takes, are together of bulk at most 1048576: NARROWER than '..Said'. Prove '..Said' where nothing that the law and all that it calls make is longer than what came in: it says more and counts as full. Else prove '..UptoSaid'. A law counts once. -/
mutual
def uptoBulk {H : Type} : DataW H → Nat
  | .lit (.string bytes) => bytes.length + 1
  | .lit _ => 1
  | .nil => 1
  | .ptr d => uptoBulk d + 1
  | .slice elems spare => uptoBulkAll elems + uptoBulkAll spare + 1
  | .agg parts => uptoBulkAll parts + 1
  | .iface _ d => uptoBulk d + 1
  | .map entries => uptoBulkEntries entries + 1
  | .held _ => 1
def uptoBulkAll {H : Type} : List (DataW H) → Nat
  | [] => 0
  | d :: r => uptoBulk d + uptoBulkAll r
def uptoBulkEntries {H : Type} : List (Lit × DataW H) → Nat
  | [] => 0
  | x :: r => uptoBulkEntry x + uptoBulkEntries r
def uptoBulkEntry {H : Type} : Lit × DataW H → Nat
  | (.string bytes, d) => bytes.length + uptoBulk d + 1
  | (_, d) => uptoBulk d + 1
 end
def uptoSmall : (H : Type) → List (DataW H) → Bool := fun _ ds => decide (uptoBulkAll ds ≤ 1048576)
def OpenSpec.upto (s : _root_.Go.ChangeSpec) : _root_.Go.OpenSpec := { _root_.Go.OpenSpec.ofChange s with cond := some uptoSmall }

/-- 'laws.FnExactLeastAntisymmetric', WHERE WHAT IT READS IS OF BULK AT MOST 1048576: true; the input reads as it did. -/
def fnExactLeastAntisymmetricUptoRow : OpenClaim := { program := "ytghmpaegmicheaa", sum := "6179b42b6579326bafa596656c0a06507800ea5b64e44211494d46c966f34f74", func := "loop.example/g01130/laws.FnExactLeastAntisymmetric", spec := "fnExactLeastAntisymmetric", unfollowed := true, recurses := true, apart := false, narrowed := true }
def FnExactLeastAntisymmetricUptoSaid : Prop := fnExactLeastAntisymmetricUptoRow.holds Try.pinned (OpenSpec.upto fnExactLeastAntisymmetricSpec)

/-- 'laws.FnExactLeastComplete', WHERE WHAT IT READS IS OF BULK AT MOST 1048576: true; the input reads as it did. -/
def fnExactLeastCompleteUptoRow : OpenClaim := { program := "ytghmpaegmicheaa", sum := "6179b42b6579326bafa596656c0a06507800ea5b64e44211494d46c966f34f74", func := "loop.example/g01130/laws.FnExactLeastComplete", spec := "fnExactLeastComplete", unfollowed := true, recurses := true, apart := false, narrowed := true }
def FnExactLeastCompleteUptoSaid : Prop := fnExactLeastCompleteUptoRow.holds Try.pinned (OpenSpec.upto fnExactLeastCompleteSpec)

/-- 'laws.FnMappings', WHERE WHAT IT READS IS OF BULK AT MOST 1048576: true; the input reads as it did. -/
def fnMappingsUptoRow : OpenClaim := { program := "ytghmpaegmicheaa", sum := "6179b42b6579326bafa596656c0a06507800ea5b64e44211494d46c966f34f74", func := "loop.example/g01130/laws.FnMappings", spec := "fnMappings", unfollowed := true, recurses := true, apart := false, narrowed := true }
def FnMappingsUptoSaid : Prop := fnMappingsUptoRow.holds Try.pinned (OpenSpec.upto fnMappingsSpec)

/-- 'laws.FnGroups', WHERE WHAT IT READS IS OF BULK AT MOST 1048576: true; the input reads as it did. -/
def fnGroupsUptoRow : OpenClaim := { program := "ytghmpaegmicheaa", sum := "6179b42b6579326bafa596656c0a06507800ea5b64e44211494d46c966f34f74", func := "loop.example/g01130/laws.FnGroups", spec := "fnGroups", unfollowed := true, recurses := true, apart := false, narrowed := true }
def FnGroupsUptoSaid : Prop := fnGroupsUptoRow.holds Try.pinned (OpenSpec.upto fnGroupsSpec)

/-- 'laws.FnExactSubgroupOf', WHERE WHAT IT READS IS OF BULK AT MOST 1048576: true; the input reads as it did. -/
def fnExactSubgroupOfUptoRow : OpenClaim := { program := "ytghmpaegmicheaa", sum := "6179b42b6579326bafa596656c0a06507800ea5b64e44211494d46c966f34f74", func := "loop.example/g01130/laws.FnExactSubgroupOf", spec := "fnExactSubgroupOf", unfollowed := true, recurses := true, apart := false, narrowed := true }
def FnExactSubgroupOfUptoSaid : Prop := fnExactSubgroupOfUptoRow.holds Try.pinned (OpenSpec.upto fnExactSubgroupOfSpec)

/-- 'laws.FnSubgroups', WHERE WHAT IT READS IS OF BULK AT MOST 1048576: true; the input reads as it did. -/
def fnSubgroupsUptoRow : OpenClaim := { program := "ytghmpaegmicheaa", sum := "6179b42b6579326bafa596656c0a06507800ea5b64e44211494d46c966f34f74", func := "loop.example/g01130/laws.FnSubgroups", spec := "fnSubgroups", unfollowed := true, recurses := true, apart := false, narrowed := true }
def FnSubgroupsUptoSaid : Prop := fnSubgroupsUptoRow.holds Try.pinned (OpenSpec.upto fnSubgroupsSpec)

/-- 'laws.FnExactGroupChain', WHERE WHAT IT READS IS OF BULK AT MOST 1048576: true; the input reads as it did. -/
def fnExactGroupChainUptoRow : OpenClaim := { program := "ytghmpaegmicheaa", sum := "6179b42b6579326bafa596656c0a06507800ea5b64e44211494d46c966f34f74", func := "loop.example/g01130/laws.FnExactGroupChain", spec := "fnExactGroupChain", unfollowed := true, recurses := true, apart := false, narrowed := true }
def FnExactGroupChainUptoSaid : Prop := fnExactGroupChainUptoRow.holds Try.pinned (OpenSpec.upto fnExactGroupChainSpec)

/-- 'laws.FnExactDihedralChain', WHERE WHAT IT READS IS OF BULK AT MOST 1048576: true; the input reads as it did. -/
def fnExactDihedralChainUptoRow : OpenClaim := { program := "ytghmpaegmicheaa", sum := "6179b42b6579326bafa596656c0a06507800ea5b64e44211494d46c966f34f74", func := "loop.example/g01130/laws.FnExactDihedralChain", spec := "fnExactDihedralChain", unfollowed := true, recurses := true, apart := false, narrowed := true }
def FnExactDihedralChainUptoSaid : Prop := fnExactDihedralChainUptoRow.holds Try.pinned (OpenSpec.upto fnExactDihedralChainSpec)

end Rows
end Go.Proofs.Ytghmpaegmicheaa
