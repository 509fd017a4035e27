/-
  No cell of these rows narrows 'for every input' (looked for: loops, veiled, ifaces, maps, wideKeys, modest, calm, conditions, laid).
  DERIVED. THE GIVEN ROWS OF THIS SEAT. 12 by the template 'for every input the law returns true; each argument reads behind the call as it read before'; 0 by the template 'total and deterministic' (their statements: YtgedeifajmoljaaTotals.lean).
  GIVEN WITH THE SEED: the statements are not yours to turn. If you find one false, say at which input.
  Laid BY PROGRAM, IN A SANDBOX (cutbox-rows.mjs): the forced cells as the released guide's own fill.sh prints them over the translation c9e24b6e320c40a8… (all of the seat's roots in one cut). By AI agents, Wed Nov 11 2026. No macro, syntax, notation, axiom, sorry.
-/
import Derived.Test.YtgedeifajmoljaaChecked
import GoSem.Claim
import GoSem.ClaimJoined
import GoSem.ClaimMapViews
import Derived.JoinedTies
import Derived.KernelRfl
namespace Go.Proofs.Ytgedeifajmoljaa
/- THE CELL 'sum', in the pinned program and in every row, IS THE sha256 OF THE DUMP (.gsa) THAT YtgedeifajmoljaaProg.lean LOADS. Nothing in Lean hashes anything: it is a label: what it is worth is what the hold of that sum in a sandbox is worth. -/
noncomputable def Try.pinned : Pinned := { name := "ytgedeifajmoljaa", sum := "c9e24b6e320c40a8c0277bc802acae4603dc477acdeac96dd3f7706f4671f768", checked := Try.checked }
namespace Rows
def none {H : Type} : Left H := { results := [], args := [] }

/-- 'laws.FnExactCyclicGroup': WHATEVER THE INPUT: true; the input reads as it did. -/
def fnExactCyclicGroupSpec : ChangeSpec := { name := "fnExactCyclicGroup", fn := fun _ => fun
  | [d] => { results := [.lit (.bool true)], args := [d] }
  | _ => none }
def fnExactCyclicGroupRow : OpenClaim := { program := "ytgedeifajmoljaa", sum := "c9e24b6e320c40a8c0277bc802acae4603dc477acdeac96dd3f7706f4671f768", func := "loop.example/g01130/laws.FnExactCyclicGroup", spec := "fnExactCyclicGroup", unfollowed := true, recurses := true, apart := false }
def FnExactCyclicGroupSaid : Prop := fnExactCyclicGroupRow.holds Try.pinned (OpenSpec.ofChange fnExactCyclicGroupSpec)

/-- ITS FALSE NEIGHBOUR: 'it returns false'. Refute it at one input. -/
def fnExactCyclicGroupWrong : ChangeSpec := { name := "fnExactCyclicGroup", fn := fun _ => fun
  | [d] => { results := [.lit (.bool false)], args := [d] }
  | _ => none }
def FnExactCyclicGroupWrongFalsely : Prop := fnExactCyclicGroupRow.holds Try.pinned (OpenSpec.ofChange fnExactCyclicGroupWrong)

/-- 'laws.FnExactDihedralGroup': WHATEVER THE INPUT: true; the input reads as it did. -/
def fnExactDihedralGroupSpec : ChangeSpec := { name := "fnExactDihedralGroup", fn := fun _ => fun
  | [d] => { results := [.lit (.bool true)], args := [d] }
  | _ => none }
def fnExactDihedralGroupRow : OpenClaim := { program := "ytgedeifajmoljaa", sum := "c9e24b6e320c40a8c0277bc802acae4603dc477acdeac96dd3f7706f4671f768", func := "loop.example/g01130/laws.FnExactDihedralGroup", spec := "fnExactDihedralGroup", unfollowed := true, recurses := true, apart := false }
def FnExactDihedralGroupSaid : Prop := fnExactDihedralGroupRow.holds Try.pinned (OpenSpec.ofChange fnExactDihedralGroupSpec)

/-- ITS FALSE NEIGHBOUR: 'it returns false'. Refute it at one input. -/
def fnExactDihedralGroupWrong : ChangeSpec := { name := "fnExactDihedralGroup", fn := fun _ => fun
  | [d] => { results := [.lit (.bool false)], args := [d] }
  | _ => none }
def FnExactDihedralGroupWrongFalsely : Prop := fnExactDihedralGroupRow.holds Try.pinned (OpenSpec.ofChange fnExactDihedralGroupWrong)

/-- 'laws.FnExactValidGroup': WHATEVER THE INPUT: true; the input reads as it did. -/
def fnExactValidGroupSpec : ChangeSpec := { name := "fnExactValidGroup", fn := fun _ => fun
  | [d] => { results := [.lit (.bool true)], args := [d] }
  | _ => none }
def fnExactValidGroupRow : OpenClaim := { program := "ytgedeifajmoljaa", sum := "c9e24b6e320c40a8c0277bc802acae4603dc477acdeac96dd3f7706f4671f768", func := "loop.example/g01130/laws.FnExactValidGroup", spec := "fnExactValidGroup", unfollowed := true, recurses := true, apart := false }
def FnExactValidGroupSaid : Prop := fnExactValidGroupRow.holds Try.pinned (OpenSpec.ofChange fnExactValidGroupSpec)

/-- ITS FALSE NEIGHBOUR: 'it returns false'. Refute it at one input. -/
def fnExactValidGroupWrong : ChangeSpec := { name := "fnExactValidGroup", fn := fun _ => fun
  | [d] => { results := [.lit (.bool false)], args := [d] }
  | _ => none }
def FnExactValidGroupWrongFalsely : Prop := fnExactValidGroupRow.holds Try.pinned (OpenSpec.ofChange fnExactValidGroupWrong)

/-- 'laws.FnExactIdentityOf': WHATEVER THE INPUT: true; the input reads as it did. -/
def fnExactIdentityOfSpec : ChangeSpec := { name := "fnExactIdentityOf", fn := fun _ => fun
  | [d] => { results := [.lit (.bool true)], args := [d] }
  | _ => none }
def fnExactIdentityOfRow : OpenClaim := { program := "ytgedeifajmoljaa", sum := "c9e24b6e320c40a8c0277bc802acae4603dc477acdeac96dd3f7706f4671f768", func := "loop.example/g01130/laws.FnExactIdentityOf", spec := "fnExactIdentityOf", unfollowed := true, recurses := true, apart := false }
def FnExactIdentityOfSaid : Prop := fnExactIdentityOfRow.holds Try.pinned (OpenSpec.ofChange fnExactIdentityOfSpec)

/-- ITS FALSE NEIGHBOUR: 'it returns false'. Refute it at one input. -/
def fnExactIdentityOfWrong : ChangeSpec := { name := "fnExactIdentityOf", fn := fun _ => fun
  | [d] => { results := [.lit (.bool false)], args := [d] }
  | _ => none }
def FnExactIdentityOfWrongFalsely : Prop := fnExactIdentityOfRow.holds Try.pinned (OpenSpec.ofChange fnExactIdentityOfWrong)

/-- 'laws.FnExactInverseIn': WHATEVER THE INPUT: true; the input reads as it did. -/
def fnExactInverseInSpec : ChangeSpec := { name := "fnExactInverseIn", fn := fun _ => fun
  | [d1, d2] => { results := [.lit (.bool true)], args := [d1, d2] }
  | _ => none }
def fnExactInverseInRow : OpenClaim := { program := "ytgedeifajmoljaa", sum := "c9e24b6e320c40a8c0277bc802acae4603dc477acdeac96dd3f7706f4671f768", func := "loop.example/g01130/laws.FnExactInverseIn", spec := "fnExactInverseIn", unfollowed := true, recurses := true, apart := false }
def FnExactInverseInSaid : Prop := fnExactInverseInRow.holds Try.pinned (OpenSpec.ofChange fnExactInverseInSpec)

/-- ITS FALSE NEIGHBOUR: 'it returns false'. Refute it at one input. -/
def fnExactInverseInWrong : ChangeSpec := { name := "fnExactInverseIn", fn := fun _ => fun
  | [d1, d2] => { results := [.lit (.bool false)], args := [d1, d2] }
  | _ => none }
def FnExactInverseInWrongFalsely : Prop := fnExactInverseInRow.holds Try.pinned (OpenSpec.ofChange fnExactInverseInWrong)

/-- 'laws.FnExactOrderIn': WHATEVER THE INPUT: true; the input reads as it did. -/
def fnExactOrderInSpec : ChangeSpec := { name := "fnExactOrderIn", fn := fun _ => fun
  | [d1, d2] => { results := [.lit (.bool true)], args := [d1, d2] }
  | _ => none }
def fnExactOrderInRow : OpenClaim := { program := "ytgedeifajmoljaa", sum := "c9e24b6e320c40a8c0277bc802acae4603dc477acdeac96dd3f7706f4671f768", func := "loop.example/g01130/laws.FnExactOrderIn", spec := "fnExactOrderIn", unfollowed := true, recurses := true, apart := false }
def FnExactOrderInSaid : Prop := fnExactOrderInRow.holds Try.pinned (OpenSpec.ofChange fnExactOrderInSpec)

/-- ITS FALSE NEIGHBOUR: 'it returns false'. Refute it at one input. -/
def fnExactOrderInWrong : ChangeSpec := { name := "fnExactOrderIn", fn := fun _ => fun
  | [d1, d2] => { results := [.lit (.bool false)], args := [d1, d2] }
  | _ => none }
def FnExactOrderInWrongFalsely : Prop := fnExactOrderInRow.holds Try.pinned (OpenSpec.ofChange fnExactOrderInWrong)

/-- 'laws.FnExactPowerIn': WHATEVER THE INPUT: true; the input reads as it did. -/
def fnExactPowerInSpec : ChangeSpec := { name := "fnExactPowerIn", fn := fun _ => fun
  | [d1, d2, d3] => { results := [.lit (.bool true)], args := [d1, d2, d3] }
  | _ => none }
def fnExactPowerInRow : OpenClaim := { program := "ytgedeifajmoljaa", sum := "c9e24b6e320c40a8c0277bc802acae4603dc477acdeac96dd3f7706f4671f768", func := "loop.example/g01130/laws.FnExactPowerIn", spec := "fnExactPowerIn", unfollowed := true, recurses := true, apart := false }
def FnExactPowerInSaid : Prop := fnExactPowerInRow.holds Try.pinned (OpenSpec.ofChange fnExactPowerInSpec)

/-- ITS FALSE NEIGHBOUR: 'it returns false'. Refute it at one input. -/
def fnExactPowerInWrong : ChangeSpec := { name := "fnExactPowerIn", fn := fun _ => fun
  | [d1, d2, d3] => { results := [.lit (.bool false)], args := [d1, d2, d3] }
  | _ => none }
def FnExactPowerInWrongFalsely : Prop := fnExactPowerInRow.holds Try.pinned (OpenSpec.ofChange fnExactPowerInWrong)

/-- 'laws.FnExactIsCommutative': WHATEVER THE INPUT: true; the input reads as it did. -/
def fnExactIsCommutativeSpec : ChangeSpec := { name := "fnExactIsCommutative", fn := fun _ => fun
  | [d] => { results := [.lit (.bool true)], args := [d] }
  | _ => none }
def fnExactIsCommutativeRow : OpenClaim := { program := "ytgedeifajmoljaa", sum := "c9e24b6e320c40a8c0277bc802acae4603dc477acdeac96dd3f7706f4671f768", func := "loop.example/g01130/laws.FnExactIsCommutative", spec := "fnExactIsCommutative", unfollowed := true, recurses := true, apart := false }
def FnExactIsCommutativeSaid : Prop := fnExactIsCommutativeRow.holds Try.pinned (OpenSpec.ofChange fnExactIsCommutativeSpec)

/-- ITS FALSE NEIGHBOUR: 'it returns false'. Refute it at one input. -/
def fnExactIsCommutativeWrong : ChangeSpec := { name := "fnExactIsCommutative", fn := fun _ => fun
  | [d] => { results := [.lit (.bool false)], args := [d] }
  | _ => none }
def FnExactIsCommutativeWrongFalsely : Prop := fnExactIsCommutativeRow.holds Try.pinned (OpenSpec.ofChange fnExactIsCommutativeWrong)

/-- 'laws.FnExactCentreOf': WHATEVER THE INPUT: true; the input reads as it did. -/
def fnExactCentreOfSpec : ChangeSpec := { name := "fnExactCentreOf", fn := fun _ => fun
  | [d] => { results := [.lit (.bool true)], args := [d] }
  | _ => none }
def fnExactCentreOfRow : OpenClaim := { program := "ytgedeifajmoljaa", sum := "c9e24b6e320c40a8c0277bc802acae4603dc477acdeac96dd3f7706f4671f768", func := "loop.example/g01130/laws.FnExactCentreOf", spec := "fnExactCentreOf", unfollowed := true, recurses := true, apart := false }
def FnExactCentreOfSaid : Prop := fnExactCentreOfRow.holds Try.pinned (OpenSpec.ofChange fnExactCentreOfSpec)

/-- ITS FALSE NEIGHBOUR: 'it returns false'. Refute it at one input. -/
def fnExactCentreOfWrong : ChangeSpec := { name := "fnExactCentreOf", fn := fun _ => fun
  | [d] => { results := [.lit (.bool false)], args := [d] }
  | _ => none }
def FnExactCentreOfWrongFalsely : Prop := fnExactCentreOfRow.holds Try.pinned (OpenSpec.ofChange fnExactCentreOfWrong)

/-- 'laws.FnExactProductGroup': WHATEVER THE INPUT: true; the input reads as it did. -/
def fnExactProductGroupSpec : ChangeSpec := { name := "fnExactProductGroup", fn := fun _ => fun
  | [d1, d2] => { results := [.lit (.bool true)], args := [d1, d2] }
  | _ => none }
def fnExactProductGroupRow : OpenClaim := { program := "ytgedeifajmoljaa", sum := "c9e24b6e320c40a8c0277bc802acae4603dc477acdeac96dd3f7706f4671f768", func := "loop.example/g01130/laws.FnExactProductGroup", spec := "fnExactProductGroup", unfollowed := true, recurses := true, apart := false }
def FnExactProductGroupSaid : Prop := fnExactProductGroupRow.holds Try.pinned (OpenSpec.ofChange fnExactProductGroupSpec)

/-- ITS FALSE NEIGHBOUR: 'it returns false'. Refute it at one input. -/
def fnExactProductGroupWrong : ChangeSpec := { name := "fnExactProductGroup", fn := fun _ => fun
  | [d1, d2] => { results := [.lit (.bool false)], args := [d1, d2] }
  | _ => none }
def FnExactProductGroupWrongFalsely : Prop := fnExactProductGroupRow.holds Try.pinned (OpenSpec.ofChange fnExactProductGroupWrong)

/-- 'laws.FnExactIsAntisymmetric': WHATEVER THE INPUT: true; the input reads as it did. -/
def fnExactIsAntisymmetricSpec : ChangeSpec := { name := "fnExactIsAntisymmetric", fn := fun _ => fun
  | [d1, d2] => { results := [.lit (.bool true)], args := [d1, d2] }
  | _ => none }
def fnExactIsAntisymmetricRow : OpenClaim := { program := "ytgedeifajmoljaa", sum := "c9e24b6e320c40a8c0277bc802acae4603dc477acdeac96dd3f7706f4671f768", func := "loop.example/g01130/laws.FnExactIsAntisymmetric", spec := "fnExactIsAntisymmetric", unfollowed := true, recurses := true, apart := false }
def FnExactIsAntisymmetricSaid : Prop := fnExactIsAntisymmetricRow.holds Try.pinned (OpenSpec.ofChange fnExactIsAntisymmetricSpec)

/-- ITS FALSE NEIGHBOUR: 'it returns false'. Refute it at one input. -/
def fnExactIsAntisymmetricWrong : ChangeSpec := { name := "fnExactIsAntisymmetric", fn := fun _ => fun
  | [d1, d2] => { results := [.lit (.bool false)], args := [d1, d2] }
  | _ => none }
def FnExactIsAntisymmetricWrongFalsely : Prop := fnExactIsAntisymmetricRow.holds Try.pinned (OpenSpec.ofChange fnExactIsAntisymmetricWrong)

/-- 'laws.FnExactIsComplete': WHATEVER THE INPUT: true; the input reads as it did. -/
def fnExactIsCompleteSpec : ChangeSpec := { name := "fnExactIsComplete", fn := fun _ => fun
  | [d1, d2] => { results := [.lit (.bool true)], args := [d1, d2] }
  | _ => none }
def fnExactIsCompleteRow : OpenClaim := { program := "ytgedeifajmoljaa", sum := "c9e24b6e320c40a8c0277bc802acae4603dc477acdeac96dd3f7706f4671f768", func := "loop.example/g01130/laws.FnExactIsComplete", spec := "fnExactIsComplete", unfollowed := true, recurses := true, apart := false }
def FnExactIsCompleteSaid : Prop := fnExactIsCompleteRow.holds Try.pinned (OpenSpec.ofChange fnExactIsCompleteSpec)

/-- ITS FALSE NEIGHBOUR: 'it returns false'. Refute it at one input. -/
def fnExactIsCompleteWrong : ChangeSpec := { name := "fnExactIsComplete", fn := fun _ => fun
  | [d1, d2] => { results := [.lit (.bool false)], args := [d1, d2] }
  | _ => none }
def FnExactIsCompleteWrongFalsely : Prop := fnExactIsCompleteRow.holds Try.pinned (OpenSpec.ofChange fnExactIsCompleteWrong)

/- THE SECOND FORM. 'bulk': how many values and letters a reading holds, each counted each time it is reached (what is shared counts as often as it is met; a slice's spare places count too). A statement '..UptoSaid' is the law's where the arguments, and the package variables that the reading takes, are together of bulk at most 1048576: NARROWER than '..Said'. Prove '..Said' where nothing that the law and all that it calls make is longer than what came in: it says more and counts as full. Else prove '..UptoSaid'. A law counts once. -/
mutual
def uptoBulk {H : Type} : DataW H → Nat
  | .lit (.string bytes) => bytes.length + 1
  | .lit _ => 1
  | .nil => 1
  | .ptr d => uptoBulk d + 1
  | .slice elems spare => uptoBulkAll elems + uptoBulkAll spare + 1
  | .agg parts => uptoBulkAll parts + 1
  | .iface _ d => uptoBulk d + 1
  | .map entries => uptoBulkEntries entries + 1
  | .held _ => 1
def uptoBulkAll {H : Type} : List (DataW H) → Nat
  | [] => 0
  | d :: r => uptoBulk d + uptoBulkAll r
def uptoBulkEntries {H : Type} : List (Lit × DataW H) → Nat
  | [] => 0
  | x :: r => uptoBulkEntry x + uptoBulkEntries r
def uptoBulkEntry {H : Type} : Lit × DataW H → Nat
  | (.string bytes, d) => bytes.length + uptoBulk d + 1
  | (_, d) => uptoBulk d + 1
 end
def uptoSmall : (H : Type) → List (DataW H) → Bool := fun _ ds => decide (uptoBulkAll ds ≤ 1048576)
def OpenSpec.upto (s : _root_.Go.ChangeSpec) : _root_.Go.OpenSpec := { _root_.Go.OpenSpec.ofChange s with cond := some uptoSmall }

/-- 'laws.FnExactCyclicGroup', WHERE WHAT IT READS IS OF BULK AT MOST 1048576: true; the input reads as it did. -/
def fnExactCyclicGroupUptoRow : OpenClaim := { program := "ytgedeifajmoljaa", sum := "c9e24b6e320c40a8c0277bc802acae4603dc477acdeac96dd3f7706f4671f768", func := "loop.example/g01130/laws.FnExactCyclicGroup", spec := "fnExactCyclicGroup", unfollowed := true, recurses := true, apart := false, narrowed := true }
def FnExactCyclicGroupUptoSaid : Prop := fnExactCyclicGroupUptoRow.holds Try.pinned (OpenSpec.upto fnExactCyclicGroupSpec)

/-- 'laws.FnExactDihedralGroup', WHERE WHAT IT READS IS OF BULK AT MOST 1048576: true; the input reads as it did. -/
def fnExactDihedralGroupUptoRow : OpenClaim := { program := "ytgedeifajmoljaa", sum := "c9e24b6e320c40a8c0277bc802acae4603dc477acdeac96dd3f7706f4671f768", func := "loop.example/g01130/laws.FnExactDihedralGroup", spec := "fnExactDihedralGroup", unfollowed := true, recurses := true, apart := false, narrowed := true }
def FnExactDihedralGroupUptoSaid : Prop := fnExactDihedralGroupUptoRow.holds Try.pinned (OpenSpec.upto fnExactDihedralGroupSpec)

/-- 'laws.FnExactValidGroup', WHERE WHAT IT READS IS OF BULK AT MOST 1048576: true; the input reads as it did. -/
def fnExactValidGroupUptoRow : OpenClaim := { program := "ytgedeifajmoljaa", sum := "c9e24b6e320c40a8c0277bc802acae4603dc477acdeac96dd3f7706f4671f768", func := "loop.example/g01130/laws.FnExactValidGroup", spec := "fnExactValidGroup", unfollowed := true, recurses := true, apart := false, narrowed := true }
def FnExactValidGroupUptoSaid : Prop := fnExactValidGroupUptoRow.holds Try.pinned (OpenSpec.upto fnExactValidGroupSpec)

/-- 'laws.FnExactIdentityOf', WHERE WHAT IT READS IS OF BULK AT MOST 1048576: true; the input reads as it did. -/
def fnExactIdentityOfUptoRow : OpenClaim := { program := "ytgedeifajmoljaa", sum := "c9e24b6e320c40a8c0277bc802acae4603dc477acdeac96dd3f7706f4671f768", func := "loop.example/g01130/laws.FnExactIdentityOf", spec := "fnExactIdentityOf", unfollowed := true, recurses := true, apart := false, narrowed := true }
def FnExactIdentityOfUptoSaid : Prop := fnExactIdentityOfUptoRow.holds Try.pinned (OpenSpec.upto fnExactIdentityOfSpec)

/-- 'laws.FnExactInverseIn', WHERE WHAT IT READS IS OF BULK AT MOST 1048576: true; the input reads as it did. -/
def fnExactInverseInUptoRow : OpenClaim := { program := "ytgedeifajmoljaa", sum := "c9e24b6e320c40a8c0277bc802acae4603dc477acdeac96dd3f7706f4671f768", func := "loop.example/g01130/laws.FnExactInverseIn", spec := "fnExactInverseIn", unfollowed := true, recurses := true, apart := false, narrowed := true }
def FnExactInverseInUptoSaid : Prop := fnExactInverseInUptoRow.holds Try.pinned (OpenSpec.upto fnExactInverseInSpec)

/-- 'laws.FnExactOrderIn', WHERE WHAT IT READS IS OF BULK AT MOST 1048576: true; the input reads as it did. -/
def fnExactOrderInUptoRow : OpenClaim := { program := "ytgedeifajmoljaa", sum := "c9e24b6e320c40a8c0277bc802acae4603dc477acdeac96dd3f7706f4671f768", func := "loop.example/g01130/laws.FnExactOrderIn", spec := "fnExactOrderIn", unfollowed := true, recurses := true, apart := false, narrowed := true }
def FnExactOrderInUptoSaid : Prop := fnExactOrderInUptoRow.holds Try.pinned (OpenSpec.upto fnExactOrderInSpec)

/-- 'laws.FnExactPowerIn', WHERE WHAT IT READS IS OF BULK AT MOST 1048576: true; the input reads as it did. -/
def fnExactPowerInUptoRow : OpenClaim := { program := "ytgedeifajmoljaa", sum := "c9e24b6e320c40a8c0277bc802acae4603dc477acdeac96dd3f7706f4671f768", func := "loop.example/g01130/laws.FnExactPowerIn", spec := "fnExactPowerIn", unfollowed := true, recurses := true, apart := false, narrowed := true }
def FnExactPowerInUptoSaid : Prop := fnExactPowerInUptoRow.holds Try.pinned (OpenSpec.upto fnExactPowerInSpec)

/-- 'laws.FnExactIsCommutative', WHERE WHAT IT READS IS OF BULK AT MOST 1048576: true; the input reads as it did. -/
def fnExactIsCommutativeUptoRow : OpenClaim := { program := "ytgedeifajmoljaa", sum := "c9e24b6e320c40a8c0277bc802acae4603dc477acdeac96dd3f7706f4671f768", func := "loop.example/g01130/laws.FnExactIsCommutative", spec := "fnExactIsCommutative", unfollowed := true, recurses := true, apart := false, narrowed := true }
def FnExactIsCommutativeUptoSaid : Prop := fnExactIsCommutativeUptoRow.holds Try.pinned (OpenSpec.upto fnExactIsCommutativeSpec)

/-- 'laws.FnExactCentreOf', WHERE WHAT IT READS IS OF BULK AT MOST 1048576: true; the input reads as it did. -/
def fnExactCentreOfUptoRow : OpenClaim := { program := "ytgedeifajmoljaa", sum := "c9e24b6e320c40a8c0277bc802acae4603dc477acdeac96dd3f7706f4671f768", func := "loop.example/g01130/laws.FnExactCentreOf", spec := "fnExactCentreOf", unfollowed := true, recurses := true, apart := false, narrowed := true }
def FnExactCentreOfUptoSaid : Prop := fnExactCentreOfUptoRow.holds Try.pinned (OpenSpec.upto fnExactCentreOfSpec)

/-- 'laws.FnExactProductGroup', WHERE WHAT IT READS IS OF BULK AT MOST 1048576: true; the input reads as it did. -/
def fnExactProductGroupUptoRow : OpenClaim := { program := "ytgedeifajmoljaa", sum := "c9e24b6e320c40a8c0277bc802acae4603dc477acdeac96dd3f7706f4671f768", func := "loop.example/g01130/laws.FnExactProductGroup", spec := "fnExactProductGroup", unfollowed := true, recurses := true, apart := false, narrowed := true }
def FnExactProductGroupUptoSaid : Prop := fnExactProductGroupUptoRow.holds Try.pinned (OpenSpec.upto fnExactProductGroupSpec)

/-- 'laws.FnExactIsAntisymmetric', WHERE WHAT IT READS IS OF BULK AT MOST 1048576: true; the input reads as it did. -/
def fnExactIsAntisymmetricUptoRow : OpenClaim := { program := "ytgedeifajmoljaa", sum := "c9e24b6e320c40a8c0277bc802acae4603dc477acdeac96dd3f7706f4671f768", func := "loop.example/g01130/laws.FnExactIsAntisymmetric", spec := "fnExactIsAntisymmetric", unfollowed := true, recurses := true, apart := false, narrowed := true }
def FnExactIsAntisymmetricUptoSaid : Prop := fnExactIsAntisymmetricUptoRow.holds Try.pinned (OpenSpec.upto fnExactIsAntisymmetricSpec)

/-- 'laws.FnExactIsComplete', WHERE WHAT IT READS IS OF BULK AT MOST 1048576: true; the input reads as it did. -/
def fnExactIsCompleteUptoRow : OpenClaim := { program := "ytgedeifajmoljaa", sum := "c9e24b6e320c40a8c0277bc802acae4603dc477acdeac96dd3f7706f4671f768", func := "loop.example/g01130/laws.FnExactIsComplete", spec := "fnExactIsComplete", unfollowed := true, recurses := true, apart := false, narrowed := true }
def FnExactIsCompleteUptoSaid : Prop := fnExactIsCompleteUptoRow.holds Try.pinned (OpenSpec.upto fnExactIsCompleteSpec)

end Rows
end Go.Proofs.Ytgedeifajmoljaa
