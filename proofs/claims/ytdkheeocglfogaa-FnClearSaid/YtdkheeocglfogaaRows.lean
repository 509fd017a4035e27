/-
  No cell of these rows narrows 'for every input' (looked for: loops, veiled, ifaces, maps, wideKeys, modest, calm, conditions, laid).
  DERIVED. THE GIVEN ROWS OF THIS SEAT. 7 by the template 'for every input the law returns true; each argument reads behind the call as it read before'; 0 by the template 'total and deterministic' (their statements: YtdkheeocglfogaaTotals.lean).
  GIVEN WITH THE SEED: the statements are not yours to turn. If you find one false, say at which input.
  Laid BY PROGRAM, IN A SANDBOX (cutbox-rows.mjs): the forced cells as the released guide's own fill.sh prints them over the translation 7381b1f67c4daabe… (all of the seat's roots in one cut). By AI agents, Wed Nov 11 2026. No macro, syntax, notation, axiom, sorry.
-/
import Derived.Test.YtdkheeocglfogaaChecked
import GoSem.Claim
import GoSem.ClaimJoined
import GoSem.ClaimMapViews
import Derived.JoinedTies
import Derived.KernelRfl
namespace Go.Proofs.Ytdkheeocglfogaa
/- THE CELL 'sum', in the pinned program and in every row, IS THE sha256 OF THE DUMP (.gsa) THAT YtdkheeocglfogaaProg.lean LOADS. Nothing in Lean hashes anything: it is a label: what it is worth is what the hold of that sum in a sandbox is worth. -/
noncomputable def Try.pinned : Pinned := { name := "ytdkheeocglfogaa", sum := "7381b1f67c4daabea0b5771253bc032683875243467266551a1779d675d666c4", checked := Try.checked }
namespace Rows
def none {H : Type} : Left H := { results := [], args := [] }

/-- 'laws.FnExactValidLikeness': WHATEVER THE INPUT: true; the input reads as it did. -/
def fnExactValidLikenessSpec : ChangeSpec := { name := "fnExactValidLikeness", fn := fun _ => fun
  | [d] => { results := [.lit (.bool true)], args := [d] }
  | _ => none }
def fnExactValidLikenessRow : OpenClaim := { program := "ytdkheeocglfogaa", sum := "7381b1f67c4daabea0b5771253bc032683875243467266551a1779d675d666c4", func := "loop.example/g01130/laws.FnExactValidLikeness", spec := "fnExactValidLikeness", inPlace := ["internal/bytealg.IndexByteString", "internal/bytealg.IndexString"], unfollowed := true, recurses := true, named := ["internal/bytealg.MaxLen"], apart := false }
def FnExactValidLikenessSaid : Prop := fnExactValidLikenessRow.holds Try.pinned (OpenSpec.ofChange fnExactValidLikenessSpec)

/-- ITS FALSE NEIGHBOUR: 'it returns false'. Refute it at one input. -/
def fnExactValidLikenessWrong : ChangeSpec := { name := "fnExactValidLikeness", fn := fun _ => fun
  | [d] => { results := [.lit (.bool false)], args := [d] }
  | _ => none }
def FnExactValidLikenessWrongFalsely : Prop := fnExactValidLikenessRow.holds Try.pinned (OpenSpec.ofChange fnExactValidLikenessWrong)

/-- 'laws.FnExactAreAlike': WHATEVER THE INPUT: true; the input reads as it did. -/
def fnExactAreAlikeSpec : ChangeSpec := { name := "fnExactAreAlike", fn := fun _ => fun
  | [d1, d2, d3] => { results := [.lit (.bool true)], args := [d1, d2, d3] }
  | _ => none }
def fnExactAreAlikeRow : OpenClaim := { program := "ytdkheeocglfogaa", sum := "7381b1f67c4daabea0b5771253bc032683875243467266551a1779d675d666c4", func := "loop.example/g01130/laws.FnExactAreAlike", spec := "fnExactAreAlike", inPlace := ["internal/bytealg.IndexByteString", "internal/bytealg.IndexString"], unfollowed := true, recurses := true, named := ["internal/bytealg.MaxLen"], apart := false }
def FnExactAreAlikeSaid : Prop := fnExactAreAlikeRow.holds Try.pinned (OpenSpec.ofChange fnExactAreAlikeSpec)

/-- ITS FALSE NEIGHBOUR: 'it returns false'. Refute it at one input. -/
def fnExactAreAlikeWrong : ChangeSpec := { name := "fnExactAreAlike", fn := fun _ => fun
  | [d1, d2, d3] => { results := [.lit (.bool false)], args := [d1, d2, d3] }
  | _ => none }
def FnExactAreAlikeWrongFalsely : Prop := fnExactAreAlikeRow.holds Try.pinned (OpenSpec.ofChange fnExactAreAlikeWrong)

/-- 'laws.FnExactIsClear': WHATEVER THE INPUT: true; the input reads as it did. -/
def fnExactIsClearSpec : ChangeSpec := { name := "fnExactIsClear", fn := fun _ => fun
  | [d1, d2] => { results := [.lit (.bool true)], args := [d1, d2] }
  | _ => none }
def fnExactIsClearRow : OpenClaim := { program := "ytdkheeocglfogaa", sum := "7381b1f67c4daabea0b5771253bc032683875243467266551a1779d675d666c4", func := "loop.example/g01130/laws.FnExactIsClear", spec := "fnExactIsClear", inPlace := ["internal/bytealg.IndexByteString", "internal/bytealg.IndexString"], unfollowed := true, recurses := true, named := ["internal/bytealg.MaxLen"], apart := false }
def FnExactIsClearSaid : Prop := fnExactIsClearRow.holds Try.pinned (OpenSpec.ofChange fnExactIsClearSpec)

/-- ITS FALSE NEIGHBOUR: 'it returns false'. Refute it at one input. -/
def fnExactIsClearWrong : ChangeSpec := { name := "fnExactIsClear", fn := fun _ => fun
  | [d1, d2] => { results := [.lit (.bool false)], args := [d1, d2] }
  | _ => none }
def FnExactIsClearWrongFalsely : Prop := fnExactIsClearRow.holds Try.pinned (OpenSpec.ofChange fnExactIsClearWrong)

/-- 'laws.FnExactClearSymbols': WHATEVER THE INPUT: true; the input reads as it did. -/
def fnExactClearSymbolsSpec : ChangeSpec := { name := "fnExactClearSymbols", fn := fun _ => fun
  | [d] => { results := [.lit (.bool true)], args := [d] }
  | _ => none }
def fnExactClearSymbolsRow : OpenClaim := { program := "ytdkheeocglfogaa", sum := "7381b1f67c4daabea0b5771253bc032683875243467266551a1779d675d666c4", func := "loop.example/g01130/laws.FnExactClearSymbols", spec := "fnExactClearSymbols", inPlace := ["internal/bytealg.IndexByteString", "internal/bytealg.IndexString"], unfollowed := true, recurses := true, named := ["internal/bytealg.MaxLen"], apart := false }
def FnExactClearSymbolsSaid : Prop := fnExactClearSymbolsRow.holds Try.pinned (OpenSpec.ofChange fnExactClearSymbolsSpec)

/-- ITS FALSE NEIGHBOUR: 'it returns false'. Refute it at one input. -/
def fnExactClearSymbolsWrong : ChangeSpec := { name := "fnExactClearSymbols", fn := fun _ => fun
  | [d] => { results := [.lit (.bool false)], args := [d] }
  | _ => none }
def FnExactClearSymbolsWrongFalsely : Prop := fnExactClearSymbolsRow.holds Try.pinned (OpenSpec.ofChange fnExactClearSymbolsWrong)

/-- 'laws.FnExactFoldWord': WHATEVER THE INPUT: true; the input reads as it did. -/
def fnExactFoldWordSpec : ChangeSpec := { name := "fnExactFoldWord", fn := fun _ => fun
  | [d1, d2] => { results := [.lit (.bool true)], args := [d1, d2] }
  | _ => none }
def fnExactFoldWordRow : OpenClaim := { program := "ytdkheeocglfogaa", sum := "7381b1f67c4daabea0b5771253bc032683875243467266551a1779d675d666c4", func := "loop.example/g01130/laws.FnExactFoldWord", spec := "fnExactFoldWord", inPlace := ["internal/bytealg.IndexByteString", "internal/bytealg.IndexString"], unfollowed := true, recurses := true, named := ["internal/bytealg.MaxLen"], apart := false }
def FnExactFoldWordSaid : Prop := fnExactFoldWordRow.holds Try.pinned (OpenSpec.ofChange fnExactFoldWordSpec)

/-- ITS FALSE NEIGHBOUR: 'it returns false'. Refute it at one input. -/
def fnExactFoldWordWrong : ChangeSpec := { name := "fnExactFoldWord", fn := fun _ => fun
  | [d1, d2] => { results := [.lit (.bool false)], args := [d1, d2] }
  | _ => none }
def FnExactFoldWordWrongFalsely : Prop := fnExactFoldWordRow.holds Try.pinned (OpenSpec.ofChange fnExactFoldWordWrong)

/-- 'laws.FnExactFamiliesOf': WHATEVER THE INPUT: true; the input reads as it did. -/
def fnExactFamiliesOfSpec : ChangeSpec := { name := "fnExactFamiliesOf", fn := fun _ => fun
  | [d] => { results := [.lit (.bool true)], args := [d] }
  | _ => none }
def fnExactFamiliesOfRow : OpenClaim := { program := "ytdkheeocglfogaa", sum := "7381b1f67c4daabea0b5771253bc032683875243467266551a1779d675d666c4", func := "loop.example/g01130/laws.FnExactFamiliesOf", spec := "fnExactFamiliesOf", inPlace := ["internal/bytealg.IndexByteString", "internal/bytealg.IndexString"], unfollowed := true, recurses := true, named := ["internal/bytealg.MaxLen"], apart := false }
def FnExactFamiliesOfSaid : Prop := fnExactFamiliesOfRow.holds Try.pinned (OpenSpec.ofChange fnExactFamiliesOfSpec)

/-- ITS FALSE NEIGHBOUR: 'it returns false'. Refute it at one input. -/
def fnExactFamiliesOfWrong : ChangeSpec := { name := "fnExactFamiliesOf", fn := fun _ => fun
  | [d] => { results := [.lit (.bool false)], args := [d] }
  | _ => none }
def FnExactFamiliesOfWrongFalsely : Prop := fnExactFamiliesOfRow.holds Try.pinned (OpenSpec.ofChange fnExactFamiliesOfWrong)

/-- 'laws.FnClear': WHATEVER THE INPUT: true; the input reads as it did. -/
def fnClearSpec : ChangeSpec := { name := "fnClear", fn := fun _ => fun
  | [d1, d2] => { results := [.lit (.bool true)], args := [d1, d2] }
  | _ => none }
def fnClearRow : OpenClaim := { program := "ytdkheeocglfogaa", sum := "7381b1f67c4daabea0b5771253bc032683875243467266551a1779d675d666c4", func := "loop.example/g01130/laws.FnClear", spec := "fnClear", inPlace := ["internal/bytealg.IndexByteString", "internal/bytealg.IndexString"], unfollowed := true, recurses := true, named := ["internal/bytealg.MaxLen"], apart := false }
def FnClearSaid : Prop := fnClearRow.holds Try.pinned (OpenSpec.ofChange fnClearSpec)

/-- ITS FALSE NEIGHBOUR: 'it returns false'. Refute it at one input. -/
def fnClearWrong : ChangeSpec := { name := "fnClear", fn := fun _ => fun
  | [d1, d2] => { results := [.lit (.bool false)], args := [d1, d2] }
  | _ => none }
def FnClearWrongFalsely : Prop := fnClearRow.holds Try.pinned (OpenSpec.ofChange fnClearWrong)

/- THE SECOND FORM. 'bulk': how many values and letters a reading holds, each counted each time it is reached (what is shared counts as often as it is met; a slice's spare places count too). A statement '..UptoSaid' is the law's where the arguments, and the package variables that the reading takes, are together of bulk at most 1048576: NARROWER than '..Said'. Prove '..Said' where nothing that the law and all that it calls make is longer than what came in: it says more and counts as full. Else prove '..UptoSaid'. A law counts once. -/
mutual
def uptoBulk {H : Type} : DataW H → Nat
  | .lit (.string bytes) => bytes.length + 1
  | .lit _ => 1
  | .nil => 1
  | .ptr d => uptoBulk d + 1
  | .slice elems spare => uptoBulkAll elems + uptoBulkAll spare + 1
  | .agg parts => uptoBulkAll parts + 1
  | .iface _ d => uptoBulk d + 1
  | .map entries => uptoBulkEntries entries + 1
  | .held _ => 1
def uptoBulkAll {H : Type} : List (DataW H) → Nat
  | [] => 0
  | d :: r => uptoBulk d + uptoBulkAll r
def uptoBulkEntries {H : Type} : List (Lit × DataW H) → Nat
  | [] => 0
  | x :: r => uptoBulkEntry x + uptoBulkEntries r
def uptoBulkEntry {H : Type} : Lit × DataW H → Nat
  | (.string bytes, d) => bytes.length + uptoBulk d + 1
  | (_, d) => uptoBulk d + 1
 end
def uptoSmall : (H : Type) → List (DataW H) → Bool := fun _ ds => decide (uptoBulkAll ds ≤ 1048576)
def OpenSpec.upto (s : _root_.Go.ChangeSpec) : _root_.Go.OpenSpec := { _root_.Go.OpenSpec.ofChange s with cond := some uptoSmall }

/-- 'laws.FnExactValidLikeness', WHERE WHAT IT READS IS OF BULK AT MOST 1048576: true; the input reads as it did. -/
def fnExactValidLikenessUptoRow : OpenClaim := { program := "ytdkheeocglfogaa", sum := "7381b1f67c4daabea0b5771253bc032683875243467266551a1779d675d666c4", func := "loop.example/g01130/laws.FnExactValidLikeness", spec := "fnExactValidLikeness", inPlace := ["internal/bytealg.IndexByteString", "internal/bytealg.IndexString"], unfollowed := true, recurses := true, named := ["internal/bytealg.MaxLen"], apart := false, narrowed := true }
def FnExactValidLikenessUptoSaid : Prop := fnExactValidLikenessUptoRow.holds Try.pinned (OpenSpec.upto fnExactValidLikenessSpec)

/-- 'laws.FnExactAreAlike', WHERE WHAT IT READS IS OF BULK AT MOST 1048576: true; the input reads as it did. -/
def fnExactAreAlikeUptoRow : OpenClaim := { program := "ytdkheeocglfogaa", sum := "7381b1f67c4daabea0b5771253bc032683875243467266551a1779d675d666c4", func := "loop.example/g01130/laws.FnExactAreAlike", spec := "fnExactAreAlike", inPlace := ["internal/bytealg.IndexByteString", "internal/bytealg.IndexString"], unfollowed := true, recurses := true, named := ["internal/bytealg.MaxLen"], apart := false, narrowed := true }
def FnExactAreAlikeUptoSaid : Prop := fnExactAreAlikeUptoRow.holds Try.pinned (OpenSpec.upto fnExactAreAlikeSpec)

/-- 'laws.FnExactIsClear', WHERE WHAT IT READS IS OF BULK AT MOST 1048576: true; the input reads as it did. -/
def fnExactIsClearUptoRow : OpenClaim := { program := "ytdkheeocglfogaa", sum := "7381b1f67c4daabea0b5771253bc032683875243467266551a1779d675d666c4", func := "loop.example/g01130/laws.FnExactIsClear", spec := "fnExactIsClear", inPlace := ["internal/bytealg.IndexByteString", "internal/bytealg.IndexString"], unfollowed := true, recurses := true, named := ["internal/bytealg.MaxLen"], apart := false, narrowed := true }
def FnExactIsClearUptoSaid : Prop := fnExactIsClearUptoRow.holds Try.pinned (OpenSpec.upto fnExactIsClearSpec)

/-- 'laws.FnExactClearSymbols', WHERE WHAT IT READS IS OF BULK AT MOST 1048576: true; the input reads as it did. -/
def fnExactClearSymbolsUptoRow : OpenClaim := { program := "ytdkheeocglfogaa", sum := "7381b1f67c4daabea0b5771253bc032683875243467266551a1779d675d666c4", func := "loop.example/g01130/laws.FnExactClearSymbols", spec := "fnExactClearSymbols", inPlace := ["internal/bytealg.IndexByteString", "internal/bytealg.IndexString"], unfollowed := true, recurses := true, named := ["internal/bytealg.MaxLen"], apart := false, narrowed := true }
def FnExactClearSymbolsUptoSaid : Prop := fnExactClearSymbolsUptoRow.holds Try.pinned (OpenSpec.upto fnExactClearSymbolsSpec)

/-- 'laws.FnExactFoldWord', WHERE WHAT IT READS IS OF BULK AT MOST 1048576: true; the input reads as it did. -/
def fnExactFoldWordUptoRow : OpenClaim := { program := "ytdkheeocglfogaa", sum := "7381b1f67c4daabea0b5771253bc032683875243467266551a1779d675d666c4", func := "loop.example/g01130/laws.FnExactFoldWord", spec := "fnExactFoldWord", inPlace := ["internal/bytealg.IndexByteString", "internal/bytealg.IndexString"], unfollowed := true, recurses := true, named := ["internal/bytealg.MaxLen"], apart := false, narrowed := true }
def FnExactFoldWordUptoSaid : Prop := fnExactFoldWordUptoRow.holds Try.pinned (OpenSpec.upto fnExactFoldWordSpec)

/-- 'laws.FnExactFamiliesOf', WHERE WHAT IT READS IS OF BULK AT MOST 1048576: true; the input reads as it did. -/
def fnExactFamiliesOfUptoRow : OpenClaim := { program := "ytdkheeocglfogaa", sum := "7381b1f67c4daabea0b5771253bc032683875243467266551a1779d675d666c4", func := "loop.example/g01130/laws.FnExactFamiliesOf", spec := "fnExactFamiliesOf", inPlace := ["internal/bytealg.IndexByteString", "internal/bytealg.IndexString"], unfollowed := true, recurses := true, named := ["internal/bytealg.MaxLen"], apart := false, narrowed := true }
def FnExactFamiliesOfUptoSaid : Prop := fnExactFamiliesOfUptoRow.holds Try.pinned (OpenSpec.upto fnExactFamiliesOfSpec)

/-- 'laws.FnClear', WHERE WHAT IT READS IS OF BULK AT MOST 1048576: true; the input reads as it did. -/
def fnClearUptoRow : OpenClaim := { program := "ytdkheeocglfogaa", sum := "7381b1f67c4daabea0b5771253bc032683875243467266551a1779d675d666c4", func := "loop.example/g01130/laws.FnClear", spec := "fnClear", inPlace := ["internal/bytealg.IndexByteString", "internal/bytealg.IndexString"], unfollowed := true, recurses := true, named := ["internal/bytealg.MaxLen"], apart := false, narrowed := true }
def FnClearUptoSaid : Prop := fnClearUptoRow.holds Try.pinned (OpenSpec.upto fnClearSpec)

end Rows
end Go.Proofs.Ytdkheeocglfogaa
