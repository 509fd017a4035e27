/-
  DERIVED. GIVEN WITH THE SEED: THE CARDS: each row of YthcnhkjiojeemaaDoorRows.lean that lists a variable, with what it lists TIED to the program's text (the seventh form; the later family's looks); each row that meets fmt, with fmt's text TOLD by the authors' own Lean function (tested against real Go, not proved from fmt's source: count such statements apart). THE CARD IS WHAT COUNTS. Prove the row's statement (the work); the ties are given (YthcnhkjiojeemaaDoorTie.lean); close each card by the builder's one call (the guide's Derived/Test/ToyasCard.lean, 'card_holds'). Laid BY PROGRAM, IN A SANDBOX (cutbox-door.mjs). By AI agents, Wed Nov 11 2026. No macro, syntax, notation, axiom, sorry.
-/
import Derived.Test.YthcnhkjiojeemaaDoorRows
import GoSem.ClaimSeven
namespace Go.Proofs.YthcnhkjiojeemaaDoor
namespace Rows

/-- THE TIED CARD OF 'laws.FnExactReadTable'. -/
def fnExactReadTableCard : Claim7 := { stood := { row := fnExactReadTableRow, standIns := [], harness := (true, "3a1a58edeae3841482044bf1fd15f4325d97a10bc662d861fd81300f1544f5b9"), looks := false }, kinds := [], alts := [], laidByText := true, laidKinds := [.data, .pinned], laidTests := true, laidLooks := .later }
def FnExactReadTableCardSaid : Prop := Claim7.holds Tryd.pinned (.plain (OpenSpec.ofChange fnExactReadTableSpec)) fnExactReadTableCard

/-- THE TIED CARD OF 'laws.FnRenamed'. -/
def fnRenamedCard : Claim7 := { stood := { row := fnRenamedRow, standIns := [], harness := (true, "3a1a58edeae3841482044bf1fd15f4325d97a10bc662d861fd81300f1544f5b9"), looks := false }, kinds := [], alts := [], laidByText := true, laidKinds := [.data, .pinned], laidTests := true, laidLooks := .later }
def FnRenamedCardSaid : Prop := Claim7.holds Tryd.pinned (.plain (OpenSpec.ofChange fnRenamedSpec)) fnRenamedCard

/-- THE SECOND FORM's CARD OF 'laws.FnExactReadTable'. -/
def fnExactReadTableUptoCard : Claim7 := { stood := { row := fnExactReadTableUptoRow, standIns := [], harness := (true, "3a1a58edeae3841482044bf1fd15f4325d97a10bc662d861fd81300f1544f5b9"), looks := false }, kinds := [], alts := [], laidByText := true, laidKinds := [.data, .pinned], laidTests := true, laidLooks := .later }
def FnExactReadTableUptoCardSaid : Prop := Claim7.holds Tryd.pinned (.plain (OpenSpec.upto fnExactReadTableSpec)) fnExactReadTableUptoCard

/-- THE SECOND FORM's CARD OF 'laws.FnRenamed'. -/
def fnRenamedUptoCard : Claim7 := { stood := { row := fnRenamedUptoRow, standIns := [], harness := (true, "3a1a58edeae3841482044bf1fd15f4325d97a10bc662d861fd81300f1544f5b9"), looks := false }, kinds := [], alts := [], laidByText := true, laidKinds := [.data, .pinned], laidTests := true, laidLooks := .later }
def FnRenamedUptoCardSaid : Prop := Claim7.holds Tryd.pinned (.plain (OpenSpec.upto fnRenamedSpec)) fnRenamedUptoCard
end Rows
end Go.Proofs.YthcnhkjiojeemaaDoor
