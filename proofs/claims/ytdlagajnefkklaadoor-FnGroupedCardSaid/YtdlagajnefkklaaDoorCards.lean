/-
  DERIVED. GIVEN WITH THE SEED: THE CARDS: each row of YtdlagajnefkklaaDoorRows.lean that lists a variable, with what it lists TIED to the program's text (the seventh form; the later family's looks); each row that meets fmt, with fmt's text TOLD by the authors' own Lean function (tested against real Go, not proved from fmt's source: count such statements apart). THE CARD IS WHAT COUNTS. Prove the row's statement (the work); the ties are given (YtdlagajnefkklaaDoorTie.lean); close each card by the builder's one call (the guide's Derived/Test/ToyasCard.lean, 'card_holds'). Laid BY PROGRAM, IN A SANDBOX (cutbox-door.mjs). By AI agents, Wed Nov 11 2026. No macro, syntax, notation, axiom, sorry.
-/
import Derived.Test.YtdlagajnefkklaaDoorRows
import GoSem.ClaimSeven
namespace Go.Proofs.YtdlagajnefkklaaDoor
namespace Rows

/-- THE TIED CARD OF 'laws.FnExactUngroupWord'. -/
def fnExactUngroupWordCard : Claim7 := { stood := { row := fnExactUngroupWordRow, standIns := [], harness := (true, "6875995769e954d08879744948d700f5a9ca8ff82e4ac61f788b6f4e05adc289"), looks := false }, kinds := [], alts := [], laidByText := true, laidKinds := [.data, .pinned], laidTests := true, laidLooks := .later }
def FnExactUngroupWordCardSaid : Prop := Claim7.holds Tryd.pinned (.plain (OpenSpec.ofChange fnExactUngroupWordSpec)) fnExactUngroupWordCard

/-- THE TIED CARD OF 'laws.FnGrouped'. -/
def fnGroupedCard : Claim7 := { stood := { row := fnGroupedRow, standIns := [], harness := (true, "6875995769e954d08879744948d700f5a9ca8ff82e4ac61f788b6f4e05adc289"), looks := false }, kinds := [], alts := [], laidByText := true, laidKinds := [.data, .pinned], laidTests := true, laidLooks := .later }
def FnGroupedCardSaid : Prop := Claim7.holds Tryd.pinned (.plain (OpenSpec.ofChange fnGroupedSpec)) fnGroupedCard

/-- THE TIED CARD OF 'laws.FnExactHearNumber'. -/
def fnExactHearNumberCard : Claim7 := { stood := { row := fnExactHearNumberRow, standIns := [], harness := (true, "6875995769e954d08879744948d700f5a9ca8ff82e4ac61f788b6f4e05adc289"), looks := false }, kinds := [], alts := [], laidByText := true, laidKinds := [.data, .pinned], laidTests := true, laidLooks := .later }
def FnExactHearNumberCardSaid : Prop := Claim7.holds Tryd.pinned (.plain (OpenSpec.ofChange fnExactHearNumberSpec)) fnExactHearNumberCard

/-- THE TIED CARD OF 'laws.FnSpoken'. -/
def fnSpokenCard : Claim7 := { stood := { row := fnSpokenRow, standIns := [], harness := (true, "6875995769e954d08879744948d700f5a9ca8ff82e4ac61f788b6f4e05adc289"), looks := false }, kinds := [], alts := [], laidByText := true, laidKinds := [.data, .pinned], laidTests := true, laidLooks := .later }
def FnSpokenCardSaid : Prop := Claim7.holds Tryd.pinned (.plain (OpenSpec.ofChange fnSpokenSpec)) fnSpokenCard

/-- THE SECOND FORM's CARD OF 'laws.FnExactUngroupWord'. -/
def fnExactUngroupWordUptoCard : Claim7 := { stood := { row := fnExactUngroupWordUptoRow, standIns := [], harness := (true, "6875995769e954d08879744948d700f5a9ca8ff82e4ac61f788b6f4e05adc289"), looks := false }, kinds := [], alts := [], laidByText := true, laidKinds := [.data, .pinned], laidTests := true, laidLooks := .later }
def FnExactUngroupWordUptoCardSaid : Prop := Claim7.holds Tryd.pinned (.plain (OpenSpec.upto fnExactUngroupWordSpec)) fnExactUngroupWordUptoCard

/-- THE SECOND FORM's CARD OF 'laws.FnGrouped'. -/
def fnGroupedUptoCard : Claim7 := { stood := { row := fnGroupedUptoRow, standIns := [], harness := (true, "6875995769e954d08879744948d700f5a9ca8ff82e4ac61f788b6f4e05adc289"), looks := false }, kinds := [], alts := [], laidByText := true, laidKinds := [.data, .pinned], laidTests := true, laidLooks := .later }
def FnGroupedUptoCardSaid : Prop := Claim7.holds Tryd.pinned (.plain (OpenSpec.upto fnGroupedSpec)) fnGroupedUptoCard

/-- THE SECOND FORM's CARD OF 'laws.FnExactHearNumber'. -/
def fnExactHearNumberUptoCard : Claim7 := { stood := { row := fnExactHearNumberUptoRow, standIns := [], harness := (true, "6875995769e954d08879744948d700f5a9ca8ff82e4ac61f788b6f4e05adc289"), looks := false }, kinds := [], alts := [], laidByText := true, laidKinds := [.data, .pinned], laidTests := true, laidLooks := .later }
def FnExactHearNumberUptoCardSaid : Prop := Claim7.holds Tryd.pinned (.plain (OpenSpec.upto fnExactHearNumberSpec)) fnExactHearNumberUptoCard

/-- THE SECOND FORM's CARD OF 'laws.FnSpoken'. -/
def fnSpokenUptoCard : Claim7 := { stood := { row := fnSpokenUptoRow, standIns := [], harness := (true, "6875995769e954d08879744948d700f5a9ca8ff82e4ac61f788b6f4e05adc289"), looks := false }, kinds := [], alts := [], laidByText := true, laidKinds := [.data, .pinned], laidTests := true, laidLooks := .later }
def FnSpokenUptoCardSaid : Prop := Claim7.holds Tryd.pinned (.plain (OpenSpec.upto fnSpokenSpec)) fnSpokenUptoCard
end Rows
end Go.Proofs.YtdlagajnefkklaaDoor
