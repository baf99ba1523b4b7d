/-
  DERIVED. GIVEN WITH THE SEED: THE CARDS: each row of YtpldhempbdionaaGreatDoorRows.lean that lists a variable, with what it lists TIED to the program's text (the seventh form; the later family's looks); each row that meets fmt, with fmt's text TOLD by the authors' own Lean function (tested against real Go, not proved from fmt's source: count such statements apart). THE CARD IS WHAT COUNTS. Prove the row's statement (the work); the ties are given (YtpldhempbdionaaGreatDoorTie.lean); close each card by the builder's one call (the guide's Derived/Test/ToyasCard.lean, 'card_holds'). Laid BY PROGRAM, IN A SANDBOX (cutbox-door.mjs). By AI agents, Wed Nov 11 2026. No macro, syntax, notation, axiom, sorry.
-/
import Derived.Test.YtpldhempbdionaaGreatDoorRows
import GoSem.ClaimSeven
namespace Go.Proofs.YtpldhempbdionaaGreatDoor
namespace Rows

/-- THE TIED CARD OF 'pandectlaw18.CodeTree'. -/
def codeTreeCard : Claim7 := { stood := { row := codeTreeRow, standIns := [], harness := (true, "37e9ca0216be0ac3c41f735ef2efcec1f2ee170eae3d6ac65f29b81acaee705a"), looks := true }, kinds := [], alts := [], laidByText := true, laidKinds := [.data, .data, .data, .data, .pinned], laidTests := true, laidLooks := .later }
def CodeTreeCardSaid : Prop := Claim7.holds Tryz.pinned (.plain (OpenSpec.ofChange codeTreeSpec)) codeTreeCard

/-- THE TIED CARD OF 'pandectlaw18.CodeDigests'. -/
def codeDigestsCard : Claim7 := { stood := { row := codeDigestsRow, standIns := [], harness := (true, "37e9ca0216be0ac3c41f735ef2efcec1f2ee170eae3d6ac65f29b81acaee705a"), looks := true }, kinds := [], alts := [], laidByText := true, laidKinds := [.data, .data, .data, .data, .pinned], laidTests := true, laidLooks := .later }
def CodeDigestsCardSaid : Prop := Claim7.holds Tryz.pinned (.plain (OpenSpec.ofChange codeDigestsSpec)) codeDigestsCard

/-- THE TIED CARD OF 'pandectlaw18.CodeLeaves'. -/
def codeLeavesCard : Claim7 := { stood := { row := codeLeavesRow, standIns := [], harness := (true, "37e9ca0216be0ac3c41f735ef2efcec1f2ee170eae3d6ac65f29b81acaee705a"), looks := true }, kinds := [], alts := [], laidByText := true, laidKinds := [.data, .data, .data, .data, .pinned], laidTests := true, laidLooks := .later }
def CodeLeavesCardSaid : Prop := Claim7.holds Tryz.pinned (.plain (OpenSpec.ofChange codeLeavesSpec)) codeLeavesCard

/-- THE TIED CARD OF 'pandectlaw18.CodeBeginnings'. -/
def codeBeginningsCard : Claim7 := { stood := { row := codeBeginningsRow, standIns := [], harness := (true, "37e9ca0216be0ac3c41f735ef2efcec1f2ee170eae3d6ac65f29b81acaee705a"), looks := true }, kinds := [], alts := [], laidByText := true, laidKinds := [.data, .data, .data, .data, .pinned], laidTests := true, laidLooks := .later }
def CodeBeginningsCardSaid : Prop := Claim7.holds Tryz.pinned (.plain (OpenSpec.ofChange codeBeginningsSpec)) codeBeginningsCard

/-- THE TIED CARD OF 'pandectlaw18.CodeMatchesReference'. -/
def codeMatchesReferenceCard : Claim7 := { stood := { row := codeMatchesReferenceRow, standIns := [], harness := (true, "37e9ca0216be0ac3c41f735ef2efcec1f2ee170eae3d6ac65f29b81acaee705a"), looks := true }, kinds := [], alts := [], laidByText := true, laidKinds := [.data, .data, .data, .data, .pinned], laidTests := true, laidLooks := .later }
def CodeMatchesReferenceCardSaid : Prop := Claim7.holds Tryz.pinned (.plain (OpenSpec.ofChange codeMatchesReferenceSpec)) codeMatchesReferenceCard

/-- THE TIED CARD OF 'pandectlaw18.CodeTexts'. -/
def codeTextsCard : Claim7 := { stood := { row := codeTextsRow, standIns := [], harness := (true, "37e9ca0216be0ac3c41f735ef2efcec1f2ee170eae3d6ac65f29b81acaee705a"), looks := true }, kinds := [], alts := [], laidByText := true, laidKinds := [.data, .data, .data, .data, .pinned], laidTests := true, laidLooks := .later }
def CodeTextsCardSaid : Prop := Claim7.holds Tryz.pinned (.plain (OpenSpec.ofChange codeTextsSpec)) codeTextsCard

/-- THE SECOND FORM's CARD OF 'pandectlaw18.CodeTree'. -/
def codeTreeUptoCard : Claim7 := { stood := { row := codeTreeUptoRow, standIns := [], harness := (true, "37e9ca0216be0ac3c41f735ef2efcec1f2ee170eae3d6ac65f29b81acaee705a"), looks := true }, kinds := [], alts := [], laidByText := true, laidKinds := [.data, .data, .data, .data, .pinned], laidTests := true, laidLooks := .later }
def CodeTreeUptoCardSaid : Prop := Claim7.holds Tryz.pinned (.plain (OpenSpec.upto codeTreeSpec)) codeTreeUptoCard

/-- THE SECOND FORM's CARD OF 'pandectlaw18.CodeDigests'. -/
def codeDigestsUptoCard : Claim7 := { stood := { row := codeDigestsUptoRow, standIns := [], harness := (true, "37e9ca0216be0ac3c41f735ef2efcec1f2ee170eae3d6ac65f29b81acaee705a"), looks := true }, kinds := [], alts := [], laidByText := true, laidKinds := [.data, .data, .data, .data, .pinned], laidTests := true, laidLooks := .later }
def CodeDigestsUptoCardSaid : Prop := Claim7.holds Tryz.pinned (.plain (OpenSpec.upto codeDigestsSpec)) codeDigestsUptoCard

/-- THE SECOND FORM's CARD OF 'pandectlaw18.CodeLeaves'. -/
def codeLeavesUptoCard : Claim7 := { stood := { row := codeLeavesUptoRow, standIns := [], harness := (true, "37e9ca0216be0ac3c41f735ef2efcec1f2ee170eae3d6ac65f29b81acaee705a"), looks := true }, kinds := [], alts := [], laidByText := true, laidKinds := [.data, .data, .data, .data, .pinned], laidTests := true, laidLooks := .later }
def CodeLeavesUptoCardSaid : Prop := Claim7.holds Tryz.pinned (.plain (OpenSpec.upto codeLeavesSpec)) codeLeavesUptoCard

/-- THE SECOND FORM's CARD OF 'pandectlaw18.CodeBeginnings'. -/
def codeBeginningsUptoCard : Claim7 := { stood := { row := codeBeginningsUptoRow, standIns := [], harness := (true, "37e9ca0216be0ac3c41f735ef2efcec1f2ee170eae3d6ac65f29b81acaee705a"), looks := true }, kinds := [], alts := [], laidByText := true, laidKinds := [.data, .data, .data, .data, .pinned], laidTests := true, laidLooks := .later }
def CodeBeginningsUptoCardSaid : Prop := Claim7.holds Tryz.pinned (.plain (OpenSpec.upto codeBeginningsSpec)) codeBeginningsUptoCard

/-- THE SECOND FORM's CARD OF 'pandectlaw18.CodeMatchesReference'. -/
def codeMatchesReferenceUptoCard : Claim7 := { stood := { row := codeMatchesReferenceUptoRow, standIns := [], harness := (true, "37e9ca0216be0ac3c41f735ef2efcec1f2ee170eae3d6ac65f29b81acaee705a"), looks := true }, kinds := [], alts := [], laidByText := true, laidKinds := [.data, .data, .data, .data, .pinned], laidTests := true, laidLooks := .later }
def CodeMatchesReferenceUptoCardSaid : Prop := Claim7.holds Tryz.pinned (.plain (OpenSpec.upto codeMatchesReferenceSpec)) codeMatchesReferenceUptoCard

/-- THE SECOND FORM's CARD OF 'pandectlaw18.CodeTexts'. -/
def codeTextsUptoCard : Claim7 := { stood := { row := codeTextsUptoRow, standIns := [], harness := (true, "37e9ca0216be0ac3c41f735ef2efcec1f2ee170eae3d6ac65f29b81acaee705a"), looks := true }, kinds := [], alts := [], laidByText := true, laidKinds := [.data, .data, .data, .data, .pinned], laidTests := true, laidLooks := .later }
def CodeTextsUptoCardSaid : Prop := Claim7.holds Tryz.pinned (.plain (OpenSpec.upto codeTextsSpec)) codeTextsUptoCard
end Rows
end Go.Proofs.YtpldhempbdionaaGreatDoor
