/-
  DERIVED. GIVEN WITH THE SEED: THE CARDS: each row of YtobhpeockinnjaaGreatDoorRows.lean that lists a variable, with what it lists TIED to the program's text (the seventh form; the later family's looks); each row that meets fmt, with fmt's text TOLD by the authors' own Lean function (tested against real Go, not proved from fmt's source: count such statements apart). THE CARD IS WHAT COUNTS. Prove the row's statement (the work); the ties are given (YtobhpeockinnjaaGreatDoorTie.lean); close each card by the builder's one call (the guide's Derived/Test/ToyasCard.lean, 'card_holds'). Laid BY PROGRAM, IN A SANDBOX (cutbox-door.mjs). By AI agents, Wed Nov 11 2026. No macro, syntax, notation, axiom, sorry.
-/
import Derived.Test.YtobhpeockinnjaaGreatDoorRows
import GoSem.ClaimSeven
namespace Go.Proofs.YtobhpeockinnjaaGreatDoor
namespace Rows

/-- THE TIED CARD OF 'pandectlaw44.ProofMatchesReference'. -/
def proofMatchesReferenceCard : Claim7 := { stood := { row := proofMatchesReferenceRow, standIns := [], harness := (true, "07681eff307af4d2040d33b07f7f2274401ee17601c517c958a5c47c1f939458"), looks := false }, kinds := [], alts := [], laidByText := true, laidKinds := [.data, .data, .data, .data, .pinned], laidTests := true, laidLooks := .later }
def ProofMatchesReferenceCardSaid : Prop := Claim7.holds Tryz.pinned (.plain (OpenSpec.ofChange proofMatchesReferenceSpec)) proofMatchesReferenceCard

/-- THE TIED CARD OF 'pandectlaw44.ProofComplete'. -/
def proofCompleteCard : Claim7 := { stood := { row := proofCompleteRow, standIns := [], harness := (true, "07681eff307af4d2040d33b07f7f2274401ee17601c517c958a5c47c1f939458"), looks := false }, kinds := [], alts := [], laidByText := true, laidKinds := [.data, .data, .data, .data, .pinned], laidTests := true, laidLooks := .later }
def ProofCompleteCardSaid : Prop := Claim7.holds Tryz.pinned (.plain (OpenSpec.ofChange proofCompleteSpec)) proofCompleteCard

/-- THE TIED CARD OF 'pandectlaw44.ProofSound'. -/
def proofSoundCard : Claim7 := { stood := { row := proofSoundRow, standIns := [], harness := (true, "07681eff307af4d2040d33b07f7f2274401ee17601c517c958a5c47c1f939458"), looks := false }, kinds := [], alts := [], laidByText := true, laidKinds := [.data, .data, .data, .data, .pinned], laidTests := true, laidLooks := .later }
def ProofSoundCardSaid : Prop := Claim7.holds Tryz.pinned (.plain (OpenSpec.ofChange proofSoundSpec)) proofSoundCard

/-- THE TIED CARD OF 'pandectlaw44.ProofPublished'. -/
def proofPublishedCard : Claim7 := { stood := { row := proofPublishedRow, standIns := [], harness := (true, "07681eff307af4d2040d33b07f7f2274401ee17601c517c958a5c47c1f939458"), looks := false }, kinds := [], alts := [], laidByText := true, laidKinds := [.data, .data, .data, .data, .pinned], laidTests := true, laidLooks := .later }
def ProofPublishedCardSaid : Prop := Claim7.holds Tryz.pinned (.plain (OpenSpec.ofChange proofPublishedSpec)) proofPublishedCard

/-- THE TIED CARD OF 'pandectlaw44.ProofSigned'. -/
def proofSignedCard : Claim7 := { stood := { row := proofSignedRow, standIns := [], harness := (true, "07681eff307af4d2040d33b07f7f2274401ee17601c517c958a5c47c1f939458"), looks := false }, kinds := [], alts := [], laidByText := true, laidKinds := [.data, .data, .data, .data, .pinned], laidTests := true, laidLooks := .later }
def ProofSignedCardSaid : Prop := Claim7.holds Tryz.pinned (.plain (OpenSpec.ofChange proofSignedSpec)) proofSignedCard

/-- THE TIED CARD OF 'pandectlaw44.ProofOrders'. -/
def proofOrdersCard : Claim7 := { stood := { row := proofOrdersRow, standIns := [], harness := (true, "07681eff307af4d2040d33b07f7f2274401ee17601c517c958a5c47c1f939458"), looks := false }, kinds := [], alts := [], laidByText := true, laidKinds := [.data, .data, .data, .data, .pinned], laidTests := true, laidLooks := .later }
def ProofOrdersCardSaid : Prop := Claim7.holds Tryz.pinned (.plain (OpenSpec.ofChange proofOrdersSpec)) proofOrdersCard

/-- THE TIED CARD OF 'pandectlaw44.ProofOthers'. -/
def proofOthersCard : Claim7 := { stood := { row := proofOthersRow, standIns := [], harness := (true, "07681eff307af4d2040d33b07f7f2274401ee17601c517c958a5c47c1f939458"), looks := false }, kinds := [], alts := [], laidByText := true, laidKinds := [.data, .data, .data, .data, .pinned], laidTests := true, laidLooks := .later }
def ProofOthersCardSaid : Prop := Claim7.holds Tryz.pinned (.plain (OpenSpec.ofChange proofOthersSpec)) proofOthersCard

/-- THE SECOND FORM's CARD OF 'pandectlaw44.ProofMatchesReference'. -/
def proofMatchesReferenceUptoCard : Claim7 := { stood := { row := proofMatchesReferenceUptoRow, standIns := [], harness := (true, "07681eff307af4d2040d33b07f7f2274401ee17601c517c958a5c47c1f939458"), looks := false }, kinds := [], alts := [], laidByText := true, laidKinds := [.data, .data, .data, .data, .pinned], laidTests := true, laidLooks := .later }
def ProofMatchesReferenceUptoCardSaid : Prop := Claim7.holds Tryz.pinned (.plain (OpenSpec.upto proofMatchesReferenceSpec)) proofMatchesReferenceUptoCard

/-- THE SECOND FORM's CARD OF 'pandectlaw44.ProofComplete'. -/
def proofCompleteUptoCard : Claim7 := { stood := { row := proofCompleteUptoRow, standIns := [], harness := (true, "07681eff307af4d2040d33b07f7f2274401ee17601c517c958a5c47c1f939458"), looks := false }, kinds := [], alts := [], laidByText := true, laidKinds := [.data, .data, .data, .data, .pinned], laidTests := true, laidLooks := .later }
def ProofCompleteUptoCardSaid : Prop := Claim7.holds Tryz.pinned (.plain (OpenSpec.upto proofCompleteSpec)) proofCompleteUptoCard

/-- THE SECOND FORM's CARD OF 'pandectlaw44.ProofSound'. -/
def proofSoundUptoCard : Claim7 := { stood := { row := proofSoundUptoRow, standIns := [], harness := (true, "07681eff307af4d2040d33b07f7f2274401ee17601c517c958a5c47c1f939458"), looks := false }, kinds := [], alts := [], laidByText := true, laidKinds := [.data, .data, .data, .data, .pinned], laidTests := true, laidLooks := .later }
def ProofSoundUptoCardSaid : Prop := Claim7.holds Tryz.pinned (.plain (OpenSpec.upto proofSoundSpec)) proofSoundUptoCard

/-- THE SECOND FORM's CARD OF 'pandectlaw44.ProofPublished'. -/
def proofPublishedUptoCard : Claim7 := { stood := { row := proofPublishedUptoRow, standIns := [], harness := (true, "07681eff307af4d2040d33b07f7f2274401ee17601c517c958a5c47c1f939458"), looks := false }, kinds := [], alts := [], laidByText := true, laidKinds := [.data, .data, .data, .data, .pinned], laidTests := true, laidLooks := .later }
def ProofPublishedUptoCardSaid : Prop := Claim7.holds Tryz.pinned (.plain (OpenSpec.upto proofPublishedSpec)) proofPublishedUptoCard

/-- THE SECOND FORM's CARD OF 'pandectlaw44.ProofSigned'. -/
def proofSignedUptoCard : Claim7 := { stood := { row := proofSignedUptoRow, standIns := [], harness := (true, "07681eff307af4d2040d33b07f7f2274401ee17601c517c958a5c47c1f939458"), looks := false }, kinds := [], alts := [], laidByText := true, laidKinds := [.data, .data, .data, .data, .pinned], laidTests := true, laidLooks := .later }
def ProofSignedUptoCardSaid : Prop := Claim7.holds Tryz.pinned (.plain (OpenSpec.upto proofSignedSpec)) proofSignedUptoCard

/-- THE SECOND FORM's CARD OF 'pandectlaw44.ProofOrders'. -/
def proofOrdersUptoCard : Claim7 := { stood := { row := proofOrdersUptoRow, standIns := [], harness := (true, "07681eff307af4d2040d33b07f7f2274401ee17601c517c958a5c47c1f939458"), looks := false }, kinds := [], alts := [], laidByText := true, laidKinds := [.data, .data, .data, .data, .pinned], laidTests := true, laidLooks := .later }
def ProofOrdersUptoCardSaid : Prop := Claim7.holds Tryz.pinned (.plain (OpenSpec.upto proofOrdersSpec)) proofOrdersUptoCard

/-- THE SECOND FORM's CARD OF 'pandectlaw44.ProofOthers'. -/
def proofOthersUptoCard : Claim7 := { stood := { row := proofOthersUptoRow, standIns := [], harness := (true, "07681eff307af4d2040d33b07f7f2274401ee17601c517c958a5c47c1f939458"), looks := false }, kinds := [], alts := [], laidByText := true, laidKinds := [.data, .data, .data, .data, .pinned], laidTests := true, laidLooks := .later }
def ProofOthersUptoCardSaid : Prop := Claim7.holds Tryz.pinned (.plain (OpenSpec.upto proofOthersSpec)) proofOthersUptoCard
end Rows
end Go.Proofs.YtobhpeockinnjaaGreatDoor
