/-
  DERIVED. GIVEN WITH THE SEED: THE CARDS: each row of YtgncahnkkpjdpaaGreatDoorRows.lean that lists a variable, with what it lists TIED to the program's text (the seventh form; the later family's looks); each row that meets fmt, with fmt's text TOLD by the authors' own Lean function (tested against real Go, not proved from fmt's source: count such statements apart). THE CARD IS WHAT COUNTS. Prove the row's statement (the work); the ties are given (YtgncahnkkpjdpaaGreatDoorTie.lean); close each card by the builder's one call (the guide's Derived/Test/ToyasCard.lean, 'card_holds'). Laid BY PROGRAM, IN A SANDBOX (cutbox-door.mjs). By AI agents, Wed Nov 11 2026. No macro, syntax, notation, axiom, sorry.
-/
import Derived.Test.YtgncahnkkpjdpaaGreatDoorRows
import GoSem.ClaimSeven
namespace Go.Proofs.YtgncahnkkpjdpaaGreatDoor
namespace Rows

/-- THE TIED CARD OF 'pandectlaw39.VoteMatchesReference'. -/
def voteMatchesReferenceCard : Claim7 := { stood := { row := voteMatchesReferenceRow, standIns := [], harness := (true, "4cedda191c1dd041b5f3714dfde437385348bb9c2ef25d53221e73c43dbe3eb4"), looks := false }, kinds := [], alts := [], laidByText := true, laidKinds := [.data, .data, .data, .data, .pinned], laidTests := true, laidLooks := .later }
def VoteMatchesReferenceCardSaid : Prop := Claim7.holds Tryz.pinned (.plain (OpenSpec.ofChange voteMatchesReferenceSpec)) voteMatchesReferenceCard

/-- THE SECOND FORM's CARD OF 'pandectlaw39.VoteMatchesReference'. -/
def voteMatchesReferenceUptoCard : Claim7 := { stood := { row := voteMatchesReferenceUptoRow, standIns := [], harness := (true, "4cedda191c1dd041b5f3714dfde437385348bb9c2ef25d53221e73c43dbe3eb4"), looks := false }, kinds := [], alts := [], laidByText := true, laidKinds := [.data, .data, .data, .data, .pinned], laidTests := true, laidLooks := .later }
def VoteMatchesReferenceUptoCardSaid : Prop := Claim7.holds Tryz.pinned (.plain (OpenSpec.upto voteMatchesReferenceSpec)) voteMatchesReferenceUptoCard
end Rows
end Go.Proofs.YtgncahnkkpjdpaaGreatDoor
