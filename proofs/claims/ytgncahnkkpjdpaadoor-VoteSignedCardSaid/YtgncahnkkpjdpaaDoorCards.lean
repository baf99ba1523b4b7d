/-
  DERIVED. GIVEN WITH THE SEED: THE CARDS: each row of YtgncahnkkpjdpaaDoorRows.lean that lists a variable, with what it lists TIED to the program's text (the seventh form; the later family's looks); each row that meets fmt, with fmt's text TOLD by the authors' own Lean function (tested against real Go, not proved from fmt's source: count such statements apart). THE CARD IS WHAT COUNTS. Prove the row's statement (the work); the ties are given (YtgncahnkkpjdpaaDoorTie.lean); close each card by the builder's one call (the guide's Derived/Test/ToyasCard.lean, 'card_holds'). Laid BY PROGRAM, IN A SANDBOX (cutbox-door.mjs). By AI agents, Wed Nov 11 2026. No macro, syntax, notation, axiom, sorry.
-/
import Derived.Test.YtgncahnkkpjdpaaDoorRows
import GoSem.ClaimSeven
namespace Go.Proofs.YtgncahnkkpjdpaaDoor
namespace Rows

/-- THE TIED CARD OF 'pandectlaw39.VoteMany'. -/
def voteManyCard : Claim7 := { stood := { row := voteManyRow, standIns := [], harness := (true, "d00650ff6d9d754864ce7966ba24c6b6c3a9cb2b8b3d5d7cb715d4c2fe91dbb7"), looks := false }, kinds := [], alts := [], laidByText := true, laidKinds := [.data, .data, .data, .data, .pinned], laidTests := true, laidLooks := .later }
def VoteManyCardSaid : Prop := Claim7.holds Tryd.pinned (.plain (OpenSpec.ofChange voteManySpec)) voteManyCard

/-- THE TIED CARD OF 'pandectlaw39.VoteOnce'. -/
def voteOnceCard : Claim7 := { stood := { row := voteOnceRow, standIns := [], harness := (true, "d00650ff6d9d754864ce7966ba24c6b6c3a9cb2b8b3d5d7cb715d4c2fe91dbb7"), looks := false }, kinds := [], alts := [], laidByText := true, laidKinds := [.data, .data, .data, .data, .pinned], laidTests := true, laidLooks := .later }
def VoteOnceCardSaid : Prop := Claim7.holds Tryd.pinned (.plain (OpenSpec.ofChange voteOnceSpec)) voteOnceCard

/-- THE TIED CARD OF 'pandectlaw39.VoteOthers'. -/
def voteOthersCard : Claim7 := { stood := { row := voteOthersRow, standIns := [], harness := (true, "d00650ff6d9d754864ce7966ba24c6b6c3a9cb2b8b3d5d7cb715d4c2fe91dbb7"), looks := false }, kinds := [], alts := [], laidByText := true, laidKinds := [.data, .data, .data, .data, .pinned], laidTests := true, laidLooks := .later }
def VoteOthersCardSaid : Prop := Claim7.holds Tryd.pinned (.plain (OpenSpec.ofChange voteOthersSpec)) voteOthersCard

/-- THE TIED CARD OF 'pandectlaw39.VoteMore'. -/
def voteMoreCard : Claim7 := { stood := { row := voteMoreRow, standIns := [], harness := (true, "d00650ff6d9d754864ce7966ba24c6b6c3a9cb2b8b3d5d7cb715d4c2fe91dbb7"), looks := false }, kinds := [], alts := [], laidByText := true, laidKinds := [.data, .data, .data, .data, .pinned], laidTests := true, laidLooks := .later }
def VoteMoreCardSaid : Prop := Claim7.holds Tryd.pinned (.plain (OpenSpec.ofChange voteMoreSpec)) voteMoreCard

/-- THE TIED CARD OF 'pandectlaw39.VoteSigned'. -/
def voteSignedCard : Claim7 := { stood := { row := voteSignedRow, standIns := [], harness := (true, "d00650ff6d9d754864ce7966ba24c6b6c3a9cb2b8b3d5d7cb715d4c2fe91dbb7"), looks := false }, kinds := [], alts := [], laidByText := true, laidKinds := [.data, .data, .data, .data, .pinned], laidTests := true, laidLooks := .later }
def VoteSignedCardSaid : Prop := Claim7.holds Tryd.pinned (.plain (OpenSpec.ofChange voteSignedSpec)) voteSignedCard

/-- THE TIED CARD OF 'pandectlaw39.VoteCarries'. -/
def voteCarriesCard : Claim7 := { stood := { row := voteCarriesRow, standIns := [], harness := (true, "d00650ff6d9d754864ce7966ba24c6b6c3a9cb2b8b3d5d7cb715d4c2fe91dbb7"), looks := false }, kinds := [], alts := [], laidByText := true, laidKinds := [.data, .data, .data, .data, .pinned], laidTests := true, laidLooks := .later }
def VoteCarriesCardSaid : Prop := Claim7.holds Tryd.pinned (.plain (OpenSpec.ofChange voteCarriesSpec)) voteCarriesCard

/-- THE SECOND FORM's CARD OF 'pandectlaw39.VoteMany'. -/
def voteManyUptoCard : Claim7 := { stood := { row := voteManyUptoRow, standIns := [], harness := (true, "d00650ff6d9d754864ce7966ba24c6b6c3a9cb2b8b3d5d7cb715d4c2fe91dbb7"), looks := false }, kinds := [], alts := [], laidByText := true, laidKinds := [.data, .data, .data, .data, .pinned], laidTests := true, laidLooks := .later }
def VoteManyUptoCardSaid : Prop := Claim7.holds Tryd.pinned (.plain (OpenSpec.upto voteManySpec)) voteManyUptoCard

/-- THE SECOND FORM's CARD OF 'pandectlaw39.VoteOnce'. -/
def voteOnceUptoCard : Claim7 := { stood := { row := voteOnceUptoRow, standIns := [], harness := (true, "d00650ff6d9d754864ce7966ba24c6b6c3a9cb2b8b3d5d7cb715d4c2fe91dbb7"), looks := false }, kinds := [], alts := [], laidByText := true, laidKinds := [.data, .data, .data, .data, .pinned], laidTests := true, laidLooks := .later }
def VoteOnceUptoCardSaid : Prop := Claim7.holds Tryd.pinned (.plain (OpenSpec.upto voteOnceSpec)) voteOnceUptoCard

/-- THE SECOND FORM's CARD OF 'pandectlaw39.VoteOthers'. -/
def voteOthersUptoCard : Claim7 := { stood := { row := voteOthersUptoRow, standIns := [], harness := (true, "d00650ff6d9d754864ce7966ba24c6b6c3a9cb2b8b3d5d7cb715d4c2fe91dbb7"), looks := false }, kinds := [], alts := [], laidByText := true, laidKinds := [.data, .data, .data, .data, .pinned], laidTests := true, laidLooks := .later }
def VoteOthersUptoCardSaid : Prop := Claim7.holds Tryd.pinned (.plain (OpenSpec.upto voteOthersSpec)) voteOthersUptoCard

/-- THE SECOND FORM's CARD OF 'pandectlaw39.VoteMore'. -/
def voteMoreUptoCard : Claim7 := { stood := { row := voteMoreUptoRow, standIns := [], harness := (true, "d00650ff6d9d754864ce7966ba24c6b6c3a9cb2b8b3d5d7cb715d4c2fe91dbb7"), looks := false }, kinds := [], alts := [], laidByText := true, laidKinds := [.data, .data, .data, .data, .pinned], laidTests := true, laidLooks := .later }
def VoteMoreUptoCardSaid : Prop := Claim7.holds Tryd.pinned (.plain (OpenSpec.upto voteMoreSpec)) voteMoreUptoCard

/-- THE SECOND FORM's CARD OF 'pandectlaw39.VoteSigned'. -/
def voteSignedUptoCard : Claim7 := { stood := { row := voteSignedUptoRow, standIns := [], harness := (true, "d00650ff6d9d754864ce7966ba24c6b6c3a9cb2b8b3d5d7cb715d4c2fe91dbb7"), looks := false }, kinds := [], alts := [], laidByText := true, laidKinds := [.data, .data, .data, .data, .pinned], laidTests := true, laidLooks := .later }
def VoteSignedUptoCardSaid : Prop := Claim7.holds Tryd.pinned (.plain (OpenSpec.upto voteSignedSpec)) voteSignedUptoCard

/-- THE SECOND FORM's CARD OF 'pandectlaw39.VoteCarries'. -/
def voteCarriesUptoCard : Claim7 := { stood := { row := voteCarriesUptoRow, standIns := [], harness := (true, "d00650ff6d9d754864ce7966ba24c6b6c3a9cb2b8b3d5d7cb715d4c2fe91dbb7"), looks := false }, kinds := [], alts := [], laidByText := true, laidKinds := [.data, .data, .data, .data, .pinned], laidTests := true, laidLooks := .later }
def VoteCarriesUptoCardSaid : Prop := Claim7.holds Tryd.pinned (.plain (OpenSpec.upto voteCarriesSpec)) voteCarriesUptoCard
end Rows
end Go.Proofs.YtgncahnkkpjdpaaDoor
