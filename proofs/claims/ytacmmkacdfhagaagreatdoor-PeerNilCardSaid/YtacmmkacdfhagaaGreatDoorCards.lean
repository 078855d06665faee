/-
  DERIVED. GIVEN WITH THE SEED: THE CARDS: each row of YtacmmkacdfhagaaGreatDoorRows.lean that lists a variable, with what it lists TIED to the program's text (the seventh form; the later family's looks); each row that meets fmt, with fmt's text TOLD by the authors' own Lean function (tested against real Go, not proved from fmt's source: count such statements apart). THE CARD IS WHAT COUNTS. Prove the row's statement (the work); the ties are given (YtacmmkacdfhagaaGreatDoorTie.lean); close each card by the builder's one call (the guide's Derived/Test/ToyasCard.lean, 'card_holds'). Laid BY PROGRAM, IN A SANDBOX (cutbox-door.mjs). By AI agents, Wed Nov 11 2026. No macro, syntax, notation, axiom, sorry.
-/
import Derived.Test.YtacmmkacdfhagaaGreatDoorRows
import GoSem.ClaimSeven
namespace Go.Proofs.YtacmmkacdfhagaaGreatDoor
namespace Rows

/-- THE TIED CARD OF 'wharflaw26.PeerLets'. -/
def peerLetsCard : Claim7 := { stood := { row := peerLetsRow, standIns := [], harness := (true, "ca1ead2aa0d6591900e5bf309ef964e95674fd115e5d7e9b7d0a168b7a54c45e"), looks := false }, kinds := [], alts := [], laidByText := true, laidKinds := [.data, .pinned], laidTests := true, laidLooks := .later }
def PeerLetsCardSaid : Prop := Claim7.holds Tryz.pinned (.plain (OpenSpec.ofChange peerLetsSpec)) peerLetsCard

/-- THE TIED CARD OF 'wharflaw26.PeerLists'. -/
def peerListsCard : Claim7 := { stood := { row := peerListsRow, standIns := [], harness := (true, "ca1ead2aa0d6591900e5bf309ef964e95674fd115e5d7e9b7d0a168b7a54c45e"), looks := false }, kinds := [], alts := [], laidByText := true, laidKinds := [.data, .pinned], laidTests := true, laidLooks := .later }
def PeerListsCardSaid : Prop := Claim7.holds Tryz.pinned (.plain (OpenSpec.ofChange peerListsSpec)) peerListsCard

/-- THE TIED CARD OF 'wharflaw26.PeerNil'. -/
def peerNilCard : Claim7 := { stood := { row := peerNilRow, standIns := [], harness := (true, "ca1ead2aa0d6591900e5bf309ef964e95674fd115e5d7e9b7d0a168b7a54c45e"), looks := false }, kinds := [], alts := [], laidByText := true, laidKinds := [.data, .pinned], laidTests := true, laidLooks := .later }
def PeerNilCardSaid : Prop := Claim7.holds Tryz.pinned (.plain (OpenSpec.ofChange peerNilSpec)) peerNilCard

/-- THE TIED CARD OF 'wharflaw26.PeerMeets'. -/
def peerMeetsCard : Claim7 := { stood := { row := peerMeetsRow, standIns := [], harness := (true, "ca1ead2aa0d6591900e5bf309ef964e95674fd115e5d7e9b7d0a168b7a54c45e"), looks := false }, kinds := [], alts := [], laidByText := true, laidKinds := [.data, .pinned], laidTests := true, laidLooks := .later }
def PeerMeetsCardSaid : Prop := Claim7.holds Tryz.pinned (.plain (OpenSpec.ofChange peerMeetsSpec)) peerMeetsCard

/-- THE TIED CARD OF 'wharflaw26.PeerFrames'. -/
def peerFramesCard : Claim7 := { stood := { row := peerFramesRow, standIns := [], harness := (true, "ca1ead2aa0d6591900e5bf309ef964e95674fd115e5d7e9b7d0a168b7a54c45e"), looks := false }, kinds := [], alts := [], laidByText := true, laidKinds := [.data, .pinned], laidTests := true, laidLooks := .later }
def PeerFramesCardSaid : Prop := Claim7.holds Tryz.pinned (.plain (OpenSpec.ofChange peerFramesSpec)) peerFramesCard

/-- THE SECOND FORM's CARD OF 'wharflaw26.PeerLets'. -/
def peerLetsUptoCard : Claim7 := { stood := { row := peerLetsUptoRow, standIns := [], harness := (true, "ca1ead2aa0d6591900e5bf309ef964e95674fd115e5d7e9b7d0a168b7a54c45e"), looks := false }, kinds := [], alts := [], laidByText := true, laidKinds := [.data, .pinned], laidTests := true, laidLooks := .later }
def PeerLetsUptoCardSaid : Prop := Claim7.holds Tryz.pinned (.plain (OpenSpec.upto peerLetsSpec)) peerLetsUptoCard

/-- THE SECOND FORM's CARD OF 'wharflaw26.PeerLists'. -/
def peerListsUptoCard : Claim7 := { stood := { row := peerListsUptoRow, standIns := [], harness := (true, "ca1ead2aa0d6591900e5bf309ef964e95674fd115e5d7e9b7d0a168b7a54c45e"), looks := false }, kinds := [], alts := [], laidByText := true, laidKinds := [.data, .pinned], laidTests := true, laidLooks := .later }
def PeerListsUptoCardSaid : Prop := Claim7.holds Tryz.pinned (.plain (OpenSpec.upto peerListsSpec)) peerListsUptoCard

/-- THE SECOND FORM's CARD OF 'wharflaw26.PeerNil'. -/
def peerNilUptoCard : Claim7 := { stood := { row := peerNilUptoRow, standIns := [], harness := (true, "ca1ead2aa0d6591900e5bf309ef964e95674fd115e5d7e9b7d0a168b7a54c45e"), looks := false }, kinds := [], alts := [], laidByText := true, laidKinds := [.data, .pinned], laidTests := true, laidLooks := .later }
def PeerNilUptoCardSaid : Prop := Claim7.holds Tryz.pinned (.plain (OpenSpec.upto peerNilSpec)) peerNilUptoCard

/-- THE SECOND FORM's CARD OF 'wharflaw26.PeerMeets'. -/
def peerMeetsUptoCard : Claim7 := { stood := { row := peerMeetsUptoRow, standIns := [], harness := (true, "ca1ead2aa0d6591900e5bf309ef964e95674fd115e5d7e9b7d0a168b7a54c45e"), looks := false }, kinds := [], alts := [], laidByText := true, laidKinds := [.data, .pinned], laidTests := true, laidLooks := .later }
def PeerMeetsUptoCardSaid : Prop := Claim7.holds Tryz.pinned (.plain (OpenSpec.upto peerMeetsSpec)) peerMeetsUptoCard

/-- THE SECOND FORM's CARD OF 'wharflaw26.PeerFrames'. -/
def peerFramesUptoCard : Claim7 := { stood := { row := peerFramesUptoRow, standIns := [], harness := (true, "ca1ead2aa0d6591900e5bf309ef964e95674fd115e5d7e9b7d0a168b7a54c45e"), looks := false }, kinds := [], alts := [], laidByText := true, laidKinds := [.data, .pinned], laidTests := true, laidLooks := .later }
def PeerFramesUptoCardSaid : Prop := Claim7.holds Tryz.pinned (.plain (OpenSpec.upto peerFramesSpec)) peerFramesUptoCard
end Rows
end Go.Proofs.YtacmmkacdfhagaaGreatDoor
