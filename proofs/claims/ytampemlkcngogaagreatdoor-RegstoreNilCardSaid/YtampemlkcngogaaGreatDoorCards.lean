/-
  DERIVED. GIVEN WITH THE SEED: THE CARDS: each row of YtampemlkcngogaaGreatDoorRows.lean that lists a variable, with what it lists TIED to the program's text (the seventh form; the later family's looks); each row that meets fmt, with fmt's text TOLD by the authors' own Lean function (tested against real Go, not proved from fmt's source: count such statements apart). THE CARD IS WHAT COUNTS. Prove the row's statement (the work); the ties are given (YtampemlkcngogaaGreatDoorTie.lean); close each card by the builder's one call (the guide's Derived/Test/ToyasCard.lean, 'card_holds'). Laid BY PROGRAM, IN A SANDBOX (cutbox-door.mjs). By AI agents, Wed Nov 11 2026. No macro, syntax, notation, axiom, sorry.
-/
import Derived.Test.YtampemlkcngogaaGreatDoorRows
import GoSem.ClaimSeven
namespace Go.Proofs.YtampemlkcngogaaGreatDoor
namespace Rows

/-- THE TIED CARD OF 'wharflaw22.RegstoreSpoilt'. -/
def regstoreSpoiltCard : Claim7 := { stood := { row := regstoreSpoiltRow, standIns := [], harness := (true, "2ac69c1de50ded9a082f43519aafe645ceccfc7ae250d1b6d2d8a9c7e4c1a6c7"), looks := false }, kinds := [], alts := [], laidByText := true, laidKinds := [.data, .pinned], laidTests := true, laidLooks := .later }
def RegstoreSpoiltCardSaid : Prop := Claim7.holds Tryz.pinned (.plain (OpenSpec.ofChange regstoreSpoiltSpec)) regstoreSpoiltCard

/-- THE TIED CARD OF 'wharflaw22.RegstoreNil'. -/
def regstoreNilCard : Claim7 := { stood := { row := regstoreNilRow, standIns := [], harness := (true, "2ac69c1de50ded9a082f43519aafe645ceccfc7ae250d1b6d2d8a9c7e4c1a6c7"), looks := false }, kinds := [], alts := [], laidByText := true, laidKinds := [.data, .pinned], laidTests := true, laidLooks := .later }
def RegstoreNilCardSaid : Prop := Claim7.holds Tryz.pinned (.plain (OpenSpec.ofChange regstoreNilSpec)) regstoreNilCard

/-- THE TIED CARD OF 'wharflaw22.RegstoreAgain'. -/
def regstoreAgainCard : Claim7 := { stood := { row := regstoreAgainRow, standIns := [], harness := (true, "2ac69c1de50ded9a082f43519aafe645ceccfc7ae250d1b6d2d8a9c7e4c1a6c7"), looks := false }, kinds := [], alts := [], laidByText := true, laidKinds := [.data, .pinned], laidTests := true, laidLooks := .later }
def RegstoreAgainCardSaid : Prop := Claim7.holds Tryz.pinned (.plain (OpenSpec.ofChange regstoreAgainSpec)) regstoreAgainCard

/-- THE TIED CARD OF 'wharflaw22.RegstoreRuns'. -/
def regstoreRunsCard : Claim7 := { stood := { row := regstoreRunsRow, standIns := [], harness := (true, "2ac69c1de50ded9a082f43519aafe645ceccfc7ae250d1b6d2d8a9c7e4c1a6c7"), looks := false }, kinds := [], alts := [], laidByText := true, laidKinds := [.data, .pinned], laidTests := true, laidLooks := .later }
def RegstoreRunsCardSaid : Prop := Claim7.holds Tryz.pinned (.plain (OpenSpec.ofChange regstoreRunsSpec)) regstoreRunsCard

/-- THE TIED CARD OF 'wharflaw22.RegstoreLasts'. -/
def regstoreLastsCard : Claim7 := { stood := { row := regstoreLastsRow, standIns := [], harness := (true, "2ac69c1de50ded9a082f43519aafe645ceccfc7ae250d1b6d2d8a9c7e4c1a6c7"), looks := false }, kinds := [], alts := [], laidByText := true, laidKinds := [.data, .pinned], laidTests := true, laidLooks := .later }
def RegstoreLastsCardSaid : Prop := Claim7.holds Tryz.pinned (.plain (OpenSpec.ofChange regstoreLastsSpec)) regstoreLastsCard

/-- THE SECOND FORM's CARD OF 'wharflaw22.RegstoreSpoilt'. -/
def regstoreSpoiltUptoCard : Claim7 := { stood := { row := regstoreSpoiltUptoRow, standIns := [], harness := (true, "2ac69c1de50ded9a082f43519aafe645ceccfc7ae250d1b6d2d8a9c7e4c1a6c7"), looks := false }, kinds := [], alts := [], laidByText := true, laidKinds := [.data, .pinned], laidTests := true, laidLooks := .later }
def RegstoreSpoiltUptoCardSaid : Prop := Claim7.holds Tryz.pinned (.plain (OpenSpec.upto regstoreSpoiltSpec)) regstoreSpoiltUptoCard

/-- THE SECOND FORM's CARD OF 'wharflaw22.RegstoreNil'. -/
def regstoreNilUptoCard : Claim7 := { stood := { row := regstoreNilUptoRow, standIns := [], harness := (true, "2ac69c1de50ded9a082f43519aafe645ceccfc7ae250d1b6d2d8a9c7e4c1a6c7"), looks := false }, kinds := [], alts := [], laidByText := true, laidKinds := [.data, .pinned], laidTests := true, laidLooks := .later }
def RegstoreNilUptoCardSaid : Prop := Claim7.holds Tryz.pinned (.plain (OpenSpec.upto regstoreNilSpec)) regstoreNilUptoCard

/-- THE SECOND FORM's CARD OF 'wharflaw22.RegstoreAgain'. -/
def regstoreAgainUptoCard : Claim7 := { stood := { row := regstoreAgainUptoRow, standIns := [], harness := (true, "2ac69c1de50ded9a082f43519aafe645ceccfc7ae250d1b6d2d8a9c7e4c1a6c7"), looks := false }, kinds := [], alts := [], laidByText := true, laidKinds := [.data, .pinned], laidTests := true, laidLooks := .later }
def RegstoreAgainUptoCardSaid : Prop := Claim7.holds Tryz.pinned (.plain (OpenSpec.upto regstoreAgainSpec)) regstoreAgainUptoCard

/-- THE SECOND FORM's CARD OF 'wharflaw22.RegstoreRuns'. -/
def regstoreRunsUptoCard : Claim7 := { stood := { row := regstoreRunsUptoRow, standIns := [], harness := (true, "2ac69c1de50ded9a082f43519aafe645ceccfc7ae250d1b6d2d8a9c7e4c1a6c7"), looks := false }, kinds := [], alts := [], laidByText := true, laidKinds := [.data, .pinned], laidTests := true, laidLooks := .later }
def RegstoreRunsUptoCardSaid : Prop := Claim7.holds Tryz.pinned (.plain (OpenSpec.upto regstoreRunsSpec)) regstoreRunsUptoCard

/-- THE SECOND FORM's CARD OF 'wharflaw22.RegstoreLasts'. -/
def regstoreLastsUptoCard : Claim7 := { stood := { row := regstoreLastsUptoRow, standIns := [], harness := (true, "2ac69c1de50ded9a082f43519aafe645ceccfc7ae250d1b6d2d8a9c7e4c1a6c7"), looks := false }, kinds := [], alts := [], laidByText := true, laidKinds := [.data, .pinned], laidTests := true, laidLooks := .later }
def RegstoreLastsUptoCardSaid : Prop := Claim7.holds Tryz.pinned (.plain (OpenSpec.upto regstoreLastsSpec)) regstoreLastsUptoCard
end Rows
end Go.Proofs.YtampemlkcngogaaGreatDoor
