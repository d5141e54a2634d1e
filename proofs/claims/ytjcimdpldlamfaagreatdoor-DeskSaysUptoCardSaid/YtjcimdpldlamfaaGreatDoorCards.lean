/-
  DERIVED. GIVEN WITH THE SEED: THE CARDS: each row of YtjcimdpldlamfaaGreatDoorRows.lean that lists a variable, with what it lists TIED to the program's text (the seventh form; the later family's looks); each row that meets fmt, with fmt's text TOLD by the authors' own Lean function (tested against real Go, not proved from fmt's source: count such statements apart). THE CARD IS WHAT COUNTS. Prove the row's statement (the work); the ties are given (YtjcimdpldlamfaaGreatDoorTie.lean); close each card by the builder's one call (the guide's Derived/Test/ToyasCard.lean, 'card_holds'). Laid BY PROGRAM, IN A SANDBOX (cutbox-door.mjs). By AI agents, Wed Nov 11 2026. No macro, syntax, notation, axiom, sorry.
-/
import Derived.Test.YtjcimdpldlamfaaGreatDoorRows
import GoSem.ClaimSeven
namespace Go.Proofs.YtjcimdpldlamfaaGreatDoor
namespace Rows

/-- THE TIED CARD OF 'timekeep.DeskCounts'. -/
def deskCountsCard : Claim7 := { stood := { row := deskCountsRow, standIns := [], harness := (true, "fb0c35a92e53e2289fb80c8aa37412ef56af4f7074c6d787e11b5b4ef8e87cb1"), looks := false }, kinds := [], alts := [], laidByText := true, laidKinds := [.data, .data, .data, .data, .pinned], laidTests := true, laidLooks := .later }
def DeskCountsCardSaid : Prop := Claim7.holds Tryz.pinned (.plain (OpenSpec.ofChange deskCountsSpec)) deskCountsCard

/-- THE TIED CARD OF 'timekeep.DeskHead'. -/
def deskHeadCard : Claim7 := { stood := { row := deskHeadRow, standIns := [], harness := (true, "fb0c35a92e53e2289fb80c8aa37412ef56af4f7074c6d787e11b5b4ef8e87cb1"), looks := false }, kinds := [], alts := [], laidByText := true, laidKinds := [.data, .data, .data, .data, .pinned], laidTests := true, laidLooks := .later }
def DeskHeadCardSaid : Prop := Claim7.holds Tryz.pinned (.plain (OpenSpec.ofChange deskHeadSpec)) deskHeadCard

/-- THE TIED CARD OF 'timelaw.DeskSays'. -/
def deskSaysCard : Claim7 := { stood := { row := deskSaysRow, standIns := [], harness := (true, "fb0c35a92e53e2289fb80c8aa37412ef56af4f7074c6d787e11b5b4ef8e87cb1"), looks := false }, kinds := [], alts := [], laidByText := true, laidKinds := [.data, .data, .data, .data, .pinned], laidTests := true, laidLooks := .later }
def DeskSaysCardSaid : Prop := Claim7.holds Tryz.pinned (.plain (OpenSpec.ofChange deskSaysSpec)) deskSaysCard

/-- THE SECOND FORM's CARD OF 'timekeep.DeskCounts'. -/
def deskCountsUptoCard : Claim7 := { stood := { row := deskCountsUptoRow, standIns := [], harness := (true, "fb0c35a92e53e2289fb80c8aa37412ef56af4f7074c6d787e11b5b4ef8e87cb1"), looks := false }, kinds := [], alts := [], laidByText := true, laidKinds := [.data, .data, .data, .data, .pinned], laidTests := true, laidLooks := .later }
def DeskCountsUptoCardSaid : Prop := Claim7.holds Tryz.pinned (.plain (OpenSpec.upto deskCountsSpec)) deskCountsUptoCard

/-- THE SECOND FORM's CARD OF 'timekeep.DeskHead'. -/
def deskHeadUptoCard : Claim7 := { stood := { row := deskHeadUptoRow, standIns := [], harness := (true, "fb0c35a92e53e2289fb80c8aa37412ef56af4f7074c6d787e11b5b4ef8e87cb1"), looks := false }, kinds := [], alts := [], laidByText := true, laidKinds := [.data, .data, .data, .data, .pinned], laidTests := true, laidLooks := .later }
def DeskHeadUptoCardSaid : Prop := Claim7.holds Tryz.pinned (.plain (OpenSpec.upto deskHeadSpec)) deskHeadUptoCard

/-- THE SECOND FORM's CARD OF 'timelaw.DeskSays'. -/
def deskSaysUptoCard : Claim7 := { stood := { row := deskSaysUptoRow, standIns := [], harness := (true, "fb0c35a92e53e2289fb80c8aa37412ef56af4f7074c6d787e11b5b4ef8e87cb1"), looks := false }, kinds := [], alts := [], laidByText := true, laidKinds := [.data, .data, .data, .data, .pinned], laidTests := true, laidLooks := .later }
def DeskSaysUptoCardSaid : Prop := Claim7.holds Tryz.pinned (.plain (OpenSpec.upto deskSaysSpec)) deskSaysUptoCard
end Rows
end Go.Proofs.YtjcimdpldlamfaaGreatDoor
