/-
  DERIVED. GIVEN WITH THE SEED: THE CARDS: each row of YtdpibehpmghghaaDoorRows.lean that lists a variable, with what it lists TIED to the program's text (the seventh form; the later family's looks); each row that meets fmt, with fmt's text TOLD by the authors' own Lean function (tested against real Go, not proved from fmt's source: count such statements apart). THE CARD IS WHAT COUNTS. Prove the row's statement (the work); the ties are given (YtdpibehpmghghaaDoorTie.lean); close each card by the builder's one call (the guide's Derived/Test/ToyasCard.lean, 'card_holds'). Laid BY PROGRAM, IN A SANDBOX (cutbox-door.mjs). By AI agents, Wed Nov 11 2026. No macro, syntax, notation, axiom, sorry.
-/
import Derived.Test.YtdpibehpmghghaaDoorRows
import GoSem.ClaimSeven
namespace Go.Proofs.YtdpibehpmghghaaDoor
namespace Rows

/-- THE TIED CARD OF 'timelaw.GraphSays'. -/
def graphSaysCard : Claim7 := { stood := { row := graphSaysRow, standIns := [], harness := (true, "061c05827a20762d2c2d74e3b504deaecd1facbea2efa5e9351e3dd21ea4e2c2"), looks := false }, kinds := [], alts := [], laidByText := true, laidKinds := [.data, .data, .data], laidTests := true, laidLooks := .later }
def GraphSaysCardSaid : Prop := Claim7.holds Tryd.pinned (.plain (OpenSpec.ofChange graphSaysSpec)) graphSaysCard

/-- THE TIED CARD OF 'timelaw.GraphReads'. -/
def graphReadsCard : Claim7 := { stood := { row := graphReadsRow, standIns := [], harness := (true, "061c05827a20762d2c2d74e3b504deaecd1facbea2efa5e9351e3dd21ea4e2c2"), looks := false }, kinds := [], alts := [], laidByText := true, laidKinds := [.data, .pinned], laidTests := true, laidLooks := .later }
def GraphReadsCardSaid : Prop := Claim7.holds Tryd.pinned (.plain (OpenSpec.ofChange graphReadsSpec)) graphReadsCard

/-- THE TIED CARD OF 'timekeep.GraphBack'. -/
def graphBackCard : Claim7 := { stood := { row := graphBackRow, standIns := [], harness := (true, "061c05827a20762d2c2d74e3b504deaecd1facbea2efa5e9351e3dd21ea4e2c2"), looks := false }, kinds := [], alts := [], laidByText := true, laidKinds := [.data, .data, .data, .data, .pinned], laidTests := true, laidLooks := .later }
def GraphBackCardSaid : Prop := Claim7.holds Tryd.pinned (.plain (OpenSpec.ofChange graphBackSpec)) graphBackCard

/-- THE TIED CARD OF 'timetop.TopTexts'. -/
def topTextsCard : Claim7 := { stood := { row := topTextsRow, standIns := [], harness := (true, "061c05827a20762d2c2d74e3b504deaecd1facbea2efa5e9351e3dd21ea4e2c2"), looks := false }, kinds := [], alts := [], laidByText := true, laidKinds := [.data, .data, .data, .data, .pinned], laidTests := true, laidLooks := .later }
def TopTextsCardSaid : Prop := Claim7.holds Tryd.pinned (.plain (OpenSpec.ofChange topTextsSpec)) topTextsCard

/-- THE TIED CARD OF 'timelaw.WarpSays'. -/
def warpSaysCard : Claim7 := { stood := { row := warpSaysRow, standIns := [], harness := (true, "061c05827a20762d2c2d74e3b504deaecd1facbea2efa5e9351e3dd21ea4e2c2"), looks := false }, kinds := [], alts := [], laidByText := true, laidKinds := [.data, .data, .data], laidTests := true, laidLooks := .later }
def WarpSaysCardSaid : Prop := Claim7.holds Tryd.pinned (.plain (OpenSpec.ofChange warpSaysSpec)) warpSaysCard

/-- THE SECOND FORM's CARD OF 'timelaw.GraphSays'. -/
def graphSaysUptoCard : Claim7 := { stood := { row := graphSaysUptoRow, standIns := [], harness := (true, "061c05827a20762d2c2d74e3b504deaecd1facbea2efa5e9351e3dd21ea4e2c2"), looks := false }, kinds := [], alts := [], laidByText := true, laidKinds := [.data, .data, .data], laidTests := true, laidLooks := .later }
def GraphSaysUptoCardSaid : Prop := Claim7.holds Tryd.pinned (.plain (OpenSpec.upto graphSaysSpec)) graphSaysUptoCard

/-- THE SECOND FORM's CARD OF 'timelaw.GraphReads'. -/
def graphReadsUptoCard : Claim7 := { stood := { row := graphReadsUptoRow, standIns := [], harness := (true, "061c05827a20762d2c2d74e3b504deaecd1facbea2efa5e9351e3dd21ea4e2c2"), looks := false }, kinds := [], alts := [], laidByText := true, laidKinds := [.data, .pinned], laidTests := true, laidLooks := .later }
def GraphReadsUptoCardSaid : Prop := Claim7.holds Tryd.pinned (.plain (OpenSpec.upto graphReadsSpec)) graphReadsUptoCard

/-- THE SECOND FORM's CARD OF 'timekeep.GraphBack'. -/
def graphBackUptoCard : Claim7 := { stood := { row := graphBackUptoRow, standIns := [], harness := (true, "061c05827a20762d2c2d74e3b504deaecd1facbea2efa5e9351e3dd21ea4e2c2"), looks := false }, kinds := [], alts := [], laidByText := true, laidKinds := [.data, .data, .data, .data, .pinned], laidTests := true, laidLooks := .later }
def GraphBackUptoCardSaid : Prop := Claim7.holds Tryd.pinned (.plain (OpenSpec.upto graphBackSpec)) graphBackUptoCard

/-- THE SECOND FORM's CARD OF 'timetop.TopTexts'. -/
def topTextsUptoCard : Claim7 := { stood := { row := topTextsUptoRow, standIns := [], harness := (true, "061c05827a20762d2c2d74e3b504deaecd1facbea2efa5e9351e3dd21ea4e2c2"), looks := false }, kinds := [], alts := [], laidByText := true, laidKinds := [.data, .data, .data, .data, .pinned], laidTests := true, laidLooks := .later }
def TopTextsUptoCardSaid : Prop := Claim7.holds Tryd.pinned (.plain (OpenSpec.upto topTextsSpec)) topTextsUptoCard

/-- THE SECOND FORM's CARD OF 'timelaw.WarpSays'. -/
def warpSaysUptoCard : Claim7 := { stood := { row := warpSaysUptoRow, standIns := [], harness := (true, "061c05827a20762d2c2d74e3b504deaecd1facbea2efa5e9351e3dd21ea4e2c2"), looks := false }, kinds := [], alts := [], laidByText := true, laidKinds := [.data, .data, .data], laidTests := true, laidLooks := .later }
def WarpSaysUptoCardSaid : Prop := Claim7.holds Tryd.pinned (.plain (OpenSpec.upto warpSaysSpec)) warpSaysUptoCard
end Rows
end Go.Proofs.YtdpibehpmghghaaDoor
