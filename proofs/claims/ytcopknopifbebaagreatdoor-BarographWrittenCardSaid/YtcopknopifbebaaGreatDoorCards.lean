/-
  DERIVED. GIVEN WITH THE SEED: THE CARDS: each row of YtcopknopifbebaaGreatDoorRows.lean that lists a variable, with what it lists TIED to the program's text (the seventh form; the later family's looks); each row that meets fmt, with fmt's text TOLD by the authors' own Lean function (tested against real Go, not proved from fmt's source: count such statements apart). THE CARD IS WHAT COUNTS. Prove the row's statement (the work); the ties are given (YtcopknopifbebaaGreatDoorTie.lean); close each card by the builder's one call (the guide's Derived/Test/ToyasCard.lean, 'card_holds'). Laid BY PROGRAM, IN A SANDBOX (cutbox-door.mjs). By AI agents, Wed Nov 11 2026. No macro, syntax, notation, axiom, sorry.
-/
import Derived.Test.YtcopknopifbebaaGreatDoorRows
import GoSem.ClaimSeven
namespace Go.Proofs.YtcopknopifbebaaGreatDoor
namespace Rows

/-- THE TIED CARD OF 'barographtop.BarographWritten'. -/
def barographWrittenCard : Claim7 := { stood := { row := barographWrittenRow, standIns := [], harness := (true, "35d3756c6aaeeb34e9de177c5e9e73e9b2e83cd5c1c91c172043f2b2604cd02a"), looks := true }, kinds := [], alts := [], laidByText := true, laidKinds := [.data, .data, .data, .sentinel, .sentinel], laidTests := true, laidLooks := .later }
def BarographWrittenCardSaid : Prop := Claim7.holds Tryz.pinned (.plain (OpenSpec.ofChange barographWrittenSpec)) barographWrittenCard

/-- THE TIED CARD OF 'barographlaw11.WalRecovers'. -/
def walRecoversCard : Claim7 := { stood := { row := walRecoversRow, standIns := [], harness := (true, "35d3756c6aaeeb34e9de177c5e9e73e9b2e83cd5c1c91c172043f2b2604cd02a"), looks := true }, kinds := [], alts := [], laidByText := true, laidKinds := [.data, .data, .data, .sentinel, .sentinel], laidTests := true, laidLooks := .later }
def WalRecoversCardSaid : Prop := Claim7.holds Tryz.pinned (.plain (OpenSpec.ofChange walRecoversSpec)) walRecoversCard

/-- THE TIED CARD OF 'barographlaw11.WalSegments'. -/
def walSegmentsCard : Claim7 := { stood := { row := walSegmentsRow, standIns := [], harness := (true, "35d3756c6aaeeb34e9de177c5e9e73e9b2e83cd5c1c91c172043f2b2604cd02a"), looks := true }, kinds := [], alts := [], laidByText := true, laidKinds := [.data, .data, .data, .sentinel, .sentinel], laidTests := true, laidLooks := .later }
def WalSegmentsCardSaid : Prop := Claim7.holds Tryz.pinned (.plain (OpenSpec.ofChange walSegmentsSpec)) walSegmentsCard

/-- THE TIED CARD OF 'barographlaw11.WalRestarts'. -/
def walRestartsCard : Claim7 := { stood := { row := walRestartsRow, standIns := [], harness := (true, "35d3756c6aaeeb34e9de177c5e9e73e9b2e83cd5c1c91c172043f2b2604cd02a"), looks := true }, kinds := [], alts := [], laidByText := true, laidKinds := [.data, .data, .data, .sentinel, .sentinel], laidTests := true, laidLooks := .later }
def WalRestartsCardSaid : Prop := Claim7.holds Tryz.pinned (.plain (OpenSpec.ofChange walRestartsSpec)) walRestartsCard

/-- THE TIED CARD OF 'barographlaw11.WalPlays'. -/
def walPlaysCard : Claim7 := { stood := { row := walPlaysRow, standIns := [], harness := (true, "35d3756c6aaeeb34e9de177c5e9e73e9b2e83cd5c1c91c172043f2b2604cd02a"), looks := true }, kinds := [], alts := [], laidByText := true, laidKinds := [.data, .data, .data, .sentinel, .sentinel], laidTests := true, laidLooks := .later }
def WalPlaysCardSaid : Prop := Claim7.holds Tryz.pinned (.plain (OpenSpec.ofChange walPlaysSpec)) walPlaysCard

/-- THE TIED CARD OF 'barographlaw11.WalFull'. -/
def walFullCard : Claim7 := { stood := { row := walFullRow, standIns := [], harness := (true, "35d3756c6aaeeb34e9de177c5e9e73e9b2e83cd5c1c91c172043f2b2604cd02a"), looks := true }, kinds := [], alts := [], laidByText := true, laidKinds := [.data, .data, .data, .sentinel, .sentinel], laidTests := true, laidLooks := .later }
def WalFullCardSaid : Prop := Claim7.holds Tryz.pinned (.plain (OpenSpec.ofChange walFullSpec)) walFullCard

/-- THE SECOND FORM's CARD OF 'barographtop.BarographWritten'. -/
def barographWrittenUptoCard : Claim7 := { stood := { row := barographWrittenUptoRow, standIns := [], harness := (true, "35d3756c6aaeeb34e9de177c5e9e73e9b2e83cd5c1c91c172043f2b2604cd02a"), looks := true }, kinds := [], alts := [], laidByText := true, laidKinds := [.data, .data, .data, .sentinel, .sentinel], laidTests := true, laidLooks := .later }
def BarographWrittenUptoCardSaid : Prop := Claim7.holds Tryz.pinned (.plain (OpenSpec.upto barographWrittenSpec)) barographWrittenUptoCard

/-- THE SECOND FORM's CARD OF 'barographlaw11.WalRecovers'. -/
def walRecoversUptoCard : Claim7 := { stood := { row := walRecoversUptoRow, standIns := [], harness := (true, "35d3756c6aaeeb34e9de177c5e9e73e9b2e83cd5c1c91c172043f2b2604cd02a"), looks := true }, kinds := [], alts := [], laidByText := true, laidKinds := [.data, .data, .data, .sentinel, .sentinel], laidTests := true, laidLooks := .later }
def WalRecoversUptoCardSaid : Prop := Claim7.holds Tryz.pinned (.plain (OpenSpec.upto walRecoversSpec)) walRecoversUptoCard

/-- THE SECOND FORM's CARD OF 'barographlaw11.WalSegments'. -/
def walSegmentsUptoCard : Claim7 := { stood := { row := walSegmentsUptoRow, standIns := [], harness := (true, "35d3756c6aaeeb34e9de177c5e9e73e9b2e83cd5c1c91c172043f2b2604cd02a"), looks := true }, kinds := [], alts := [], laidByText := true, laidKinds := [.data, .data, .data, .sentinel, .sentinel], laidTests := true, laidLooks := .later }
def WalSegmentsUptoCardSaid : Prop := Claim7.holds Tryz.pinned (.plain (OpenSpec.upto walSegmentsSpec)) walSegmentsUptoCard

/-- THE SECOND FORM's CARD OF 'barographlaw11.WalRestarts'. -/
def walRestartsUptoCard : Claim7 := { stood := { row := walRestartsUptoRow, standIns := [], harness := (true, "35d3756c6aaeeb34e9de177c5e9e73e9b2e83cd5c1c91c172043f2b2604cd02a"), looks := true }, kinds := [], alts := [], laidByText := true, laidKinds := [.data, .data, .data, .sentinel, .sentinel], laidTests := true, laidLooks := .later }
def WalRestartsUptoCardSaid : Prop := Claim7.holds Tryz.pinned (.plain (OpenSpec.upto walRestartsSpec)) walRestartsUptoCard

/-- THE SECOND FORM's CARD OF 'barographlaw11.WalPlays'. -/
def walPlaysUptoCard : Claim7 := { stood := { row := walPlaysUptoRow, standIns := [], harness := (true, "35d3756c6aaeeb34e9de177c5e9e73e9b2e83cd5c1c91c172043f2b2604cd02a"), looks := true }, kinds := [], alts := [], laidByText := true, laidKinds := [.data, .data, .data, .sentinel, .sentinel], laidTests := true, laidLooks := .later }
def WalPlaysUptoCardSaid : Prop := Claim7.holds Tryz.pinned (.plain (OpenSpec.upto walPlaysSpec)) walPlaysUptoCard

/-- THE SECOND FORM's CARD OF 'barographlaw11.WalFull'. -/
def walFullUptoCard : Claim7 := { stood := { row := walFullUptoRow, standIns := [], harness := (true, "35d3756c6aaeeb34e9de177c5e9e73e9b2e83cd5c1c91c172043f2b2604cd02a"), looks := true }, kinds := [], alts := [], laidByText := true, laidKinds := [.data, .data, .data, .sentinel, .sentinel], laidTests := true, laidLooks := .later }
def WalFullUptoCardSaid : Prop := Claim7.holds Tryz.pinned (.plain (OpenSpec.upto walFullSpec)) walFullUptoCard
end Rows
end Go.Proofs.YtcopknopifbebaaGreatDoor
