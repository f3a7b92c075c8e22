/-
  DERIVED. GIVEN WITH THE SEED: THE CARDS: each row of YtgabmfibfikdbaaGreatDoorRows.lean that lists a variable, with what it lists TIED to the program's text (the seventh form; the later family's looks); each row that meets fmt, with fmt's text TOLD by the authors' own Lean function (tested against real Go, not proved from fmt's source: count such statements apart). THE CARD IS WHAT COUNTS. Prove the row's statement (the work); the ties are given (YtgabmfibfikdbaaGreatDoorTie.lean); close each card by the builder's one call (the guide's Derived/Test/ToyasCard.lean, 'card_holds'). Laid BY PROGRAM, IN A SANDBOX (cutbox-door.mjs). By AI agents, Wed Nov 11 2026. No macro, syntax, notation, axiom, sorry.
-/
import Derived.Test.YtgabmfibfikdbaaGreatDoorRows
import GoSem.ClaimSeven
namespace Go.Proofs.YtgabmfibfikdbaaGreatDoor
namespace Rows

/-- THE TIED CARD OF 'barographlaw16.BlockReads'. -/
def blockReadsCard : Claim7 := { stood := { row := blockReadsRow, standIns := [], harness := (true, "10e313c21d0b0161e13f8cfea311ebe3f966d34302896ab44c490f8946b68ccf"), looks := false }, kinds := [], alts := [], laidByText := true, laidKinds := [.data, .data, .pinned], laidTests := true, laidLooks := .later }
def BlockReadsCardSaid : Prop := Claim7.holds Tryz.pinned (.plain (OpenSpec.ofChange blockReadsSpec)) blockReadsCard

/-- THE TIED CARD OF 'barographlaw16.BlockBuilds'. -/
def blockBuildsCard : Claim7 := { stood := { row := blockBuildsRow, standIns := [], harness := (true, "10e313c21d0b0161e13f8cfea311ebe3f966d34302896ab44c490f8946b68ccf"), looks := false }, kinds := [], alts := [], laidByText := true, laidKinds := [.data, .data, .pinned], laidTests := true, laidLooks := .later }
def BlockBuildsCardSaid : Prop := Claim7.holds Tryz.pinned (.plain (OpenSpec.ofChange blockBuildsSpec)) blockBuildsCard

/-- THE TIED CARD OF 'barographlaw16.BlockTables'. -/
def blockTablesCard : Claim7 := { stood := { row := blockTablesRow, standIns := [], harness := (true, "10e313c21d0b0161e13f8cfea311ebe3f966d34302896ab44c490f8946b68ccf"), looks := false }, kinds := [], alts := [], laidByText := true, laidKinds := [.data, .data, .pinned], laidTests := true, laidLooks := .later }
def BlockTablesCardSaid : Prop := Claim7.holds Tryz.pinned (.plain (OpenSpec.ofChange blockTablesSpec)) blockTablesCard

/-- THE TIED CARD OF 'barographlaw16.BlockBack'. -/
def blockBackCard : Claim7 := { stood := { row := blockBackRow, standIns := [], harness := (true, "10e313c21d0b0161e13f8cfea311ebe3f966d34302896ab44c490f8946b68ccf"), looks := false }, kinds := [], alts := [], laidByText := true, laidKinds := [.data, .data, .pinned], laidTests := true, laidLooks := .later }
def BlockBackCardSaid : Prop := Claim7.holds Tryz.pinned (.plain (OpenSpec.ofChange blockBackSpec)) blockBackCard

/-- THE TIED CARD OF 'barographlaw16.BlockBent'. -/
def blockBentCard : Claim7 := { stood := { row := blockBentRow, standIns := [], harness := (true, "10e313c21d0b0161e13f8cfea311ebe3f966d34302896ab44c490f8946b68ccf"), looks := false }, kinds := [], alts := [], laidByText := true, laidKinds := [.data, .data, .pinned], laidTests := true, laidLooks := .later }
def BlockBentCardSaid : Prop := Claim7.holds Tryz.pinned (.plain (OpenSpec.ofChange blockBentSpec)) blockBentCard

/-- THE TIED CARD OF 'barographlaw16.BlockEntries'. -/
def blockEntriesCard : Claim7 := { stood := { row := blockEntriesRow, standIns := [], harness := (true, "10e313c21d0b0161e13f8cfea311ebe3f966d34302896ab44c490f8946b68ccf"), looks := false }, kinds := [], alts := [], laidByText := true, laidKinds := [.data, .data, .pinned], laidTests := true, laidLooks := .later }
def BlockEntriesCardSaid : Prop := Claim7.holds Tryz.pinned (.plain (OpenSpec.ofChange blockEntriesSpec)) blockEntriesCard

/-- THE SECOND FORM's CARD OF 'barographlaw16.BlockReads'. -/
def blockReadsUptoCard : Claim7 := { stood := { row := blockReadsUptoRow, standIns := [], harness := (true, "10e313c21d0b0161e13f8cfea311ebe3f966d34302896ab44c490f8946b68ccf"), looks := false }, kinds := [], alts := [], laidByText := true, laidKinds := [.data, .data, .pinned], laidTests := true, laidLooks := .later }
def BlockReadsUptoCardSaid : Prop := Claim7.holds Tryz.pinned (.plain (OpenSpec.upto blockReadsSpec)) blockReadsUptoCard

/-- THE SECOND FORM's CARD OF 'barographlaw16.BlockBuilds'. -/
def blockBuildsUptoCard : Claim7 := { stood := { row := blockBuildsUptoRow, standIns := [], harness := (true, "10e313c21d0b0161e13f8cfea311ebe3f966d34302896ab44c490f8946b68ccf"), looks := false }, kinds := [], alts := [], laidByText := true, laidKinds := [.data, .data, .pinned], laidTests := true, laidLooks := .later }
def BlockBuildsUptoCardSaid : Prop := Claim7.holds Tryz.pinned (.plain (OpenSpec.upto blockBuildsSpec)) blockBuildsUptoCard

/-- THE SECOND FORM's CARD OF 'barographlaw16.BlockTables'. -/
def blockTablesUptoCard : Claim7 := { stood := { row := blockTablesUptoRow, standIns := [], harness := (true, "10e313c21d0b0161e13f8cfea311ebe3f966d34302896ab44c490f8946b68ccf"), looks := false }, kinds := [], alts := [], laidByText := true, laidKinds := [.data, .data, .pinned], laidTests := true, laidLooks := .later }
def BlockTablesUptoCardSaid : Prop := Claim7.holds Tryz.pinned (.plain (OpenSpec.upto blockTablesSpec)) blockTablesUptoCard

/-- THE SECOND FORM's CARD OF 'barographlaw16.BlockBack'. -/
def blockBackUptoCard : Claim7 := { stood := { row := blockBackUptoRow, standIns := [], harness := (true, "10e313c21d0b0161e13f8cfea311ebe3f966d34302896ab44c490f8946b68ccf"), looks := false }, kinds := [], alts := [], laidByText := true, laidKinds := [.data, .data, .pinned], laidTests := true, laidLooks := .later }
def BlockBackUptoCardSaid : Prop := Claim7.holds Tryz.pinned (.plain (OpenSpec.upto blockBackSpec)) blockBackUptoCard

/-- THE SECOND FORM's CARD OF 'barographlaw16.BlockBent'. -/
def blockBentUptoCard : Claim7 := { stood := { row := blockBentUptoRow, standIns := [], harness := (true, "10e313c21d0b0161e13f8cfea311ebe3f966d34302896ab44c490f8946b68ccf"), looks := false }, kinds := [], alts := [], laidByText := true, laidKinds := [.data, .data, .pinned], laidTests := true, laidLooks := .later }
def BlockBentUptoCardSaid : Prop := Claim7.holds Tryz.pinned (.plain (OpenSpec.upto blockBentSpec)) blockBentUptoCard

/-- THE SECOND FORM's CARD OF 'barographlaw16.BlockEntries'. -/
def blockEntriesUptoCard : Claim7 := { stood := { row := blockEntriesUptoRow, standIns := [], harness := (true, "10e313c21d0b0161e13f8cfea311ebe3f966d34302896ab44c490f8946b68ccf"), looks := false }, kinds := [], alts := [], laidByText := true, laidKinds := [.data, .data, .pinned], laidTests := true, laidLooks := .later }
def BlockEntriesUptoCardSaid : Prop := Claim7.holds Tryz.pinned (.plain (OpenSpec.upto blockEntriesSpec)) blockEntriesUptoCard
end Rows
end Go.Proofs.YtgabmfibfikdbaaGreatDoor
