/-
  DERIVED. GIVEN WITH THE SEED: THE CARDS: each row of YtnoebccoaeiakaaGreatDoorRows.lean that lists a variable, with what it lists TIED to the program's text (the seventh form; the later family's looks); each row that meets fmt, with fmt's text TOLD by the authors' own Lean function (tested against real Go, not proved from fmt's source: count such statements apart). THE CARD IS WHAT COUNTS. Prove the row's statement (the work); the ties are given (YtnoebccoaeiakaaGreatDoorTie.lean); close each card by the builder's one call (the guide's Derived/Test/ToyasCard.lean, 'card_holds'). Laid BY PROGRAM, IN A SANDBOX (cutbox-door.mjs). By AI agents, Wed Nov 11 2026. No macro, syntax, notation, axiom, sorry.
-/
import Derived.Test.YtnoebccoaeiakaaGreatDoorRows
import GoSem.ClaimSeven
namespace Go.Proofs.YtnoebccoaeiakaaGreatDoor
namespace Rows

/-- THE TIED CARD OF 'barographtop.BarographLogged'. -/
def barographLoggedCard : Claim7 := { stood := { row := barographLoggedRow, standIns := [], harness := (true, "2bf1ae29a5e6a69bf7898c0c4dac4fff114c2cf98c6b8ab26b2a9c7e2fddf67d"), looks := true }, kinds := [], alts := [], laidByText := true, laidKinds := [.data, .data, .data, .data, .sentinel, .sentinel, .pinned], laidTests := true, laidLooks := .later }
def BarographLoggedCardSaid : Prop := Claim7.holds Tryz.pinned (.plain (OpenSpec.ofChange barographLoggedSpec)) barographLoggedCard

/-- THE SECOND FORM's CARD OF 'barographtop.BarographLogged'. -/
def barographLoggedUptoCard : Claim7 := { stood := { row := barographLoggedUptoRow, standIns := [], harness := (true, "2bf1ae29a5e6a69bf7898c0c4dac4fff114c2cf98c6b8ab26b2a9c7e2fddf67d"), looks := true }, kinds := [], alts := [], laidByText := true, laidKinds := [.data, .data, .data, .data, .sentinel, .sentinel, .pinned], laidTests := true, laidLooks := .later }
def BarographLoggedUptoCardSaid : Prop := Claim7.holds Tryz.pinned (.plain (OpenSpec.upto barographLoggedSpec)) barographLoggedUptoCard
end Rows
end Go.Proofs.YtnoebccoaeiakaaGreatDoor
