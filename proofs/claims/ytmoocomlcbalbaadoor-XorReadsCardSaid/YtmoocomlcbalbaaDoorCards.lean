/-
  DERIVED. GIVEN WITH THE SEED: THE CARDS: each row of YtmoocomlcbalbaaDoorRows.lean that lists a variable, with what it lists TIED to the program's text (the seventh form; the later family's looks); each row that meets fmt, with fmt's text TOLD by the authors' own Lean function (tested against real Go, not proved from fmt's source: count such statements apart). THE CARD IS WHAT COUNTS. Prove the row's statement (the work); the ties are given (YtmoocomlcbalbaaDoorTie.lean); close each card by the builder's one call (the guide's Derived/Test/ToyasCard.lean, 'card_holds'). Laid BY PROGRAM, IN A SANDBOX (cutbox-door.mjs). By AI agents, Wed Nov 11 2026. No macro, syntax, notation, axiom, sorry.
-/
import Derived.Test.YtmoocomlcbalbaaDoorRows
import GoSem.ClaimSeven
namespace Go.Proofs.YtmoocomlcbalbaaDoor
namespace Rows

/-- THE TIED CARD OF 'barographlaw07.XorReads'. -/
def xorReadsCard : Claim7 := { stood := { row := xorReadsRow, standIns := [], harness := (true, "95000c4295daf2b88b1a54d2cd38bdaca7f9c46c35c6ea7a8bec2a7142dbed1d"), looks := false }, kinds := [], alts := [], laidByText := true, laidKinds := [.data], laidTests := true, laidLooks := .later }
def XorReadsCardSaid : Prop := Claim7.holds Tryd.pinned (.plain (OpenSpec.ofChange xorReadsSpec)) xorReadsCard

/-- THE TIED CARD OF 'barographlaw07.XorBack'. -/
def xorBackCard : Claim7 := { stood := { row := xorBackRow, standIns := [], harness := (true, "95000c4295daf2b88b1a54d2cd38bdaca7f9c46c35c6ea7a8bec2a7142dbed1d"), looks := false }, kinds := [], alts := [], laidByText := true, laidKinds := [.data], laidTests := true, laidLooks := .later }
def XorBackCardSaid : Prop := Claim7.holds Tryd.pinned (.plain (OpenSpec.ofChange xorBackSpec)) xorBackCard

/-- THE TIED CARD OF 'barographlaw07.XorOne'. -/
def xorOneCard : Claim7 := { stood := { row := xorOneRow, standIns := [], harness := (true, "95000c4295daf2b88b1a54d2cd38bdaca7f9c46c35c6ea7a8bec2a7142dbed1d"), looks := false }, kinds := [], alts := [], laidByText := true, laidKinds := [.data], laidTests := true, laidLooks := .later }
def XorOneCardSaid : Prop := Claim7.holds Tryd.pinned (.plain (OpenSpec.ofChange xorOneSpec)) xorOneCard

/-- THE TIED CARD OF 'barographlaw07.XorSteady'. -/
def xorSteadyCard : Claim7 := { stood := { row := xorSteadyRow, standIns := [], harness := (true, "95000c4295daf2b88b1a54d2cd38bdaca7f9c46c35c6ea7a8bec2a7142dbed1d"), looks := false }, kinds := [], alts := [], laidByText := true, laidKinds := [.data], laidTests := true, laidLooks := .later }
def XorSteadyCardSaid : Prop := Claim7.holds Tryd.pinned (.plain (OpenSpec.ofChange xorSteadySpec)) xorSteadyCard

/-- THE TIED CARD OF 'barographlaw07.XorLess'. -/
def xorLessCard : Claim7 := { stood := { row := xorLessRow, standIns := [], harness := (true, "95000c4295daf2b88b1a54d2cd38bdaca7f9c46c35c6ea7a8bec2a7142dbed1d"), looks := false }, kinds := [], alts := [], laidByText := true, laidKinds := [.data], laidTests := true, laidLooks := .later }
def XorLessCardSaid : Prop := Claim7.holds Tryd.pinned (.plain (OpenSpec.ofChange xorLessSpec)) xorLessCard

/-- THE TIED CARD OF 'barographlaw07.XorWrites'. -/
def xorWritesCard : Claim7 := { stood := { row := xorWritesRow, standIns := [], harness := (true, "95000c4295daf2b88b1a54d2cd38bdaca7f9c46c35c6ea7a8bec2a7142dbed1d"), looks := false }, kinds := [], alts := [], laidByText := true, laidKinds := [.data], laidTests := true, laidLooks := .later }
def XorWritesCardSaid : Prop := Claim7.holds Tryd.pinned (.plain (OpenSpec.ofChange xorWritesSpec)) xorWritesCard

/-- THE TIED CARD OF 'barographlaw07.XorFull'. -/
def xorFullCard : Claim7 := { stood := { row := xorFullRow, standIns := [], harness := (true, "95000c4295daf2b88b1a54d2cd38bdaca7f9c46c35c6ea7a8bec2a7142dbed1d"), looks := false }, kinds := [], alts := [], laidByText := true, laidKinds := [.data], laidTests := true, laidLooks := .later }
def XorFullCardSaid : Prop := Claim7.holds Tryd.pinned (.plain (OpenSpec.ofChange xorFullSpec)) xorFullCard

/-- THE SECOND FORM's CARD OF 'barographlaw07.XorReads'. -/
def xorReadsUptoCard : Claim7 := { stood := { row := xorReadsUptoRow, standIns := [], harness := (true, "95000c4295daf2b88b1a54d2cd38bdaca7f9c46c35c6ea7a8bec2a7142dbed1d"), looks := false }, kinds := [], alts := [], laidByText := true, laidKinds := [.data], laidTests := true, laidLooks := .later }
def XorReadsUptoCardSaid : Prop := Claim7.holds Tryd.pinned (.plain (OpenSpec.upto xorReadsSpec)) xorReadsUptoCard

/-- THE SECOND FORM's CARD OF 'barographlaw07.XorBack'. -/
def xorBackUptoCard : Claim7 := { stood := { row := xorBackUptoRow, standIns := [], harness := (true, "95000c4295daf2b88b1a54d2cd38bdaca7f9c46c35c6ea7a8bec2a7142dbed1d"), looks := false }, kinds := [], alts := [], laidByText := true, laidKinds := [.data], laidTests := true, laidLooks := .later }
def XorBackUptoCardSaid : Prop := Claim7.holds Tryd.pinned (.plain (OpenSpec.upto xorBackSpec)) xorBackUptoCard

/-- THE SECOND FORM's CARD OF 'barographlaw07.XorOne'. -/
def xorOneUptoCard : Claim7 := { stood := { row := xorOneUptoRow, standIns := [], harness := (true, "95000c4295daf2b88b1a54d2cd38bdaca7f9c46c35c6ea7a8bec2a7142dbed1d"), looks := false }, kinds := [], alts := [], laidByText := true, laidKinds := [.data], laidTests := true, laidLooks := .later }
def XorOneUptoCardSaid : Prop := Claim7.holds Tryd.pinned (.plain (OpenSpec.upto xorOneSpec)) xorOneUptoCard

/-- THE SECOND FORM's CARD OF 'barographlaw07.XorSteady'. -/
def xorSteadyUptoCard : Claim7 := { stood := { row := xorSteadyUptoRow, standIns := [], harness := (true, "95000c4295daf2b88b1a54d2cd38bdaca7f9c46c35c6ea7a8bec2a7142dbed1d"), looks := false }, kinds := [], alts := [], laidByText := true, laidKinds := [.data], laidTests := true, laidLooks := .later }
def XorSteadyUptoCardSaid : Prop := Claim7.holds Tryd.pinned (.plain (OpenSpec.upto xorSteadySpec)) xorSteadyUptoCard

/-- THE SECOND FORM's CARD OF 'barographlaw07.XorLess'. -/
def xorLessUptoCard : Claim7 := { stood := { row := xorLessUptoRow, standIns := [], harness := (true, "95000c4295daf2b88b1a54d2cd38bdaca7f9c46c35c6ea7a8bec2a7142dbed1d"), looks := false }, kinds := [], alts := [], laidByText := true, laidKinds := [.data], laidTests := true, laidLooks := .later }
def XorLessUptoCardSaid : Prop := Claim7.holds Tryd.pinned (.plain (OpenSpec.upto xorLessSpec)) xorLessUptoCard

/-- THE SECOND FORM's CARD OF 'barographlaw07.XorWrites'. -/
def xorWritesUptoCard : Claim7 := { stood := { row := xorWritesUptoRow, standIns := [], harness := (true, "95000c4295daf2b88b1a54d2cd38bdaca7f9c46c35c6ea7a8bec2a7142dbed1d"), looks := false }, kinds := [], alts := [], laidByText := true, laidKinds := [.data], laidTests := true, laidLooks := .later }
def XorWritesUptoCardSaid : Prop := Claim7.holds Tryd.pinned (.plain (OpenSpec.upto xorWritesSpec)) xorWritesUptoCard

/-- THE SECOND FORM's CARD OF 'barographlaw07.XorFull'. -/
def xorFullUptoCard : Claim7 := { stood := { row := xorFullUptoRow, standIns := [], harness := (true, "95000c4295daf2b88b1a54d2cd38bdaca7f9c46c35c6ea7a8bec2a7142dbed1d"), looks := false }, kinds := [], alts := [], laidByText := true, laidKinds := [.data], laidTests := true, laidLooks := .later }
def XorFullUptoCardSaid : Prop := Claim7.holds Tryd.pinned (.plain (OpenSpec.upto xorFullSpec)) xorFullUptoCard
end Rows
end Go.Proofs.YtmoocomlcbalbaaDoor
