/-
  DERIVED. GIVEN WITH THE SEED: THE CARDS: each row of YtpjicajifdandaaDoorRows.lean that lists a variable, with what it lists TIED to the program's text (the seventh form; the later family's looks); each row that meets fmt, with fmt's text TOLD by the authors' own Lean function (tested against real Go, not proved from fmt's source: count such statements apart). THE CARD IS WHAT COUNTS. Prove the row's statement (the work); the ties are given (YtpjicajifdandaaDoorTie.lean); close each card by the builder's one call (the guide's Derived/Test/ToyasCard.lean, 'card_holds'). Laid BY PROGRAM, IN A SANDBOX (cutbox-door.mjs). By AI agents, Wed Nov 11 2026. No macro, syntax, notation, axiom, sorry.
-/
import Derived.Test.YtpjicajifdandaaDoorRows
import GoSem.ClaimSeven
namespace Go.Proofs.YtpjicajifdandaaDoor
namespace Rows

/-- THE TIED CARD OF 'barographlaw06.LabelMakes'. -/
def labelMakesCard : Claim7 := { stood := { row := labelMakesRow, standIns := [], harness := (true, "2d1145cbd28946932db5907653de828529f99ff6858137b0f836a60a01e5d84d"), looks := false }, kinds := [], alts := [], laidByText := true, laidKinds := [.data, .pinned], laidTests := true, laidLooks := .later }
def LabelMakesCardSaid : Prop := Claim7.holds Tryd.pinned (.plain (OpenSpec.ofChange labelMakesSpec)) labelMakesCard

/-- THE TIED CARD OF 'barographlaw06.LabelCompares'. -/
def labelComparesCard : Claim7 := { stood := { row := labelComparesRow, standIns := [], harness := (true, "2d1145cbd28946932db5907653de828529f99ff6858137b0f836a60a01e5d84d"), looks := false }, kinds := [], alts := [], laidByText := true, laidKinds := [.data, .pinned], laidTests := true, laidLooks := .later }
def LabelComparesCardSaid : Prop := Claim7.holds Tryd.pinned (.plain (OpenSpec.ofChange labelComparesSpec)) labelComparesCard

/-- THE TIED CARD OF 'barographlaw06.LabelAnyOrder'. -/
def labelAnyOrderCard : Claim7 := { stood := { row := labelAnyOrderRow, standIns := [], harness := (true, "2d1145cbd28946932db5907653de828529f99ff6858137b0f836a60a01e5d84d"), looks := false }, kinds := [], alts := [], laidByText := true, laidKinds := [.data, .pinned], laidTests := true, laidLooks := .later }
def LabelAnyOrderCardSaid : Prop := Claim7.holds Tryd.pinned (.plain (OpenSpec.ofChange labelAnyOrderSpec)) labelAnyOrderCard

/-- THE TIED CARD OF 'barographlaw06.LabelOrder'. -/
def labelOrderCard : Claim7 := { stood := { row := labelOrderRow, standIns := [], harness := (true, "2d1145cbd28946932db5907653de828529f99ff6858137b0f836a60a01e5d84d"), looks := false }, kinds := [], alts := [], laidByText := true, laidKinds := [.data, .pinned], laidTests := true, laidLooks := .later }
def LabelOrderCardSaid : Prop := Claim7.holds Tryd.pinned (.plain (OpenSpec.ofChange labelOrderSpec)) labelOrderCard

/-- THE TIED CARD OF 'barographlaw06.LabelReads'. -/
def labelReadsCard : Claim7 := { stood := { row := labelReadsRow, standIns := [], harness := (true, "2d1145cbd28946932db5907653de828529f99ff6858137b0f836a60a01e5d84d"), looks := false }, kinds := [], alts := [], laidByText := true, laidKinds := [.data, .pinned], laidTests := true, laidLooks := .later }
def LabelReadsCardSaid : Prop := Claim7.holds Tryd.pinned (.plain (OpenSpec.ofChange labelReadsSpec)) labelReadsCard

/-- THE TIED CARD OF 'barographlaw06.LabelBack'. -/
def labelBackCard : Claim7 := { stood := { row := labelBackRow, standIns := [], harness := (true, "2d1145cbd28946932db5907653de828529f99ff6858137b0f836a60a01e5d84d"), looks := false }, kinds := [], alts := [], laidByText := true, laidKinds := [.data, .pinned], laidTests := true, laidLooks := .later }
def LabelBackCardSaid : Prop := Claim7.holds Tryd.pinned (.plain (OpenSpec.ofChange labelBackSpec)) labelBackCard

/-- THE SECOND FORM's CARD OF 'barographlaw06.LabelMakes'. -/
def labelMakesUptoCard : Claim7 := { stood := { row := labelMakesUptoRow, standIns := [], harness := (true, "2d1145cbd28946932db5907653de828529f99ff6858137b0f836a60a01e5d84d"), looks := false }, kinds := [], alts := [], laidByText := true, laidKinds := [.data, .pinned], laidTests := true, laidLooks := .later }
def LabelMakesUptoCardSaid : Prop := Claim7.holds Tryd.pinned (.plain (OpenSpec.upto labelMakesSpec)) labelMakesUptoCard

/-- THE SECOND FORM's CARD OF 'barographlaw06.LabelCompares'. -/
def labelComparesUptoCard : Claim7 := { stood := { row := labelComparesUptoRow, standIns := [], harness := (true, "2d1145cbd28946932db5907653de828529f99ff6858137b0f836a60a01e5d84d"), looks := false }, kinds := [], alts := [], laidByText := true, laidKinds := [.data, .pinned], laidTests := true, laidLooks := .later }
def LabelComparesUptoCardSaid : Prop := Claim7.holds Tryd.pinned (.plain (OpenSpec.upto labelComparesSpec)) labelComparesUptoCard

/-- THE SECOND FORM's CARD OF 'barographlaw06.LabelAnyOrder'. -/
def labelAnyOrderUptoCard : Claim7 := { stood := { row := labelAnyOrderUptoRow, standIns := [], harness := (true, "2d1145cbd28946932db5907653de828529f99ff6858137b0f836a60a01e5d84d"), looks := false }, kinds := [], alts := [], laidByText := true, laidKinds := [.data, .pinned], laidTests := true, laidLooks := .later }
def LabelAnyOrderUptoCardSaid : Prop := Claim7.holds Tryd.pinned (.plain (OpenSpec.upto labelAnyOrderSpec)) labelAnyOrderUptoCard

/-- THE SECOND FORM's CARD OF 'barographlaw06.LabelOrder'. -/
def labelOrderUptoCard : Claim7 := { stood := { row := labelOrderUptoRow, standIns := [], harness := (true, "2d1145cbd28946932db5907653de828529f99ff6858137b0f836a60a01e5d84d"), looks := false }, kinds := [], alts := [], laidByText := true, laidKinds := [.data, .pinned], laidTests := true, laidLooks := .later }
def LabelOrderUptoCardSaid : Prop := Claim7.holds Tryd.pinned (.plain (OpenSpec.upto labelOrderSpec)) labelOrderUptoCard

/-- THE SECOND FORM's CARD OF 'barographlaw06.LabelReads'. -/
def labelReadsUptoCard : Claim7 := { stood := { row := labelReadsUptoRow, standIns := [], harness := (true, "2d1145cbd28946932db5907653de828529f99ff6858137b0f836a60a01e5d84d"), looks := false }, kinds := [], alts := [], laidByText := true, laidKinds := [.data, .pinned], laidTests := true, laidLooks := .later }
def LabelReadsUptoCardSaid : Prop := Claim7.holds Tryd.pinned (.plain (OpenSpec.upto labelReadsSpec)) labelReadsUptoCard

/-- THE SECOND FORM's CARD OF 'barographlaw06.LabelBack'. -/
def labelBackUptoCard : Claim7 := { stood := { row := labelBackUptoRow, standIns := [], harness := (true, "2d1145cbd28946932db5907653de828529f99ff6858137b0f836a60a01e5d84d"), looks := false }, kinds := [], alts := [], laidByText := true, laidKinds := [.data, .pinned], laidTests := true, laidLooks := .later }
def LabelBackUptoCardSaid : Prop := Claim7.holds Tryd.pinned (.plain (OpenSpec.upto labelBackSpec)) labelBackUptoCard
end Rows
end Go.Proofs.YtpjicajifdandaaDoor
