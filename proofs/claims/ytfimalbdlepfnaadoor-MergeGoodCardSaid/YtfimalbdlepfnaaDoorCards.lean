/-
  DERIVED. GIVEN WITH THE SEED: THE CARDS: each row of YtfimalbdlepfnaaDoorRows.lean that lists a variable, with what it lists TIED to the program's text (the seventh form; the later family's looks); each row that meets fmt, with fmt's text TOLD by the authors' own Lean function (tested against real Go, not proved from fmt's source: count such statements apart). THE CARD IS WHAT COUNTS. Prove the row's statement (the work); the ties are given (YtfimalbdlepfnaaDoorTie.lean); close each card by the builder's one call (the guide's Derived/Test/ToyasCard.lean, 'card_holds'). Laid BY PROGRAM, IN A SANDBOX (cutbox-door.mjs). By AI agents, Wed Nov 11 2026. No macro, syntax, notation, axiom, sorry.
-/
import Derived.Test.YtfimalbdlepfnaaDoorRows
import GoSem.ClaimSeven
namespace Go.Proofs.YtfimalbdlepfnaaDoor
namespace Rows

/-- THE TIED CARD OF 'barographlaw14.MergeSamples'. -/
def mergeSamplesCard : Claim7 := { stood := { row := mergeSamplesRow, standIns := [], harness := (true, "b5117781a2fc4f5bf1bebc4ed0b17e914806c6cca6626edf4671d5f934c5a5b4"), looks := true }, kinds := [], alts := [], laidByText := true, laidKinds := [.data, .pinned], laidTests := true, laidLooks := .later }
def MergeSamplesCardSaid : Prop := Claim7.holds Tryd.pinned (.plain (OpenSpec.ofChange mergeSamplesSpec)) mergeSamplesCard

/-- THE TIED CARD OF 'barographlaw14.MergeOrder'. -/
def mergeOrderCard : Claim7 := { stood := { row := mergeOrderRow, standIns := [], harness := (true, "b5117781a2fc4f5bf1bebc4ed0b17e914806c6cca6626edf4671d5f934c5a5b4"), looks := true }, kinds := [], alts := [], laidByText := true, laidKinds := [.data, .pinned], laidTests := true, laidLooks := .later }
def MergeOrderCardSaid : Prop := Claim7.holds Tryd.pinned (.plain (OpenSpec.ofChange mergeOrderSpec)) mergeOrderCard

/-- THE TIED CARD OF 'barographlaw14.MergeOne'. -/
def mergeOneCard : Claim7 := { stood := { row := mergeOneRow, standIns := [], harness := (true, "b5117781a2fc4f5bf1bebc4ed0b17e914806c6cca6626edf4671d5f934c5a5b4"), looks := true }, kinds := [], alts := [], laidByText := true, laidKinds := [.data, .pinned], laidTests := true, laidLooks := .later }
def MergeOneCardSaid : Prop := Claim7.holds Tryd.pinned (.plain (OpenSpec.ofChange mergeOneSpec)) mergeOneCard

/-- THE TIED CARD OF 'barographlaw14.MergeGood'. -/
def mergeGoodCard : Claim7 := { stood := { row := mergeGoodRow, standIns := [], harness := (true, "b5117781a2fc4f5bf1bebc4ed0b17e914806c6cca6626edf4671d5f934c5a5b4"), looks := true }, kinds := [], alts := [], laidByText := true, laidKinds := [.data, .pinned], laidTests := true, laidLooks := .later }
def MergeGoodCardSaid : Prop := Claim7.holds Tryd.pinned (.plain (OpenSpec.ofChange mergeGoodSpec)) mergeGoodCard

/-- THE TIED CARD OF 'barographlaw14.MergeSplit'. -/
def mergeSplitCard : Claim7 := { stood := { row := mergeSplitRow, standIns := [], harness := (true, "b5117781a2fc4f5bf1bebc4ed0b17e914806c6cca6626edf4671d5f934c5a5b4"), looks := true }, kinds := [], alts := [], laidByText := true, laidKinds := [.data, .pinned], laidTests := true, laidLooks := .later }
def MergeSplitCardSaid : Prop := Claim7.holds Tryd.pinned (.plain (OpenSpec.ofChange mergeSplitSpec)) mergeSplitCard

/-- THE TIED CARD OF 'barographlaw14.MergeTables'. -/
def mergeTablesCard : Claim7 := { stood := { row := mergeTablesRow, standIns := [], harness := (true, "b5117781a2fc4f5bf1bebc4ed0b17e914806c6cca6626edf4671d5f934c5a5b4"), looks := true }, kinds := [], alts := [], laidByText := true, laidKinds := [.data, .pinned], laidTests := true, laidLooks := .later }
def MergeTablesCardSaid : Prop := Claim7.holds Tryd.pinned (.plain (OpenSpec.ofChange mergeTablesSpec)) mergeTablesCard

/-- THE SECOND FORM's CARD OF 'barographlaw14.MergeSamples'. -/
def mergeSamplesUptoCard : Claim7 := { stood := { row := mergeSamplesUptoRow, standIns := [], harness := (true, "b5117781a2fc4f5bf1bebc4ed0b17e914806c6cca6626edf4671d5f934c5a5b4"), looks := true }, kinds := [], alts := [], laidByText := true, laidKinds := [.data, .pinned], laidTests := true, laidLooks := .later }
def MergeSamplesUptoCardSaid : Prop := Claim7.holds Tryd.pinned (.plain (OpenSpec.upto mergeSamplesSpec)) mergeSamplesUptoCard

/-- THE SECOND FORM's CARD OF 'barographlaw14.MergeOrder'. -/
def mergeOrderUptoCard : Claim7 := { stood := { row := mergeOrderUptoRow, standIns := [], harness := (true, "b5117781a2fc4f5bf1bebc4ed0b17e914806c6cca6626edf4671d5f934c5a5b4"), looks := true }, kinds := [], alts := [], laidByText := true, laidKinds := [.data, .pinned], laidTests := true, laidLooks := .later }
def MergeOrderUptoCardSaid : Prop := Claim7.holds Tryd.pinned (.plain (OpenSpec.upto mergeOrderSpec)) mergeOrderUptoCard

/-- THE SECOND FORM's CARD OF 'barographlaw14.MergeOne'. -/
def mergeOneUptoCard : Claim7 := { stood := { row := mergeOneUptoRow, standIns := [], harness := (true, "b5117781a2fc4f5bf1bebc4ed0b17e914806c6cca6626edf4671d5f934c5a5b4"), looks := true }, kinds := [], alts := [], laidByText := true, laidKinds := [.data, .pinned], laidTests := true, laidLooks := .later }
def MergeOneUptoCardSaid : Prop := Claim7.holds Tryd.pinned (.plain (OpenSpec.upto mergeOneSpec)) mergeOneUptoCard

/-- THE SECOND FORM's CARD OF 'barographlaw14.MergeGood'. -/
def mergeGoodUptoCard : Claim7 := { stood := { row := mergeGoodUptoRow, standIns := [], harness := (true, "b5117781a2fc4f5bf1bebc4ed0b17e914806c6cca6626edf4671d5f934c5a5b4"), looks := true }, kinds := [], alts := [], laidByText := true, laidKinds := [.data, .pinned], laidTests := true, laidLooks := .later }
def MergeGoodUptoCardSaid : Prop := Claim7.holds Tryd.pinned (.plain (OpenSpec.upto mergeGoodSpec)) mergeGoodUptoCard

/-- THE SECOND FORM's CARD OF 'barographlaw14.MergeSplit'. -/
def mergeSplitUptoCard : Claim7 := { stood := { row := mergeSplitUptoRow, standIns := [], harness := (true, "b5117781a2fc4f5bf1bebc4ed0b17e914806c6cca6626edf4671d5f934c5a5b4"), looks := true }, kinds := [], alts := [], laidByText := true, laidKinds := [.data, .pinned], laidTests := true, laidLooks := .later }
def MergeSplitUptoCardSaid : Prop := Claim7.holds Tryd.pinned (.plain (OpenSpec.upto mergeSplitSpec)) mergeSplitUptoCard

/-- THE SECOND FORM's CARD OF 'barographlaw14.MergeTables'. -/
def mergeTablesUptoCard : Claim7 := { stood := { row := mergeTablesUptoRow, standIns := [], harness := (true, "b5117781a2fc4f5bf1bebc4ed0b17e914806c6cca6626edf4671d5f934c5a5b4"), looks := true }, kinds := [], alts := [], laidByText := true, laidKinds := [.data, .pinned], laidTests := true, laidLooks := .later }
def MergeTablesUptoCardSaid : Prop := Claim7.holds Tryd.pinned (.plain (OpenSpec.upto mergeTablesSpec)) mergeTablesUptoCard
end Rows
end Go.Proofs.YtfimalbdlepfnaaDoor
