/-
  No cell of these rows narrows 'for every input' (looked for: loops, veiled, ifaces, maps, wideKeys, modest, calm, conditions, laid).
  DERIVED. THE GIVEN ROWS OF THIS SEAT. 6 by the template 'for every input the law returns true; each argument reads behind the call as it read before'; 0 by the template 'total and deterministic' (their statements: YthgkcmmjdgginaaTotals.lean).
  GIVEN WITH THE SEED: the statements are not yours to turn. If you find one false, say at which input.
  Laid BY PROGRAM, IN A SANDBOX (cutbox-rows.mjs): the forced cells as the released guide's own fill.sh prints them over the translation 73eed90f3d5c11d5… (all of the seat's roots in one cut). By AI agents, Wed Nov 11 2026. No macro, syntax, notation, axiom, sorry.
-/
import Derived.Test.YthgkcmmjdgginaaChecked
import GoSem.Claim
import GoSem.ClaimJoined
import GoSem.ClaimMapViews
import Derived.JoinedTies
import Derived.KernelRfl
namespace Go.Proofs.Ythgkcmmjdgginaa
/- THE CELL 'sum', in the pinned program and in every row, IS THE sha256 OF THE DUMP (.gsa) THAT YthgkcmmjdgginaaProg.lean LOADS. Nothing in Lean hashes anything: it is a label: what it is worth is what the hold of that sum in a sandbox is worth. -/
noncomputable def Try.pinned : Pinned := { name := "ythgkcmmjdgginaa", sum := "73eed90f3d5c11d5af89ab59b77e071fdebec404bf7bac94a9eae59f09b032d4", checked := Try.checked }
namespace Rows
def none {H : Type} : Left H := { results := [], args := [] }

/-- 'barographlaw03.BitrowWrites': WHATEVER THE INPUT: true; the input reads as it did. -/
def bitrowWritesSpec : ChangeSpec := { name := "bitrowWrites", fn := fun _ => fun
  | [d] => { results := [.lit (.bool true)], args := [d] }
  | _ => none }
def bitrowWritesRow : OpenClaim := { program := "ythgkcmmjdgginaa", sum := "73eed90f3d5c11d5af89ab59b77e071fdebec404bf7bac94a9eae59f09b032d4", func := "barograph/barographlaw03.BitrowWrites", spec := "bitrowWrites", apart := false }
def BitrowWritesSaid : Prop := bitrowWritesRow.holds Try.pinned (OpenSpec.ofChange bitrowWritesSpec)

/-- ITS FALSE NEIGHBOUR: 'it returns false'. Refute it at one input. -/
def bitrowWritesWrong : ChangeSpec := { name := "bitrowWrites", fn := fun _ => fun
  | [d] => { results := [.lit (.bool false)], args := [d] }
  | _ => none }
def BitrowWritesWrongFalsely : Prop := bitrowWritesRow.holds Try.pinned (OpenSpec.ofChange bitrowWritesWrong)

/-- 'barographlaw03.BitrowWidth': WHATEVER THE INPUT: true; the input reads as it did. -/
def bitrowWidthSpec : ChangeSpec := { name := "bitrowWidth", fn := fun _ => fun
  | [d] => { results := [.lit (.bool true)], args := [d] }
  | _ => none }
def bitrowWidthRow : OpenClaim := { program := "ythgkcmmjdgginaa", sum := "73eed90f3d5c11d5af89ab59b77e071fdebec404bf7bac94a9eae59f09b032d4", func := "barograph/barographlaw03.BitrowWidth", spec := "bitrowWidth", apart := false }
def BitrowWidthSaid : Prop := bitrowWidthRow.holds Try.pinned (OpenSpec.ofChange bitrowWidthSpec)

/-- ITS FALSE NEIGHBOUR: 'it returns false'. Refute it at one input. -/
def bitrowWidthWrong : ChangeSpec := { name := "bitrowWidth", fn := fun _ => fun
  | [d] => { results := [.lit (.bool false)], args := [d] }
  | _ => none }
def BitrowWidthWrongFalsely : Prop := bitrowWidthRow.holds Try.pinned (OpenSpec.ofChange bitrowWidthWrong)

/-- 'barographlaw03.BitrowSplit': WHATEVER THE INPUT: true; the input reads as it did. -/
def bitrowSplitSpec : ChangeSpec := { name := "bitrowSplit", fn := fun _ => fun
  | [d1, d2, d3] => { results := [.lit (.bool true)], args := [d1, d2, d3] }
  | _ => none }
def bitrowSplitRow : OpenClaim := { program := "ythgkcmmjdgginaa", sum := "73eed90f3d5c11d5af89ab59b77e071fdebec404bf7bac94a9eae59f09b032d4", func := "barograph/barographlaw03.BitrowSplit", spec := "bitrowSplit", apart := false }
def BitrowSplitSaid : Prop := bitrowSplitRow.holds Try.pinned (OpenSpec.ofChange bitrowSplitSpec)

/-- ITS FALSE NEIGHBOUR: 'it returns false'. Refute it at one input. -/
def bitrowSplitWrong : ChangeSpec := { name := "bitrowSplit", fn := fun _ => fun
  | [d1, d2, d3] => { results := [.lit (.bool false)], args := [d1, d2, d3] }
  | _ => none }
def BitrowSplitWrongFalsely : Prop := bitrowSplitRow.holds Try.pinned (OpenSpec.ofChange bitrowSplitWrong)

/-- 'barographlaw03.BitrowTakes': WHATEVER THE INPUT: true; the input reads as it did. -/
def bitrowTakesSpec : ChangeSpec := { name := "bitrowTakes", fn := fun _ => fun
  | [d1, d2, d3] => { results := [.lit (.bool true)], args := [d1, d2, d3] }
  | _ => none }
def bitrowTakesRow : OpenClaim := { program := "ythgkcmmjdgginaa", sum := "73eed90f3d5c11d5af89ab59b77e071fdebec404bf7bac94a9eae59f09b032d4", func := "barograph/barographlaw03.BitrowTakes", spec := "bitrowTakes", apart := false }
def BitrowTakesSaid : Prop := bitrowTakesRow.holds Try.pinned (OpenSpec.ofChange bitrowTakesSpec)

/-- ITS FALSE NEIGHBOUR: 'it returns false'. Refute it at one input. -/
def bitrowTakesWrong : ChangeSpec := { name := "bitrowTakes", fn := fun _ => fun
  | [d1, d2, d3] => { results := [.lit (.bool false)], args := [d1, d2, d3] }
  | _ => none }
def BitrowTakesWrongFalsely : Prop := bitrowTakesRow.holds Try.pinned (OpenSpec.ofChange bitrowTakesWrong)

/-- 'barographlaw03.BitrowBack': WHATEVER THE INPUT: true; the input reads as it did. -/
def bitrowBackSpec : ChangeSpec := { name := "bitrowBack", fn := fun _ => fun
  | [d] => { results := [.lit (.bool true)], args := [d] }
  | _ => none }
def bitrowBackRow : OpenClaim := { program := "ythgkcmmjdgginaa", sum := "73eed90f3d5c11d5af89ab59b77e071fdebec404bf7bac94a9eae59f09b032d4", func := "barograph/barographlaw03.BitrowBack", spec := "bitrowBack", apart := false }
def BitrowBackSaid : Prop := bitrowBackRow.holds Try.pinned (OpenSpec.ofChange bitrowBackSpec)

/-- ITS FALSE NEIGHBOUR: 'it returns false'. Refute it at one input. -/
def bitrowBackWrong : ChangeSpec := { name := "bitrowBack", fn := fun _ => fun
  | [d] => { results := [.lit (.bool false)], args := [d] }
  | _ => none }
def BitrowBackWrongFalsely : Prop := bitrowBackRow.holds Try.pinned (OpenSpec.ofChange bitrowBackWrong)

/-- 'barographlaw03.BitrowZeros': WHATEVER THE INPUT: true; the input reads as it did. -/
def bitrowZerosSpec : ChangeSpec := { name := "bitrowZeros", fn := fun _ => fun
  | [d] => { results := [.lit (.bool true)], args := [d] }
  | _ => none }
def bitrowZerosRow : OpenClaim := { program := "ythgkcmmjdgginaa", sum := "73eed90f3d5c11d5af89ab59b77e071fdebec404bf7bac94a9eae59f09b032d4", func := "barograph/barographlaw03.BitrowZeros", spec := "bitrowZeros", apart := false }
def BitrowZerosSaid : Prop := bitrowZerosRow.holds Try.pinned (OpenSpec.ofChange bitrowZerosSpec)

/-- ITS FALSE NEIGHBOUR: 'it returns false'. Refute it at one input. -/
def bitrowZerosWrong : ChangeSpec := { name := "bitrowZeros", fn := fun _ => fun
  | [d] => { results := [.lit (.bool false)], args := [d] }
  | _ => none }
def BitrowZerosWrongFalsely : Prop := bitrowZerosRow.holds Try.pinned (OpenSpec.ofChange bitrowZerosWrong)

/- THE SECOND FORM. 'bulk': how many values and letters a reading holds, each counted each time it is reached (what is shared counts as often as it is met; a slice's spare places count too). A statement '..UptoSaid' is the law's where the arguments, and the package variables that the reading takes, are together of bulk at most 1048576: NARROWER than '..Said'. Prove '..Said' where nothing that the law and all that it calls make is longer than what came in: it says more and counts as full. Else prove '..UptoSaid'. A law counts once. -/
mutual
def uptoBulk {H : Type} : DataW H → Nat
  | .lit (.string bytes) => bytes.length + 1
  | .lit _ => 1
  | .nil => 1
  | .ptr d => uptoBulk d + 1
  | .slice elems spare => uptoBulkAll elems + uptoBulkAll spare + 1
  | .agg parts => uptoBulkAll parts + 1
  | .iface _ d => uptoBulk d + 1
  | .map entries => uptoBulkEntries entries + 1
  | .held _ => 1
def uptoBulkAll {H : Type} : List (DataW H) → Nat
  | [] => 0
  | d :: r => uptoBulk d + uptoBulkAll r
def uptoBulkEntries {H : Type} : List (Lit × DataW H) → Nat
  | [] => 0
  | x :: r => uptoBulkEntry x + uptoBulkEntries r
def uptoBulkEntry {H : Type} : Lit × DataW H → Nat
  | (.string bytes, d) => bytes.length + uptoBulk d + 1
  | (_, d) => uptoBulk d + 1
 end
def uptoSmall : (H : Type) → List (DataW H) → Bool := fun _ ds => decide (uptoBulkAll ds ≤ 1048576)
def OpenSpec.upto (s : _root_.Go.ChangeSpec) : _root_.Go.OpenSpec := { _root_.Go.OpenSpec.ofChange s with cond := some uptoSmall }

/-- 'barographlaw03.BitrowWrites', WHERE WHAT IT READS IS OF BULK AT MOST 1048576: true; the input reads as it did. -/
def bitrowWritesUptoRow : OpenClaim := { program := "ythgkcmmjdgginaa", sum := "73eed90f3d5c11d5af89ab59b77e071fdebec404bf7bac94a9eae59f09b032d4", func := "barograph/barographlaw03.BitrowWrites", spec := "bitrowWrites", apart := false, narrowed := true }
def BitrowWritesUptoSaid : Prop := bitrowWritesUptoRow.holds Try.pinned (OpenSpec.upto bitrowWritesSpec)

/-- 'barographlaw03.BitrowWidth', WHERE WHAT IT READS IS OF BULK AT MOST 1048576: true; the input reads as it did. -/
def bitrowWidthUptoRow : OpenClaim := { program := "ythgkcmmjdgginaa", sum := "73eed90f3d5c11d5af89ab59b77e071fdebec404bf7bac94a9eae59f09b032d4", func := "barograph/barographlaw03.BitrowWidth", spec := "bitrowWidth", apart := false, narrowed := true }
def BitrowWidthUptoSaid : Prop := bitrowWidthUptoRow.holds Try.pinned (OpenSpec.upto bitrowWidthSpec)

/-- 'barographlaw03.BitrowSplit', WHERE WHAT IT READS IS OF BULK AT MOST 1048576: true; the input reads as it did. -/
def bitrowSplitUptoRow : OpenClaim := { program := "ythgkcmmjdgginaa", sum := "73eed90f3d5c11d5af89ab59b77e071fdebec404bf7bac94a9eae59f09b032d4", func := "barograph/barographlaw03.BitrowSplit", spec := "bitrowSplit", apart := false, narrowed := true }
def BitrowSplitUptoSaid : Prop := bitrowSplitUptoRow.holds Try.pinned (OpenSpec.upto bitrowSplitSpec)

/-- 'barographlaw03.BitrowTakes', WHERE WHAT IT READS IS OF BULK AT MOST 1048576: true; the input reads as it did. -/
def bitrowTakesUptoRow : OpenClaim := { program := "ythgkcmmjdgginaa", sum := "73eed90f3d5c11d5af89ab59b77e071fdebec404bf7bac94a9eae59f09b032d4", func := "barograph/barographlaw03.BitrowTakes", spec := "bitrowTakes", apart := false, narrowed := true }
def BitrowTakesUptoSaid : Prop := bitrowTakesUptoRow.holds Try.pinned (OpenSpec.upto bitrowTakesSpec)

/-- 'barographlaw03.BitrowBack', WHERE WHAT IT READS IS OF BULK AT MOST 1048576: true; the input reads as it did. -/
def bitrowBackUptoRow : OpenClaim := { program := "ythgkcmmjdgginaa", sum := "73eed90f3d5c11d5af89ab59b77e071fdebec404bf7bac94a9eae59f09b032d4", func := "barograph/barographlaw03.BitrowBack", spec := "bitrowBack", apart := false, narrowed := true }
def BitrowBackUptoSaid : Prop := bitrowBackUptoRow.holds Try.pinned (OpenSpec.upto bitrowBackSpec)

/-- 'barographlaw03.BitrowZeros', WHERE WHAT IT READS IS OF BULK AT MOST 1048576: true; the input reads as it did. -/
def bitrowZerosUptoRow : OpenClaim := { program := "ythgkcmmjdgginaa", sum := "73eed90f3d5c11d5af89ab59b77e071fdebec404bf7bac94a9eae59f09b032d4", func := "barograph/barographlaw03.BitrowZeros", spec := "bitrowZeros", apart := false, narrowed := true }
def BitrowZerosUptoSaid : Prop := bitrowZerosUptoRow.holds Try.pinned (OpenSpec.upto bitrowZerosSpec)

end Rows
end Go.Proofs.Ythgkcmmjdgginaa
