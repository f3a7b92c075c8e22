/-
  No cell of these rows narrows 'for every input' (looked for: loops, veiled, ifaces, maps, wideKeys, modest, calm, conditions, laid).
  DERIVED. THE GIVEN ROWS OF THIS SEAT. 5 by the template 'for every input the law returns true; each argument reads behind the call as it read before'; 0 by the template 'total and deterministic' (their statements: YtdmhjejjgcfplaaTotals.lean).
  GIVEN WITH THE SEED: the statements are not yours to turn. If you find one false, say at which input.
  Laid BY PROGRAM, IN A SANDBOX (cutbox-rows.mjs): the forced cells as the released guide's own fill.sh prints them over the translation a358b126e5150ee3… (all of the seat's roots in one cut). By AI agents, Wed Nov 11 2026. No macro, syntax, notation, axiom, sorry.
-/
import Derived.Test.YtdmhjejjgcfplaaChecked
import GoSem.Claim
import GoSem.ClaimJoined
import GoSem.ClaimMapViews
import Derived.JoinedTies
import Derived.KernelRfl
namespace Go.Proofs.Ytdmhjejjgcfplaa
/- THE CELL 'sum', in the pinned program and in every row, IS THE sha256 OF THE DUMP (.gsa) THAT YtdmhjejjgcfplaaProg.lean LOADS. Nothing in Lean hashes anything: it is a label: what it is worth is what the hold of that sum in a sandbox is worth. -/
noncomputable def Try.pinned : Pinned := { name := "ytdmhjejjgcfplaa", sum := "a358b126e5150ee322bbc0329137b7f2b9fe351e928949a719ae883815bba834", checked := Try.checked }
namespace Rows
def none {H : Type} : Left H := { results := [], args := [] }

/-- 'barographlaw09.MetaMeets': WHATEVER THE INPUT: true; the input reads as it did. -/
def metaMeetsSpec : ChangeSpec := { name := "metaMeets", fn := fun _ => fun
  | [d1, d2] => { results := [.lit (.bool true)], args := [d1, d2] }
  | _ => none }
def metaMeetsRow : OpenClaim := { program := "ytdmhjejjgcfplaa", sum := "a358b126e5150ee322bbc0329137b7f2b9fe351e928949a719ae883815bba834", func := "barograph/barographlaw09.MetaMeets", spec := "metaMeets", inPlace := ["internal/bytealg.IndexByteString"], apart := false }
def MetaMeetsSaid : Prop := metaMeetsRow.holds Try.pinned (OpenSpec.ofChange metaMeetsSpec)

/-- ITS FALSE NEIGHBOUR: 'it returns false'. Refute it at one input. -/
def metaMeetsWrong : ChangeSpec := { name := "metaMeets", fn := fun _ => fun
  | [d1, d2] => { results := [.lit (.bool false)], args := [d1, d2] }
  | _ => none }
def MetaMeetsWrongFalsely : Prop := metaMeetsRow.holds Try.pinned (OpenSpec.ofChange metaMeetsWrong)

/-- 'barographlaw09.MetaChecks': WHATEVER THE INPUT: true; the input reads as it did. -/
def metaChecksSpec : ChangeSpec := { name := "metaChecks", fn := fun _ => fun
  | [d1, d2, d3, d4, d5] => { results := [.lit (.bool true)], args := [d1, d2, d3, d4, d5] }
  | _ => none }
def metaChecksRow : OpenClaim := { program := "ytdmhjejjgcfplaa", sum := "a358b126e5150ee322bbc0329137b7f2b9fe351e928949a719ae883815bba834", func := "barograph/barographlaw09.MetaChecks", spec := "metaChecks", inPlace := ["internal/bytealg.IndexByteString"], apart := false }
def MetaChecksSaid : Prop := metaChecksRow.holds Try.pinned (OpenSpec.ofChange metaChecksSpec)

/-- ITS FALSE NEIGHBOUR: 'it returns false'. Refute it at one input. -/
def metaChecksWrong : ChangeSpec := { name := "metaChecks", fn := fun _ => fun
  | [d1, d2, d3, d4, d5] => { results := [.lit (.bool false)], args := [d1, d2, d3, d4, d5] }
  | _ => none }
def MetaChecksWrongFalsely : Prop := metaChecksRow.holds Try.pinned (OpenSpec.ofChange metaChecksWrong)

/-- 'barographlaw09.MetaOne': WHATEVER THE INPUT: true; the input reads as it did. -/
def metaOneSpec : ChangeSpec := { name := "metaOne", fn := fun _ => fun
  | [d] => { results := [.lit (.bool true)], args := [d] }
  | _ => none }
def metaOneRow : OpenClaim := { program := "ytdmhjejjgcfplaa", sum := "a358b126e5150ee322bbc0329137b7f2b9fe351e928949a719ae883815bba834", func := "barograph/barographlaw09.MetaOne", spec := "metaOne", inPlace := ["internal/bytealg.IndexByteString"], apart := false }
def MetaOneSaid : Prop := metaOneRow.holds Try.pinned (OpenSpec.ofChange metaOneSpec)

/-- ITS FALSE NEIGHBOUR: 'it returns false'. Refute it at one input. -/
def metaOneWrong : ChangeSpec := { name := "metaOne", fn := fun _ => fun
  | [d] => { results := [.lit (.bool false)], args := [d] }
  | _ => none }
def MetaOneWrongFalsely : Prop := metaOneRow.holds Try.pinned (OpenSpec.ofChange metaOneWrong)

/-- 'barographlaw09.MetaBent': WHATEVER THE INPUT: true; the input reads as it did. -/
def metaBentSpec : ChangeSpec := { name := "metaBent", fn := fun _ => fun
  | [d1, d2, d3, d4, d5, d6] => { results := [.lit (.bool true)], args := [d1, d2, d3, d4, d5, d6] }
  | _ => none }
def metaBentRow : OpenClaim := { program := "ytdmhjejjgcfplaa", sum := "a358b126e5150ee322bbc0329137b7f2b9fe351e928949a719ae883815bba834", func := "barograph/barographlaw09.MetaBent", spec := "metaBent", inPlace := ["internal/bytealg.IndexByteString"], apart := false }
def MetaBentSaid : Prop := metaBentRow.holds Try.pinned (OpenSpec.ofChange metaBentSpec)

/-- ITS FALSE NEIGHBOUR: 'it returns false'. Refute it at one input. -/
def metaBentWrong : ChangeSpec := { name := "metaBent", fn := fun _ => fun
  | [d1, d2, d3, d4, d5, d6] => { results := [.lit (.bool false)], args := [d1, d2, d3, d4, d5, d6] }
  | _ => none }
def MetaBentWrongFalsely : Prop := metaBentRow.holds Try.pinned (OpenSpec.ofChange metaBentWrong)

/-- 'barographlaw09.MetaBack': WHATEVER THE INPUT: true; the input reads as it did. -/
def metaBackSpec : ChangeSpec := { name := "metaBack", fn := fun _ => fun
  | [d1, d2, d3, d4] => { results := [.lit (.bool true)], args := [d1, d2, d3, d4] }
  | _ => none }
def metaBackRow : OpenClaim := { program := "ytdmhjejjgcfplaa", sum := "a358b126e5150ee322bbc0329137b7f2b9fe351e928949a719ae883815bba834", func := "barograph/barographlaw09.MetaBack", spec := "metaBack", inPlace := ["internal/bytealg.IndexByteString"], apart := false }
def MetaBackSaid : Prop := metaBackRow.holds Try.pinned (OpenSpec.ofChange metaBackSpec)

/-- ITS FALSE NEIGHBOUR: 'it returns false'. Refute it at one input. -/
def metaBackWrong : ChangeSpec := { name := "metaBack", fn := fun _ => fun
  | [d1, d2, d3, d4] => { results := [.lit (.bool false)], args := [d1, d2, d3, d4] }
  | _ => none }
def MetaBackWrongFalsely : Prop := metaBackRow.holds Try.pinned (OpenSpec.ofChange metaBackWrong)

/- THE SECOND FORM. 'bulk': how many values and letters a reading holds, each counted each time it is reached (what is shared counts as often as it is met; a slice's spare places count too). A statement '..UptoSaid' is the law's where the arguments, and the package variables that the reading takes, are together of bulk at most 1048576: NARROWER than '..Said'. Prove '..Said' where nothing that the law and all that it calls make is longer than what came in: it says more and counts as full. Else prove '..UptoSaid'. A law counts once. -/
mutual
def uptoBulk {H : Type} : DataW H → Nat
  | .lit (.string bytes) => bytes.length + 1
  | .lit _ => 1
  | .nil => 1
  | .ptr d => uptoBulk d + 1
  | .slice elems spare => uptoBulkAll elems + uptoBulkAll spare + 1
  | .agg parts => uptoBulkAll parts + 1
  | .iface _ d => uptoBulk d + 1
  | .map entries => uptoBulkEntries entries + 1
  | .held _ => 1
def uptoBulkAll {H : Type} : List (DataW H) → Nat
  | [] => 0
  | d :: r => uptoBulk d + uptoBulkAll r
def uptoBulkEntries {H : Type} : List (Lit × DataW H) → Nat
  | [] => 0
  | x :: r => uptoBulkEntry x + uptoBulkEntries r
def uptoBulkEntry {H : Type} : Lit × DataW H → Nat
  | (.string bytes, d) => bytes.length + uptoBulk d + 1
  | (_, d) => uptoBulk d + 1
 end
def uptoSmall : (H : Type) → List (DataW H) → Bool := fun _ ds => decide (uptoBulkAll ds ≤ 1048576)
def OpenSpec.upto (s : _root_.Go.ChangeSpec) : _root_.Go.OpenSpec := { _root_.Go.OpenSpec.ofChange s with cond := some uptoSmall }

/-- 'barographlaw09.MetaMeets', WHERE WHAT IT READS IS OF BULK AT MOST 1048576: true; the input reads as it did. -/
def metaMeetsUptoRow : OpenClaim := { program := "ytdmhjejjgcfplaa", sum := "a358b126e5150ee322bbc0329137b7f2b9fe351e928949a719ae883815bba834", func := "barograph/barographlaw09.MetaMeets", spec := "metaMeets", inPlace := ["internal/bytealg.IndexByteString"], apart := false, narrowed := true }
def MetaMeetsUptoSaid : Prop := metaMeetsUptoRow.holds Try.pinned (OpenSpec.upto metaMeetsSpec)

/-- 'barographlaw09.MetaChecks', WHERE WHAT IT READS IS OF BULK AT MOST 1048576: true; the input reads as it did. -/
def metaChecksUptoRow : OpenClaim := { program := "ytdmhjejjgcfplaa", sum := "a358b126e5150ee322bbc0329137b7f2b9fe351e928949a719ae883815bba834", func := "barograph/barographlaw09.MetaChecks", spec := "metaChecks", inPlace := ["internal/bytealg.IndexByteString"], apart := false, narrowed := true }
def MetaChecksUptoSaid : Prop := metaChecksUptoRow.holds Try.pinned (OpenSpec.upto metaChecksSpec)

/-- 'barographlaw09.MetaOne', WHERE WHAT IT READS IS OF BULK AT MOST 1048576: true; the input reads as it did. -/
def metaOneUptoRow : OpenClaim := { program := "ytdmhjejjgcfplaa", sum := "a358b126e5150ee322bbc0329137b7f2b9fe351e928949a719ae883815bba834", func := "barograph/barographlaw09.MetaOne", spec := "metaOne", inPlace := ["internal/bytealg.IndexByteString"], apart := false, narrowed := true }
def MetaOneUptoSaid : Prop := metaOneUptoRow.holds Try.pinned (OpenSpec.upto metaOneSpec)

/-- 'barographlaw09.MetaBent', WHERE WHAT IT READS IS OF BULK AT MOST 1048576: true; the input reads as it did. -/
def metaBentUptoRow : OpenClaim := { program := "ytdmhjejjgcfplaa", sum := "a358b126e5150ee322bbc0329137b7f2b9fe351e928949a719ae883815bba834", func := "barograph/barographlaw09.MetaBent", spec := "metaBent", inPlace := ["internal/bytealg.IndexByteString"], apart := false, narrowed := true }
def MetaBentUptoSaid : Prop := metaBentUptoRow.holds Try.pinned (OpenSpec.upto metaBentSpec)

/-- 'barographlaw09.MetaBack', WHERE WHAT IT READS IS OF BULK AT MOST 1048576: true; the input reads as it did. -/
def metaBackUptoRow : OpenClaim := { program := "ytdmhjejjgcfplaa", sum := "a358b126e5150ee322bbc0329137b7f2b9fe351e928949a719ae883815bba834", func := "barograph/barographlaw09.MetaBack", spec := "metaBack", inPlace := ["internal/bytealg.IndexByteString"], apart := false, narrowed := true }
def MetaBackUptoSaid : Prop := metaBackUptoRow.holds Try.pinned (OpenSpec.upto metaBackSpec)

end Rows
end Go.Proofs.Ytdmhjejjgcfplaa
