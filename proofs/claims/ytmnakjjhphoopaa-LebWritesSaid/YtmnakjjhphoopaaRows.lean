/-
  No cell of these rows narrows 'for every input' (looked for: loops, veiled, ifaces, maps, wideKeys, modest, calm, conditions, laid).
  DERIVED. THE GIVEN ROWS OF THIS SEAT. 15 by the template 'for every input the law returns true; each argument reads behind the call as it read before'; 0 by the template 'total and deterministic' (their statements: YtmnakjjhphoopaaTotals.lean).
  GIVEN WITH THE SEED: the statements are not yours to turn. If you find one false, say at which input.
  Laid BY PROGRAM, IN A SANDBOX (cutbox-rows.mjs): the forced cells as the released guide's own fill.sh prints them over the translation 924f0842aefcbd83… (all of the seat's roots in one cut). By AI agents, Wed Nov 11 2026. No macro, syntax, notation, axiom, sorry.
-/
import Derived.Test.YtmnakjjhphoopaaChecked
import GoSem.Claim
import GoSem.ClaimJoined
import GoSem.ClaimMapViews
import Derived.JoinedTies
import Derived.KernelRfl
namespace Go.Proofs.Ytmnakjjhphoopaa
/- THE CELL 'sum', in the pinned program and in every row, IS THE sha256 OF THE DUMP (.gsa) THAT YtmnakjjhphoopaaProg.lean LOADS. Nothing in Lean hashes anything: it is a label: what it is worth is what the hold of that sum in a sandbox is worth. -/
noncomputable def Try.pinned : Pinned := { name := "ytmnakjjhphoopaa", sum := "924f0842aefcbd83fc35ec462cff79ba222e0c7164d728d8d4d4a28fcdbfbd97", checked := Try.checked }
namespace Rows
def none {H : Type} : Left H := { results := [], args := [] }

/-- 'barographlaw02.FrameParts': WHATEVER THE INPUT: true; the input reads as it did. -/
def framePartsSpec : ChangeSpec := { name := "frameParts", fn := fun _ => fun
  | [d1, d2, d3] => { results := [.lit (.bool true)], args := [d1, d2, d3] }
  | _ => none }
def framePartsRow : OpenClaim := { program := "ytmnakjjhphoopaa", sum := "924f0842aefcbd83fc35ec462cff79ba222e0c7164d728d8d4d4a28fcdbfbd97", func := "barograph/barographlaw02.FrameParts", spec := "frameParts", apart := false }
def FramePartsSaid : Prop := framePartsRow.holds Try.pinned (OpenSpec.ofChange framePartsSpec)

/-- ITS FALSE NEIGHBOUR: 'it returns false'. Refute it at one input. -/
def framePartsWrong : ChangeSpec := { name := "frameParts", fn := fun _ => fun
  | [d1, d2, d3] => { results := [.lit (.bool false)], args := [d1, d2, d3] }
  | _ => none }
def FramePartsWrongFalsely : Prop := framePartsRow.holds Try.pinned (OpenSpec.ofChange framePartsWrong)

/-- 'barographlaw02.FrameBit': WHATEVER THE INPUT: true; the input reads as it did. -/
def frameBitSpec : ChangeSpec := { name := "frameBit", fn := fun _ => fun
  | [d1, d2, d3] => { results := [.lit (.bool true)], args := [d1, d2, d3] }
  | _ => none }
def frameBitRow : OpenClaim := { program := "ytmnakjjhphoopaa", sum := "924f0842aefcbd83fc35ec462cff79ba222e0c7164d728d8d4d4a28fcdbfbd97", func := "barograph/barographlaw02.FrameBit", spec := "frameBit", apart := false }
def FrameBitSaid : Prop := frameBitRow.holds Try.pinned (OpenSpec.ofChange frameBitSpec)

/-- ITS FALSE NEIGHBOUR: 'it returns false'. Refute it at one input. -/
def frameBitWrong : ChangeSpec := { name := "frameBit", fn := fun _ => fun
  | [d1, d2, d3] => { results := [.lit (.bool false)], args := [d1, d2, d3] }
  | _ => none }
def FrameBitWrongFalsely : Prop := frameBitRow.holds Try.pinned (OpenSpec.ofChange frameBitWrong)

/-- 'barographlaw02.FrameReads': WHATEVER THE INPUT: true; the input reads as it did. -/
def frameReadsSpec : ChangeSpec := { name := "frameReads", fn := fun _ => fun
  | [d1, d2, d3] => { results := [.lit (.bool true)], args := [d1, d2, d3] }
  | _ => none }
def frameReadsRow : OpenClaim := { program := "ytmnakjjhphoopaa", sum := "924f0842aefcbd83fc35ec462cff79ba222e0c7164d728d8d4d4a28fcdbfbd97", func := "barograph/barographlaw02.FrameReads", spec := "frameReads", apart := false }
def FrameReadsSaid : Prop := frameReadsRow.holds Try.pinned (OpenSpec.ofChange frameReadsSpec)

/-- ITS FALSE NEIGHBOUR: 'it returns false'. Refute it at one input. -/
def frameReadsWrong : ChangeSpec := { name := "frameReads", fn := fun _ => fun
  | [d1, d2, d3] => { results := [.lit (.bool false)], args := [d1, d2, d3] }
  | _ => none }
def FrameReadsWrongFalsely : Prop := frameReadsRow.holds Try.pinned (OpenSpec.ofChange frameReadsWrong)

/-- 'barographlaw02.FrameTorn': WHATEVER THE INPUT: true; the input reads as it did. -/
def frameTornSpec : ChangeSpec := { name := "frameTorn", fn := fun _ => fun
  | [d1, d2] => { results := [.lit (.bool true)], args := [d1, d2] }
  | _ => none }
def frameTornRow : OpenClaim := { program := "ytmnakjjhphoopaa", sum := "924f0842aefcbd83fc35ec462cff79ba222e0c7164d728d8d4d4a28fcdbfbd97", func := "barograph/barographlaw02.FrameTorn", spec := "frameTorn", apart := false }
def FrameTornSaid : Prop := frameTornRow.holds Try.pinned (OpenSpec.ofChange frameTornSpec)

/-- ITS FALSE NEIGHBOUR: 'it returns false'. Refute it at one input. -/
def frameTornWrong : ChangeSpec := { name := "frameTorn", fn := fun _ => fun
  | [d1, d2] => { results := [.lit (.bool false)], args := [d1, d2] }
  | _ => none }
def FrameTornWrongFalsely : Prop := frameTornRow.holds Try.pinned (OpenSpec.ofChange frameTornWrong)

/-- 'barographlaw02.FrameBehind': WHATEVER THE INPUT: true; the input reads as it did. -/
def frameBehindSpec : ChangeSpec := { name := "frameBehind", fn := fun _ => fun
  | [d1, d2] => { results := [.lit (.bool true)], args := [d1, d2] }
  | _ => none }
def frameBehindRow : OpenClaim := { program := "ytmnakjjhphoopaa", sum := "924f0842aefcbd83fc35ec462cff79ba222e0c7164d728d8d4d4a28fcdbfbd97", func := "barograph/barographlaw02.FrameBehind", spec := "frameBehind", apart := false }
def FrameBehindSaid : Prop := frameBehindRow.holds Try.pinned (OpenSpec.ofChange frameBehindSpec)

/-- ITS FALSE NEIGHBOUR: 'it returns false'. Refute it at one input. -/
def frameBehindWrong : ChangeSpec := { name := "frameBehind", fn := fun _ => fun
  | [d1, d2] => { results := [.lit (.bool false)], args := [d1, d2] }
  | _ => none }
def FrameBehindWrongFalsely : Prop := frameBehindRow.holds Try.pinned (OpenSpec.ofChange frameBehindWrong)

/-- 'barographlaw08.IdentNames': WHATEVER THE INPUT: true; the input reads as it did. -/
def identNamesSpec : ChangeSpec := { name := "identNames", fn := fun _ => fun
  | [d1, d2, d3] => { results := [.lit (.bool true)], args := [d1, d2, d3] }
  | _ => none }
def identNamesRow : OpenClaim := { program := "ytmnakjjhphoopaa", sum := "924f0842aefcbd83fc35ec462cff79ba222e0c7164d728d8d4d4a28fcdbfbd97", func := "barograph/barographlaw08.IdentNames", spec := "identNames", inPlace := ["internal/bytealg.IndexByteString", "internal/bytealg.IndexString"], named := ["internal/bytealg.MaxLen"], apart := false }
def IdentNamesSaid : Prop := identNamesRow.holds Try.pinned (OpenSpec.ofChange identNamesSpec)

/-- ITS FALSE NEIGHBOUR: 'it returns false'. Refute it at one input. -/
def identNamesWrong : ChangeSpec := { name := "identNames", fn := fun _ => fun
  | [d1, d2, d3] => { results := [.lit (.bool false)], args := [d1, d2, d3] }
  | _ => none }
def IdentNamesWrongFalsely : Prop := identNamesRow.holds Try.pinned (OpenSpec.ofChange identNamesWrong)

/-- 'barographlaw08.IdentRises': WHATEVER THE INPUT: true; the input reads as it did. -/
def identRisesSpec : ChangeSpec := { name := "identRises", fn := fun _ => fun
  | [d1, d2, d3, d4] => { results := [.lit (.bool true)], args := [d1, d2, d3, d4] }
  | _ => none }
def identRisesRow : OpenClaim := { program := "ytmnakjjhphoopaa", sum := "924f0842aefcbd83fc35ec462cff79ba222e0c7164d728d8d4d4a28fcdbfbd97", func := "barograph/barographlaw08.IdentRises", spec := "identRises", inPlace := ["internal/bytealg.IndexByteString", "internal/bytealg.IndexString"], named := ["internal/bytealg.MaxLen"], apart := false }
def IdentRisesSaid : Prop := identRisesRow.holds Try.pinned (OpenSpec.ofChange identRisesSpec)

/-- ITS FALSE NEIGHBOUR: 'it returns false'. Refute it at one input. -/
def identRisesWrong : ChangeSpec := { name := "identRises", fn := fun _ => fun
  | [d1, d2, d3, d4] => { results := [.lit (.bool false)], args := [d1, d2, d3, d4] }
  | _ => none }
def IdentRisesWrongFalsely : Prop := identRisesRow.holds Try.pinned (OpenSpec.ofChange identRisesWrong)

/-- 'barographlaw08.IdentOne': WHATEVER THE INPUT: true; the input reads as it did. -/
def identOneSpec : ChangeSpec := { name := "identOne", fn := fun _ => fun
  | [d] => { results := [.lit (.bool true)], args := [d] }
  | _ => none }
def identOneRow : OpenClaim := { program := "ytmnakjjhphoopaa", sum := "924f0842aefcbd83fc35ec462cff79ba222e0c7164d728d8d4d4a28fcdbfbd97", func := "barograph/barographlaw08.IdentOne", spec := "identOne", inPlace := ["internal/bytealg.IndexByteString", "internal/bytealg.IndexString"], named := ["internal/bytealg.MaxLen"], apart := false }
def IdentOneSaid : Prop := identOneRow.holds Try.pinned (OpenSpec.ofChange identOneSpec)

/-- ITS FALSE NEIGHBOUR: 'it returns false'. Refute it at one input. -/
def identOneWrong : ChangeSpec := { name := "identOne", fn := fun _ => fun
  | [d] => { results := [.lit (.bool false)], args := [d] }
  | _ => none }
def IdentOneWrongFalsely : Prop := identOneRow.holds Try.pinned (OpenSpec.ofChange identOneWrong)

/-- 'barographlaw08.IdentBack': WHATEVER THE INPUT: true; the input reads as it did. -/
def identBackSpec : ChangeSpec := { name := "identBack", fn := fun _ => fun
  | [d1, d2, d3] => { results := [.lit (.bool true)], args := [d1, d2, d3] }
  | _ => none }
def identBackRow : OpenClaim := { program := "ytmnakjjhphoopaa", sum := "924f0842aefcbd83fc35ec462cff79ba222e0c7164d728d8d4d4a28fcdbfbd97", func := "barograph/barographlaw08.IdentBack", spec := "identBack", inPlace := ["internal/bytealg.IndexByteString", "internal/bytealg.IndexString"], named := ["internal/bytealg.MaxLen"], apart := false }
def IdentBackSaid : Prop := identBackRow.holds Try.pinned (OpenSpec.ofChange identBackSpec)

/-- ITS FALSE NEIGHBOUR: 'it returns false'. Refute it at one input. -/
def identBackWrong : ChangeSpec := { name := "identBack", fn := fun _ => fun
  | [d1, d2, d3] => { results := [.lit (.bool false)], args := [d1, d2, d3] }
  | _ => none }
def IdentBackWrongFalsely : Prop := identBackRow.holds Try.pinned (OpenSpec.ofChange identBackWrong)

/-- 'barographlaw09.MetaMeets': WHATEVER THE INPUT: true; the input reads as it did. -/
def metaMeetsSpec : ChangeSpec := { name := "metaMeets", fn := fun _ => fun
  | [d1, d2] => { results := [.lit (.bool true)], args := [d1, d2] }
  | _ => none }
def metaMeetsRow : OpenClaim := { program := "ytmnakjjhphoopaa", sum := "924f0842aefcbd83fc35ec462cff79ba222e0c7164d728d8d4d4a28fcdbfbd97", func := "barograph/barographlaw09.MetaMeets", spec := "metaMeets", inPlace := ["internal/bytealg.IndexByteString"], apart := false }
def MetaMeetsSaid : Prop := metaMeetsRow.holds Try.pinned (OpenSpec.ofChange metaMeetsSpec)

/-- ITS FALSE NEIGHBOUR: 'it returns false'. Refute it at one input. -/
def metaMeetsWrong : ChangeSpec := { name := "metaMeets", fn := fun _ => fun
  | [d1, d2] => { results := [.lit (.bool false)], args := [d1, d2] }
  | _ => none }
def MetaMeetsWrongFalsely : Prop := metaMeetsRow.holds Try.pinned (OpenSpec.ofChange metaMeetsWrong)

/-- 'barographlaw09.MetaChecks': WHATEVER THE INPUT: true; the input reads as it did. -/
def metaChecksSpec : ChangeSpec := { name := "metaChecks", fn := fun _ => fun
  | [d1, d2, d3, d4, d5] => { results := [.lit (.bool true)], args := [d1, d2, d3, d4, d5] }
  | _ => none }
def metaChecksRow : OpenClaim := { program := "ytmnakjjhphoopaa", sum := "924f0842aefcbd83fc35ec462cff79ba222e0c7164d728d8d4d4a28fcdbfbd97", func := "barograph/barographlaw09.MetaChecks", spec := "metaChecks", inPlace := ["internal/bytealg.IndexByteString"], apart := false }
def MetaChecksSaid : Prop := metaChecksRow.holds Try.pinned (OpenSpec.ofChange metaChecksSpec)

/-- ITS FALSE NEIGHBOUR: 'it returns false'. Refute it at one input. -/
def metaChecksWrong : ChangeSpec := { name := "metaChecks", fn := fun _ => fun
  | [d1, d2, d3, d4, d5] => { results := [.lit (.bool false)], args := [d1, d2, d3, d4, d5] }
  | _ => none }
def MetaChecksWrongFalsely : Prop := metaChecksRow.holds Try.pinned (OpenSpec.ofChange metaChecksWrong)

/-- 'barographlaw09.MetaOne': WHATEVER THE INPUT: true; the input reads as it did. -/
def metaOneSpec : ChangeSpec := { name := "metaOne", fn := fun _ => fun
  | [d] => { results := [.lit (.bool true)], args := [d] }
  | _ => none }
def metaOneRow : OpenClaim := { program := "ytmnakjjhphoopaa", sum := "924f0842aefcbd83fc35ec462cff79ba222e0c7164d728d8d4d4a28fcdbfbd97", func := "barograph/barographlaw09.MetaOne", spec := "metaOne", inPlace := ["internal/bytealg.IndexByteString"], apart := false }
def MetaOneSaid : Prop := metaOneRow.holds Try.pinned (OpenSpec.ofChange metaOneSpec)

/-- ITS FALSE NEIGHBOUR: 'it returns false'. Refute it at one input. -/
def metaOneWrong : ChangeSpec := { name := "metaOne", fn := fun _ => fun
  | [d] => { results := [.lit (.bool false)], args := [d] }
  | _ => none }
def MetaOneWrongFalsely : Prop := metaOneRow.holds Try.pinned (OpenSpec.ofChange metaOneWrong)

/-- 'barographlaw09.MetaBent': WHATEVER THE INPUT: true; the input reads as it did. -/
def metaBentSpec : ChangeSpec := { name := "metaBent", fn := fun _ => fun
  | [d1, d2, d3, d4, d5, d6] => { results := [.lit (.bool true)], args := [d1, d2, d3, d4, d5, d6] }
  | _ => none }
def metaBentRow : OpenClaim := { program := "ytmnakjjhphoopaa", sum := "924f0842aefcbd83fc35ec462cff79ba222e0c7164d728d8d4d4a28fcdbfbd97", func := "barograph/barographlaw09.MetaBent", spec := "metaBent", inPlace := ["internal/bytealg.IndexByteString"], apart := false }
def MetaBentSaid : Prop := metaBentRow.holds Try.pinned (OpenSpec.ofChange metaBentSpec)

/-- ITS FALSE NEIGHBOUR: 'it returns false'. Refute it at one input. -/
def metaBentWrong : ChangeSpec := { name := "metaBent", fn := fun _ => fun
  | [d1, d2, d3, d4, d5, d6] => { results := [.lit (.bool false)], args := [d1, d2, d3, d4, d5, d6] }
  | _ => none }
def MetaBentWrongFalsely : Prop := metaBentRow.holds Try.pinned (OpenSpec.ofChange metaBentWrong)

/-- 'barographlaw09.MetaBack': WHATEVER THE INPUT: true; the input reads as it did. -/
def metaBackSpec : ChangeSpec := { name := "metaBack", fn := fun _ => fun
  | [d1, d2, d3, d4] => { results := [.lit (.bool true)], args := [d1, d2, d3, d4] }
  | _ => none }
def metaBackRow : OpenClaim := { program := "ytmnakjjhphoopaa", sum := "924f0842aefcbd83fc35ec462cff79ba222e0c7164d728d8d4d4a28fcdbfbd97", func := "barograph/barographlaw09.MetaBack", spec := "metaBack", inPlace := ["internal/bytealg.IndexByteString"], apart := false }
def MetaBackSaid : Prop := metaBackRow.holds Try.pinned (OpenSpec.ofChange metaBackSpec)

/-- ITS FALSE NEIGHBOUR: 'it returns false'. Refute it at one input. -/
def metaBackWrong : ChangeSpec := { name := "metaBack", fn := fun _ => fun
  | [d1, d2, d3, d4] => { results := [.lit (.bool false)], args := [d1, d2, d3, d4] }
  | _ => none }
def MetaBackWrongFalsely : Prop := metaBackRow.holds Try.pinned (OpenSpec.ofChange metaBackWrong)

/-- 'barographlaw01.LebWrites': WHATEVER THE INPUT: true; the input reads as it did. -/
def lebWritesSpec : ChangeSpec := { name := "lebWrites", fn := fun _ => fun
  | [d1, d2, d3, d4] => { results := [.lit (.bool true)], args := [d1, d2, d3, d4] }
  | _ => none }
def lebWritesRow : OpenClaim := { program := "ytmnakjjhphoopaa", sum := "924f0842aefcbd83fc35ec462cff79ba222e0c7164d728d8d4d4a28fcdbfbd97", func := "barograph/barographlaw01.LebWrites", spec := "lebWrites", apart := false }
def LebWritesSaid : Prop := lebWritesRow.holds Try.pinned (OpenSpec.ofChange lebWritesSpec)

/-- ITS FALSE NEIGHBOUR: 'it returns false'. Refute it at one input. -/
def lebWritesWrong : ChangeSpec := { name := "lebWrites", fn := fun _ => fun
  | [d1, d2, d3, d4] => { results := [.lit (.bool false)], args := [d1, d2, d3, d4] }
  | _ => none }
def LebWritesWrongFalsely : Prop := lebWritesRow.holds Try.pinned (OpenSpec.ofChange lebWritesWrong)

/- THE SECOND FORM. 'bulk': how many values and letters a reading holds, each counted each time it is reached (what is shared counts as often as it is met; a slice's spare places count too). A statement '..UptoSaid' is the law's where the arguments, and the package variables that the reading takes, are together of bulk at most 1048576: NARROWER than '..Said'. Prove '..Said' where nothing that the law and all that it calls make is longer than what came in: it says more and counts as full. Else prove '..UptoSaid'. A law counts once. -/
mutual
def uptoBulk {H : Type} : DataW H → Nat
  | .lit (.string bytes) => bytes.length + 1
  | .lit _ => 1
  | .nil => 1
  | .ptr d => uptoBulk d + 1
  | .slice elems spare => uptoBulkAll elems + uptoBulkAll spare + 1
  | .agg parts => uptoBulkAll parts + 1
  | .iface _ d => uptoBulk d + 1
  | .map entries => uptoBulkEntries entries + 1
  | .held _ => 1
def uptoBulkAll {H : Type} : List (DataW H) → Nat
  | [] => 0
  | d :: r => uptoBulk d + uptoBulkAll r
def uptoBulkEntries {H : Type} : List (Lit × DataW H) → Nat
  | [] => 0
  | x :: r => uptoBulkEntry x + uptoBulkEntries r
def uptoBulkEntry {H : Type} : Lit × DataW H → Nat
  | (.string bytes, d) => bytes.length + uptoBulk d + 1
  | (_, d) => uptoBulk d + 1
 end
def uptoSmall : (H : Type) → List (DataW H) → Bool := fun _ ds => decide (uptoBulkAll ds ≤ 1048576)
def OpenSpec.upto (s : _root_.Go.ChangeSpec) : _root_.Go.OpenSpec := { _root_.Go.OpenSpec.ofChange s with cond := some uptoSmall }

/-- 'barographlaw02.FrameParts', WHERE WHAT IT READS IS OF BULK AT MOST 1048576: true; the input reads as it did. -/
def framePartsUptoRow : OpenClaim := { program := "ytmnakjjhphoopaa", sum := "924f0842aefcbd83fc35ec462cff79ba222e0c7164d728d8d4d4a28fcdbfbd97", func := "barograph/barographlaw02.FrameParts", spec := "frameParts", apart := false, narrowed := true }
def FramePartsUptoSaid : Prop := framePartsUptoRow.holds Try.pinned (OpenSpec.upto framePartsSpec)

/-- 'barographlaw02.FrameBit', WHERE WHAT IT READS IS OF BULK AT MOST 1048576: true; the input reads as it did. -/
def frameBitUptoRow : OpenClaim := { program := "ytmnakjjhphoopaa", sum := "924f0842aefcbd83fc35ec462cff79ba222e0c7164d728d8d4d4a28fcdbfbd97", func := "barograph/barographlaw02.FrameBit", spec := "frameBit", apart := false, narrowed := true }
def FrameBitUptoSaid : Prop := frameBitUptoRow.holds Try.pinned (OpenSpec.upto frameBitSpec)

/-- 'barographlaw02.FrameReads', WHERE WHAT IT READS IS OF BULK AT MOST 1048576: true; the input reads as it did. -/
def frameReadsUptoRow : OpenClaim := { program := "ytmnakjjhphoopaa", sum := "924f0842aefcbd83fc35ec462cff79ba222e0c7164d728d8d4d4a28fcdbfbd97", func := "barograph/barographlaw02.FrameReads", spec := "frameReads", apart := false, narrowed := true }
def FrameReadsUptoSaid : Prop := frameReadsUptoRow.holds Try.pinned (OpenSpec.upto frameReadsSpec)

/-- 'barographlaw02.FrameTorn', WHERE WHAT IT READS IS OF BULK AT MOST 1048576: true; the input reads as it did. -/
def frameTornUptoRow : OpenClaim := { program := "ytmnakjjhphoopaa", sum := "924f0842aefcbd83fc35ec462cff79ba222e0c7164d728d8d4d4a28fcdbfbd97", func := "barograph/barographlaw02.FrameTorn", spec := "frameTorn", apart := false, narrowed := true }
def FrameTornUptoSaid : Prop := frameTornUptoRow.holds Try.pinned (OpenSpec.upto frameTornSpec)

/-- 'barographlaw02.FrameBehind', WHERE WHAT IT READS IS OF BULK AT MOST 1048576: true; the input reads as it did. -/
def frameBehindUptoRow : OpenClaim := { program := "ytmnakjjhphoopaa", sum := "924f0842aefcbd83fc35ec462cff79ba222e0c7164d728d8d4d4a28fcdbfbd97", func := "barograph/barographlaw02.FrameBehind", spec := "frameBehind", apart := false, narrowed := true }
def FrameBehindUptoSaid : Prop := frameBehindUptoRow.holds Try.pinned (OpenSpec.upto frameBehindSpec)

/-- 'barographlaw08.IdentNames', WHERE WHAT IT READS IS OF BULK AT MOST 1048576: true; the input reads as it did. -/
def identNamesUptoRow : OpenClaim := { program := "ytmnakjjhphoopaa", sum := "924f0842aefcbd83fc35ec462cff79ba222e0c7164d728d8d4d4a28fcdbfbd97", func := "barograph/barographlaw08.IdentNames", spec := "identNames", inPlace := ["internal/bytealg.IndexByteString", "internal/bytealg.IndexString"], named := ["internal/bytealg.MaxLen"], apart := false, narrowed := true }
def IdentNamesUptoSaid : Prop := identNamesUptoRow.holds Try.pinned (OpenSpec.upto identNamesSpec)

/-- 'barographlaw08.IdentRises', WHERE WHAT IT READS IS OF BULK AT MOST 1048576: true; the input reads as it did. -/
def identRisesUptoRow : OpenClaim := { program := "ytmnakjjhphoopaa", sum := "924f0842aefcbd83fc35ec462cff79ba222e0c7164d728d8d4d4a28fcdbfbd97", func := "barograph/barographlaw08.IdentRises", spec := "identRises", inPlace := ["internal/bytealg.IndexByteString", "internal/bytealg.IndexString"], named := ["internal/bytealg.MaxLen"], apart := false, narrowed := true }
def IdentRisesUptoSaid : Prop := identRisesUptoRow.holds Try.pinned (OpenSpec.upto identRisesSpec)

/-- 'barographlaw08.IdentOne', WHERE WHAT IT READS IS OF BULK AT MOST 1048576: true; the input reads as it did. -/
def identOneUptoRow : OpenClaim := { program := "ytmnakjjhphoopaa", sum := "924f0842aefcbd83fc35ec462cff79ba222e0c7164d728d8d4d4a28fcdbfbd97", func := "barograph/barographlaw08.IdentOne", spec := "identOne", inPlace := ["internal/bytealg.IndexByteString", "internal/bytealg.IndexString"], named := ["internal/bytealg.MaxLen"], apart := false, narrowed := true }
def IdentOneUptoSaid : Prop := identOneUptoRow.holds Try.pinned (OpenSpec.upto identOneSpec)

/-- 'barographlaw08.IdentBack', WHERE WHAT IT READS IS OF BULK AT MOST 1048576: true; the input reads as it did. -/
def identBackUptoRow : OpenClaim := { program := "ytmnakjjhphoopaa", sum := "924f0842aefcbd83fc35ec462cff79ba222e0c7164d728d8d4d4a28fcdbfbd97", func := "barograph/barographlaw08.IdentBack", spec := "identBack", inPlace := ["internal/bytealg.IndexByteString", "internal/bytealg.IndexString"], named := ["internal/bytealg.MaxLen"], apart := false, narrowed := true }
def IdentBackUptoSaid : Prop := identBackUptoRow.holds Try.pinned (OpenSpec.upto identBackSpec)

/-- 'barographlaw09.MetaMeets', WHERE WHAT IT READS IS OF BULK AT MOST 1048576: true; the input reads as it did. -/
def metaMeetsUptoRow : OpenClaim := { program := "ytmnakjjhphoopaa", sum := "924f0842aefcbd83fc35ec462cff79ba222e0c7164d728d8d4d4a28fcdbfbd97", func := "barograph/barographlaw09.MetaMeets", spec := "metaMeets", inPlace := ["internal/bytealg.IndexByteString"], apart := false, narrowed := true }
def MetaMeetsUptoSaid : Prop := metaMeetsUptoRow.holds Try.pinned (OpenSpec.upto metaMeetsSpec)

/-- 'barographlaw09.MetaChecks', WHERE WHAT IT READS IS OF BULK AT MOST 1048576: true; the input reads as it did. -/
def metaChecksUptoRow : OpenClaim := { program := "ytmnakjjhphoopaa", sum := "924f0842aefcbd83fc35ec462cff79ba222e0c7164d728d8d4d4a28fcdbfbd97", func := "barograph/barographlaw09.MetaChecks", spec := "metaChecks", inPlace := ["internal/bytealg.IndexByteString"], apart := false, narrowed := true }
def MetaChecksUptoSaid : Prop := metaChecksUptoRow.holds Try.pinned (OpenSpec.upto metaChecksSpec)

/-- 'barographlaw09.MetaOne', WHERE WHAT IT READS IS OF BULK AT MOST 1048576: true; the input reads as it did. -/
def metaOneUptoRow : OpenClaim := { program := "ytmnakjjhphoopaa", sum := "924f0842aefcbd83fc35ec462cff79ba222e0c7164d728d8d4d4a28fcdbfbd97", func := "barograph/barographlaw09.MetaOne", spec := "metaOne", inPlace := ["internal/bytealg.IndexByteString"], apart := false, narrowed := true }
def MetaOneUptoSaid : Prop := metaOneUptoRow.holds Try.pinned (OpenSpec.upto metaOneSpec)

/-- 'barographlaw09.MetaBent', WHERE WHAT IT READS IS OF BULK AT MOST 1048576: true; the input reads as it did. -/
def metaBentUptoRow : OpenClaim := { program := "ytmnakjjhphoopaa", sum := "924f0842aefcbd83fc35ec462cff79ba222e0c7164d728d8d4d4a28fcdbfbd97", func := "barograph/barographlaw09.MetaBent", spec := "metaBent", inPlace := ["internal/bytealg.IndexByteString"], apart := false, narrowed := true }
def MetaBentUptoSaid : Prop := metaBentUptoRow.holds Try.pinned (OpenSpec.upto metaBentSpec)

/-- 'barographlaw09.MetaBack', WHERE WHAT IT READS IS OF BULK AT MOST 1048576: true; the input reads as it did. -/
def metaBackUptoRow : OpenClaim := { program := "ytmnakjjhphoopaa", sum := "924f0842aefcbd83fc35ec462cff79ba222e0c7164d728d8d4d4a28fcdbfbd97", func := "barograph/barographlaw09.MetaBack", spec := "metaBack", inPlace := ["internal/bytealg.IndexByteString"], apart := false, narrowed := true }
def MetaBackUptoSaid : Prop := metaBackUptoRow.holds Try.pinned (OpenSpec.upto metaBackSpec)

/-- 'barographlaw01.LebWrites', WHERE WHAT IT READS IS OF BULK AT MOST 1048576: true; the input reads as it did. -/
def lebWritesUptoRow : OpenClaim := { program := "ytmnakjjhphoopaa", sum := "924f0842aefcbd83fc35ec462cff79ba222e0c7164d728d8d4d4a28fcdbfbd97", func := "barograph/barographlaw01.LebWrites", spec := "lebWrites", apart := false, narrowed := true }
def LebWritesUptoSaid : Prop := lebWritesUptoRow.holds Try.pinned (OpenSpec.upto lebWritesSpec)

end Rows
end Go.Proofs.Ytmnakjjhphoopaa
