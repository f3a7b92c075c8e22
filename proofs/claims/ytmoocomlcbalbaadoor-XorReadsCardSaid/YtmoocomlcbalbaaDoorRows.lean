/-
  NARROWER THAN 'FOR EVERY INPUT', by the rows' own cells (each row's printed sentence says how): XorReads: laid · XorBack: laid · XorOne: laid · XorSteady: laid · XorLess: laid · XorWrites: laid · XorFull: laid.
  DERIVED. THE GIVEN ROWS OF THIS SEAT. 7 by the template 'for every input the law returns true; each argument reads behind the call as it read before'; 0 by the template 'total and deterministic' (their statements: YtmoocomlcbalbaaDoorTotals.lean).
  GIVEN WITH THE SEED: the statements are not yours to turn. If you find one false, say at which input.
  Laid BY PROGRAM, IN A SANDBOX (cutbox-rows.mjs): the forced cells as the released guide's own fill.sh prints them over the translation b8b439f5610f0427… (all of the seat's roots in one cut). By AI agents, Wed Nov 11 2026. No macro, syntax, notation, axiom, sorry.
-/
import Derived.Test.YtmoocomlcbalbaaDoorChecked
import GoSem.Claim
import GoSem.ClaimJoined
import GoSem.ClaimMapViews
import Derived.JoinedTies
import Derived.KernelRfl
namespace Go.Proofs.YtmoocomlcbalbaaDoor
/- THE CELL 'sum', in the pinned program and in every row, IS THE sha256 OF THE DUMP (.gsa) THAT YtmoocomlcbalbaaDoorProg.lean LOADS. Nothing in Lean hashes anything: it is a label: what it is worth is what the hold of that sum in a sandbox is worth. -/
noncomputable def Tryd.pinned : Pinned := { name := "ytmoocomlcbalbaadoor", sum := "b8b439f5610f0427c332c15c7c8511e9757371e0c28b095ceeef299ce73f14bd", checked := Tryd.checked }
namespace Rows
def none {H : Type} : Left H := { results := [], args := [] }

/- WHAT THE LISTED PACKAGE-LEVEL VARIABLES READ AS WHEN THE CALL BEGINS. Each datum BY PROGRAM (the guide's laid-datum.mjs) off the statement by which the dump's own 'gosem.cut.vars' lays the variable. In a bare row this is a premise. The card (YtmoocomlcbalbaaDoorCards.lean) ties it to the program's text. -/
def laid_barograph_xor_widths {H : Type} : DataW H := .agg [.lit (.int .i64 0), .lit (.int .i64 7), .lit (.int .i64 12), .lit (.int .i64 20), .lit (.int .i64 64)]

/-- 'barographlaw07.XorReads': WHATEVER THE INPUT: true; the input reads as it did. -/
def xorReadsSpec : ChangeSpec := { name := "xorReads", fn := fun _ => fun
  | [d] => { results := [.lit (.bool true)], args := [d] }
  | _ => none }
def xorReadsRow : OpenClaim := { program := "ytmoocomlcbalbaadoor", sum := "b8b439f5610f0427c332c15c7c8511e9757371e0c28b095ceeef299ce73f14bd", func := "barograph/barographlaw07.XorReads", spec := "xorReads", named := ["barograph/xor.widths"], apart := false, laid := [("barograph/xor.widths", laid_barograph_xor_widths)] }
def XorReadsSaid : Prop := xorReadsRow.holds Tryd.pinned (OpenSpec.ofChange xorReadsSpec)

/-- ITS FALSE NEIGHBOUR: 'it returns false'. Refute it at one input. -/
def xorReadsWrong : ChangeSpec := { name := "xorReads", fn := fun _ => fun
  | [d] => { results := [.lit (.bool false)], args := [d] }
  | _ => none }
def XorReadsWrongFalsely : Prop := xorReadsRow.holds Tryd.pinned (OpenSpec.ofChange xorReadsWrong)

/-- 'barographlaw07.XorBack': WHATEVER THE INPUT: true; the input reads as it did. -/
def xorBackSpec : ChangeSpec := { name := "xorBack", fn := fun _ => fun
  | [d] => { results := [.lit (.bool true)], args := [d] }
  | _ => none }
def xorBackRow : OpenClaim := { program := "ytmoocomlcbalbaadoor", sum := "b8b439f5610f0427c332c15c7c8511e9757371e0c28b095ceeef299ce73f14bd", func := "barograph/barographlaw07.XorBack", spec := "xorBack", named := ["barograph/xor.widths"], apart := false, laid := [("barograph/xor.widths", laid_barograph_xor_widths)] }
def XorBackSaid : Prop := xorBackRow.holds Tryd.pinned (OpenSpec.ofChange xorBackSpec)

/-- ITS FALSE NEIGHBOUR: 'it returns false'. Refute it at one input. -/
def xorBackWrong : ChangeSpec := { name := "xorBack", fn := fun _ => fun
  | [d] => { results := [.lit (.bool false)], args := [d] }
  | _ => none }
def XorBackWrongFalsely : Prop := xorBackRow.holds Tryd.pinned (OpenSpec.ofChange xorBackWrong)

/-- 'barographlaw07.XorOne': WHATEVER THE INPUT: true; the input reads as it did. -/
def xorOneSpec : ChangeSpec := { name := "xorOne", fn := fun _ => fun
  | [d] => { results := [.lit (.bool true)], args := [d] }
  | _ => none }
def xorOneRow : OpenClaim := { program := "ytmoocomlcbalbaadoor", sum := "b8b439f5610f0427c332c15c7c8511e9757371e0c28b095ceeef299ce73f14bd", func := "barograph/barographlaw07.XorOne", spec := "xorOne", named := ["barograph/xor.widths"], apart := false, laid := [("barograph/xor.widths", laid_barograph_xor_widths)] }
def XorOneSaid : Prop := xorOneRow.holds Tryd.pinned (OpenSpec.ofChange xorOneSpec)

/-- ITS FALSE NEIGHBOUR: 'it returns false'. Refute it at one input. -/
def xorOneWrong : ChangeSpec := { name := "xorOne", fn := fun _ => fun
  | [d] => { results := [.lit (.bool false)], args := [d] }
  | _ => none }
def XorOneWrongFalsely : Prop := xorOneRow.holds Tryd.pinned (OpenSpec.ofChange xorOneWrong)

/-- 'barographlaw07.XorSteady': WHATEVER THE INPUT: true; the input reads as it did. -/
def xorSteadySpec : ChangeSpec := { name := "xorSteady", fn := fun _ => fun
  | [d1, d2, d3] => { results := [.lit (.bool true)], args := [d1, d2, d3] }
  | _ => none }
def xorSteadyRow : OpenClaim := { program := "ytmoocomlcbalbaadoor", sum := "b8b439f5610f0427c332c15c7c8511e9757371e0c28b095ceeef299ce73f14bd", func := "barograph/barographlaw07.XorSteady", spec := "xorSteady", named := ["barograph/xor.widths"], apart := false, laid := [("barograph/xor.widths", laid_barograph_xor_widths)] }
def XorSteadySaid : Prop := xorSteadyRow.holds Tryd.pinned (OpenSpec.ofChange xorSteadySpec)

/-- ITS FALSE NEIGHBOUR: 'it returns false'. Refute it at one input. -/
def xorSteadyWrong : ChangeSpec := { name := "xorSteady", fn := fun _ => fun
  | [d1, d2, d3] => { results := [.lit (.bool false)], args := [d1, d2, d3] }
  | _ => none }
def XorSteadyWrongFalsely : Prop := xorSteadyRow.holds Tryd.pinned (OpenSpec.ofChange xorSteadyWrong)

/-- 'barographlaw07.XorLess': WHATEVER THE INPUT: true; the input reads as it did. -/
def xorLessSpec : ChangeSpec := { name := "xorLess", fn := fun _ => fun
  | [d1, d2] => { results := [.lit (.bool true)], args := [d1, d2] }
  | _ => none }
def xorLessRow : OpenClaim := { program := "ytmoocomlcbalbaadoor", sum := "b8b439f5610f0427c332c15c7c8511e9757371e0c28b095ceeef299ce73f14bd", func := "barograph/barographlaw07.XorLess", spec := "xorLess", named := ["barograph/xor.widths"], apart := false, laid := [("barograph/xor.widths", laid_barograph_xor_widths)] }
def XorLessSaid : Prop := xorLessRow.holds Tryd.pinned (OpenSpec.ofChange xorLessSpec)

/-- ITS FALSE NEIGHBOUR: 'it returns false'. Refute it at one input. -/
def xorLessWrong : ChangeSpec := { name := "xorLess", fn := fun _ => fun
  | [d1, d2] => { results := [.lit (.bool false)], args := [d1, d2] }
  | _ => none }
def XorLessWrongFalsely : Prop := xorLessRow.holds Tryd.pinned (OpenSpec.ofChange xorLessWrong)

/-- 'barographlaw07.XorWrites': WHATEVER THE INPUT: true; the input reads as it did. -/
def xorWritesSpec : ChangeSpec := { name := "xorWrites", fn := fun _ => fun
  | [d] => { results := [.lit (.bool true)], args := [d] }
  | _ => none }
def xorWritesRow : OpenClaim := { program := "ytmoocomlcbalbaadoor", sum := "b8b439f5610f0427c332c15c7c8511e9757371e0c28b095ceeef299ce73f14bd", func := "barograph/barographlaw07.XorWrites", spec := "xorWrites", named := ["barograph/xor.widths"], apart := false, laid := [("barograph/xor.widths", laid_barograph_xor_widths)] }
def XorWritesSaid : Prop := xorWritesRow.holds Tryd.pinned (OpenSpec.ofChange xorWritesSpec)

/-- ITS FALSE NEIGHBOUR: 'it returns false'. Refute it at one input. -/
def xorWritesWrong : ChangeSpec := { name := "xorWrites", fn := fun _ => fun
  | [d] => { results := [.lit (.bool false)], args := [d] }
  | _ => none }
def XorWritesWrongFalsely : Prop := xorWritesRow.holds Tryd.pinned (OpenSpec.ofChange xorWritesWrong)

/-- 'barographlaw07.XorFull': WHATEVER THE INPUT: true; the input reads as it did. -/
def xorFullSpec : ChangeSpec := { name := "xorFull", fn := fun _ => fun
  | [d1, d2] => { results := [.lit (.bool true)], args := [d1, d2] }
  | _ => none }
def xorFullRow : OpenClaim := { program := "ytmoocomlcbalbaadoor", sum := "b8b439f5610f0427c332c15c7c8511e9757371e0c28b095ceeef299ce73f14bd", func := "barograph/barographlaw07.XorFull", spec := "xorFull", named := ["barograph/xor.widths"], apart := false, laid := [("barograph/xor.widths", laid_barograph_xor_widths)] }
def XorFullSaid : Prop := xorFullRow.holds Tryd.pinned (OpenSpec.ofChange xorFullSpec)

/-- ITS FALSE NEIGHBOUR: 'it returns false'. Refute it at one input. -/
def xorFullWrong : ChangeSpec := { name := "xorFull", fn := fun _ => fun
  | [d1, d2] => { results := [.lit (.bool false)], args := [d1, d2] }
  | _ => none }
def XorFullWrongFalsely : Prop := xorFullRow.holds Tryd.pinned (OpenSpec.ofChange xorFullWrong)

/- THE SECOND FORM. 'bulk': how many values and letters a reading holds, each counted each time it is reached (what is shared counts as often as it is met; a slice's spare places count too). A statement '..UptoSaid' is the law's where the arguments, and the package variables that the reading takes, are together of bulk at most 1048576: NARROWER than '..Said'. Prove '..Said' where nothing that the law and all that it calls make is longer than what came in: it says more and counts as full. Else prove '..UptoSaid'. A law counts once. -/
mutual
def uptoBulk {H : Type} : DataW H → Nat
  | .lit (.string bytes) => bytes.length + 1
  | .lit _ => 1
  | .nil => 1
  | .ptr d => uptoBulk d + 1
  | .slice elems spare => uptoBulkAll elems + uptoBulkAll spare + 1
  | .agg parts => uptoBulkAll parts + 1
  | .iface _ d => uptoBulk d + 1
  | .map entries => uptoBulkEntries entries + 1
  | .held _ => 1
def uptoBulkAll {H : Type} : List (DataW H) → Nat
  | [] => 0
  | d :: r => uptoBulk d + uptoBulkAll r
def uptoBulkEntries {H : Type} : List (Lit × DataW H) → Nat
  | [] => 0
  | x :: r => uptoBulkEntry x + uptoBulkEntries r
def uptoBulkEntry {H : Type} : Lit × DataW H → Nat
  | (.string bytes, d) => bytes.length + uptoBulk d + 1
  | (_, d) => uptoBulk d + 1
 end
def uptoSmall : (H : Type) → List (DataW H) → Bool := fun _ ds => decide (uptoBulkAll ds ≤ 1048576)
def OpenSpec.upto (s : _root_.Go.ChangeSpec) : _root_.Go.OpenSpec := { _root_.Go.OpenSpec.ofChange s with cond := some uptoSmall }

/-- 'barographlaw07.XorReads', WHERE WHAT IT READS IS OF BULK AT MOST 1048576: true; the input reads as it did. -/
def xorReadsUptoRow : OpenClaim := { program := "ytmoocomlcbalbaadoor", sum := "b8b439f5610f0427c332c15c7c8511e9757371e0c28b095ceeef299ce73f14bd", func := "barograph/barographlaw07.XorReads", spec := "xorReads", named := ["barograph/xor.widths"], apart := false, laid := [("barograph/xor.widths", laid_barograph_xor_widths)], narrowed := true }
def XorReadsUptoSaid : Prop := xorReadsUptoRow.holds Tryd.pinned (OpenSpec.upto xorReadsSpec)

/-- 'barographlaw07.XorBack', WHERE WHAT IT READS IS OF BULK AT MOST 1048576: true; the input reads as it did. -/
def xorBackUptoRow : OpenClaim := { program := "ytmoocomlcbalbaadoor", sum := "b8b439f5610f0427c332c15c7c8511e9757371e0c28b095ceeef299ce73f14bd", func := "barograph/barographlaw07.XorBack", spec := "xorBack", named := ["barograph/xor.widths"], apart := false, laid := [("barograph/xor.widths", laid_barograph_xor_widths)], narrowed := true }
def XorBackUptoSaid : Prop := xorBackUptoRow.holds Tryd.pinned (OpenSpec.upto xorBackSpec)

/-- 'barographlaw07.XorOne', WHERE WHAT IT READS IS OF BULK AT MOST 1048576: true; the input reads as it did. -/
def xorOneUptoRow : OpenClaim := { program := "ytmoocomlcbalbaadoor", sum := "b8b439f5610f0427c332c15c7c8511e9757371e0c28b095ceeef299ce73f14bd", func := "barograph/barographlaw07.XorOne", spec := "xorOne", named := ["barograph/xor.widths"], apart := false, laid := [("barograph/xor.widths", laid_barograph_xor_widths)], narrowed := true }
def XorOneUptoSaid : Prop := xorOneUptoRow.holds Tryd.pinned (OpenSpec.upto xorOneSpec)

/-- 'barographlaw07.XorSteady', WHERE WHAT IT READS IS OF BULK AT MOST 1048576: true; the input reads as it did. -/
def xorSteadyUptoRow : OpenClaim := { program := "ytmoocomlcbalbaadoor", sum := "b8b439f5610f0427c332c15c7c8511e9757371e0c28b095ceeef299ce73f14bd", func := "barograph/barographlaw07.XorSteady", spec := "xorSteady", named := ["barograph/xor.widths"], apart := false, laid := [("barograph/xor.widths", laid_barograph_xor_widths)], narrowed := true }
def XorSteadyUptoSaid : Prop := xorSteadyUptoRow.holds Tryd.pinned (OpenSpec.upto xorSteadySpec)

/-- 'barographlaw07.XorLess', WHERE WHAT IT READS IS OF BULK AT MOST 1048576: true; the input reads as it did. -/
def xorLessUptoRow : OpenClaim := { program := "ytmoocomlcbalbaadoor", sum := "b8b439f5610f0427c332c15c7c8511e9757371e0c28b095ceeef299ce73f14bd", func := "barograph/barographlaw07.XorLess", spec := "xorLess", named := ["barograph/xor.widths"], apart := false, laid := [("barograph/xor.widths", laid_barograph_xor_widths)], narrowed := true }
def XorLessUptoSaid : Prop := xorLessUptoRow.holds Tryd.pinned (OpenSpec.upto xorLessSpec)

/-- 'barographlaw07.XorWrites', WHERE WHAT IT READS IS OF BULK AT MOST 1048576: true; the input reads as it did. -/
def xorWritesUptoRow : OpenClaim := { program := "ytmoocomlcbalbaadoor", sum := "b8b439f5610f0427c332c15c7c8511e9757371e0c28b095ceeef299ce73f14bd", func := "barograph/barographlaw07.XorWrites", spec := "xorWrites", named := ["barograph/xor.widths"], apart := false, laid := [("barograph/xor.widths", laid_barograph_xor_widths)], narrowed := true }
def XorWritesUptoSaid : Prop := xorWritesUptoRow.holds Tryd.pinned (OpenSpec.upto xorWritesSpec)

/-- 'barographlaw07.XorFull', WHERE WHAT IT READS IS OF BULK AT MOST 1048576: true; the input reads as it did. -/
def xorFullUptoRow : OpenClaim := { program := "ytmoocomlcbalbaadoor", sum := "b8b439f5610f0427c332c15c7c8511e9757371e0c28b095ceeef299ce73f14bd", func := "barograph/barographlaw07.XorFull", spec := "xorFull", named := ["barograph/xor.widths"], apart := false, laid := [("barograph/xor.widths", laid_barograph_xor_widths)], narrowed := true }
def XorFullUptoSaid : Prop := xorFullUptoRow.holds Tryd.pinned (OpenSpec.upto xorFullSpec)

end Rows
end Go.Proofs.YtmoocomlcbalbaaDoor
