/-
  NARROWER THAN 'FOR EVERY INPUT', by the rows' own cells (each row's printed sentence says how): BlockReads: laid · BlockBuilds: laid · BlockTables: laid · BlockBack: laid · BlockBent: laid · BlockEntries: laid.
  DERIVED. THE GIVEN ROWS OF THIS SEAT. 6 by the template 'for every input the law returns true; each argument reads behind the call as it read before'; 0 by the template 'total and deterministic' (their statements: YtgabmfibfikdbaaGreatDoorTotals.lean).
  GIVEN WITH THE SEED: the statements are not yours to turn. If you find one false, say at which input.
  Laid BY PROGRAM, IN A SANDBOX (cutbox-rows.mjs): the forced cells as the released guide's own fill.sh prints them over the translation e1d3b782bc77d08f… (all of the seat's roots in one cut). By AI agents, Wed Nov 11 2026. No macro, syntax, notation, axiom, sorry.
-/
import Derived.Test.YtgabmfibfikdbaaGreatDoorChecked
import GoSem.PinnedTables
import GoSem.Claim
import GoSem.ClaimJoined
import GoSem.ClaimMapViews
import Derived.JoinedTies
import Derived.KernelRfl
namespace Go.Proofs.YtgabmfibfikdbaaGreatDoor
/- THE CELL 'sum', in the pinned program and in every row, IS THE sha256 OF THE DUMP (.gsa) THAT YtgabmfibfikdbaaGreatDoorProg.lean LOADS. Nothing in Lean hashes anything: it is a label: what it is worth is what the hold of that sum in a sandbox is worth. -/
noncomputable def Tryz.pinned : Pinned := { name := "ytgabmfibfikdbaagreatdoor", sum := "e1d3b782bc77d08f604ebd5e89c7f41f0135a32a76dd58da663f2c2d3be6119e", checked := Tryz.checked }
namespace Rows
def none {H : Type} : Left H := { results := [], args := [] }

/- WHAT THE LISTED PACKAGE-LEVEL VARIABLES READ AS WHEN THE CALL BEGINS. Each datum BY PROGRAM (the guide's laid-datum.mjs) off the statement by which the dump's own 'gosem.cut.vars' lays the variable. In a bare row this is a premise. The card (YtgabmfibfikdbaaGreatDoorCards.lean) ties it to the program's text. -/
def laid_barograph_xor_widths {H : Type} : DataW H := .agg [.lit (.int .i64 0), .lit (.int .i64 7), .lit (.int .i64 12), .lit (.int .i64 20), .lit (.int .i64 64)]
def laid_unicode_utf8_acceptRanges {H : Type} : DataW H := .agg [.agg [.lit (.int .u8 128), .lit (.int .u8 191)], .agg [.lit (.int .u8 160), .lit (.int .u8 191)], .agg [.lit (.int .u8 128), .lit (.int .u8 159)], .agg [.lit (.int .u8 144), .lit (.int .u8 191)], .agg [.lit (.int .u8 128), .lit (.int .u8 143)], .agg [.lit (.int .u8 0), .lit (.int .u8 0)], .agg [.lit (.int .u8 0), .lit (.int .u8 0)], .agg [.lit (.int .u8 0), .lit (.int .u8 0)], .agg [.lit (.int .u8 0), .lit (.int .u8 0)], .agg [.lit (.int .u8 0), .lit (.int .u8 0)], .agg [.lit (.int .u8 0), .lit (.int .u8 0)], .agg [.lit (.int .u8 0), .lit (.int .u8 0)], .agg [.lit (.int .u8 0), .lit (.int .u8 0)], .agg [.lit (.int .u8 0), .lit (.int .u8 0)], .agg [.lit (.int .u8 0), .lit (.int .u8 0)], .agg [.lit (.int .u8 0), .lit (.int .u8 0)]]
/-- One of Go's own tables, pinned by name: the form's constant. -/
def laid_unicode_utf8_first : DataW Unit := Go.Pinned.utf8First

/-- 'barographlaw16.BlockReads': WHATEVER THE INPUT: true; the input reads as it did. -/
def blockReadsSpec : ChangeSpec := { name := "blockReads", fn := fun _ => fun
  | [d1, d2, d3] => { results := [.lit (.bool true)], args := [d1, d2, d3] }
  | _ => none }
def blockReadsRow : OpenClaim := { program := "ytgabmfibfikdbaagreatdoor", sum := "e1d3b782bc77d08f604ebd5e89c7f41f0135a32a76dd58da663f2c2d3be6119e", func := "barograph/barographlaw16.BlockReads", spec := "blockReads", inPlace := ["internal/bytealg.abigen_runtime_cmpstring", "internal/bytealg.IndexByteString", "internal/bytealg.IndexString"], unfollowed := true, recurses := true, named := ["barograph/xor.widths", "unicode/utf8.first", "unicode/utf8.acceptRanges", "internal/bytealg.MaxLen"], apart := false, laid := [("barograph/xor.widths", laid_barograph_xor_widths), ("unicode/utf8.acceptRanges", laid_unicode_utf8_acceptRanges), ("unicode/utf8.first", laid_unicode_utf8_first)] }
def BlockReadsSaid : Prop := blockReadsRow.holds Tryz.pinned (OpenSpec.ofChange blockReadsSpec)

/-- ITS FALSE NEIGHBOUR: 'it returns false'. Refute it at one input. -/
def blockReadsWrong : ChangeSpec := { name := "blockReads", fn := fun _ => fun
  | [d1, d2, d3] => { results := [.lit (.bool false)], args := [d1, d2, d3] }
  | _ => none }
def BlockReadsWrongFalsely : Prop := blockReadsRow.holds Tryz.pinned (OpenSpec.ofChange blockReadsWrong)

/-- 'barographlaw16.BlockBuilds': WHATEVER THE INPUT: true; the input reads as it did. -/
def blockBuildsSpec : ChangeSpec := { name := "blockBuilds", fn := fun _ => fun
  | [d1, d2, d3] => { results := [.lit (.bool true)], args := [d1, d2, d3] }
  | _ => none }
def blockBuildsRow : OpenClaim := { program := "ytgabmfibfikdbaagreatdoor", sum := "e1d3b782bc77d08f604ebd5e89c7f41f0135a32a76dd58da663f2c2d3be6119e", func := "barograph/barographlaw16.BlockBuilds", spec := "blockBuilds", inPlace := ["internal/bytealg.IndexByteString", "internal/bytealg.IndexString", "internal/bytealg.abigen_runtime_cmpstring"], unfollowed := true, recurses := true, named := ["unicode/utf8.first", "unicode/utf8.acceptRanges", "internal/bytealg.MaxLen", "barograph/xor.widths"], apart := false, laid := [("barograph/xor.widths", laid_barograph_xor_widths), ("unicode/utf8.acceptRanges", laid_unicode_utf8_acceptRanges), ("unicode/utf8.first", laid_unicode_utf8_first)] }
def BlockBuildsSaid : Prop := blockBuildsRow.holds Tryz.pinned (OpenSpec.ofChange blockBuildsSpec)

/-- ITS FALSE NEIGHBOUR: 'it returns false'. Refute it at one input. -/
def blockBuildsWrong : ChangeSpec := { name := "blockBuilds", fn := fun _ => fun
  | [d1, d2, d3] => { results := [.lit (.bool false)], args := [d1, d2, d3] }
  | _ => none }
def BlockBuildsWrongFalsely : Prop := blockBuildsRow.holds Tryz.pinned (OpenSpec.ofChange blockBuildsWrong)

/-- 'barographlaw16.BlockTables': WHATEVER THE INPUT: true; the input reads as it did. -/
def blockTablesSpec : ChangeSpec := { name := "blockTables", fn := fun _ => fun
  | [d1, d2, d3, d4, d5, d6, d7] => { results := [.lit (.bool true)], args := [d1, d2, d3, d4, d5, d6, d7] }
  | _ => none }
def blockTablesRow : OpenClaim := { program := "ytgabmfibfikdbaagreatdoor", sum := "e1d3b782bc77d08f604ebd5e89c7f41f0135a32a76dd58da663f2c2d3be6119e", func := "barograph/barographlaw16.BlockTables", spec := "blockTables", inPlace := ["internal/bytealg.IndexByteString", "internal/bytealg.IndexString", "internal/bytealg.abigen_runtime_cmpstring"], unfollowed := true, recurses := true, named := ["unicode/utf8.first", "unicode/utf8.acceptRanges", "internal/bytealg.MaxLen", "barograph/xor.widths"], apart := false, laid := [("barograph/xor.widths", laid_barograph_xor_widths), ("unicode/utf8.acceptRanges", laid_unicode_utf8_acceptRanges), ("unicode/utf8.first", laid_unicode_utf8_first)] }
def BlockTablesSaid : Prop := blockTablesRow.holds Tryz.pinned (OpenSpec.ofChange blockTablesSpec)

/-- ITS FALSE NEIGHBOUR: 'it returns false'. Refute it at one input. -/
def blockTablesWrong : ChangeSpec := { name := "blockTables", fn := fun _ => fun
  | [d1, d2, d3, d4, d5, d6, d7] => { results := [.lit (.bool false)], args := [d1, d2, d3, d4, d5, d6, d7] }
  | _ => none }
def BlockTablesWrongFalsely : Prop := blockTablesRow.holds Tryz.pinned (OpenSpec.ofChange blockTablesWrong)

/-- 'barographlaw16.BlockBack': WHATEVER THE INPUT: true; the input reads as it did. -/
def blockBackSpec : ChangeSpec := { name := "blockBack", fn := fun _ => fun
  | [d1, d2, d3] => { results := [.lit (.bool true)], args := [d1, d2, d3] }
  | _ => none }
def blockBackRow : OpenClaim := { program := "ytgabmfibfikdbaagreatdoor", sum := "e1d3b782bc77d08f604ebd5e89c7f41f0135a32a76dd58da663f2c2d3be6119e", func := "barograph/barographlaw16.BlockBack", spec := "blockBack", inPlace := ["internal/bytealg.IndexByteString", "internal/bytealg.IndexString", "internal/bytealg.abigen_runtime_cmpstring"], unfollowed := true, recurses := true, named := ["unicode/utf8.first", "unicode/utf8.acceptRanges", "internal/bytealg.MaxLen", "barograph/xor.widths"], apart := false, laid := [("barograph/xor.widths", laid_barograph_xor_widths), ("unicode/utf8.acceptRanges", laid_unicode_utf8_acceptRanges), ("unicode/utf8.first", laid_unicode_utf8_first)] }
def BlockBackSaid : Prop := blockBackRow.holds Tryz.pinned (OpenSpec.ofChange blockBackSpec)

/-- ITS FALSE NEIGHBOUR: 'it returns false'. Refute it at one input. -/
def blockBackWrong : ChangeSpec := { name := "blockBack", fn := fun _ => fun
  | [d1, d2, d3] => { results := [.lit (.bool false)], args := [d1, d2, d3] }
  | _ => none }
def BlockBackWrongFalsely : Prop := blockBackRow.holds Tryz.pinned (OpenSpec.ofChange blockBackWrong)

/-- 'barographlaw16.BlockBent': WHATEVER THE INPUT: true; the input reads as it did. -/
def blockBentSpec : ChangeSpec := { name := "blockBent", fn := fun _ => fun
  | [d1, d2, d3, d4] => { results := [.lit (.bool true)], args := [d1, d2, d3, d4] }
  | _ => none }
def blockBentRow : OpenClaim := { program := "ytgabmfibfikdbaagreatdoor", sum := "e1d3b782bc77d08f604ebd5e89c7f41f0135a32a76dd58da663f2c2d3be6119e", func := "barograph/barographlaw16.BlockBent", spec := "blockBent", inPlace := ["internal/bytealg.IndexByteString", "internal/bytealg.IndexString", "internal/bytealg.abigen_runtime_cmpstring"], unfollowed := true, recurses := true, named := ["unicode/utf8.first", "unicode/utf8.acceptRanges", "internal/bytealg.MaxLen", "barograph/xor.widths"], apart := false, laid := [("barograph/xor.widths", laid_barograph_xor_widths), ("unicode/utf8.acceptRanges", laid_unicode_utf8_acceptRanges), ("unicode/utf8.first", laid_unicode_utf8_first)] }
def BlockBentSaid : Prop := blockBentRow.holds Tryz.pinned (OpenSpec.ofChange blockBentSpec)

/-- ITS FALSE NEIGHBOUR: 'it returns false'. Refute it at one input. -/
def blockBentWrong : ChangeSpec := { name := "blockBent", fn := fun _ => fun
  | [d1, d2, d3, d4] => { results := [.lit (.bool false)], args := [d1, d2, d3, d4] }
  | _ => none }
def BlockBentWrongFalsely : Prop := blockBentRow.holds Tryz.pinned (OpenSpec.ofChange blockBentWrong)

/-- 'barographlaw16.BlockEntries': WHATEVER THE INPUT: true; the input reads as it did. -/
def blockEntriesSpec : ChangeSpec := { name := "blockEntries", fn := fun _ => fun
  | [d] => { results := [.lit (.bool true)], args := [d] }
  | _ => none }
def blockEntriesRow : OpenClaim := { program := "ytgabmfibfikdbaagreatdoor", sum := "e1d3b782bc77d08f604ebd5e89c7f41f0135a32a76dd58da663f2c2d3be6119e", func := "barograph/barographlaw16.BlockEntries", spec := "blockEntries", inPlace := ["internal/bytealg.IndexByteString", "internal/bytealg.IndexString", "internal/bytealg.abigen_runtime_cmpstring"], unfollowed := true, recurses := true, named := ["unicode/utf8.first", "unicode/utf8.acceptRanges", "internal/bytealg.MaxLen", "barograph/xor.widths"], apart := false, laid := [("barograph/xor.widths", laid_barograph_xor_widths), ("unicode/utf8.acceptRanges", laid_unicode_utf8_acceptRanges), ("unicode/utf8.first", laid_unicode_utf8_first)] }
def BlockEntriesSaid : Prop := blockEntriesRow.holds Tryz.pinned (OpenSpec.ofChange blockEntriesSpec)

/-- ITS FALSE NEIGHBOUR: 'it returns false'. Refute it at one input. -/
def blockEntriesWrong : ChangeSpec := { name := "blockEntries", fn := fun _ => fun
  | [d] => { results := [.lit (.bool false)], args := [d] }
  | _ => none }
def BlockEntriesWrongFalsely : Prop := blockEntriesRow.holds Tryz.pinned (OpenSpec.ofChange blockEntriesWrong)

/- THE SECOND FORM. 'bulk': how many values and letters a reading holds, each counted each time it is reached (what is shared counts as often as it is met; a slice's spare places count too). A statement '..UptoSaid' is the law's where the arguments, and the package variables that the reading takes, are together of bulk at most 1048576: NARROWER than '..Said'. Prove '..Said' where nothing that the law and all that it calls make is longer than what came in: it says more and counts as full. Else prove '..UptoSaid'. A law counts once. -/
mutual
def uptoBulk {H : Type} : DataW H → Nat
  | .lit (.string bytes) => bytes.length + 1
  | .lit _ => 1
  | .nil => 1
  | .ptr d => uptoBulk d + 1
  | .slice elems spare => uptoBulkAll elems + uptoBulkAll spare + 1
  | .agg parts => uptoBulkAll parts + 1
  | .iface _ d => uptoBulk d + 1
  | .map entries => uptoBulkEntries entries + 1
  | .held _ => 1
def uptoBulkAll {H : Type} : List (DataW H) → Nat
  | [] => 0
  | d :: r => uptoBulk d + uptoBulkAll r
def uptoBulkEntries {H : Type} : List (Lit × DataW H) → Nat
  | [] => 0
  | x :: r => uptoBulkEntry x + uptoBulkEntries r
def uptoBulkEntry {H : Type} : Lit × DataW H → Nat
  | (.string bytes, d) => bytes.length + uptoBulk d + 1
  | (_, d) => uptoBulk d + 1
 end
def uptoSmall : (H : Type) → List (DataW H) → Bool := fun _ ds => decide (uptoBulkAll ds ≤ 1048576)
def OpenSpec.upto (s : _root_.Go.ChangeSpec) : _root_.Go.OpenSpec := { _root_.Go.OpenSpec.ofChange s with cond := some uptoSmall }

/-- 'barographlaw16.BlockReads', WHERE WHAT IT READS IS OF BULK AT MOST 1048576: true; the input reads as it did. -/
def blockReadsUptoRow : OpenClaim := { program := "ytgabmfibfikdbaagreatdoor", sum := "e1d3b782bc77d08f604ebd5e89c7f41f0135a32a76dd58da663f2c2d3be6119e", func := "barograph/barographlaw16.BlockReads", spec := "blockReads", inPlace := ["internal/bytealg.abigen_runtime_cmpstring", "internal/bytealg.IndexByteString", "internal/bytealg.IndexString"], unfollowed := true, recurses := true, named := ["barograph/xor.widths", "unicode/utf8.first", "unicode/utf8.acceptRanges", "internal/bytealg.MaxLen"], apart := false, laid := [("barograph/xor.widths", laid_barograph_xor_widths), ("unicode/utf8.acceptRanges", laid_unicode_utf8_acceptRanges), ("unicode/utf8.first", laid_unicode_utf8_first)], narrowed := true }
def BlockReadsUptoSaid : Prop := blockReadsUptoRow.holds Tryz.pinned (OpenSpec.upto blockReadsSpec)

/-- 'barographlaw16.BlockBuilds', WHERE WHAT IT READS IS OF BULK AT MOST 1048576: true; the input reads as it did. -/
def blockBuildsUptoRow : OpenClaim := { program := "ytgabmfibfikdbaagreatdoor", sum := "e1d3b782bc77d08f604ebd5e89c7f41f0135a32a76dd58da663f2c2d3be6119e", func := "barograph/barographlaw16.BlockBuilds", spec := "blockBuilds", inPlace := ["internal/bytealg.IndexByteString", "internal/bytealg.IndexString", "internal/bytealg.abigen_runtime_cmpstring"], unfollowed := true, recurses := true, named := ["unicode/utf8.first", "unicode/utf8.acceptRanges", "internal/bytealg.MaxLen", "barograph/xor.widths"], apart := false, laid := [("barograph/xor.widths", laid_barograph_xor_widths), ("unicode/utf8.acceptRanges", laid_unicode_utf8_acceptRanges), ("unicode/utf8.first", laid_unicode_utf8_first)], narrowed := true }
def BlockBuildsUptoSaid : Prop := blockBuildsUptoRow.holds Tryz.pinned (OpenSpec.upto blockBuildsSpec)

/-- 'barographlaw16.BlockTables', WHERE WHAT IT READS IS OF BULK AT MOST 1048576: true; the input reads as it did. -/
def blockTablesUptoRow : OpenClaim := { program := "ytgabmfibfikdbaagreatdoor", sum := "e1d3b782bc77d08f604ebd5e89c7f41f0135a32a76dd58da663f2c2d3be6119e", func := "barograph/barographlaw16.BlockTables", spec := "blockTables", inPlace := ["internal/bytealg.IndexByteString", "internal/bytealg.IndexString", "internal/bytealg.abigen_runtime_cmpstring"], unfollowed := true, recurses := true, named := ["unicode/utf8.first", "unicode/utf8.acceptRanges", "internal/bytealg.MaxLen", "barograph/xor.widths"], apart := false, laid := [("barograph/xor.widths", laid_barograph_xor_widths), ("unicode/utf8.acceptRanges", laid_unicode_utf8_acceptRanges), ("unicode/utf8.first", laid_unicode_utf8_first)], narrowed := true }
def BlockTablesUptoSaid : Prop := blockTablesUptoRow.holds Tryz.pinned (OpenSpec.upto blockTablesSpec)

/-- 'barographlaw16.BlockBack', WHERE WHAT IT READS IS OF BULK AT MOST 1048576: true; the input reads as it did. -/
def blockBackUptoRow : OpenClaim := { program := "ytgabmfibfikdbaagreatdoor", sum := "e1d3b782bc77d08f604ebd5e89c7f41f0135a32a76dd58da663f2c2d3be6119e", func := "barograph/barographlaw16.BlockBack", spec := "blockBack", inPlace := ["internal/bytealg.IndexByteString", "internal/bytealg.IndexString", "internal/bytealg.abigen_runtime_cmpstring"], unfollowed := true, recurses := true, named := ["unicode/utf8.first", "unicode/utf8.acceptRanges", "internal/bytealg.MaxLen", "barograph/xor.widths"], apart := false, laid := [("barograph/xor.widths", laid_barograph_xor_widths), ("unicode/utf8.acceptRanges", laid_unicode_utf8_acceptRanges), ("unicode/utf8.first", laid_unicode_utf8_first)], narrowed := true }
def BlockBackUptoSaid : Prop := blockBackUptoRow.holds Tryz.pinned (OpenSpec.upto blockBackSpec)

/-- 'barographlaw16.BlockBent', WHERE WHAT IT READS IS OF BULK AT MOST 1048576: true; the input reads as it did. -/
def blockBentUptoRow : OpenClaim := { program := "ytgabmfibfikdbaagreatdoor", sum := "e1d3b782bc77d08f604ebd5e89c7f41f0135a32a76dd58da663f2c2d3be6119e", func := "barograph/barographlaw16.BlockBent", spec := "blockBent", inPlace := ["internal/bytealg.IndexByteString", "internal/bytealg.IndexString", "internal/bytealg.abigen_runtime_cmpstring"], unfollowed := true, recurses := true, named := ["unicode/utf8.first", "unicode/utf8.acceptRanges", "internal/bytealg.MaxLen", "barograph/xor.widths"], apart := false, laid := [("barograph/xor.widths", laid_barograph_xor_widths), ("unicode/utf8.acceptRanges", laid_unicode_utf8_acceptRanges), ("unicode/utf8.first", laid_unicode_utf8_first)], narrowed := true }
def BlockBentUptoSaid : Prop := blockBentUptoRow.holds Tryz.pinned (OpenSpec.upto blockBentSpec)

/-- 'barographlaw16.BlockEntries', WHERE WHAT IT READS IS OF BULK AT MOST 1048576: true; the input reads as it did. -/
def blockEntriesUptoRow : OpenClaim := { program := "ytgabmfibfikdbaagreatdoor", sum := "e1d3b782bc77d08f604ebd5e89c7f41f0135a32a76dd58da663f2c2d3be6119e", func := "barograph/barographlaw16.BlockEntries", spec := "blockEntries", inPlace := ["internal/bytealg.IndexByteString", "internal/bytealg.IndexString", "internal/bytealg.abigen_runtime_cmpstring"], unfollowed := true, recurses := true, named := ["unicode/utf8.first", "unicode/utf8.acceptRanges", "internal/bytealg.MaxLen", "barograph/xor.widths"], apart := false, laid := [("barograph/xor.widths", laid_barograph_xor_widths), ("unicode/utf8.acceptRanges", laid_unicode_utf8_acceptRanges), ("unicode/utf8.first", laid_unicode_utf8_first)], narrowed := true }
def BlockEntriesUptoSaid : Prop := blockEntriesUptoRow.holds Tryz.pinned (OpenSpec.upto blockEntriesSpec)

end Rows
end Go.Proofs.YtgabmfibfikdbaaGreatDoor
