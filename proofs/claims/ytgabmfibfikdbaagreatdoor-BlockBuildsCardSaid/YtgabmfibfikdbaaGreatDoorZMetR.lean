/-
 Layer 9: the walks of Told and of the reference's Same.
-/
import Derived.Test.YtgabmfibfikdbaaGreatDoorZXorQ
import Derived.Test.YtgabmfibfikdbaaGreatDoorZBokM
import Derived.BigQuiet
import Derived.Deep.QuietTactic
import Derived.Test.YtgabmfibfikdbaaGreatDoorZIdtA
import Derived.Test.YtgabmfibfikdbaaGreatDoorZBokJ
import Derived.Test.YtgabmfibfikdbaaGreatDoorZLabT
import Derived.Test.YtgabmfibfikdbaaGreatDoorZBokF
import Derived.Test.YtgabmfibfikdbaaGreatDoorZLib24
import Derived.Deep.RegionLaw
import Derived.Test.YtgabmfibfikdbaaGreatDoorZMrgD
import Derived.Test.YtgabmfibfikdbaaGreatDoorZLib5
import Derived.Test.YtgabmfibfikdbaaGreatDoorZLib22
import Derived.Deep.CutRange

set_option maxHeartbeats 32000000
set_option maxRecDepth 10000
namespace Go.Proofs.YtgabmfibfikdbaaGreatDoor
open Go.RowKit Go.Bar Go.Bar.Leb Go.Bar.Frm Go.Bar.Idt Go.Bar.Met

theorem rfile_ty : ElemTy Tryz.prog 68 151 (.agg #[.string ByteArray.empty, .int .i64 0, .int .u32 0]) 3 32 :=
 ⟨Tryz.underlying68, info_parts (show (Tryz.prog.info? 151).map (fun i => (i.zero, i.size, i.bytes)) = some (some (.agg #[.string ByteArray.empty, .int .i64 0, .int .u32 0]), 3, 32) by kernel_rfl), rfl⟩

def RetT (w : World) (m : Mt) (sv : Value) (en : Ending) (w' : World) : Prop :=
 ∃ fv, en = .returned (.agg #[.string (bs m.id), .int .i64 m.mn, .int .i64 m.mx, .int .i64 m.lv, .int .i64 m.sr, .int .i64 m.sm, fv, sv]) /\ FBuf w w' 151 3 fv m.fs.length (fcs m.fs) /\ Below w.heap.size w w'

theorem told_any (m : Mt) (fv sv : Value) (w : World) (hf : FlsAt w fv m.fs) (hs : SrcAt w sv m.ss) (hn : m.fs.length <= 1000) :
  Calls Tryz.prog 26 #[.agg #[.string (bs m.id), .int .i64 m.mn, .int .i64 m.mx, .int .i64 m.lv, .int .i64 m.sr, .int .i64 m.sm, fv, sv]] w (RetT w m sv) := by
 obtain ⟨A, c, rfl, hlc, hcm⟩ := hf.shape
 obtain ⟨A2, c2, rfl, hlc2, hcm2⟩ := hs.shape
 unfold maxLen at hcm hcm2
 go_enter Tryz.func26, Tryz.ntmps26
 go_upto_region 3 with fail
 have M1 := ((Blk.new w #[.string (bs m.id), .int .i64 m.mn, .int .i64 m.mx, .int .i64 m.lv, .int .i64 m.sr, .int .i64 m.sm, .slice A m.fs.length c, .slice A2 m.ss.length c2] 53).alloc (.cells #[.string { data := #[] }, .int .i64 0, .int .i64 0, .int .i64 0, .int .i64 0, .int .i64 0, .slice none 0 0, .slice none 0 0] 70)).alloc (.cells #[.string (bs m.id), .int .i64 m.mn, .int .i64 m.mx, .int .i64 m.lv, .int .i64 m.sr, .int .i64 m.sm, .slice none 0 0, .slice A2 m.ss.length c2] 70)
 have R1 := (Blk.new (w.alloc (.cells #[.string (bs m.id), .int .i64 m.mn, .int .i64 m.mx, .int .i64 m.lv, .int .i64 m.sr, .int .i64 m.sm, .slice A m.fs.length c, .slice A2 m.ss.length c2] 53)) #[.string { data := #[] }, .int .i64 0, .int .i64 0, .int .i64 0, .int .i64 0, .int .i64 0, .slice none 0 0, .slice none 0 0] 70).alloc (.cells #[.string (bs m.id), .int .i64 m.mn, .int .i64 m.mx, .int .i64 m.lv, .int .i64 m.sr, .int .i64 m.sm, .slice none 0 0, .slice A2 m.ss.length c2] 70)
 have X1 := Blk.new ((w.alloc (.cells #[.string (bs m.id), .int .i64 m.mn, .int .i64 m.mx, .int .i64 m.lv, .int .i64 m.sr, .int .i64 m.sm, .slice A m.fs.length c, .slice A2 m.ss.length c2] 53)).alloc (.cells #[.string { data := #[] }, .int .i64 0, .int .i64 0, .int .i64 0, .int .i64 0, .int .i64 0, .slice none 0 0, .slice none 0 0] 70)) #[.string (bs m.id), .int .i64 m.mn, .int .i64 m.mx, .int .i64 m.lv, .int .i64 m.sr, .int .i64 m.sm, .slice none 0 0, .slice A2 m.ss.length c2] 70
 have B1 := below_trans (below_trans (mbelow_alloc1 w (.cells #[.string (bs m.id), .int .i64 m.mn, .int .i64 m.mx, .int .i64 m.lv, .int .i64 m.sr, .int .i64 m.sm, .slice A m.fs.length c, .slice A2 m.ss.length c2] 53)) (mbelow_alloc1 _ (.cells #[.string { data := #[] }, .int .i64 0, .int .i64 0, .int .i64 0, .int .i64 0, .int .i64 0, .slice none 0 0, .slice none 0 0] 70))) (mbelow_alloc1 _ (.cells #[.string (bs m.id), .int .i64 m.mn, .int .i64 m.mx, .int .i64 m.lv, .int .i64 m.sr, .int .i64 m.sm, .slice none 0 0, .slice A2 m.ss.length c2] 70))
 rw [show (w.alloc (.cells #[.string (bs m.id), .int .i64 m.mn, .int .i64 m.mx, .int .i64 m.lv, .int .i64 m.sr, .int .i64 m.sm, .slice A m.fs.length c, .slice A2 m.ss.length c2] 53)).heap.size = w.heap.size + 1 by simp] at R1
 rw [show ((w.alloc (.cells #[.string (bs m.id), .int .i64 m.mn, .int .i64 m.mx, .int .i64 m.lv, .int .i64 m.sr, .int .i64 m.sm, .slice A m.fs.length c, .slice A2 m.ss.length c2] 53)).alloc (.cells #[.string { data := #[] }, .int .i64 0, .int .i64 0, .int .i64 0, .int .i64 0, .int .i64 0, .slice none 0 0, .slice none 0 0] 70)).heap.size = w.heap.size + 2 by simp] at X1
 obtain ⟨w1, hw1⟩ : ∃ w1, w1 = ((w.alloc (.cells #[.string (bs m.id), .int .i64 m.mn, .int .i64 m.mx, .int .i64 m.lv, .int .i64 m.sr, .int .i64 m.sm, .slice A m.fs.length c, .slice A2 m.ss.length c2] 53)).alloc (.cells #[.string { data := #[] }, .int .i64 0, .int .i64 0, .int .i64 0, .int .i64 0, .int .i64 0, .slice none 0 0, .slice none 0 0] 70)).alloc (.cells #[.string (bs m.id), .int .i64 m.mn, .int .i64 m.mx, .int .i64 m.lv, .int .i64 m.sr, .int .i64 m.sm, .slice none 0 0, .slice A2 m.ss.length c2] 70) := ⟨_, rfl⟩
 rw [<- hw1] at M1 R1 X1 B1 ⊢
 clear hw1
 have d6 : w1.cell? ⟨w.heap.size, 6, none⟩ = some (.slice A m.fs.length c) := M1.cell (i := 6) rfl
 clear d6
 go_loopw [24] (fun i wr => ∃ (k : Nat) (gv : Value), i = .int .i64 k /\ k <= m.fs.length /\ Blk wr (w.heap.size + 1) 70 #[.string { data := #[] }, .int .i64 0, .int .i64 0, .int .i64 0, .int .i64 0, .int .i64 0, .slice none 0 0, .slice none 0 0] /\ Blk wr (w.heap.size + 2) 70 #[.string (bs m.id), .int .i64 m.mn, .int .i64 m.mx, .int .i64 m.lv, .int .i64 m.sr, .int .i64 m.sm, gv, .slice A2 m.ss.length c2] /\ FBuf w wr 151 3 gv k (fcs (m.fs.take k)) /\ Below w.heap.size w wr) (fun i _ => m.fs.length - (intOf i).toNat)
 case atStart => exact ⟨0, _, rfl, Nat.zero_le _, R1, X1, by simpa [fcs] using FBuf.nil w w1 151 3, B1⟩
 case round =>
  obtain ⟨k, gv, rfl, hk, hR, hX, hF, hB⟩ := hrel
  clear M1 R1 X1 B1
  have hshape := hF.buf.shape
  obtain ⟨fA, fc, rfl, hfc⟩ := hshape
  by_cases hgo : k < m.fs.length
  ·obtain ⟨f, hfk⟩ : ∃ f, m.fs[k]? = some f := ⟨_, List.getElem?_eq_getElem hgo⟩
   obtain ⟨b, o, rfl, hbb, f0, f1, f2⟩ := (hf.below hB).at_ hfk
   have HFK := Lib.hid hfk
   clear hfk
   obtain ⟨nm, sz, su⟩ := f
   simp only at f0 f1 f2
   have hlt := hX.lt
   have hR1 := hR.alloc (.cells #[.string (bs nm), .int .i64 sz, .int .u32 su] 86)
   have hX1 := hX.alloc (.cells #[.string (bs nm), .int .i64 sz, .int .u32 su] 86)
   have hF1 := hF.alloc (.cells #[.string (bs nm), .int .i64 sz, .int .u32 su] 86)
   have hB1 := below_trans hB (mbelow_alloc1 wr (.cells #[.string (bs nm), .int .i64 sz, .int .u32 su] 86))
   have d : ∀ o, (wr.alloc o).cell? ⟨w.heap.size + 2, 6, none⟩ = some (.slice fA k fc) := fun o => (hX.alloc o).cell (i := 6) rfl
   have hne : w.heap.size + 2 ≠ wr.heap.size := by omega
   clear hR hX hF hB
   go_wp2_with (at_builtin; refine wpList_append_flit rfl (.tmp 29) (.tmp 31) 68 rfl rfile_ty rfl hF1.buf rfl (by simp) rfl (by simp [Value.oneCell']) (by simp only [maxLen]; omega) (by omega) ?_; intro v3 w5 hb5 ha5 hg5; obtain ⟨gA, gc, rfl, hgc⟩ := hb5.shape; have hR2 := (hR1.alloc _).ap (hF1.alloc _).buf ha5 (by decide); have hX2 := (hX1.alloc _).ap (hF1.alloc _).buf ha5 (by decide); have hsz := Nat.le_trans hB1.size (mbelow_alloc1 _ (.cells #[.string (bs nm), .int .i64 sz, .int .u32 su] 151)).size; have hB2 := (below_trans hB1 (mbelow_alloc1 _ (.cells #[.string (bs nm), .int .i64 sz, .int .u32 su] 151))).trans ((hF1.alloc (.cells #[.string (bs nm), .int .i64 sz, .int .u32 su] 151)).belowB hsz ha5); have hF2 := (hF1.alloc (.cells #[.string (bs nm), .int .i64 sz, .int .u32 su] 151)).step hsz hb5 hg5; clear hb5 ha5 hg5 hsz d; have d : w5.cell? ⟨w.heap.size + 2, 6, none⟩ = some (.slice fA k fc) := hX2.cell (i := 6) rfl; have df := hX2.free 6)
   have hn2 : fcs (m.fs.take (k + 1)) = fcs (m.fs.take k) ++ [.string (bs nm), .int .i64 sz, .int .u32 su] := by
    rw [List.take_add_one, HFK.out]
    exact fcs_snoc _ _
   go_roundw
   case rel => exact ⟨k + 1, _, by go_num, by omega, hR2.other (show w.heap.size + 1 ≠ w.heap.size + 2 by omega) 6 _, hX2.set 6 (.slice gA (k + 1) gc), by rw [hn2]; exact hF2.set_ne hX2 (by decide) 6 _, hB2.setCell (show w.heap.size <= w.heap.size + 2 by omega) _⟩
   case measure => simp [intOf]; omega
  ·have hkk : k = m.fs.length := by omega
   have hfs : FBuf w wr 151 3 (.slice fA k fc) m.fs.length (fcs m.fs) := by
    rw [hkk] at hF ⊢
    rw [List.take_of_length_le (Nat.le_refl _)] at hF
    exact hF
   have HF := Lib.hid (FBuf.set_ne2 (FBuf.set_ne2 (FBuf.set_ne2 (FBuf.set_ne2 (FBuf.set_ne2 (FBuf.set_ne2 (FBuf.set_ne2 (FBuf.set_ne2 ⟨hfs, _, hR⟩ (by decide) 0 (.string (bs m.id))) (by decide) 1 (.int .i64 m.mn)) (by decide) 2 (.int .i64 m.mx)) (by decide) 3 (.int .i64 m.lv)) (by decide) 4 (.int .i64 m.sr)) (by decide) 5 (.int .i64 m.sm)) (by decide) 6 (.slice fA k fc)) (by decide) 7 (.slice A2 m.ss.length c2))
   have HB := Lib.hid hB
   have HG := Lib.hid (frR_set (frR_set (frR_set (frR_set (frR_set (frR_set (frR_set (frR_set (Fr.refl (fun k _ => k = w.heap.size + 1) wr) 0 (.string (bs m.id))) 1 (.int .i64 m.mn)) 2 (.int .i64 m.mx)) 3 (.int .i64 m.lv)) 4 (.int .i64 m.sr)) 5 (.int .i64 m.sm)) 6 (.slice fA k fc)) 7 (.slice A2 m.ss.length c2))
   clear hkk hfs hF hB
   have r0 : wr.cell? ⟨w.heap.size + 1, 0, none⟩ = some (.string { data := #[] }) := hR.cell (i := 0) rfl
   have q0 := hR.free 0
   have r1 : wr.cell? ⟨w.heap.size + 1, 1, none⟩ = some (.int .i64 0) := hR.cell (i := 1) rfl
   have q1 := hR.free 1
   have r2 : wr.cell? ⟨w.heap.size + 1, 2, none⟩ = some (.int .i64 0) := hR.cell (i := 2) rfl
   have q2 := hR.free 2
   have r3 : wr.cell? ⟨w.heap.size + 1, 3, none⟩ = some (.int .i64 0) := hR.cell (i := 3) rfl
   have q3 := hR.free 3
   have r4 : wr.cell? ⟨w.heap.size + 1, 4, none⟩ = some (.int .i64 0) := hR.cell (i := 4) rfl
   have q4 := hR.free 4
   have r5 : wr.cell? ⟨w.heap.size + 1, 5, none⟩ = some (.int .i64 0) := hR.cell (i := 5) rfl
   have q5 := hR.free 5
   have r6 : wr.cell? ⟨w.heap.size + 1, 6, none⟩ = some (.slice none 0 0) := hR.cell (i := 6) rfl
   have q6 := hR.free 6
   have r7 : wr.cell? ⟨w.heap.size + 1, 7, none⟩ = some (.slice none 0 0) := hR.cell (i := 7) rfl
   have q7 := hR.free 7
   have z0 : wr.cell? ⟨w.heap.size + 2, 0, none⟩ = some (.string (bs m.id)) := hX.cell (i := 0) rfl
   have z1 : wr.cell? ⟨w.heap.size + 2, 1, none⟩ = some (.int .i64 m.mn) := hX.cell (i := 1) rfl
   have z2 : wr.cell? ⟨w.heap.size + 2, 2, none⟩ = some (.int .i64 m.mx) := hX.cell (i := 2) rfl
   have z3 : wr.cell? ⟨w.heap.size + 2, 3, none⟩ = some (.int .i64 m.lv) := hX.cell (i := 3) rfl
   have z4 : wr.cell? ⟨w.heap.size + 2, 4, none⟩ = some (.int .i64 m.sr) := hX.cell (i := 4) rfl
   have z5 : wr.cell? ⟨w.heap.size + 2, 5, none⟩ = some (.int .i64 m.sm) := hX.cell (i := 5) rfl
   have z6 : wr.cell? ⟨w.heap.size + 2, 6, none⟩ = some (.slice fA k fc) := hX.cell (i := 6) rfl
   have z7 : wr.cell? ⟨w.heap.size + 2, 7, none⟩ = some (.slice A2 m.ss.length c2) := hX.cell (i := 7) rfl
   clear hR hX
   go_wp2_with fail
   refine bodyPost_ret (v := .agg #[.string (bs m.id), .int .i64 m.mn, .int .i64 m.mx, .int .i64 m.lv, .int .i64 m.sr, .int .i64 m.sm, .slice fA k fc, .slice A2 m.ss.length c2]) (by simp [results, Tryz.results26, go_sem, r0, r1, r2, r3, r4, r5, r6, r7]) rfl ?_
   exact ⟨_, rfl, HF.out.1, HB.out.trans (Fr.below HG.out HB.out.size (fun k i hk h => by have h : k = w.heap.size + 1 := h; omega))⟩

theorem metaSame_any (m : Mt) (fv sv fv' sv' : Value) (w : World) (hf : FlsAt w fv m.fs) (hs : SrcAt w sv m.ss) (hf' : FlsAt w fv' m.fs) (hs' : SrcAt w sv' m.ss) :
  Calls Tryz.prog 25 #[.agg #[.string (bs m.id), .int .i64 m.mn, .int .i64 m.mx, .int .i64 m.lv, .int .i64 m.sr, .int .i64 m.sm, fv, sv], .agg #[.string (bs m.id), .int .i64 m.mn, .int .i64 m.mx, .int .i64 m.lv, .int .i64 m.sr, .int .i64 m.sm, fv', sv']] w (RetBelow w (.bool true)) := by
 obtain ⟨A1, c1, rfl, hlc1, hcm1⟩ := hf.shape
 obtain ⟨A2, c2, rfl, hlc2, hcm2⟩ := hs.shape
 obtain ⟨A3, c3, rfl, hlc3, hcm3⟩ := hf'.shape
 obtain ⟨A4, c4, rfl, hlc4, hcm4⟩ := hs'.shape
 unfold maxLen at hcm1 hcm2 hcm3 hcm4
 go_enter Tryz.func25, Tryz.ntmps25
 go_upto_region 4 with fail
 have M1 := (Blk.new w #[.string (bs m.id), .int .i64 m.mn, .int .i64 m.mx, .int .i64 m.lv, .int .i64 m.sr, .int .i64 m.sm, .slice A1 m.fs.length c1, .slice A2 m.ss.length c2] 70).alloc (.cells #[.string (bs m.id), .int .i64 m.mn, .int .i64 m.mx, .int .i64 m.lv, .int .i64 m.sr, .int .i64 m.sm, .slice A3 m.fs.length c3, .slice A4 m.ss.length c4] 70)
 have N1 := Blk.new (w.alloc (.cells #[.string (bs m.id), .int .i64 m.mn, .int .i64 m.mx, .int .i64 m.lv, .int .i64 m.sr, .int .i64 m.sm, .slice A1 m.fs.length c1, .slice A2 m.ss.length c2] 70)) #[.string (bs m.id), .int .i64 m.mn, .int .i64 m.mx, .int .i64 m.lv, .int .i64 m.sr, .int .i64 m.sm, .slice A3 m.fs.length c3, .slice A4 m.ss.length c4] 70
 have B1 := below_trans (mbelow_alloc1 w (.cells #[.string (bs m.id), .int .i64 m.mn, .int .i64 m.mx, .int .i64 m.lv, .int .i64 m.sr, .int .i64 m.sm, .slice A1 m.fs.length c1, .slice A2 m.ss.length c2] 70)) (mbelow_alloc1 _ (.cells #[.string (bs m.id), .int .i64 m.mn, .int .i64 m.mx, .int .i64 m.lv, .int .i64 m.sr, .int .i64 m.sm, .slice A3 m.fs.length c3, .slice A4 m.ss.length c4] 70))
 rw [show (w.alloc (.cells #[.string (bs m.id), .int .i64 m.mn, .int .i64 m.mx, .int .i64 m.lv, .int .i64 m.sr, .int .i64 m.sm, .slice A1 m.fs.length c1, .slice A2 m.ss.length c2] 70)).heap.size = w.heap.size + 1 by simp] at N1
 obtain ⟨w1, hw1⟩ : ∃ w1, w1 = (w.alloc (.cells #[.string (bs m.id), .int .i64 m.mn, .int .i64 m.mx, .int .i64 m.lv, .int .i64 m.sr, .int .i64 m.sm, .slice A1 m.fs.length c1, .slice A2 m.ss.length c2] 70)).alloc (.cells #[.string (bs m.id), .int .i64 m.mn, .int .i64 m.mx, .int .i64 m.lv, .int .i64 m.sr, .int .i64 m.sm, .slice A3 m.fs.length c3, .slice A4 m.ss.length c4] 70) := ⟨_, rfl⟩
 rw [<- hw1] at M1 N1 B1 ⊢
 clear hw1
 have hf1 := hf.below B1
 have hs1 := hs.below B1
 have hf2 := hf'.below B1
 have hs2 := hs'.below B1
 clear hf hs hf' hs'
 go_loopw [26] (fun i wr => ∃ k n : Nat, k <= m.fs.length /\ i = .int .i64 k /\ wr = w1.drewN n) (fun i _ => m.fs.length - (intOf i).toNat)
 case atStart => exact ⟨0, 0, Nat.zero_le _, rfl, rfl⟩
 case round =>
  obtain ⟨k, n, hk, rfl, rfl⟩ := hrel
  by_cases hgo : k < m.fs.length
  ·obtain ⟨f, hfk⟩ : ∃ f, m.fs[k]? = some f := ⟨_, List.getElem?_eq_getElem hgo⟩
   obtain ⟨b, o, rfl, _, f0, f1, f2⟩ := hf1.at_ hfk
   obtain ⟨b', o', rfl, _, g0, g1, g2⟩ := hf2.at_ hfk
   obtain ⟨nm, sz, su⟩ := f
   simp only at f0 f1 f2 g0 g1 g2
   clear hfk
   have c6 : w1.cell? ⟨w.heap.size, 6, none⟩ = some (.slice (some ⟨b, o, none⟩) m.fs.length c1) := M1.cell (i := 6) rfl
   have d6 : w1.cell? ⟨w.heap.size + 1, 6, none⟩ = some (.slice (some ⟨b', o', none⟩) m.fs.length c3) := N1.cell (i := 6) rfl
   have hci : (0 : Int) <= (k : Int) := by omega
   have hci2 : (k : Int) < m.fs.length := by omega
   go_wp2_with fail
   go_quiet (fail)
   go_wp2_with fail
   go_roundw
   case rel => exact ⟨k + 1, n + nq, by omega, by go_num, rfl⟩
   case measure => simp [intOf]; omega
  ·obtain ⟨wo, hwo⟩ : ∃ wo, wo = w1.drewN n := ⟨_, rfl⟩
   have M2 := M1.drewN n
   have N2 := N1.drewN n
   have hs3 := hs1.below (below_draws w1 n)
   have hs4 := hs2.below (below_draws w1 n)
   have B2 := below_trans B1 (below_draws w1 n)
   rw [<- hwo] at M2 N2 hs3 hs4 B2 ⊢
   clear hwo hf1 hs1 hf2 hs2 M1 N1 B1
   have c7 : wo.cell? ⟨w.heap.size, 7, none⟩ = some (.slice A2 m.ss.length c2) := M2.cell (i := 7) rfl
   go_wp2_with fail
   clear c7
   go_loopw [44] (fun i wr => ∃ k n : Nat, k <= m.ss.length /\ i = .int .i64 k /\ wr = wo.drewN n) (fun i _ => m.ss.length - (intOf i).toNat)
   case atStart => exact ⟨0, 0, Nat.zero_le _, rfl, rfl⟩
   case round =>
    obtain ⟨k, n, hk, rfl, rfl⟩ := hrel
    by_cases hgo : k < m.ss.length
    ·obtain ⟨s, hsk⟩ : ∃ s, m.ss[k]? = some s := ⟨_, List.getElem?_eq_getElem hgo⟩
     obtain ⟨b, o, rfl, _, f0⟩ := hs3.at_ hsk
     obtain ⟨b', o', rfl, _, g0⟩ := hs4.at_ hsk
     clear hsk
     have c7 : wo.cell? ⟨w.heap.size, 7, none⟩ = some (.slice (some ⟨b, o, none⟩) m.ss.length c2) := M2.cell (i := 7) rfl
     have d7 : wo.cell? ⟨w.heap.size + 1, 7, none⟩ = some (.slice (some ⟨b', o', none⟩) m.ss.length c4) := N2.cell (i := 7) rfl
     have hci : (0 : Int) <= (k : Int) := by omega
     have hci2 : (k : Int) < m.ss.length := by omega
     go_wp2_with fail
     go_quiet (fail)
     go_wp2_with fail
     go_roundw
     case rel => exact ⟨k + 1, n + nq, by omega, by go_num, rfl⟩
     case measure => simp [intOf]; omega
    ·obtain ⟨wp, hwp⟩ : ∃ wp, wp = wo.drewN n := ⟨_, rfl⟩
     have M3 := M2.drewN n
     have N3 := N2.drewN n
     have B3 := below_trans B2 (below_draws wo n)
     rw [<- hwp] at M3 N3 B3 ⊢
     clear hwp hs3 hs4 M2 N2 B2
     have c0 : wp.cell? ⟨w.heap.size, 0, none⟩ = some (.string (bs m.id)) := M3.cell (i := 0) rfl
     have c1 : wp.cell? ⟨w.heap.size, 1, none⟩ = some (.int .i64 m.mn) := M3.cell (i := 1) rfl
     have c2 : wp.cell? ⟨w.heap.size, 2, none⟩ = some (.int .i64 m.mx) := M3.cell (i := 2) rfl
     have c3 : wp.cell? ⟨w.heap.size, 3, none⟩ = some (.int .i64 m.lv) := M3.cell (i := 3) rfl
     have c4 : wp.cell? ⟨w.heap.size, 4, none⟩ = some (.int .i64 m.sr) := M3.cell (i := 4) rfl
     have c5 : wp.cell? ⟨w.heap.size, 5, none⟩ = some (.int .i64 m.sm) := M3.cell (i := 5) rfl
     have d0 : wp.cell? ⟨w.heap.size + 1, 0, none⟩ = some (.string (bs m.id)) := N3.cell (i := 0) rfl
     have d1 : wp.cell? ⟨w.heap.size + 1, 1, none⟩ = some (.int .i64 m.mn) := N3.cell (i := 1) rfl
     have d2 : wp.cell? ⟨w.heap.size + 1, 2, none⟩ = some (.int .i64 m.mx) := N3.cell (i := 2) rfl
     have d3 : wp.cell? ⟨w.heap.size + 1, 3, none⟩ = some (.int .i64 m.lv) := N3.cell (i := 3) rfl
     have d4 : wp.cell? ⟨w.heap.size + 1, 4, none⟩ = some (.int .i64 m.sr) := N3.cell (i := 4) rfl
     have d5 : wp.cell? ⟨w.heap.size + 1, 5, none⟩ = some (.int .i64 m.sm) := N3.cell (i := 5) rfl
     go_wp2_with fail
     go_ret
     exact ⟨rfl, B3⟩

end Go.Proofs.YtgabmfibfikdbaaGreatDoor

set_option maxHeartbeats 32000000
set_option maxRecDepth 10000
namespace Go.Proofs.YtgabmfibfikdbaaGreatDoor
open Go.RowKit Go.Bar Go.Bar.Idt

theorem signs_take (k : Nat) (hk : k < 32) : (bs Idt.signs).extract k (k + 1) = bs [sgn k] := by
 rw [bs_extract]
 congr 1
 have : ∀ k : Fin 32, (Idt.signs.drop k.val).take (k.val + 1 - k.val) = [sgn k.val] := by decide +kernel
 exact this ⟨k, hk⟩

theorem sign_any (k : Nat) (hk : k < 32) (w : World) :
  Calls Tryz.prog 153 #[.int .i64 k] w fun e w' => e = .returned (.string (bs [sgn k])) /\ w = w' := by
 have HT := Lib.hid (signs_take k hk)
 have h0 : (0 : Int) <= k := by omega
 go_enter Tryz.func153, Tryz.ntmps153
 go_wp2_with fail
 go_ret
 exact ⟨by rw [<- HT.out]; rfl, rfl⟩

def refNumV (o : Option Nat) : Value := match o with
 | some n => .int .i64 n
 | none => .int .i64 (-1)
theorem refNumber_any (l : List UInt8) (w : World) (hl : l.length <= 8) :
  Calls Tryz.prog 141 #[.string (bs l)] w (Quiet w (refNumV (num 0 l))) := by
 go_enter Tryz.func141, Tryz.ntmps141
 go_wp2_with fail
 go_loopw [3, 4] (fun a i wr => ∃ k m : Nat, k <= l.length /\ i = .int .i64 k /\ a = .int .i64 m /\ Hid (∃ n, wr = w.drewN n) /\ m < 32 ^ k /\ Hid (num m (l.drop k) = num 0 l)) (fun _ i _ => l.length - (intOf i).toNat)
 case atStart => exact ⟨0, 0, Nat.zero_le _, rfl, rfl, ⟨0, rfl⟩, by simp, rfl⟩
 case round =>
  obtain ⟨k, m, hk, rfl, rfl, hw, hm, hnum⟩ := hrel
  by_cases hgo : k < l.length
  ·have hm35 : m < 34359738368 := Nat.lt_of_lt_of_le hm (Nat.pow_le_pow_right (by omega) (show k <= 7 by omega))
   obtain ⟨c, hc⟩ : ∃ c, l[k]? = some c := ⟨_, List.getElem?_eq_getElem hgo⟩
   have hd : l.drop k = c :: l.drop (k + 1) := by
    obtain ⟨h1, h2⟩ := List.getElem?_eq_some_iff.1 hc
    rw [<- h2]; exact List.drop_eq_getElem_cons h1
   have hx : (bs l).extract k (k + 1) = bs [c] := by
    rw [bs_extract, hd]
    congr 1
    simp
   have hci : (0 : Int) <= (k : Int) := by omega
   have HX := Lib.hid hx
   have hix : -1 <= ix c /\ ix c < 32 := by rcases ix_of c with ⟨h1, _⟩ | ⟨j, h1, h2, _⟩ <;> omega
   have HI := Lib.hid hix
   have HD := Lib.hid hd
   clear hx hd hc hix
   go_wp2_with fail
   go_loopw [5, 6] (fun d j wr => ∃ q : Nat, q <= 32 /\ j = .int .i64 q /\ Hid (∃ n, wr = w.drewN n) /\ ∃ y : Int, d = .int .i64 y /\ Hid (y = if ix c < q then ix c else -1)) (fun _ j _ => 32 - (intOf j).toNat)
   case atStart => exact ⟨0, by omega, rfl, hw, -1, rfl, Lib.hid (by have := HI.out; split <;> omega)⟩
   case round =>
    obtain ⟨q, hq, rfl, hw2, y, rfl, hy⟩ := hrel
    by_cases hq2 : q < 32
    ·have hs : ∀ w, Calls Tryz.prog 153 #[.int .i64 q] w fun e w' => e = .returned (.string (bs [sgn q])) /\ ∃ n, w' = w.drewN n := fun w => (sign_any q hq2 w).mono (fun e w' ⟨h1, h2⟩ => ⟨h1, 0, h2.symm⟩)
     have HS := Lib.hid hs
     clear hs
     go_wp2_with fail
     go_quiet (first | (go_at_call 153; refine Calls.quiet_of (HS.out _)))
     all_goals go_wp2_with fail
     all_goals
      rename_i hb
      rw [HX.out, bs_toList] at hb
      have hwn : Hid (∃ n, wr.drewN nq = w.drewN n) := by
       obtain ⟨n, rfl⟩ := hw2.out
       exact Lib.hid ⟨n + nq, by rw [World.drewN_drewN]⟩
     ·have hix : ix c = q := by
       simp at hb
       rw [<- hb, ix_sgn q hq2]
      exact ⟨⟨q + 1, by omega, by go_num, hwn, _, rfl, Lib.hid (by rw [if_pos (by omega), hix])⟩, by simp [intOf]; omega⟩
     ·have hix : ix c ≠ q := by
       rcases ix_of c with ⟨h1, _⟩ | ⟨j, h1, h2, h3⟩
       ·omega
       ·intro h
        have : j = q := by omega
        subst this
        rw [h3] at hb
        simp at hb
      have hy2 : y = if ix c < ((q + 1 : Nat) : Int) then ix c else -1 := by
       rw [hy.out]
       by_cases h1 : ix c < (q : Int)
       ·rw [if_pos h1, if_pos (by omega)]
       ·rw [if_neg h1, if_neg (by omega)]
      exact ⟨⟨q + 1, by omega, by go_num, hwn, _, rfl, Lib.hid hy2⟩, by simp [intOf]; omega⟩
    ·obtain rfl : q = 32 := by omega
     obtain rfl : y = ix c := by rw [hy.out]; have := HI.out; split <;> omega
     rcases ix_of c with ⟨h1, h2⟩ | ⟨j, h1, h2, h3⟩
     ·have hres : num 0 l = none := by
       rw [<- hnum.out, HD.out, num, h1, if_pos (by omega)]
      have HR := Lib.hid hres
      rw [h1]
      clear h1 h2 hres hnum
      go_wp2_with fail
      go_ret
      exact ⟨by rw [HR.out]; rfl, hw2.out⟩
     ·have hres : num (32 * m + j) (l.drop (k + 1)) = num 0 l := by
       rw [<- hnum.out, HD.out, num, h1, if_neg (by omega), Int.toNat_natCast]
      have HR := Lib.hid hres
      rw [h1]
      clear h1 h3 hres hnum
      go_wp2_with fail
      go_roundw
      case rel => exact ⟨k + 1, 32 * m + j, by omega, by go_num, by go_num, hw2, by rw [Nat.pow_succ]; omega, HR.out⟩
      case measure => simp [intOf]; omega
  ·have hres : num 0 l = some m := by rw [<- hnum.out, List.drop_of_length_le (by omega)]; rfl
   have HR := Lib.hid hres
   clear hres hnum
   go_wp2_with fail
   go_ret
   exact ⟨by rw [HR.out]; rfl, hw⟩

def refParseV : Option (Nat × Nat) -> Value
 | some (t, s) => .tuple #[.int .i64 (t : Int), .int .i64 (s : Int), .bool true]
 | none => .tuple #[.int .i64 0, .int .i64 0, .bool false]

theorem refParse_any (l : List UInt8) (w : World) (_hl : l.length <= 1000000000000) :
  Calls Tryz.prog 118 #[.string (bs l)] w (Quiet w (refParseV (parse l))) := by
 unfold parse
 by_cases h16 : l.length ≠ 16
 ·rw [if_pos h16]
  have hb : ((l.length : Int) != 16) = true := by rw [bne_iff_ne]; omega
  clear h16
  go_enter Tryz.func118, Tryz.ntmps118
  go_wp2_with fail
  go_ret3
  exact ⟨rfl, 0, rfl⟩
 ·rw [if_neg h16]
  have h16 : l.length = 16 := by omega
  have hb : ((l.length : Int) != 16) = false := by rw [bne_eq_false_iff_eq]; omega
  have hs1 : ∀ w, (Instr.slice 9 (.string (bs l)) none (some (.int .i64 8)) none).run Tryz.prog w = .ok (.string (bs (l.take 8))) w := slice_to (P := Tryz.prog) Tryz.underlying9 l 8 (by omega)
  have hs2 : ∀ w, (Instr.slice 9 (.string (bs l)) (some (.int .i64 8)) none none).run Tryz.prog w = .ok (.string (bs (l.drop 8))) w := slice_from (P := Tryz.prog) Tryz.underlying9 l 8 (by omega)
  have hn1 := refNumber_any (l.take 8)
  have hn2 := refNumber_any (l.drop 8)
  have hl1 : (l.take 8).length <= 8 := List.length_take_le _ _
  have hl2 : (l.drop 8).length <= 8 := by rw [List.length_drop]; omega
  obtain ⟨x, hx⟩ : ∃ x, num 0 (l.take 8) = x := ⟨_, rfl⟩
  obtain ⟨y, hy⟩ : ∃ y, num 0 (l.drop 8) = y := ⟨_, rfl⟩
  rw [hx] at hn1 ⊢
  rw [hy] at hn2 ⊢
  have H1 := Lib.hid hn1
  have H2 := Lib.hid hn2
  clear hn1 hn2 hx hy h16
  rcases x with _ | x <;> rcases y with _ | y
  all_goals
   simp only [refNumV] at H1 H2
   go_enter Tryz.func118, Tryz.ntmps118
   go_wp2_with fail
   refine (H1.out _ hl1).mono ?_
   rintro e w' ⟨rfl, n1, rfl⟩
   go_wp2_with fail
   refine (H2.out _ hl2).mono ?_
   rintro e w' ⟨rfl, n2, rfl⟩
   go_wp2_with fail
   go_ret3
   exact ⟨rfl, _, rfl⟩

end Go.Proofs.YtgabmfibfikdbaaGreatDoor

namespace Go.Proofs.YtgabmfibfikdbaaGreatDoor
open Go.RowKit Go.Bar Go.Bar.Leb Go.Bar.Frm Go.Bar.Idt Go.Bar.Met

theorem refUint_w (z : Int) (W : World) : Calls Tryz.prog 51 #[.int .u64 (IntKind.u64.wrap z)] W (RetBelow W (.string (bs (u (w64 z))))) := by
 rw [wrap_w64]
 exact refUint_any (w64 z) W (w64_lt z)

end Go.Proofs.YtgabmfibfikdbaaGreatDoor

set_option maxHeartbeats 32000000
set_option maxRecDepth 10000
namespace Go.Proofs.YtgabmfibfikdbaaGreatDoor
open Go.RowKit Go.Bar Go.Bar.Leb Go.Bar.Frm Go.Bar.Lab Go.Bar.Xor Go.Bar.Mrg Go.Bar.Met Go.Bar.Bok

theorem xindex_any (v : Value) (l : List Ev) (w : World) (h : EsAt w v l) (hd : (idxD (l.map plE)).length <= 1000000000) (hp : ∀ x ∈ l, x.ls.length <= 1000 /\ ∀ p ∈ x.ls, p.1.length <= 1000000 /\ p.2.length <= 1000000) (hn : l.length <= 1000000000) :
  Calls Tryz.prog 18 #[v] w (RetBelow w (.string (bs (idxB (l.map plE))))) := by
 obtain ⟨A, c, rfl, hlc, hcm⟩ := h.shape
 unfold maxLen at hcm
 obtain ⟨N, hN⟩ : ∃ N, N = l.length := ⟨_, rfl⟩
 have hlm : (l.map plE).length = N := by rw [List.length_map, hN]
 obtain ⟨R, hR⟩ : ∃ R, R = l.map plE := ⟨_, rfl⟩
 rw [<- hR] at hd hlm ⊢
 have hcv : IntKind.u64.wrap (N : Int) = (N : Int) := by rw [IntKind.wrap_u64]; omega
 have hu : ∀ w, Calls Tryz.prog 51 #[.int .u64 (N : Nat)] w (RetBelow w (.string (bs (u N)))) := fun w => refUint_any N w (by omega)
 obtain ⟨U0, hU0⟩ : ∃ U, U = u N := ⟨_, rfl⟩
 rw [<- hU0] at hu
 have hid : idxD R = U0 ++ R.flatMap enB := by unfold idxD; rw [hlm, hU0]
 have hfin := fun w' => refBytes_any 5 (idxD R) w' (by omega)
 obtain ⟨F, hF⟩ : ∃ F, F = idxD R := ⟨_, rfl⟩
 obtain ⟨FB, hFB⟩ : ∃ F, F = idxB R := ⟨_, rfl⟩
 have hFB2 : Frm.rec (5, idxD R) = FB := by rw [hFB]; rfl
 rw [hFB2, <- hF] at hfin
 rw [<- hFB]
 rw [<- hF] at hid
 have HE := Lib.hid h
 have HP := Lib.hid hp
 have HR := Lib.hid hR
 have HID := Lib.hid hid
 have HU := Lib.hid hu
 have HFIN := Lib.hid hfin
 have HLM := Lib.hid hlm
 have HNN := Lib.hid hN
 have HD := Lib.hid (show F.length <= 1000000000 by rw [hF]; exact hd)
 rw [<- hN] at h hlc hn HE ⊢
 have HCV := Lib.hid hcv
 clear h hp hR hid hu hfin hlm hd hN hU0 hF hFB hFB2 hcv
 have hcv := HCV.out
 go_enter Tryz.func18, Tryz.ntmps18
 go_wp2_with fail
 refine (HU.out _).mono ?_
 rintro e w1 ⟨rfl, b1⟩
 have B1 := Lib.hid b1
 clear b1 HU hcv
 go_upto_region 3 with fail
 go_loopw [12, 3] (fun iv sv wr => ∃ (k : Nat) (T : List UInt8), iv = .int .i64 k /\ k <= N /\ sv = .string (bs T) /\ Hid (T = U0 ++ (R.take k).flatMap enB) /\ Hid (Below w.heap.size w wr)) (fun iv _ _ => N - (intOf iv).toNat)
 case atStart => exact ⟨0, U0, rfl, Nat.zero_le _, rfl, Lib.hid (by simp), B1⟩
 case round =>
  obtain ⟨k, T, rfl, hk, rfl, HT, HB⟩ := hrel
  clear B1
  by_cases hgo : k < N
  ·obtain ⟨x, hx⟩ : ∃ x, l[k]? = some x := ⟨_, List.getElem?_eq_getElem (by rw [<- HNN.out]; exact hgo)⟩
   have hrx : R[k]? = some (plE x) := by rw [HR.out, List.getElem?_map, hx]; rfl
   obtain ⟨eb, eo, rfl, _, hps, g0, g1, g2, g3, g4⟩ := (HE.out.below HB.out).at_ hx
   obtain ⟨hp1, hp2⟩ := HP.out _ (List.mem_of_getElem? hx)
   obtain ⟨ls, la, lc, fr, n, mn, mx⟩ := x
   dsimp only at g0 g1 g2 g3 g4 hps hp1 hp2
   have hT2 : T ++ ((((key ls ++ u (w64 fr)) ++ u (w64 n)) ++ u (w64 mn)) ++ u (w64 mx)) = U0 ++ (R.take (k + 1)).flatMap enB := by
    rw [HT.out, List.take_add_one, hrx]
    simp only [Option.toList_some, List.flatMap_append, List.flatMap_cons, List.flatMap_nil, List.append_nil, List.append_assoc]
    rfl
   obtain ⟨wb, hwb⟩ : ∃ wb, wb = wr.alloc (.cells #[.slice la ls.length lc, .int .i64 fr, .int .i64 n, .int .i64 mn, .int .i64 mx] 114) := ⟨_, rfl⟩
   have hb2 : Below wr.heap.size wr wb := by rw [hwb]; exact below_al _ _
   have HZ : Hid (Blk wb wr.heap.size 114 #[.slice la ls.length lc, .int .i64 fr, .int .i64 n, .int .i64 mn, .int .i64 mx]) := Lib.hid (by rw [hwb]; exact Blk.new _ _ _)
   have hK := fun w' (hb : Below wb.heap.size wb w') => rkey_any (.slice la ls.length lc) ls w' ((hps.below hb2).below hb) hp1 hp2
   obtain ⟨K0, hK0⟩ : ∃ K, K = key ls := ⟨_, rfl⟩
   obtain ⟨K1, hK1⟩ : ∃ K, K = u (w64 fr) := ⟨_, rfl⟩
   obtain ⟨K2, hK2⟩ : ∃ K, K = u (w64 n) := ⟨_, rfl⟩
   obtain ⟨K3, hK3⟩ : ∃ K, K = u (w64 mn) := ⟨_, rfl⟩
   obtain ⟨K4, hK4⟩ : ∃ K, K = u (w64 mx) := ⟨_, rfl⟩
   have k1 := fun w' => refUint_w fr w'
   have k2 := fun w' => refUint_w n w'
   have k3 := fun w' => refUint_w mn w'
   have k4 := fun w' => refUint_w mx w'
   rw [<- hK0] at hK
   rw [<- hK1] at k1
   rw [<- hK2] at k2
   rw [<- hK3] at k3
   rw [<- hK4] at k4
   rw [<- hK0, <- hK1, <- hK2, <- hK3, <- hK4] at hT2
   have HK0 := Lib.hid hK
   have HK1 := Lib.hid k1
   have HK2 := Lib.hid k2
   have HK3 := Lib.hid k3
   have HK4 := Lib.hid k4
   have HT2 := Lib.hid hT2
   have hln : (T ++ ((((K0 ++ K1) ++ K2) ++ K3) ++ K4)).length <= 1000000000 := by
    rw [hT2]
    refine Nat.le_trans ?_ HD.out
    rw [HID.out, List.length_append, List.length_append]
    refine Nat.add_le_add_left ?_ _
    conv => rhs; rw [<- List.take_append_drop (k + 1) R, List.flatMap_append, List.length_append]
    exact Nat.le_add_right _ _
   simp only [List.length_append] at hln
   have n1 : ¬ 9223372036854775807 < K0.length + K1.length := by omega
   have n2 : ¬ 9223372036854775807 < K0.length + K1.length + K2.length := by omega
   have n3 : ¬ 9223372036854775807 < K0.length + (K1.length + K2.length) + K3.length := by omega
   have n4 : ¬ 9223372036854775807 < K0.length + (K1.length + (K2.length + K3.length)) + K4.length := by omega
   have n5 : ¬ 9223372036854775807 < T.length + (K0.length + (K1.length + (K2.length + (K3.length + K4.length)))) := by omega
   have HB2 := Lib.hid (below_trans HB.out hb2)
   clear hln hx hrx hps hp1 hp2 hT2 hK k1 k2 k3 k4 hK0 hK1 hK2 hK3 hK4
   go_upto_region 5 with fail
   rw [<- hwb]
   obtain ⟨P, hP⟩ : ∃ P, P = wr.heap.size := ⟨_, rfl⟩
   rw [<- hP] at HZ ⊢
   clear hwb hP hb2 g0 g1 g2 g3 g4
   refine wp_region_known [(2, .slice la ls.length lc), (3, .string (bs K0)), (5, .int .i64 fr), (7, .string (bs K1)), (10, .int .i64 n), (12, .string (bs K2)), (15, .int .i64 mn), (17, .string (bs K3)), (20, .int .i64 mx), (22, .string (bs K4))] (by kernel_rfl) 45 (by kernel_rfl) rfl ?_
   repeat (first
    | (refine Chain.step (v := ?_) (a' := ?_) rfl rfl rfl ?_ ?_ ?_; rotate_left 2; (focus (intro w; go_simp; try with_reducible rfl)); focus (simp only [Act.put, pqA, pqS, pqZ]; try rfl))
    | (refine Chain.call (i := 2) (a' := ?_) _ rfl rfl rfl (fun wx hw => ?_) ?_ ?_; rotate_left 1; (focus (obtain ⟨g0, g1, g2, g3, g4⟩ := Blk.c5 (HZ.out.below hw); go_simp; first | exact ⟨rfl, rB⟩ | exact rB)); focus (simp only [Act.put, pqA, pqS, pqZ]; try rfl))
    | (refine Chain.call (i := 3) (a' := ?_) _ rfl rfl rfl (fun wx hw => ?_) ?_ ?_; rotate_left 1; (focus (go_simp; (with_reducible refine (HK0.out _ hw).mono ?_); exact (fun e w' ⟨h1, h2⟩ => by subst h1; exact ⟨rfl, h2⟩))); focus (simp only [Act.put, pqA, pqS, pqZ]; try rfl))
    | (refine Chain.call (i := 5) (a' := ?_) _ rfl rfl rfl (fun wx hw => ?_) ?_ ?_; rotate_left 1; (focus (obtain ⟨g0, g1, g2, g3, g4⟩ := Blk.c5 (HZ.out.below hw); go_simp; first | exact ⟨rfl, rB⟩ | exact rB)); focus (simp only [Act.put, pqA, pqS, pqZ]; try rfl))
    | (refine Chain.call (i := 7) (a' := ?_) _ rfl rfl rfl (fun wx hw => ?_) ?_ ?_; rotate_left 1; (focus (go_simp; (with_reducible refine (HK1.out _).mono ?_); exact (fun e w' ⟨h1, h2⟩ => by subst h1; exact ⟨rfl, h2⟩))); focus (simp only [Act.put, pqA, pqS, pqZ]; try rfl))
    | (refine Chain.call (i := 10) (a' := ?_) _ rfl rfl rfl (fun wx hw => ?_) ?_ ?_; rotate_left 1; (focus (obtain ⟨g0, g1, g2, g3, g4⟩ := Blk.c5 (HZ.out.below hw); go_simp; first | exact ⟨rfl, rB⟩ | exact rB)); focus (simp only [Act.put, pqA, pqS, pqZ]; try rfl))
    | (refine Chain.call (i := 12) (a' := ?_) _ rfl rfl rfl (fun wx hw => ?_) ?_ ?_; rotate_left 1; (focus (go_simp; (with_reducible refine (HK2.out _).mono ?_); exact (fun e w' ⟨h1, h2⟩ => by subst h1; exact ⟨rfl, h2⟩))); focus (simp only [Act.put, pqA, pqS, pqZ]; try rfl))
    | (refine Chain.call (i := 15) (a' := ?_) _ rfl rfl rfl (fun wx hw => ?_) ?_ ?_; rotate_left 1; (focus (obtain ⟨g0, g1, g2, g3, g4⟩ := Blk.c5 (HZ.out.below hw); go_simp; first | exact ⟨rfl, rB⟩ | exact rB)); focus (simp only [Act.put, pqA, pqS, pqZ]; try rfl))
    | (refine Chain.call (i := 17) (a' := ?_) _ rfl rfl rfl (fun wx hw => ?_) ?_ ?_; rotate_left 1; (focus (go_simp; (with_reducible refine (HK3.out _).mono ?_); exact (fun e w' ⟨h1, h2⟩ => by subst h1; exact ⟨rfl, h2⟩))); focus (simp only [Act.put, pqA, pqS, pqZ]; try rfl))
    | (refine Chain.call (i := 20) (a' := ?_) _ rfl rfl rfl (fun wx hw => ?_) ?_ ?_; rotate_left 1; (focus (obtain ⟨g0, g1, g2, g3, g4⟩ := Blk.c5 (HZ.out.below hw); go_simp; first | exact ⟨rfl, rB⟩ | exact rB)); focus (simp only [Act.put, pqA, pqS, pqZ]; try rfl))
    | (refine Chain.call (i := 22) (a' := ?_) _ rfl rfl rfl (fun wx hw => ?_) ?_ ?_; rotate_left 1; (focus (go_simp; (with_reducible refine (HK4.out _).mono ?_); exact (fun e w' ⟨h1, h2⟩ => by subst h1; exact ⟨rfl, h2⟩))); focus (simp only [Act.put, pqA, pqS, pqZ]; try rfl))
    | (refine Chain.skip (a' := ?_) rfl rfl rfl ?_ ?_; rotate_left 1; focus (simp only [Act.put, pqA, pqS, pqZ]; try rfl)))
   refine Chain.end_ (fun wy hwy _ => ?_)
   have HB3 := Lib.hid (below_trans HB2.out hwy)
   go_wp2_with fail
   go_roundw
   case rel => exact ⟨k + 1, _, by go_num, hgo, rfl, Lib.hid (by simpa only [List.append_assoc] using HT2.out), HB3⟩
   case measure => simp [intOf]; omega
  ·obtain rfl : k = N := by omega
   have hTF : T = F := by rw [HT.out, HID.out, <- HLM.out, List.take_length]
   subst hTF
   have HF2 := Lib.hid (HFIN.out wr)
   clear HFIN
   go_wp2_with fail
   refine HF2.out.mono ?_
   rintro e w5 ⟨rfl, b5⟩
   have HB5 := Lib.hid (below_trans HB.out b5)
   go_wp2_with fail
   go_ret
   exact ⟨rfl, HB5.out⟩

theorem xpart_at {w : World} {A : Option Addr} {c n j m : Nat} {L : List Sm} (h : SlAt w 2 (.slice A n c) n (smc L)) (hL : L.length = n) (h1 : 120 * j <= m) (h2 : m <= n) (h3 : m = 120 * j + 120 \/ m = n /\ n <= 120 * j + 120) :
  SmsAt w (.slice (dropA A c (120 * j) 2) (m - 120 * j) (c - 120 * j)) (Bok.part L j) := by
 have h4 := h.part (120 * j) m h1 h2
 rw [smc_drop, smc_take] at h4
 have hp : (L.drop (120 * j)).take (m - 120 * j) = Bok.part L j := by
  unfold Bok.part
  rcases h3 with h3 | ⟨h3, h5⟩
  ·rw [show m - 120 * j = 120 by omega]
  ·rw [List.take_of_length_le (by rw [List.length_drop]; omega), List.take_of_length_le (by rw [List.length_drop]; omega)]
 have hl : (Bok.part L j).length = m - 120 * j := by rw [<- hp, List.length_take, List.length_drop]; omega
 unfold SmsAt
 rw [hl, <- hp]
 exact h4
theorem ckR_len {L : List Sm} (h : SmOk L) : ∀ m, (laid (ckR L m)).length <= 2400 * m := by
 intro m
 induction m with
 | zero => exact Nat.le_refl _
 | succ m ih =>
  rw [ckR_succ, laid_snoc, List.length_append, rec_len]
  have h1 := ckT_len h m
  have h2 := u_len (ckT L m).length (by omega)
  show _ + (5 + (u (ckT L m).length).length + (ckT L m).length) <= _
  omega
theorem chB_step {L : List Sm} {j : Nat} : laid (ckR L (j + 1)) = laid (ckR L j) ++ Frm.rec (4, ckT L j) := by rw [ckR_succ, laid_snoc]

theorem xchunks_any (v : Value) (L : List Sm) (w : World) (h : SmsAt w v L) (hok : SmOk L) (hn : L.length <= 1000000) :
  Calls Tryz.prog 65 #[v] w (RetBelow w (.string (bs (chB L)))) := by
 obtain ⟨A, c, rfl, hlc, hcm⟩ := h.shape
 unfold maxLen at hcm
 obtain ⟨N, hN⟩ : ∃ N, N = L.length := ⟨_, rfl⟩
 have htx : ∀ (j : Nat) (v : Value) (w' : World), SmsAt w' v (Bok.part L j) -> Calls Tryz.prog 90 #[v] w' (RetBelow w' (.string (bs (ckT L j)))) := fun j v w' hb =>
  xtext_any (Bok.part L j) v w' _ hb (Prod.ext rfl (part_of hok j)) (part_v hok j)
 have hrb : ∀ (j : Nat) (w' : World), Calls Tryz.prog 53 #[.agg #[.int .u8 4, .string (bs (ckT L j))]] w' (RetBelow w' (.string (bs (Frm.rec (4, ckT L j))))) := fun j w' => refBytes_any 4 (ckT L j) w' (by have := ckT_len hok j; omega)
 have hend : ∀ m, N <= 120 * m -> 120 * m < N + 120 -> laid (ckR L m) = chB L := fun m h1 h2 => by
  have : m = nP L := by unfold nP; omega
  rw [this]; rfl
 have HTX := Lib.hid htx
 have HRB := Lib.hid hrb
 have HEND := Lib.hid hend
 have HLN := Lib.hid (ckR_len hok)
 have h0 : SlAt w 2 (.slice A L.length c) L.length (smc L) := h
 rw [<- hN] at hlc hn h0 ⊢
 have HL := Lib.hid h0
 have HNN := Lib.hid hN
 obtain ⟨R, hR⟩ : ∃ R, R = chB L := ⟨_, rfl⟩
 rw [<- hR] at HEND ⊢
 clear h h0 htx hrb hend hN hR
 go_enter Tryz.func65, Tryz.ntmps65
 go_wp2_with fail
 go_loopw [4, 3] (fun iv sv wr => ∃ (m : Nat) (T : List UInt8), iv = .int .i64 ((120 * m : Nat) : Int) /\ 120 * m < N + 120 /\ sv = .string (bs T) /\ Hid (T = laid (ckR L m)) /\ Hid (Below w.heap.size w wr)) (fun iv _ _ => N + 120 - (intOf iv).toNat)
 case atStart => exact ⟨0, [], rfl, by omega, rfl, Lib.hid rfl, Lib.hid (Below.refl _ _)⟩
 case round =>
  obtain ⟨m, T, rfl, hm, rfl, HT, HB⟩ := hrel
  obtain ⟨I, hI⟩ : ∃ I, I = 120 * m := ⟨_, rfl⟩
  have hI2 : I < N + 120 := by omega
  rw [<- hI]
  have HI := Lib.hid hI
  by_cases hgo : I < N
  ·obtain ⟨M, hM⟩ : ∃ M, M = min (I + 120) N := ⟨_, rfl⟩
   have hmin : min ((I : Int) + 120) (N : Int) = (M : Int) := by omega
   have hw1 : IntKind.i64.wrap ((I : Int) + 120) = (I : Int) + 120 := by rw [IntKind.wrap_i64]; omega
   have hw2 : wrap64 ((I : Int) + 120) = (I : Int) + 120 := by unfold wrap64; omega
   obtain ⟨i0, hi0, hi1, hi2, hi3⟩ := sm_ty.info
   have hsub := xpart_at (j := m) (m := M) (HL.out.below HB.out) HNN.out.symm (by omega) (by omega) (by omega)
   rw [<- HI.out] at hsub
   have hsl := fun w => run_slice_ft (P := Tryz.prog) (a := A) (n := N) (c := c) (t := 32) Tryz.underlying32 hi0 hi2 I M (by omega) (by omega) w
   obtain ⟨tx, htx⟩ : ∃ tx, tx = ckT L m := ⟨_, rfl⟩
   obtain ⟨rx, hrx⟩ : ∃ rx, rx = Frm.rec (4, ckT L m) := ⟨_, rfl⟩
   have h1 := fun w' (hb : Below wr.heap.size wr w') => HTX.out m _ w' (hsub.below hb)
   have h2 := HRB.out m
   rw [<- htx] at h1 h2
   rw [<- htx] at hrx
   rw [<- hrx] at h2
   generalize dropA A c I 2 = fD at hsl h1
   generalize M - I = cn at hsl h1
   generalize c - I = cc at hsl h1
   have H1 := Lib.hid h1
   have H2 := Lib.hid h2
   have hTX : T ++ rx = laid (ckR L (m + 1)) := by rw [chB_step, HT.out, hrx, htx]
   have hln := congrArg List.length hTX
   rw [List.length_append] at hln
   have hln2 := HLN.out (m + 1)
   have n1 : ¬ 9223372036854775807 < T.length + rx.length := by omega
   have HS := Lib.hid hTX
   clear hsub hi0 hi1 hi2 hi3 hM h1 h2 htx hrx hI hm hTX hln hln2
   go_wp2_with fail
   refine (H1.out _ (Below.refl _ _)).mono ?_
   rintro e w2 ⟨rfl, b2⟩
   have HB2 := Lib.hid (below_trans HB.out b2)
   clear b2 hsl
   go_wp2_with fail
   refine (H2.out _).mono ?_
   rintro e w3 ⟨rfl, b3⟩
   have HB3 := Lib.hid (below_trans HB2.out b3)
   clear b3
   go_wp2_with fail
   go_roundw
   case rel => exact ⟨m + 1, _, by have := HI.out; go_num, by have := HI.out; omega, rfl, HS, HB3⟩
   case measure => simp [intOf]; omega
  ·have hR := HEND.out m (by have := HI.out; omega) (by have := HI.out; omega)
   rw [<- HT.out] at hR
   subst hR
   go_wp2_with fail
   go_ret
   exact ⟨rfl, HB.out⟩
end Go.Proofs.YtgabmfibfikdbaaGreatDoor

set_option maxHeartbeats 32000000
set_option maxRecDepth 10000
namespace Go.Proofs.YtgabmfibfikdbaaGreatDoor
open Go.RowKit Go.Bar Go.Bar.Leb Go.Bar.Lab Go.Bar.Xor Go.Bar.Mrg

theorem rgood_any (v : Value) (t : List Rv) (w : World) (h : TbAt w v t) (hs : ∀ x ∈ t, x.ss.length <= 1000000) :
  Calls Tryz.prog 63 #[v] w (RetBelow w (.bool (goodB (t.map plR)))) := by
 obtain ⟨A, c, rfl, hlc, hcm⟩ := h.shape
 unfold maxLen at hcm
 obtain ⟨Z, hZ⟩ : ∃ Z, Z = goodB (t.map plR) := ⟨_, rfl⟩
 rw [<- hZ]
 have hZt : GoodP (t.map plR) -> Z = true := fun hg => by rw [hZ]; exact goodB_true hg
 have hZf : ¬ GoodP (t.map plR) -> Z = false := fun hg => by rw [hZ]; exact goodB_false hg
 have HZT := Lib.hid hZt
 have HZF := Lib.hid hZf
 have HT := Lib.hid h
 have HSL := Lib.hid hs
 clear h hZ hZt hZf hs
 go_enter Tryz.func63, Tryz.ntmps63
 go_wp2_with fail
 go_loopw [8] (fun i wr => ∃ k : Nat, k <= t.length /\ i = .int .i64 k /\ Below w.heap.size w wr /\ Hid (GoodP ((t.map plR).take k))) (fun i _ => t.length - (intOf i).toNat)
 case atStart => exact ⟨0, Nat.zero_le _, rfl, Below.refl _ _, Lib.hid good_zero⟩
 case round =>
  obtain ⟨k, hk, rfl, hb, hg⟩ := hrel
  by_cases hgo : k < t.length
  ·obtain ⟨x, hx⟩ : ∃ x, t[k]? = some x := ⟨_, List.getElem?_eq_getElem hgo⟩
   obtain ⟨xL, xS, la, lc, sa, sc⟩ := x
   obtain ⟨b, o, rfl, a0, a1, hrx⟩ := (HT.out.below hb).at_ hx
   have hrx : PsAt wr (.slice la xL.length lc) xL /\ SmsAt wr (.slice sa xS.length sc) xS := hrx
   dsimp only at a0 a1
   have hb2 := below_trans hb (below_alloc1 wr (.cells #[.slice la xL.length lc, .slice sa xS.length sc] 62))
   have hB := Blk.new wr #[.slice la xL.length lc, .slice sa xS.length sc] 62
   have hsl : xS.length <= 1000000 := HSL.out _ (List.mem_of_getElem? hx)
   go_upto_region 4 with fail
   obtain ⟨X, hX⟩ : ∃ X, X = wr.heap.size := ⟨_, rfl⟩
   obtain ⟨wb, hwb⟩ : ∃ wb, wb = wr.alloc (.cells #[.slice la xL.length lc, .slice sa xS.length sc] 62) := ⟨_, rfl⟩
   rw [<- hwb] at hb2 hB ⊢
   rw [<- hX] at hB ⊢
   have HX := Lib.hid hx
   have HB := Lib.hid hB
   have hxr : (t.map plR)[k]? = some (xL, xS) := by rw [List.getElem?_map, hx]; rfl
   have HXR := Lib.hid hxr
   have HLA := Lib.hid (show PsAt w (.slice la xL.length lc) xL from (HT.out.2 _ (List.mem_of_getElem? hx)).1)
   have HSA := Lib.hid (show SmsAt w (.slice sa xS.length sc) xS from (HT.out.2 _ (List.mem_of_getElem? hx)).2)
   obtain ⟨c0, c1⟩ := hB.c2
   clear a0 a1 hrx hX hwb hb hx hB hxr
   go_wp2_with fail
   go_loopw [16] (fun i w2 => ∃ j : Nat, i = .int .i64 j /\ j <= xS.length /\ Hid (Below wb.heap.size wb w2) /\ Hid (Ris (xS.take j))) (fun i _ => xS.length - (intOf i).toNat)
   case atStart => exact ⟨0, rfl, Nat.zero_le _, Lib.hid (Below.refl _ _), Lib.hid List.Pairwise.nil⟩
   case round =>
    obtain ⟨j, rfl, hj, HBJ, hris⟩ := hrel
    clear c0 c1
    by_cases hgo2 : j < xS.length
    ·obtain ⟨q, hq⟩ : ∃ q, xS[j]? = some q := ⟨_, List.getElem?_eq_getElem hgo2⟩
     obtain ⟨sb, so, rfl, _⟩ := HSA.out.at_ hq
     have HQ := Lib.hid hq
     clear hq
     rcases j with _ | j
     ·have HR1 := Lib.hid (ris_one xS)
      go_upto_region 7 with fail
      refine wp_region_known [] (by kernel_rfl) 53 (by kernel_rfl) rfl ?_
      repeat (first
       | (refine Chain.step (v := ?_) (a' := ?_) rfl rfl rfl ?_ ?_ ?_; rotate_left 2; (focus (intro w; go_simp; try with_reducible rfl)); focus (simp only [Act.put, pqA, pqS, pqZ]; try rfl))
       | (refine Chain.skip (a' := ?_) rfl rfl rfl ?_ ?_; rotate_left 1; focus (simp only [Act.put, pqA, pqS, pqZ]; try rfl)))
      refine Chain.end_ (fun wz hwz _ => ?_)
      have HB5 := Lib.hid (below_trans HBJ.out hwz)
      clear hwz
      go_wp2_with fail
      go_roundw
      case rel => exact ⟨1, rfl, by omega, HB5, HR1⟩
      case measure => simp [intOf]; omega
     ·obtain ⟨p, hp⟩ : ∃ p, xS[j]? = some p := ⟨_, List.getElem?_eq_getElem (by omega)⟩
      have HP := Lib.hid hp
      clear hp
      have h1 : (j : Int) + 1 < (xS.length : Int) := by omega
      have h2 : IntKind.i64.wrap (j : Int) = (j : Int) := by rw [IntKind.wrap_i64]; omega
      have h3 : (0 : Int) <= (j : Int) := by omega
      have h4 : (j : Int) < (xS.length : Int) := by omega
      have h5 : ((j : Int) + 1).toNat = j + 1 := by omega
      have h6 : (0 : Int) <= (j : Int) + 1 := by omega
      have h7 : (0 : Int) < (j : Int) + 1 := by omega
      go_upto_region 7 with fail
      refine wp_region_known [(4, .slice (some ⟨sb, so, none⟩) xS.length sc), (8, .int .i64 q.1), (10, .slice (some ⟨sb, so, none⟩) xS.length sc), (15, .int .i64 p.1)] (by kernel_rfl) 53 (by kernel_rfl) rfl ?_
      repeat (first
       | (refine Chain.step (v := ?_) (a' := ?_) rfl rfl rfl ?_ ?_ ?_; rotate_left 2; (focus (intro w; go_simp; try with_reducible rfl)); focus (simp only [Act.put, pqA, pqS, pqZ]; try rfl))
       | (refine Chain.call (i := 4) (a' := ?_) _ rfl rfl rfl (fun wx hw => ?_) ?_ ?_; rotate_left 1; (focus (obtain ⟨g0, g1⟩ := Blk.c2 (HB.out.below (below_trans HBJ.out hw)); go_simp; first | exact ⟨rfl, rB⟩ | exact rB)); focus (simp only [Act.put, pqA, pqS, pqZ]; try rfl))
       | (refine Chain.call (i := 8) (a' := ?_) _ rfl rfl rfl (fun wx hw => ?_) ?_ ?_; rotate_left 1; (focus (obtain ⟨g0, _⟩ := (HSA.out.below (below_trans hb2 (below_trans HBJ.out hw))).at2 HQ.out); (go_simp; first | exact ⟨rfl, Below.refl _ _⟩ | exact Below.refl _ _)); focus (simp only [Act.put, pqA, pqS, pqZ]; try rfl))
       | (refine Chain.call (i := 10) (a' := ?_) _ rfl rfl rfl (fun wx hw => ?_) ?_ ?_; rotate_left 1; (focus (obtain ⟨g0, g1⟩ := Blk.c2 (HB.out.below (below_trans HBJ.out hw)); go_simp; first | exact ⟨rfl, rB⟩ | exact rB)); focus (simp only [Act.put, pqA, pqS, pqZ]; try rfl))
       | (refine Chain.call (i := 15) (a' := ?_) _ rfl rfl rfl (fun wx hw => ?_) ?_ ?_; rotate_left 1; (focus (obtain ⟨g0, _⟩ := (HSA.out.below (below_trans hb2 (below_trans HBJ.out hw))).at2 HP.out); (go_simp; first | exact ⟨rfl, Below.refl _ _⟩ | exact Below.refl _ _)); focus (simp only [Act.put, pqA, pqS, pqZ]; try rfl))
       | (refine Chain.skip (a' := ?_) rfl rfl rfl ?_ ?_; rotate_left 1; focus (simp only [Act.put, pqA, pqS, pqZ]; try rfl)))
      refine Chain.end_ (fun wz hwz _ => ?_)
      have HB5 := Lib.hid (below_trans HBJ.out hwz)
      clear hwz
      by_cases hlt : p.1 < q.1
      ·have hs := ris_step hris.out HP.out HQ.out hlt
       have HS := Lib.hid hs
       have hd : decide (q.1 <= p.1) = false := decide_eq_false (by omega)
       clear hs hris
       go_wp2_with fail
       go_roundw
       case rel => exact ⟨j + 1 + 1, by go_num, by omega, HB5, HS⟩
       case measure => simp [intOf]; omega
      ·have hz : Z = false := HZF.out (bad_times (k := k) (r := (xL, xS)) HXR.out HP.out HQ.out hlt)
       subst hz
       have hd : decide (q.1 <= p.1) = true := decide_eq_true (by omega)
       have HB6 := Lib.hid (below_trans hb2 HB5.out)
       clear hris
       go_wp2_with fail
       go_ret
       exact ⟨rfl, HB6.out⟩
    ·obtain rfl : j = xS.length := by omega
     have hxs := hris.out
     rw [List.take_length] at hxs
     have HRS := Lib.hid hxs
     clear hxs hris hgo2
     rcases k with _ | n
     ·have HG2 := Lib.hid (good_first HXR.out HRS.out)
      go_upto_region 10 with fail
      refine wp_region_known [] (by kernel_rfl) 53 (by kernel_rfl) rfl ?_
      repeat (first
       | (refine Chain.step (v := ?_) (a' := ?_) rfl rfl rfl ?_ ?_ ?_; rotate_left 2; (focus (intro w; go_simp; try with_reducible rfl)); focus (simp only [Act.put, pqA, pqS, pqZ]; try rfl))
       | (refine Chain.skip (a' := ?_) rfl rfl rfl ?_ ?_; rotate_left 1; focus (simp only [Act.put, pqA, pqS, pqZ]; try rfl)))
      refine Chain.end_ (fun wz hwz _ => ?_)
      have HB5 := Lib.hid (below_trans hb2 (below_trans HBJ.out hwz))
      clear hwz
      go_wp2_with fail
      go_roundw
      case rel => exact ⟨1, by omega, rfl, HB5.out, HG2⟩
      case measure => simp [intOf]; omega
     ·obtain ⟨y, hy⟩ : ∃ y, t[n]? = some y := ⟨_, List.getElem?_eq_getElem (by omega)⟩
      obtain ⟨C, hC⟩ : ∃ C, C = cmpL y.ls xL := ⟨_, rfl⟩
      have hcm := fun w' (hb : Below w.heap.size w w') => rcompare_any _ _ _ _ w' (((HT.out.below hb).at2 hy).2.2).1 (HLA.out.below hb)
      rw [<- hC] at hcm
      have HCM := Lib.hid hcm
      have HY := Lib.hid hy
      have hyr : (t.map plR)[n]? = some (plR y) := by rw [List.getElem?_map, hy]; rfl
      have HYR := Lib.hid hyr
      have HC := Lib.hid hC
      clear hC hcm hy hyr
      have hw1 : IntKind.i64.wrap (n : Int) = (n : Int) := by rw [IntKind.wrap_i64]; omega
      have hp : (0 : Int) < (n : Int) + 1 := by omega
      have h0n : (0 : Int) <= (n : Int) := by omega
      have hnt : (n : Int) < (t.length : Int) := by omega
      go_upto_region 10 with fail
      refine wp_region_known [(8, .slice y.la y.ls.length y.lc), (10, .slice la xL.length lc), (11, .int .i64 C)] (by kernel_rfl) 53 (by kernel_rfl) rfl ?_
      repeat (first
       | (refine Chain.step (v := ?_) (a' := ?_) rfl rfl rfl ?_ ?_ ?_; rotate_left 2; (focus (intro w; go_simp; try with_reducible rfl)); focus (simp only [Act.put, pqA, pqS, pqZ]; try rfl))
       | (refine Chain.call (i := 8) (a' := ?_) _ rfl rfl rfl (fun wx hw => ?_) ?_ ?_; rotate_left 1; (focus (have g0 := ((HT.out.below (below_trans hb2 (below_trans HBJ.out hw))).at2 HY.out).1); (go_simp; first | exact ⟨rfl, Below.refl _ _⟩ | exact Below.refl _ _)); focus (simp only [Act.put, pqA, pqS, pqZ]; try rfl))
       | (refine Chain.call (i := 10) (a' := ?_) _ rfl rfl rfl (fun wx hw => ?_) ?_ ?_; rotate_left 1; (focus (obtain ⟨g0, g1⟩ := Blk.c2 (HB.out.below (below_trans HBJ.out hw)); go_simp; first | exact ⟨rfl, rB⟩ | exact rB)); focus (simp only [Act.put, pqA, pqS, pqZ]; try rfl))
       | (refine Chain.call (i := 11) (a' := ?_) _ rfl rfl rfl (fun wx hw => ?_) ?_ ?_; rotate_left 1; (focus (go_simp; (with_reducible refine (HCM.out _ (below_trans hb2 (below_trans HBJ.out hw))).mono ?_); exact (fun e w' ⟨h1, h2⟩ => by subst h1; exact ⟨rfl, h2⟩))); focus (simp only [Act.put, pqA, pqS, pqZ]; try rfl))
       | (refine Chain.skip (a' := ?_) rfl rfl rfl ?_ ?_; rotate_left 1; focus (simp only [Act.put, pqA, pqS, pqZ]; try rfl)))
      refine Chain.end_ (fun wz hwz _ => ?_)
      have HB5 := Lib.hid (below_trans hb2 (below_trans HBJ.out hwz))
      clear hwz
      by_cases hlt : C < 0
      ·have HG2 := Lib.hid (good_step hg.out HYR.out HXR.out (by rw [HC.out] at hlt; exact hlt) HRS.out)
       have hd : decide (0 <= C) = false := decide_eq_false (by omega)
       go_wp2_with fail
       go_roundw
       case rel => exact ⟨n + 1 + 1, by omega, by go_num, HB5.out, HG2⟩
       case measure => simp [intOf]; omega
      ·have hz : Z = false := HZF.out (bad_labels HYR.out HXR.out (by rw [HC.out] at hlt; exact hlt))
       subst hz
       have hd : decide (0 <= C) = true := decide_eq_true (by omega)
       go_wp2_with fail
       go_ret
       exact ⟨rfl, HB5.out⟩
  ·obtain rfl : k = t.length := by omega
   have hz : Z = true := HZT.out (by have := hg.out; rwa [List.take_of_length_le (by rw [List.length_map]; exact Nat.le_refl _)] at this)
   subst hz
   clear hg
   go_wp2_with fail
   go_ret
   exact ⟨rfl, hb⟩
end Go.Proofs.YtgabmfibfikdbaaGreatDoor
