/-
 Layer 9: the walk of the taker of all fields.
-/
import Derived.Test.YtgabmfibfikdbaaGreatDoorZXorQ
import Derived.Test.YtgabmfibfikdbaaGreatDoorZLib9
import Derived.Deep.RegionLaw
import Derived.Test.YtgabmfibfikdbaaGreatDoorZBokF
import Derived.Test.YtgabmfibfikdbaaGreatDoorZBokM
import Derived.BigQuiet
import Derived.Deep.QuietTactic
import Derived.Test.YtgabmfibfikdbaaGreatDoorZXorM

namespace Go.Proofs.YtgabmfibfikdbaaGreatDoor
open Go.RowKit Go.Bar Go.Bar.Leb Go.Bar.Frm Go.Bar.Idt Go.Bar.Met

theorem blk_ne {b M i j : Nat} (h : b ≠ M) : (⟨b, i, none⟩ : Addr) ≠ ⟨M, j, none⟩ := fun e => h (Addr.mk.inj e).1
theorem TkAt.set {w : World} {b : Nat} {s : List UInt8} {e : Nat} (h : TkAt w b s e) {M : Nat} (hM : b ≠ M) (i : Nat) (v : Value) : TkAt (w.setCell ⟨M, i, none⟩ v) b s e :=
 ⟨(World.cell?_setCell_other w _ _ v (by first | exact blk_ne hM | exact (blk_ne hM).symm)).trans h.c0, (World.cell?_setCell_other w _ _ v (by first | exact blk_ne hM | exact (blk_ne hM).symm)).trans h.c1, by rw [World.frozen?_setCell]; exact h.f0, by rw [World.frozen?_setCell]; exact h.f1⟩
theorem TkAt.belowB {w w' : World} {b : Nat} {s : List UInt8} {e : Nat} (h : TkAt w b s e) {B : Nat} (hb : Below B w w') (hlt : b < B) : TkAt w' b s e :=
 ⟨(hb.cell (p := ⟨b, 0, none⟩) hlt).trans h.c0, (hb.cell (p := ⟨b, 1, none⟩) hlt).trans h.c1, (hb.frozen (p := ⟨b, 0, none⟩) hlt).trans h.f0, (hb.frozen (p := ⟨b, 1, none⟩) hlt).trans h.f1⟩

structure TS (w wr : World) (b : Nat) (s : List UInt8) (e : Nat) (cur : Array Value) : Prop where
 tk : TkAt wr b s e
 fr : TkFr b w wr
 res : Blk wr w.heap.size 53 #[.string ByteArray.empty, .int .i64 0, .int .i64 0, .int .i64 0, .int .i64 0, .int .i64 0, .slice none 0 0, .slice none 0 0]
 blk : Blk wr (w.heap.size + 1) 53 cur
 blt : b < w.heap.size
section
variable {w wr w2 : World} {b : Nat} {s s' : List UInt8} {e e' : Nat} {cur : Array Value}
theorem TS.step (h : TS w wr b s e cur) (hk : TkAt w2 b s' e') (hf : TkFr b wr w2) : TS w w2 b s' e' cur :=
 ⟨hk, Fr.trans h.fr hf, h.res.fr hf (fun i hi => absurd hi (by have := h.blt; omega)), h.blk.fr hf (fun i hi => absurd hi (by have := h.blt; omega)), h.blt⟩
theorem TS.below (h : TS w wr b s e cur) (hb : Below wr.heap.size wr w2) : TS w w2 b s e cur :=
 ⟨h.tk.below hb, Fr.then_below h.fr hb, h.res.below hb, h.blk.below hb, h.blt⟩
theorem TS.alloc (h : TS w wr b s e cur) (o : Obj) : TS w (wr.alloc o) b s e cur := h.below ((Below.refl _ _).alloc (Nat.le_refl _) o)
theorem TS.drew (h : TS w wr b s e cur) : TS w wr.drew b s e cur := h.below (Below.refl _ _).drew
theorem TS.set (h : TS w wr b s e cur) (i : Nat) (v : Value) : TS w (wr.setCell ⟨w.heap.size + 1, i, none⟩ v) b s e (cur.setIfInBounds i v) :=
 ⟨h.tk.set (by have := h.blt; omega) i v, Fr.setCell h.fr (fun hk => by omega) v, h.res.other (by omega) i v, h.blk.set i v, h.blt⟩
theorem TS.ap {ee : TypeId} {sz n : Nat} {v : Value} {xs : List Value} (h : TS w wr b s e cur) (hb : FBuf w wr ee sz v n xs) (ha : Ap wr w2 sz v) (hne : ee ≠ 53) : TS w w2 b s e cur := by
 have hB := hb.belowB h.fr.size ha
 exact ⟨h.tk.belowB hB h.blt, h.fr.then_belowB hB ha.size, h.res.ap hb.buf ha hne, h.blk.ap hb.buf ha hne, h.blt⟩
end

structure TE (w wr : World) (b : Nat) (s : List UInt8) (e : Nat) (fv sv : Value) (fs : List Fl) (ss : List (List UInt8)) : Prop where
 tk : TkAt wr b s e
 fr : TkFr b w wr
 res : ∃ c, Blk wr w.heap.size 53 c
 blt : b < w.heap.size
 fb : FBuf w wr 86 3 fv fs.length (fcs fs)
 sb : FBuf w wr 9 1 sv ss.length (scs ss)
theorem TE.set {w wr : World} {b : Nat} {s : List UInt8} {e : Nat} {fv sv : Value} {fs : List Fl} {ss : List (List UInt8)} (h : TE w wr b s e fv sv fs ss) (i : Nat) (v : Value) : TE w (wr.setCell ⟨w.heap.size, i, none⟩ v) b s e fv sv fs ss := by
 obtain ⟨c, hc⟩ := h.res
 exact ⟨h.tk.set (by have := h.blt; omega) i v, Fr.setCell h.fr (fun hk => by omega) v, ⟨_, hc.set i v⟩, h.blt, h.fb.set_ne hc (by decide) i v, h.sb.set_ne hc (by decide) i v⟩

theorem fcs_snoc (fs : List Fl) (f : Fl) : fcs (fs ++ [f]) = fcs fs ++ [.string (bs f.name), .int .i64 f.size, .int .u32 f.sum] := by simp [fcs]

end Go.Proofs.YtgabmfibfikdbaaGreatDoor

/-
 Layer 9: the walks of Take and Decode.
-/
namespace Go.Proofs.YtgabmfibfikdbaaGreatDoor
open Go.RowKit Go.Bar Go.Bar.Leb Go.Bar.Frm Go.Bar.Idt Go.Bar.Met

def S2 (B : Nat) : Nat → Nat → Prop := fun k _ => k = B ∨ k = B + 1
theorem S2.below {B : Nat} : ∀ k i, k < B → ¬ S2 B k i := fun k i hk h => by rcases h with h | h <;> omega

end Go.Proofs.YtgabmfibfikdbaaGreatDoor

/-
 Layer 9: the walks of Decode and of the laws' own awake.
-/
namespace Go.Proofs.YtgabmfibfikdbaaGreatDoor
open Go.RowKit Go.Bar Go.Bar.Leb Go.Bar.Frm Go.Bar.Idt Go.Bar.Met

theorem frR_set {w w' : World} {B : Nat} (h : TkFr B w w') (i : Nat) (v : Value) : TkFr B w (w'.setCell ⟨B, i, none⟩ v) := Fr.setCell h (fun _ => rfl) v

end Go.Proofs.YtgabmfibfikdbaaGreatDoor

/-
 Layer 9: the walks of Told and of the reference's Same.
-/
namespace Go.Proofs.YtgabmfibfikdbaaGreatDoor
open Go.RowKit Go.Bar Go.Bar.Leb Go.Bar.Frm Go.Bar.Idt Go.Bar.Met

theorem rfile_ty : ElemTy Tryz.prog 68 151 (.agg #[.string ByteArray.empty, .int .i64 0, .int .u32 0]) 3 32 :=
 ⟨Tryz.underlying68, info_parts (show (Tryz.prog.info? 151).map (fun i => (i.zero, i.size, i.bytes)) = some (some (.agg #[.string ByteArray.empty, .int .i64 0, .int .u32 0]), 3, 32) by kernel_rfl), rfl⟩

def RetT (w : World) (m : Mt) (sv : Value) (en : Ending) (w' : World) : Prop :=
 ∃ fv, en = .returned (.agg #[.string (bs m.id), .int .i64 m.mn, .int .i64 m.mx, .int .i64 m.lv, .int .i64 m.sr, .int .i64 m.sm, fv, sv]) ∧ FBuf w w' 151 3 fv m.fs.length (fcs m.fs) ∧ Below w.heap.size w w'

set_option maxHeartbeats 8000000 in
set_option maxRecDepth 10000 in
theorem told_any (m : Mt) (fv sv : Value) (w : World) (hf : FlsAt w fv m.fs) (hs : SrcAt w sv m.ss) (hn : m.fs.length ≤ 1000) :
  Calls Tryz.prog 26 #[.agg #[.string (bs m.id), .int .i64 m.mn, .int .i64 m.mx, .int .i64 m.lv, .int .i64 m.sr, .int .i64 m.sm, fv, sv]] w (RetT w m sv) := by
 obtain ⟨A, c, rfl, hlc, hcm⟩ := hf.shape
 obtain ⟨A2, c2, rfl, hlc2, hcm2⟩ := hs.shape
 unfold maxLen at hcm hcm2
 go_enter Tryz.func26, Tryz.ntmps26
 go_upto_region 3 with fail
 have M1 := ((Blk.new w #[.string (bs m.id), .int .i64 m.mn, .int .i64 m.mx, .int .i64 m.lv, .int .i64 m.sr, .int .i64 m.sm, .slice A m.fs.length c, .slice A2 m.ss.length c2] 53).alloc (.cells #[.string { data := #[] }, .int .i64 0, .int .i64 0, .int .i64 0, .int .i64 0, .int .i64 0, .slice none 0 0, .slice none 0 0] 70)).alloc (.cells #[.string (bs m.id), .int .i64 m.mn, .int .i64 m.mx, .int .i64 m.lv, .int .i64 m.sr, .int .i64 m.sm, .slice none 0 0, .slice A2 m.ss.length c2] 70)
 have R1 := (Blk.new (w.alloc (.cells #[.string (bs m.id), .int .i64 m.mn, .int .i64 m.mx, .int .i64 m.lv, .int .i64 m.sr, .int .i64 m.sm, .slice A m.fs.length c, .slice A2 m.ss.length c2] 53)) #[.string { data := #[] }, .int .i64 0, .int .i64 0, .int .i64 0, .int .i64 0, .int .i64 0, .slice none 0 0, .slice none 0 0] 70).alloc (.cells #[.string (bs m.id), .int .i64 m.mn, .int .i64 m.mx, .int .i64 m.lv, .int .i64 m.sr, .int .i64 m.sm, .slice none 0 0, .slice A2 m.ss.length c2] 70)
 have X1 := Blk.new ((w.alloc (.cells #[.string (bs m.id), .int .i64 m.mn, .int .i64 m.mx, .int .i64 m.lv, .int .i64 m.sr, .int .i64 m.sm, .slice A m.fs.length c, .slice A2 m.ss.length c2] 53)).alloc (.cells #[.string { data := #[] }, .int .i64 0, .int .i64 0, .int .i64 0, .int .i64 0, .int .i64 0, .slice none 0 0, .slice none 0 0] 70)) #[.string (bs m.id), .int .i64 m.mn, .int .i64 m.mx, .int .i64 m.lv, .int .i64 m.sr, .int .i64 m.sm, .slice none 0 0, .slice A2 m.ss.length c2] 70
 have B1 := below_trans (below_trans (mbelow_alloc1 w (.cells #[.string (bs m.id), .int .i64 m.mn, .int .i64 m.mx, .int .i64 m.lv, .int .i64 m.sr, .int .i64 m.sm, .slice A m.fs.length c, .slice A2 m.ss.length c2] 53)) (mbelow_alloc1 _ (.cells #[.string { data := #[] }, .int .i64 0, .int .i64 0, .int .i64 0, .int .i64 0, .int .i64 0, .slice none 0 0, .slice none 0 0] 70))) (mbelow_alloc1 _ (.cells #[.string (bs m.id), .int .i64 m.mn, .int .i64 m.mx, .int .i64 m.lv, .int .i64 m.sr, .int .i64 m.sm, .slice none 0 0, .slice A2 m.ss.length c2] 70))
 rw [show (w.alloc (.cells #[.string (bs m.id), .int .i64 m.mn, .int .i64 m.mx, .int .i64 m.lv, .int .i64 m.sr, .int .i64 m.sm, .slice A m.fs.length c, .slice A2 m.ss.length c2] 53)).heap.size = w.heap.size + 1 by simp] at R1
 rw [show ((w.alloc (.cells #[.string (bs m.id), .int .i64 m.mn, .int .i64 m.mx, .int .i64 m.lv, .int .i64 m.sr, .int .i64 m.sm, .slice A m.fs.length c, .slice A2 m.ss.length c2] 53)).alloc (.cells #[.string { data := #[] }, .int .i64 0, .int .i64 0, .int .i64 0, .int .i64 0, .int .i64 0, .slice none 0 0, .slice none 0 0] 70)).heap.size = w.heap.size + 2 by simp] at X1
 obtain ⟨w1, hw1⟩ : ∃ w1, w1 = ((w.alloc (.cells #[.string (bs m.id), .int .i64 m.mn, .int .i64 m.mx, .int .i64 m.lv, .int .i64 m.sr, .int .i64 m.sm, .slice A m.fs.length c, .slice A2 m.ss.length c2] 53)).alloc (.cells #[.string { data := #[] }, .int .i64 0, .int .i64 0, .int .i64 0, .int .i64 0, .int .i64 0, .slice none 0 0, .slice none 0 0] 70)).alloc (.cells #[.string (bs m.id), .int .i64 m.mn, .int .i64 m.mx, .int .i64 m.lv, .int .i64 m.sr, .int .i64 m.sm, .slice none 0 0, .slice A2 m.ss.length c2] 70) := ⟨_, rfl⟩
 rw [← hw1] at M1 R1 X1 B1 ⊢
 clear hw1
 have d6 : w1.cell? ⟨w.heap.size, 6, none⟩ = some (.slice A m.fs.length c) := M1.cell (i := 6) rfl
 clear d6
 go_loopw [24] (fun i wr => ∃ (k : Nat) (gv : Value), i = .int .i64 k ∧ k ≤ m.fs.length ∧ Blk wr (w.heap.size + 1) 70 #[.string { data := #[] }, .int .i64 0, .int .i64 0, .int .i64 0, .int .i64 0, .int .i64 0, .slice none 0 0, .slice none 0 0] ∧ Blk wr (w.heap.size + 2) 70 #[.string (bs m.id), .int .i64 m.mn, .int .i64 m.mx, .int .i64 m.lv, .int .i64 m.sr, .int .i64 m.sm, gv, .slice A2 m.ss.length c2] ∧ FBuf w wr 151 3 gv k (fcs (m.fs.take k)) ∧ Below w.heap.size w wr) (fun i _ => m.fs.length - (intOf i).toNat)
 case atStart => exact ⟨0, _, rfl, Nat.zero_le _, R1, X1, by simpa [fcs] using FBuf.nil w w1 151 3, B1⟩
 case round =>
  obtain ⟨k, gv, rfl, hk, hR, hX, hF, hB⟩ := hrel
  clear M1 R1 X1 B1
  have hshape := hF.buf.shape
  obtain ⟨fA, fc, rfl, hfc⟩ := hshape
  by_cases hgo : k < m.fs.length
  ·obtain ⟨f, hfk⟩ : ∃ f, m.fs[k]? = some f := ⟨_, List.getElem?_eq_getElem hgo⟩
   obtain ⟨b, o, rfl, hbb, f0, f1, f2⟩ := (hf.below hB).at_ hfk
   have HFK := Lib.hid hfk
   clear hfk
   obtain ⟨nm, sz, su⟩ := f
   simp only at f0 f1 f2
   have hlt := hX.lt
   have hR1 := hR.alloc (.cells #[.string (bs nm), .int .i64 sz, .int .u32 su] 86)
   have hX1 := hX.alloc (.cells #[.string (bs nm), .int .i64 sz, .int .u32 su] 86)
   have hF1 := hF.alloc (.cells #[.string (bs nm), .int .i64 sz, .int .u32 su] 86)
   have hB1 := below_trans hB (mbelow_alloc1 wr (.cells #[.string (bs nm), .int .i64 sz, .int .u32 su] 86))
   have d : ∀ o, (wr.alloc o).cell? ⟨w.heap.size + 2, 6, none⟩ = some (.slice fA k fc) := fun o => (hX.alloc o).cell (i := 6) rfl
   have hne : w.heap.size + 2 ≠ wr.heap.size := by omega
   clear hR hX hF hB
   go_wp2_with (at_builtin; refine wpList_append_flit rfl (.tmp 29) (.tmp 31) 68 rfl rfile_ty rfl hF1.buf rfl (by simp) rfl (by simp [Value.oneCell']) (by simp only [maxLen]; omega) (by omega) ?_; intro v3 w5 hb5 ha5 hg5; obtain ⟨gA, gc, rfl, hgc⟩ := hb5.shape; have hR2 := (hR1.alloc _).ap (hF1.alloc _).buf ha5 (by decide); have hX2 := (hX1.alloc _).ap (hF1.alloc _).buf ha5 (by decide); have hsz := Nat.le_trans hB1.size (mbelow_alloc1 _ (.cells #[.string (bs nm), .int .i64 sz, .int .u32 su] 151)).size; have hB2 := (below_trans hB1 (mbelow_alloc1 _ (.cells #[.string (bs nm), .int .i64 sz, .int .u32 su] 151))).trans ((hF1.alloc (.cells #[.string (bs nm), .int .i64 sz, .int .u32 su] 151)).belowB hsz ha5); have hF2 := (hF1.alloc (.cells #[.string (bs nm), .int .i64 sz, .int .u32 su] 151)).step hsz hb5 hg5; clear hb5 ha5 hg5 hsz d; have d : w5.cell? ⟨w.heap.size + 2, 6, none⟩ = some (.slice fA k fc) := hX2.cell (i := 6) rfl; have df := hX2.free 6)
   have hn2 : fcs (m.fs.take (k + 1)) = fcs (m.fs.take k) ++ [.string (bs nm), .int .i64 sz, .int .u32 su] := by
    rw [List.take_add_one, HFK.out]
    exact fcs_snoc _ _
   go_roundw
   case rel => exact ⟨k + 1, _, by go_num, by omega, hR2.other (show w.heap.size + 1 ≠ w.heap.size + 2 by omega) 6 _, hX2.set 6 (.slice gA (k + 1) gc), by rw [hn2]; exact hF2.set_ne hX2 (by decide) 6 _, hB2.setCell (show w.heap.size ≤ w.heap.size + 2 by omega) _⟩
   case measure => simp [intOf]; omega
  ·have hkk : k = m.fs.length := by omega
   have hfs : FBuf w wr 151 3 (.slice fA k fc) m.fs.length (fcs m.fs) := by
    rw [hkk] at hF ⊢
    rw [List.take_of_length_le (Nat.le_refl _)] at hF
    exact hF
   have HF := Lib.hid (FBuf.set_ne2 (FBuf.set_ne2 (FBuf.set_ne2 (FBuf.set_ne2 (FBuf.set_ne2 (FBuf.set_ne2 (FBuf.set_ne2 (FBuf.set_ne2 ⟨hfs, _, hR⟩ (by decide) 0 (.string (bs m.id))) (by decide) 1 (.int .i64 m.mn)) (by decide) 2 (.int .i64 m.mx)) (by decide) 3 (.int .i64 m.lv)) (by decide) 4 (.int .i64 m.sr)) (by decide) 5 (.int .i64 m.sm)) (by decide) 6 (.slice fA k fc)) (by decide) 7 (.slice A2 m.ss.length c2))
   have HB := Lib.hid hB
   have HG := Lib.hid (frR_set (frR_set (frR_set (frR_set (frR_set (frR_set (frR_set (frR_set (Fr.refl (fun k _ => k = w.heap.size + 1) wr) 0 (.string (bs m.id))) 1 (.int .i64 m.mn)) 2 (.int .i64 m.mx)) 3 (.int .i64 m.lv)) 4 (.int .i64 m.sr)) 5 (.int .i64 m.sm)) 6 (.slice fA k fc)) 7 (.slice A2 m.ss.length c2))
   clear hkk hfs hF hB
   have r0 : wr.cell? ⟨w.heap.size + 1, 0, none⟩ = some (.string { data := #[] }) := hR.cell (i := 0) rfl
   have q0 := hR.free 0
   have r1 : wr.cell? ⟨w.heap.size + 1, 1, none⟩ = some (.int .i64 0) := hR.cell (i := 1) rfl
   have q1 := hR.free 1
   have r2 : wr.cell? ⟨w.heap.size + 1, 2, none⟩ = some (.int .i64 0) := hR.cell (i := 2) rfl
   have q2 := hR.free 2
   have r3 : wr.cell? ⟨w.heap.size + 1, 3, none⟩ = some (.int .i64 0) := hR.cell (i := 3) rfl
   have q3 := hR.free 3
   have r4 : wr.cell? ⟨w.heap.size + 1, 4, none⟩ = some (.int .i64 0) := hR.cell (i := 4) rfl
   have q4 := hR.free 4
   have r5 : wr.cell? ⟨w.heap.size + 1, 5, none⟩ = some (.int .i64 0) := hR.cell (i := 5) rfl
   have q5 := hR.free 5
   have r6 : wr.cell? ⟨w.heap.size + 1, 6, none⟩ = some (.slice none 0 0) := hR.cell (i := 6) rfl
   have q6 := hR.free 6
   have r7 : wr.cell? ⟨w.heap.size + 1, 7, none⟩ = some (.slice none 0 0) := hR.cell (i := 7) rfl
   have q7 := hR.free 7
   have z0 : wr.cell? ⟨w.heap.size + 2, 0, none⟩ = some (.string (bs m.id)) := hX.cell (i := 0) rfl
   have z1 : wr.cell? ⟨w.heap.size + 2, 1, none⟩ = some (.int .i64 m.mn) := hX.cell (i := 1) rfl
   have z2 : wr.cell? ⟨w.heap.size + 2, 2, none⟩ = some (.int .i64 m.mx) := hX.cell (i := 2) rfl
   have z3 : wr.cell? ⟨w.heap.size + 2, 3, none⟩ = some (.int .i64 m.lv) := hX.cell (i := 3) rfl
   have z4 : wr.cell? ⟨w.heap.size + 2, 4, none⟩ = some (.int .i64 m.sr) := hX.cell (i := 4) rfl
   have z5 : wr.cell? ⟨w.heap.size + 2, 5, none⟩ = some (.int .i64 m.sm) := hX.cell (i := 5) rfl
   have z6 : wr.cell? ⟨w.heap.size + 2, 6, none⟩ = some (.slice fA k fc) := hX.cell (i := 6) rfl
   have z7 : wr.cell? ⟨w.heap.size + 2, 7, none⟩ = some (.slice A2 m.ss.length c2) := hX.cell (i := 7) rfl
   clear hR hX
   go_wp2_with fail
   refine bodyPost_ret (v := .agg #[.string (bs m.id), .int .i64 m.mn, .int .i64 m.mx, .int .i64 m.lv, .int .i64 m.sr, .int .i64 m.sm, .slice fA k fc, .slice A2 m.ss.length c2]) (by simp [results, Tryz.results26, go_sem, r0, r1, r2, r3, r4, r5, r6, r7]) rfl ?_
   exact ⟨_, rfl, HF.out.1, HB.out.trans (Fr.below HG.out HB.out.size (fun k i hk h => by have h : k = w.heap.size + 1 := h; omega))⟩

end Go.Proofs.YtgabmfibfikdbaaGreatDoor

/-
 Plain mathematics of layer 7: the reference's Samples as a function; it takes again what is written. No program in sight; no condition.
-/
namespace Go.Bar.Xor
open Go.RowKit Go.Bar Go.Bar.Bit Go.Bar.Leb

def rtake (L : List Bool) (a n : Nat) : Nat × Nat := if L.length < a + n then (0, L.length + 1) else (num ((L.drop a).take n), a + n)
def rones (L : List Bool) (a : Nat) : Nat := a + run L a 4 + (if run L a 4 < 4 then 1 else 0)
def rtime (L : List Bool) (a : Nat) : Nat × Nat := rtake L (rones L a) (wd (run L a 4))
def rin (L : List Bool) (a fr wi : Nat) : Option (Nat × Nat × Nat × Nat) :=
 if wi = 0 ∨ 64 < fr + wi then none else some ((rtake L a wi).1 * 2 ^ (64 - fr - wi), (rtake L a wi).2, fr, wi)
def rval (L : List Bool) (a fr wi : Nat) : Option (Nat × Nat × Nat × Nat) :=
 if (rtake L a 1).1 = 1 then
  if (rtake L (rtake L a 1).2 1).1 = 1 then
   rin L (rtake L (rtake L (rtake L (rtake L a 1).2 1).2 6).2 6).2 (rtake L (rtake L (rtake L a 1).2 1).2 6).1 ((rtake L (rtake L (rtake L (rtake L a 1).2 1).2 6).2 6).1 + 1)
  else rin L (rtake L (rtake L a 1).2 1).2 fr wi
 else some (0, (rtake L a 1).2, fr, wi)
structure RS where
 a : Nat
 step : Int
 fr : Nat
 wi : Nat
def RS.zero : RS := ⟨0, 0, 0, 0⟩
def rfirst (L : List Bool) (r : RS) : Sm × RS := ((wrap64 (rtake L r.a 41).1, (rtake L (rtake L r.a 41).2 64).1), { r with a := (rtake L (rtake L r.a 41).2 64).2 })
def rstep (L : List Bool) (r : RS) : Int := wrap64 (r.step + unfold (rtime L r.a).1)
def rrest (L : List Bool) (r : RS) (was : Sm) : Option (Sm × RS) :=
 match rval L (rtime L r.a).2 r.fr r.wi with
 | none => none
 | some (x, b, fr, wi) => some ((wrap64 (was.1 + rstep L r), was.2 ^^^ x), ⟨b, rstep L r, fr, wi⟩)
def rloop (L : List Bool) : Nat → RS → List Sm → Option (List Sm × Nat)
 | 0, r, acc => some (acc, r.a)
 | k + 1, r, acc =>
  if r.a ≤ L.length then
   match acc.getLast? with
   | none => rloop L k (rfirst L r).2 (acc ++ [(rfirst L r).1])
   | some was =>
    match rrest L r was with
    | none => none
    | some (x, r') => rloop L k r' (acc ++ [x])
  else some (acc, r.a)
def rdone (w : List UInt8) (n len : Nat) : Option (List Sm × Nat) → Option (List Sm)
 | none => none
 | some (out, a) => if len < a ∨ out.length ≠ n ∨ (ofS St.zero out).2 ≠ 0 ∨ text (ofS St.zero out).1 ≠ w then none else some out
def rbody (w : List UInt8) (n : Nat) (rest : List UInt8) (m : Nat) : Option (List Sm) :=
 rdone w n ((unpack rest).take m).length (rloop ((unpack rest).take m) n RS.zero [])
def rsamples (w : List UInt8) : Option (List Sm) :=
 if (takeMost w 120).2.2 ≠ 0 then none
 else if (takeMost (takeMost w 120).2.1 1048576).2.2 ≠ 0 then none
 else if 200000 < (takeMost (takeMost w 120).2.1 1048576).2.1.length then none
 else rbody w (takeMost w 120).1 (takeMost (takeMost w 120).2.1 1048576).2.1 (takeMost (takeMost w 120).2.1 1048576).1

theorem rdone_some {w : List UInt8} {n len : Nat} {o : Option (List Sm × Nat)} {l : List Sm} (h : rdone w n len o = some l) : (ofS St.zero l).2 = 0 ∧ text (ofS St.zero l).1 = w := by
 unfold rdone at h
 split at h
 ·cases h
 ·next out a =>
  split at h
  ·cases h
  ·next hc =>
   injection h with h
   subst h
   simp only [not_or, Decidable.not_not] at hc
   exact ⟨hc.2.2.1, hc.2.2.2⟩
theorem rsamples_some {w : List UInt8} {l : List Sm} (h : rsamples w = some l) : (ofS St.zero l).2 = 0 ∧ text (ofS St.zero l).1 = w := by
 unfold rsamples at h
 split at h
 ·cases h
 split at h
 ·cases h
 split at h
 ·cases h
 exact rdone_some h

theorem drop_len {L A rest : List Bool} {p : Nat} (h : L.drop p = A ++ rest) (hA : 0 < A.length) : p + A.length ≤ L.length := by
 have := congrArg List.length h
 rw [List.length_drop, List.length_append] at this
 omega
theorem rtake_of {L rest : List Bool} {p v n : Nat} (hn : 0 < n) (h : L.drop p = bitsOf v n ++ rest) : rtake L p n = (v % 2 ^ n, p + n) := by
 have hl := drop_len h (by rw [bitsOf_length]; exact hn)
 rw [bitsOf_length] at hl
 unfold rtake
 rw [if_neg (by omega), h, List.take_left' (bitsOf_length _ _), num_bitsOf]
theorem rtake_zero {L : List Bool} {p : Nat} (h : p ≤ L.length) : rtake L p 0 = (0, p) := by
 unfold rtake
 rw [if_neg (by omega)]
 rfl
theorem rtake_one {L rest : List Bool} {p : Nat} {x : Bool} (h : L.drop p = [x] ++ rest) : rtake L p 1 = (if x then 1 else 0, p + 1) := by
 have hl := drop_len h (by simp)
 unfold rtake
 rw [if_neg (by simp only [List.length_singleton] at hl; omega), h]
 cases x <;> rfl
theorem rin_of {L rest : List Bool} {a fr wi x : Nat} (hw : 0 < wi) (hl : fr + wi ≤ 64) (hd : 2 ^ (64 - fr - wi) ∣ x) (hlt : x < 2 ^ (64 - fr))
  (h : L.drop a = bitsOf (x / 2 ^ (64 - fr - wi)) wi ++ rest) : rin L a fr wi = some (x, a + wi, fr, wi) := by
 unfold rin
 rw [if_neg (by omega), rtake_of hw h, low_bits hd (by rw [show 64 - fr - wi + wi = 64 - fr by omega]; exact hlt)]
theorem rval_of {L rest : List Bool} {a fr wi x : Nat} (hw : fr + wi ≤ 64) (hx : x < 18446744073709551616)
  (h : L.drop a = valB fr wi x ++ rest) : rval L a fr wi = some (x, a + (valB fr wi x).length, valL fr wi x, valW fr wi x) := by
 unfold rval
 unfold valB at h ⊢
 unfold valL valW
 by_cases h0 : x = 0
 ·rw [if_pos h0] at h
  rw [rtake_one h]
  simp only [Bool.false_eq_true, if_false]
  rw [if_neg (by decide), if_pos h0, if_pos (.inl h0), if_pos (.inl h0), h0]
  simp
 ·rw [if_neg h0] at h
  obtain ⟨t1, t2, t3⟩ := tz_spec x (by omega)
  have hwx := width_le x hx
  have hsp := (width_spec x).1
  by_cases hf : fitW fr wi x
  ·rw [if_pos hf, List.append_assoc] at h
   have h1 := rtake_one h
   have h2 : L.drop (a + 1) = [false] ++ (bitsOf (x / 2 ^ (64 - fr - wi)) wi ++ rest) := by
    rw [← List.drop_drop, h, List.append_assoc]; rfl
   have h3 := rtake_one h2
   have h4 : L.drop (a + 1 + 1) = bitsOf (x / 2 ^ (64 - fr - wi)) wi ++ rest := by
    rw [← List.drop_drop, h2]; rfl
   rw [h1]
   simp only [if_true]
   rw [h3]
   simp only [Bool.false_eq_true, if_false]
   rw [if_neg (by decide), if_neg h0, if_pos hf, if_pos (.inr hf), if_pos (.inr hf)]
   obtain ⟨f1, f2, f3⟩ := hf
   rw [rin_of f1 hw (Nat.dvd_trans (Nat.pow_dvd_pow 2 f3) t1) (Nat.lt_of_lt_of_le hsp (Nat.pow_le_pow_right (by omega) (by omega))) h4]
   simp only [List.length_append, bitsOf_length, List.length_cons, List.length_nil]
   congr 2
   simp only [Prod.mk.injEq, and_true]
   omega
  ·rw [if_neg hf, List.append_assoc] at h
   have h1 := rtake_one h
   have h2 : L.drop (a + 1) = [true] ++ (bitsOf (64 - width x) 6 ++ (bitsOf (width x - tz x - 1) 6 ++ (bitsOf (x / 2 ^ tz x) (width x - tz x) ++ rest))) := by
    rw [← List.drop_drop, h, List.append_assoc, List.append_assoc, List.append_assoc]; rfl
   have h3 := rtake_one h2
   have h4 : L.drop (a + 1 + 1) = bitsOf (64 - width x) 6 ++ (bitsOf (width x - tz x - 1) 6 ++ (bitsOf (x / 2 ^ tz x) (width x - tz x) ++ rest)) := by
    rw [← List.drop_drop, h2]; rfl
   have h5 := rtake_of (by omega) h4
   have h6 : L.drop (a + 1 + 1 + 6) = bitsOf (width x - tz x - 1) 6 ++ (bitsOf (x / 2 ^ tz x) (width x - tz x) ++ rest) := by
    rw [← List.drop_drop, h4, List.drop_left' (bitsOf_length _ _)]
   have h7 := rtake_of (by omega) h6
   have h8 : L.drop (a + 1 + 1 + 6 + 6) = bitsOf (x / 2 ^ tz x) (width x - tz x) ++ rest := by
    rw [← List.drop_drop, h6, List.drop_left' (bitsOf_length _ _)]
   have hw1 := width_pos x (by omega)
   have m1 : (64 - width x) % 2 ^ 6 = 64 - width x := Nat.mod_eq_of_lt (by omega)
   have m2 : (width x - tz x - 1) % 2 ^ 6 = width x - tz x - 1 := Nat.mod_eq_of_lt (by omega)
   rw [m1] at h5
   rw [m2] at h7
   rw [h1]
   simp only [if_true]
   rw [h3]
   simp only [if_true]
   rw [h5]
   simp only
   rw [h7]
   simp only
   rw [if_neg h0, if_neg hf, if_neg (fun h => h.elim h0 hf), if_neg (fun h => h.elim h0 hf)]
   have hwd : width x - tz x - 1 + 1 = width x - tz x := by omega
   have hsh : 64 - (64 - width x) - (width x - tz x) = tz x := by omega
   rw [hwd, rin_of (by omega) (by omega) (by rw [hsh]; exact t1) (by rw [show 64 - (64 - width x) = width x by omega]; exact hsp) (by rw [hsh]; exact h8)]
   simp only [List.length_append, bitsOf_length, List.length_cons, List.length_nil]
   congr 2
   simp only [Prod.mk.injEq, and_true]
   omega
theorem eyeUnary_run {L : List Bool} {p k b : Nat} (h : eyeUnary L p 0 4 = (k, b, 0)) : run L p 4 = k ∧ rones L p = b := by
 unfold eyeUnary at h
 rw [if_neg (by omega)] at h
 have h4 : (4 : Int).toNat = 4 := rfl
 rw [h4] at h
 unfold rones
 have := run_le L 4 p
 split at h
 ·next h1 => injection h with h2 h3; injection h3 with h3 _; rw [if_neg (by omega)]; omega
 ·next h1 =>
  split at h
  ·injection h with h2 h3; injection h3 with h3 _; rw [if_pos (by omega)]; omega
  ·injection h with h2 h3; injection h3 with _ h3; cases h3
theorem rtime_of {L rest : List Bool} {a u : Nat} (hu : u < 18446744073709551616) (h : L.drop a = timeB u ++ rest) : rtime L a = (u, a + (timeB u).length) := by
 unfold timeB at h
 rw [List.append_assoc] at h
 have h1 := eyeUnary_of h
 have hk := kind_le u
 have ho : ones (kind u : Int) 4 = kind u := by unfold ones; omega
 rw [ho] at h1
 obtain ⟨g1, g2⟩ := eyeUnary_run h1
 have h2 : L.drop (a + (unary (kind u : Int) 4).length) = bitsOf u (wd (kind u)) ++ rest := by
  rw [← List.drop_drop, h, List.drop_left]
 unfold rtime
 rw [g1, g2]
 have hlen : a + (timeB u).length = a + (unary (kind u : Int) 4).length + wd (kind u) := by unfold timeB; rw [List.length_append, bitsOf_length]; omega
 rcases Nat.eq_zero_or_pos (wd (kind u)) with h0 | h0
 ·have hul : 0 < (unary (kind u : Int) 4).length := by
   unfold unary
   rw [ho]
   have hk0 : kind u = 0 := by
    rcases Nat.eq_zero_or_pos (kind u) with h | h
    ·exact h
    ·exfalso
     have := hk
     rcases (show kind u = 1 ∨ kind u = 2 ∨ kind u = 3 ∨ kind u = 4 by omega) with h | h | h | h <;> rw [h] at h0 <;> simp [wd] at h0
   rw [hk0]; simp
  have hle := drop_len h hul
  have hu0 : u = 0 := by
   have := kind_wd u hu
   rw [h0] at this
   rcases Nat.eq_zero_or_pos u with h | h
   ·exact h
   ·rw [width_pos u h] at this; omega
  rw [h0, rtake_zero hle, hlen, h0, Nat.add_zero, hu0]
 ·rw [rtake_of h0 h2, mod_of_width (kind_wd u hu), hlen]

structure RSync (r : RS) (s : St) : Prop where
 step : r.step = s.step
 fr : r.fr = s.lead
 wi : r.wi = s.wide
theorem rloop_of (L : List Bool) : ∀ (l : List Sm) (s s' : St) (r : RS) (acc : List Sm) (rest : List Bool), RSync r s → s.Ok → (∀ x ∈ l, x.2 < 18446744073709551616) → ofS s l = (s', 0) → L.drop r.a = more s l ++ rest → r.a ≤ L.length →
  (s.n = 0 → acc = []) → (0 < s.n → acc.getLast? = some (s.t, s.v)) → ∃ b, rloop L l.length r acc = some (acc ++ l, b) ∧ b ≤ L.length
 | [], s, s', r, acc, rest, _, _, _, _, _, ha, _, _ => ⟨r.a, by simp [rloop], ha⟩
 | x :: l, s, s', r, acc, rest, hy, hs, hx, ho, hd, ha, hn0, hn1 => by
  rw [ofS] at ho
  by_cases he : err s x = 0
  ·rw [if_pos he] at ho
   obtain ⟨e1, e2, e3, e4⟩ := err_zero he
   have hx0 := hx x (by simp)
   rw [more, List.append_assoc] at hd
   obtain ⟨pn, pt, pv⟩ := put_n s x
   have ih := fun r' h1 h3 h4 => rloop_of L l (s.put x) s' r' (acc ++ [x]) rest h1 (hs.put he hx0) (fun z hz => hx z (by simp [hz])) ho h3 h4 (fun h => by rw [pn] at h; omega) (fun _ => by rw [List.getLast?_concat, pt, pv])
   rw [List.length_cons, rloop, if_pos ha]
   unfold inc at hd
   by_cases h0 : s.n = 0
   ·rw [if_pos h0, List.append_assoc] at hd
    rw [hn0 h0]
    simp only [List.getLast?_nil]
    have h1 := rtake_of (by omega) hd
    have h2 : L.drop (r.a + 41) = bitsOf x.2 64 ++ (more (s.put x) l ++ rest) := by rw [← List.drop_drop, hd, List.drop_left' (bitsOf_length _ _)]
    have h3 := rtake_of (by omega) h2
    have hle := drop_len h2 (by rw [bitsOf_length]; omega)
    rw [bitsOf_length] at hle
    have hf : rfirst L r = (x, { r with a := r.a + 41 + 64 }) := by
     unfold rfirst
     rw [h1]
     simp only
     rw [h3]
     have hm1 : x.1.toNat % 2 ^ 41 = x.1.toNat := Nat.mod_eq_of_lt (by omega)
     have hm2 : x.2 % 2 ^ 64 = x.2 := Nat.mod_eq_of_lt (by simpa using hx0)
     rw [hm1, hm2, wrap64_of _ (by omega) (by omega)]
     have : ((x.1.toNat : Nat) : Int) = x.1 := by omega
     rw [this]
    rw [hf]
    rw [hn0 h0] at ih
    obtain ⟨b, hb1, hb2⟩ := ih { r with a := r.a + 41 + 64 } ⟨by unfold St.put; rw [if_pos h0]; exact hy.step, by unfold St.put; rw [if_pos h0]; exact hy.fr, by unfold St.put; rw [if_pos h0]; exact hy.wi⟩ (by
     show L.drop (r.a + 41 + 64) = _
     rw [← List.drop_drop, h2, List.drop_left' (bitsOf_length _ _)]) hle
    exact ⟨b, by simpa using hb1, hb2⟩
   ·rw [if_neg h0, List.append_assoc] at hd
    rw [hn1 (by omega)]
    simp only
    have hxx := xor_lt hx0 hs.v
    have ht := hs.t
    have hst := hs.step
    have e3 := e3 (by omega)
    have hu := fold_lt (x.1 - s.t - s.step) (by omega) (by omega)
    have h1 := rtime_of hu hd
    have h2 : L.drop (r.a + (timeB (fold (x.1 - s.t - s.step))).length) = valB s.lead s.wide (x.2 ^^^ s.v) ++ (more (s.put x) l ++ rest) := by
     rw [← List.drop_drop, hd, List.drop_left]
    have h3 := rval_of hs.win hxx h2
    have hvl : 0 < (valB s.lead s.wide (x.2 ^^^ s.v)).length := by
     unfold valB
     split
     ·simp
     ·split <;> simp
    have hle := drop_len h2 hvl
    have hr : rrest L r (s.t, s.v) = some (x, ⟨r.a + (timeB (fold (x.1 - s.t - s.step))).length + (valB s.lead s.wide (x.2 ^^^ s.v)).length, x.1 - s.t, valL s.lead s.wide (x.2 ^^^ s.v), valW s.lead s.wide (x.2 ^^^ s.v)⟩) := by
     unfold rrest rstep
     rw [h1, hy.fr, hy.wi]
     simp only
     rw [h3]
     simp only
     rw [unfold_fold, hy.step, show s.step + (x.1 - s.t - s.step) = x.1 - s.t by omega, wrap64_of (x.1 - s.t) (by omega) (by omega), show s.t + (x.1 - s.t) = x.1 by omega, wrap64_of x.1 (by omega) (by omega)]
     have hv : s.v ^^^ (x.2 ^^^ s.v) = x.2 := by
      rw [Nat.xor_comm x.2 s.v, ← Nat.xor_assoc, Nat.xor_self, Nat.zero_xor]
     rw [hv]
    rw [hr]
    simp only
    obtain ⟨b, hb1, hb2⟩ := ih ⟨r.a + (timeB (fold (x.1 - s.t - s.step))).length + (valB s.lead s.wide (x.2 ^^^ s.v)).length, x.1 - s.t, valL s.lead s.wide (x.2 ^^^ s.v), valW s.lead s.wide (x.2 ^^^ s.v)⟩ ⟨by unfold St.put; rw [if_neg h0], by unfold St.put; rw [if_neg h0], by unfold St.put; rw [if_neg h0]⟩ (by
     show L.drop (_ + _ + _) = _
     rw [← List.drop_drop, h2, List.drop_left]) hle
    exact ⟨b, by rw [hb1, List.append_assoc]; rfl, hb2⟩
  ·rw [if_neg he] at ho
   simp only [Prod.mk.injEq] at ho
   exact absurd ho.2 he

theorem rsamples_of {l : List Sm} {s : St} (h : ofS St.zero l = (s, 0)) (hx : ∀ x ∈ l, x.2 < 18446744073709551616) : rsamples (text s) = some l := by
 have hok : s.Ok := by
  have := ofS_ok l St.zero St.zero_ok hx
  rw [h] at this
  exact this
 obtain ⟨hb, hn⟩ := ofS_more l _ _ h
 have hn' : s.n = l.length := by rw [hn]; show 0 + l.length = _; omega
 have hb' : s.bits = more St.zero l := by rw [hb]; rfl
 have h1 := hok.n
 have h2 := hok.len
 unfold rsamples
 have ht : text s = u s.n ++ (u s.bits.length ++ pack s.bits) := rfl
 rw [ht, takeMost_u s.n _ 120 (by omega) (by omega)]
 simp only
 rw [if_neg (by omega), takeMost_u s.bits.length _ 1048576 (by omega) (by omega)]
 simp only
 rw [if_neg (by omega), if_neg (by rw [pack_length]; omega), ← ht]
 obtain ⟨b, hl, hle⟩ := rloop_of s.bits l St.zero s RS.zero [] [] ⟨rfl, rfl, rfl⟩ St.zero_ok hx h (by rw [List.append_nil]; exact hb') (Nat.zero_le _) (fun _ => rfl) (fun h => absurd h (by decide))
 unfold rbody rdone
 rw [unpack_pack_take, hn', hl]
 simp only [List.nil_append]
 rw [if_neg]
 rintro (g | g | g | g)
 ·omega
 ·exact g rfl
 ·rw [h] at g; exact g rfl
 ·rw [h] at g; exact g rfl

end Go.Bar.Xor
