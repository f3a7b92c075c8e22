/-
  Layer 9: the walk of the taker of all fields.
-/
import Derived.Test.YtemmgejaoegpfaaZMetT
import Derived.Test.YtemmgejaoegpfaaZLib9
import Derived.Deep.RegionLaw

namespace Go.Proofs.Ytemmgejaoegpfaa
open Go.RowKit Go.Bar Go.Bar.Leb Go.Bar.Frm Go.Bar.Idt Go.Bar.Met

theorem str_ty : ElemTy Try.prog 43 9 (.string ByteArray.empty) 1 16 :=
  ⟨Try.underlying43, info_parts (show (Try.prog.info? 9).map (fun i => (i.zero, i.size, i.bytes)) = some (some (.string ByteArray.empty), 1, 16) by kernel_rfl), rfl⟩
theorem file_ty : ElemTy Try.prog 53 59 (.agg #[.string ByteArray.empty, .int .i64 0, .int .u32 0]) 3 32 :=
  ⟨Try.underlying53, info_parts (show (Try.prog.info? 59).map (fun i => (i.zero, i.size, i.bytes)) = some (some (.agg #[.string ByteArray.empty, .int .i64 0, .int .u32 0]), 3, 32) by kernel_rfl), rfl⟩

theorem blk_ne {b M i j : Nat} (h : b ≠ M) : (⟨b, i, none⟩ : Addr) ≠ ⟨M, j, none⟩ := fun e => h (Addr.mk.inj e).1
theorem TkAt.set {w : World} {b : Nat} {s : List UInt8} {e : Nat} (h : TkAt w b s e) {M : Nat} (hM : b ≠ M) (i : Nat) (v : Value) : TkAt (w.setCell ⟨M, i, none⟩ v) b s e :=
  ⟨(World.cell?_setCell_other w _ _ v (by first | exact blk_ne hM | exact (blk_ne hM).symm)).trans h.c0, (World.cell?_setCell_other w _ _ v (by first | exact blk_ne hM | exact (blk_ne hM).symm)).trans h.c1, by rw [World.frozen?_setCell]; exact h.f0, by rw [World.frozen?_setCell]; exact h.f1⟩
theorem TkAt.belowB {w w' : World} {b : Nat} {s : List UInt8} {e : Nat} (h : TkAt w b s e) {B : Nat} (hb : Below B w w') (hlt : b < B) : TkAt w' b s e :=
  ⟨(hb.cell (p := ⟨b, 0, none⟩) hlt).trans h.c0, (hb.cell (p := ⟨b, 1, none⟩) hlt).trans h.c1, (hb.frozen (p := ⟨b, 0, none⟩) hlt).trans h.f0, (hb.frozen (p := ⟨b, 1, none⟩) hlt).trans h.f1⟩

/-- how the world stands in the midst of fields: the taker, the result's cell, the meta's box -/
structure TS (w wr : World) (b : Nat) (s : List UInt8) (e : Nat) (cur : Array Value) : Prop where
  tk : TkAt wr b s e
  fr : TkFr b w wr
  res : Blk wr w.heap.size 55 #[.string ByteArray.empty, .int .i64 0, .int .i64 0, .int .i64 0, .int .i64 0, .int .i64 0, .slice none 0 0, .slice none 0 0]
  blk : Blk wr (w.heap.size + 1) 55 cur
  blt : b < w.heap.size
section
variable {w wr w2 : World} {b : Nat} {s s' : List UInt8} {e e' : Nat} {cur : Array Value}
theorem TS.step (h : TS w wr b s e cur) (hk : TkAt w2 b s' e') (hf : TkFr b wr w2) : TS w w2 b s' e' cur :=
  ⟨hk, Fr.trans h.fr hf, h.res.fr hf (fun i hi => absurd hi (by have := h.blt; omega)), h.blk.fr hf (fun i hi => absurd hi (by have := h.blt; omega)), h.blt⟩
theorem TS.below (h : TS w wr b s e cur) (hb : Below wr.heap.size wr w2) : TS w w2 b s e cur :=
  ⟨h.tk.below hb, Fr.then_below h.fr hb, h.res.below hb, h.blk.below hb, h.blt⟩
theorem TS.alloc (h : TS w wr b s e cur) (o : Obj) : TS w (wr.alloc o) b s e cur := h.below ((Below.refl _ _).alloc (Nat.le_refl _) o)
theorem TS.drew (h : TS w wr b s e cur) : TS w wr.drew b s e cur := h.below (Below.refl _ _).drew
theorem TS.set (h : TS w wr b s e cur) (i : Nat) (v : Value) : TS w (wr.setCell ⟨w.heap.size + 1, i, none⟩ v) b s e (cur.setIfInBounds i v) :=
  ⟨h.tk.set (by have := h.blt; omega) i v, Fr.setCell h.fr (fun hk => by omega) v, h.res.other (by omega) i v, h.blk.set i v, h.blt⟩
/-- a store to another block that has been made since -/
theorem TS.setF (h : TS w wr b s e cur) {F : Nat} (hF : w.heap.size + 2 ≤ F) (i : Nat) (v : Value) : TS w (wr.setCell ⟨F, i, none⟩ v) b s e cur :=
  ⟨h.tk.set (by have := h.blt; omega) i v, Fr.setCell h.fr (fun hk => by omega) v, h.res.other (by omega) i v, h.blk.other (by omega) i v, h.blt⟩
theorem TS.ap {ee : TypeId} {sz n : Nat} {v : Value} {xs : List Value} (h : TS w wr b s e cur) (hb : FBuf w wr ee sz v n xs) (ha : Ap wr w2 sz v) (hne : ee ≠ 55) : TS w w2 b s e cur := by
  have hB := hb.belowB h.fr.size ha
  exact ⟨h.tk.belowB hB h.blt, h.fr.then_belowB hB ha.size, h.res.ap hb.buf ha hne, h.blk.ap hb.buf ha hne, h.blt⟩
theorem TS.keepF (_h : TS w wr b s e cur) {T : TypeId} {F : Nat} {c : Array Value} (hF : Blk wr F T c) (hf : TkFr b wr w2) (hne : b ≠ F) : Blk w2 F T c := hF.fr hf (fun i hi => hne hi.symm)
theorem TS.keepB (h : TS w wr b s e cur) {ee : TypeId} {sz n : Nat} {v : Value} {xs : List Value} (hb : FBuf w wr ee sz v n xs) (hf : TkFr b wr w2) : FBuf w w2 ee sz v n xs := hb.fr hf (fun _ _ hk hi => by have := h.blt; omega)
end

/-- how the world stands at the end of fields -/
structure TE (w wr : World) (b : Nat) (s : List UInt8) (e : Nat) (fv sv : Value) (fs : List Fl) (ss : List (List UInt8)) : Prop where
  tk : TkAt wr b s e
  fr : TkFr b w wr
  res : ∃ c, Blk wr w.heap.size 55 c
  blt : b < w.heap.size
  fb : FBuf w wr 59 3 fv fs.length (fcs fs)
  sb : FBuf w wr 9 1 sv ss.length (scs ss)
theorem TE.set {w wr : World} {b : Nat} {s : List UInt8} {e : Nat} {fv sv : Value} {fs : List Fl} {ss : List (List UInt8)} (h : TE w wr b s e fv sv fs ss) (i : Nat) (v : Value) : TE w (wr.setCell ⟨w.heap.size, i, none⟩ v) b s e fv sv fs ss := by
  obtain ⟨c, hc⟩ := h.res
  exact ⟨h.tk.set (by have := h.blt; omega) i v, Fr.setCell h.fr (fun hk => by omega) v, ⟨_, hc.set i v⟩, h.blt, h.fb.set_ne hc (by decide) i v, h.sb.set_ne hc (by decide) i v⟩

theorem fcs_snoc (fs : List Fl) (f : Fl) : fcs (fs ++ [f]) = fcs fs ++ [.string (bs f.name), .int .i64 f.size, .int .u32 f.sum] := by simp [fcs]
theorem scs_snoc (ss : List (List UInt8)) (s : List UInt8) : scs (ss ++ [s]) = scs ss ++ [.string (bs s)] := by simp [scs]

/-- what fields leaves -/
def MFields (w : World) (b : Nat) (m : Mt) (s : List UInt8) (e : Nat) (en : Ending) (w' : World) : Prop :=
  ∃ fv sv, en = .returned (.agg #[.string (bs m.id), .int .i64 m.mn, .int .i64 m.mx, .int .i64 m.lv, .int .i64 m.sr, .int .i64 m.sm, fv, sv]) ∧ TkAt w' b s e ∧ TkFr b w w' ∧ FBuf w w' 59 3 fv m.fs.length (fcs m.fs) ∧ FBuf w w' 9 1 sv m.ss.length (scs m.ss)

end Go.Proofs.Ytemmgejaoegpfaa
