/-
  Layer 9: the walk of the taker of all fields.
-/
import Derived.Test.YtdmhjejjgcfplaaMetT
import Derived.Test.YtdmhjejjgcfplaaLib9
import Derived.Deep.RegionLaw
namespace Go.Proofs.Ytdmhjejjgcfplaa
open Go.RowKit Go.Bar Go.Bar.Leb Go.Bar.Frm Go.Bar.Idt Go.Bar.Met

theorem str_ty : ElemTy Try.prog 23 9 (.string ByteArray.empty) 1 16 :=
  ⟨Try.underlying23, info_parts (show (Try.prog.info? 9).map (fun i => (i.zero, i.size, i.bytes)) = some (some (.string ByteArray.empty), 1, 16) by kernel_rfl), rfl⟩
theorem file_ty : ElemTy Try.prog 22 45 (.agg #[.string ByteArray.empty, .int .i64 0, .int .u32 0]) 3 32 :=
  ⟨Try.underlying22, info_parts (show (Try.prog.info? 45).map (fun i => (i.zero, i.size, i.bytes)) = some (some (.agg #[.string ByteArray.empty, .int .i64 0, .int .u32 0]), 3, 32) by kernel_rfl), rfl⟩

theorem blk_ne {b M i j : Nat} (h : b ≠ M) : (⟨b, i, none⟩ : Addr) ≠ ⟨M, j, none⟩ := fun e => h (Addr.mk.inj e).1
theorem TkAt.set {w : World} {b : Nat} {s : List UInt8} {e : Nat} (h : TkAt w b s e) {M : Nat} (hM : b ≠ M) (i : Nat) (v : Value) : TkAt (w.setCell ⟨M, i, none⟩ v) b s e :=
  ⟨(World.cell?_setCell_other w _ _ v (by first | exact blk_ne hM | exact (blk_ne hM).symm)).trans h.c0, (World.cell?_setCell_other w _ _ v (by first | exact blk_ne hM | exact (blk_ne hM).symm)).trans h.c1, by rw [World.frozen?_setCell]; exact h.f0, by rw [World.frozen?_setCell]; exact h.f1⟩
theorem TkAt.belowB {w w' : World} {b : Nat} {s : List UInt8} {e : Nat} (h : TkAt w b s e) {B : Nat} (hb : Below B w w') (hlt : b < B) : TkAt w' b s e :=
  ⟨(hb.cell (p := ⟨b, 0, none⟩) hlt).trans h.c0, (hb.cell (p := ⟨b, 1, none⟩) hlt).trans h.c1, (hb.frozen (p := ⟨b, 0, none⟩) hlt).trans h.f0, (hb.frozen (p := ⟨b, 1, none⟩) hlt).trans h.f1⟩

/-- how the world stands in the midst of fields: the taker, the result's cell, the meta's box -/
structure TS (w wr : World) (b : Nat) (s : List UInt8) (e : Nat) (cur : Array Value) : Prop where
  tk : TkAt wr b s e
  fr : TkFr b w wr
  res : Blk wr w.heap.size 25 #[.string ByteArray.empty, .int .i64 0, .int .i64 0, .int .i64 0, .int .i64 0, .int .i64 0, .slice none 0 0, .slice none 0 0]
  blk : Blk wr (w.heap.size + 1) 25 cur
  blt : b < w.heap.size
section
variable {w wr w2 : World} {b : Nat} {s s' : List UInt8} {e e' : Nat} {cur : Array Value}
theorem TS.step (h : TS w wr b s e cur) (hk : TkAt w2 b s' e') (hf : TkFr b wr w2) : TS w w2 b s' e' cur :=
  ⟨hk, Fr.trans h.fr hf, h.res.fr hf (fun i hi => absurd hi (by have := h.blt; omega)), h.blk.fr hf (fun i hi => absurd hi (by have := h.blt; omega)), h.blt⟩
theorem TS.below (h : TS w wr b s e cur) (hb : Below wr.heap.size wr w2) : TS w w2 b s e cur :=
  ⟨h.tk.below hb, Fr.then_below h.fr hb, h.res.below hb, h.blk.below hb, h.blt⟩
theorem TS.alloc (h : TS w wr b s e cur) (o : Obj) : TS w (wr.alloc o) b s e cur := h.below ((Below.refl _ _).alloc (Nat.le_refl _) o)
theorem TS.drew (h : TS w wr b s e cur) : TS w wr.drew b s e cur := h.below (Below.refl _ _).drew
theorem TS.set (h : TS w wr b s e cur) (i : Nat) (v : Value) : TS w (wr.setCell ⟨w.heap.size + 1, i, none⟩ v) b s e (cur.setIfInBounds i v) :=
  ⟨h.tk.set (by have := h.blt; omega) i v, Fr.setCell h.fr (fun hk => by omega) v, h.res.other (by omega) i v, h.blk.set i v, h.blt⟩
/-- a store to another block that has been made since -/
theorem TS.setF (h : TS w wr b s e cur) {F : Nat} (hF : w.heap.size + 2 ≤ F) (i : Nat) (v : Value) : TS w (wr.setCell ⟨F, i, none⟩ v) b s e cur :=
  ⟨h.tk.set (by have := h.blt; omega) i v, Fr.setCell h.fr (fun hk => by omega) v, h.res.other (by omega) i v, h.blk.other (by omega) i v, h.blt⟩
theorem TS.ap {ee : TypeId} {sz n : Nat} {v : Value} {xs : List Value} (h : TS w wr b s e cur) (hb : FBuf w wr ee sz v n xs) (ha : Ap wr w2 sz v) (hne : ee ≠ 25) : TS w w2 b s e cur := by
  have hB := hb.belowB h.fr.size ha
  exact ⟨h.tk.belowB hB h.blt, h.fr.then_belowB hB ha.size, h.res.ap hb.buf ha hne, h.blk.ap hb.buf ha hne, h.blt⟩
theorem TS.keepF (_h : TS w wr b s e cur) {T : TypeId} {F : Nat} {c : Array Value} (hF : Blk wr F T c) (hf : TkFr b wr w2) (hne : b ≠ F) : Blk w2 F T c := hF.fr hf (fun i hi => hne hi.symm)
theorem TS.keepB (h : TS w wr b s e cur) {ee : TypeId} {sz n : Nat} {v : Value} {xs : List Value} (hb : FBuf w wr ee sz v n xs) (hf : TkFr b wr w2) : FBuf w w2 ee sz v n xs := hb.fr hf (fun _ _ hk hi => by have := h.blt; omega)
end

/-- how the world stands at the end of fields -/
structure TE (w wr : World) (b : Nat) (s : List UInt8) (e : Nat) (fv sv : Value) (fs : List Fl) (ss : List (List UInt8)) : Prop where
  tk : TkAt wr b s e
  fr : TkFr b w wr
  res : ∃ c, Blk wr w.heap.size 25 c
  blt : b < w.heap.size
  fb : FBuf w wr 45 3 fv fs.length (fcs fs)
  sb : FBuf w wr 9 1 sv ss.length (scs ss)
theorem TE.set {w wr : World} {b : Nat} {s : List UInt8} {e : Nat} {fv sv : Value} {fs : List Fl} {ss : List (List UInt8)} (h : TE w wr b s e fv sv fs ss) (i : Nat) (v : Value) : TE w (wr.setCell ⟨w.heap.size, i, none⟩ v) b s e fv sv fs ss := by
  obtain ⟨c, hc⟩ := h.res
  exact ⟨h.tk.set (by have := h.blt; omega) i v, Fr.setCell h.fr (fun hk => by omega) v, ⟨_, hc.set i v⟩, h.blt, h.fb.set_ne hc (by decide) i v, h.sb.set_ne hc (by decide) i v⟩

theorem fcs_snoc (fs : List Fl) (f : Fl) : fcs (fs ++ [f]) = fcs fs ++ [.string (bs f.name), .int .i64 f.size, .int .u32 f.sum] := by simp [fcs]
theorem scs_snoc (ss : List (List UInt8)) (s : List UInt8) : scs (ss ++ [s]) = scs ss ++ [.string (bs s)] := by simp [scs]

/-- what fields leaves -/
def MFields (w : World) (b : Nat) (m : Mt) (s : List UInt8) (e : Nat) (en : Ending) (w' : World) : Prop :=
  ∃ fv sv, en = .returned (.agg #[.string (bs m.id), .int .i64 m.mn, .int .i64 m.mx, .int .i64 m.lv, .int .i64 m.sr, .int .i64 m.sm, fv, sv]) ∧ TkAt w' b s e ∧ TkFr b w w' ∧ FBuf w w' 45 3 fv m.fs.length (fcs m.fs) ∧ FBuf w w' 9 1 sv m.ss.length (scs m.ss)

set_option maxHeartbeats 8000000 in
set_option maxRecDepth 10000 in
theorem tfields_of {l r : List UInt8} {m : Mt} {e0 e' : Nat} (ht : tFields l e0 = (m, r, e')) (b : Nat) (w : World) (h : TkAt w b l e0) (hs : l.length ≤ 1000000000000) :
    Calls Try.prog 43 #[.pointer (some ⟨b, 0, none⟩)] w (MFields w b m r e') := by
  unfold tFields at ht
  obtain ⟨id, s1, e1, h1⟩ : ∃ a b c, tText 16 l e0 = (a, b, c) := ⟨_, _, _, rfl⟩
  rw [h1] at ht
  simp only at ht
  obtain ⟨mn, s2, e2, h2⟩ : ∃ a b c, tNum 1099511627776 s1 e1 = (a, b, c) := ⟨_, _, _, rfl⟩
  rw [h2] at ht
  simp only at ht
  obtain ⟨mx, s3, e3, h3⟩ : ∃ a b c, tNum 1099511627776 s2 e2 = (a, b, c) := ⟨_, _, _, rfl⟩
  rw [h3] at ht
  simp only at ht
  obtain ⟨lv, s4, e4, h4⟩ : ∃ a b c, tNum 9 s3 e3 = (a, b, c) := ⟨_, _, _, rfl⟩
  rw [h4] at ht
  simp only at ht
  obtain ⟨sr, s5, e5, h5⟩ : ∃ a b c, tNum 1073741824 s4 e4 = (a, b, c) := ⟨_, _, _, rfl⟩
  rw [h5] at ht
  simp only at ht
  obtain ⟨sm, s6, e6, h6⟩ : ∃ a b c, tNum 1073741824 s5 e5 = (a, b, c) := ⟨_, _, _, rfl⟩
  rw [h6] at ht
  simp only at ht
  obtain ⟨f1, s7, e7, g1⟩ : ∃ a b c, tFile s6 e6 = (a, b, c) := ⟨_, _, _, rfl⟩
  rw [g1] at ht
  simp only at ht
  obtain ⟨f2, s8, e8, g2⟩ : ∃ a b c, tFile s7 e7 = (a, b, c) := ⟨_, _, _, rfl⟩
  rw [g2] at ht
  simp only at ht
  have h7 : tFls 2 s6 e6 = ([f1, f2], s8, e8) := by simp only [tFls, g1, g2]
  clear g1 g2
  obtain ⟨n, s9, e9, h9⟩ : ∃ a b c, tNum 50 s8 e8 = (a, b, c) := ⟨_, _, _, rfl⟩
  rw [h9] at ht
  simp only at ht
  have hn50 := tNum_le 50 s8 e8 (by omega)
  rw [show ((50 : Nat) : Int) = 50 from rfl, h9] at hn50
  simp only at hn50
  obtain ⟨ss, s10, e10, h10⟩ : ∃ a b c, tSrc n s9 e9 = (a, b, c) := ⟨_, _, _, rfl⟩
  rw [h10] at ht
  simp only [Prod.mk.injEq] at ht
  obtain ⟨rfl, rfl, rfl⟩ := ht
  have l1 := (tText_len h1 (by omega)).2
  have l2 := tNum_len h2 (by omega)
  have l3 := tNum_len h3 (by omega)
  have l4 := tNum_len h4 (by omega)
  have l5 := tNum_len h5 (by omega)
  have l6 := tNum_len h6 (by omega)
  have l9 := tNum_len h9 (by omega)
  have T1 := Lib.hid (ttext_of h1)
  have T2 := Lib.hid (tnum_of h2)
  have T3 := Lib.hid (tnum_of h3)
  have T4 := Lib.hid (tnum_of h4)
  have T5 := Lib.hid (tnum_of h5)
  have T6 := Lib.hid (tnum_of h6)
  have T9 := Lib.hid (tnum_of h9)
  have H7 := Lib.hid h7
  have H10 := Lib.hid h10
  clear h1 h2 h3 h4 h5 h6 h7 h9 h10
  have hblt : b < w.heap.size := World.block_lt_of_cell? _ _ h.c0
  have S0 : TS w ((w.alloc (.cells #[.string { data := #[] }, .int .i64 0, .int .i64 0, .int .i64 0, .int .i64 0, .int .i64 0, .slice none 0 0, .slice none 0 0] 25)).alloc (.cells #[.string { data := #[] }, .int .i64 0, .int .i64 0, .int .i64 0, .int .i64 0, .int .i64 0, .slice none 0 0, .slice none 0 0] 25)) b l e0 #[.string { data := #[] }, .int .i64 0, .int .i64 0, .int .i64 0, .int .i64 0, .int .i64 0, .slice none 0 0, .slice none 0 0] :=
    ⟨(h.below ((Below.refl _ _).alloc (Nat.le_refl _) _)).below ((Below.refl _ _).alloc (Nat.le_refl _) _), Fr.of_below (below_trans ((Below.refl _ _).alloc (Nat.le_refl _) _) ((Below.refl _ _).alloc (Nat.le_refl _) _)), (Blk.new w _ _).alloc _, by
      have := Blk.new (w.alloc (.cells #[.string { data := #[] }, .int .i64 0, .int .i64 0, .int .i64 0, .int .i64 0, .int .i64 0, .slice none 0 0, .slice none 0 0] 25)) #[.string { data := #[] }, .int .i64 0, .int .i64 0, .int .i64 0, .int .i64 0, .int .i64 0, .slice none 0 0, .slice none 0 0] 25
      rwa [show (w.alloc (.cells #[.string { data := #[] }, .int .i64 0, .int .i64 0, .int .i64 0, .int .i64 0, .int .i64 0, .slice none 0 0, .slice none 0 0] 25)).heap.size = w.heap.size + 1 by simp] at this, hblt⟩
  clear h
  go_enter Try.func43, Try.ntmps43
  go_wp2_with fail
  refine (T1.out _ _ S0.tk (by omega) (by omega) (by omega)).mono ?_
  rintro e w1 ⟨rfl, k, fr⟩
  have S1 := S0.step k fr
  clear S0 k fr
  have c := S1.blk.cell (i := 0) rfl
  have f := S1.blk.free 0
  go_wp2_with fail
  clear c f
  have S1 := S1.set 0 (.string (bs id))
  refine (T2.out _ _ S1.tk (by omega) (by omega) (by omega)).mono ?_
  rintro e w2 ⟨rfl, k, fr⟩
  have S2 := S1.step k fr
  clear S1 k fr
  have c := S2.blk.cell (i := 1) rfl
  have f := S2.blk.free 1
  go_wp2_with fail
  clear c f
  have S2 := S2.set 1 (.int .i64 mn)
  refine (T3.out _ _ S2.tk (by omega) (by omega) (by omega)).mono ?_
  rintro e w3 ⟨rfl, k, fr⟩
  have S3 := S2.step k fr
  clear S2 k fr
  have c := S3.blk.cell (i := 2) rfl
  have f := S3.blk.free 2
  go_wp2_with fail
  clear c f
  have S3 := S3.set 2 (.int .i64 mx)
  refine (T4.out _ _ S3.tk (by omega) (by omega) (by omega)).mono ?_
  rintro e w4 ⟨rfl, k, fr⟩
  have S4 := S3.step k fr
  clear S3 k fr
  have c := S4.blk.cell (i := 3) rfl
  have f := S4.blk.free 3
  go_wp2_with fail
  clear c f
  have S4 := S4.set 3 (.int .i64 lv)
  refine (T5.out _ _ S4.tk (by omega) (by omega) (by omega)).mono ?_
  rintro e w5 ⟨rfl, k, fr⟩
  have S5 := S4.step k fr
  clear S4 k fr
  have c := S5.blk.cell (i := 4) rfl
  have f := S5.blk.free 4
  go_wp2_with fail
  clear c f
  have S5 := S5.set 4 (.int .i64 sr)
  refine (T6.out _ _ S5.tk (by omega) (by omega) (by omega)).mono ?_
  rintro e w6 ⟨rfl, k, fr⟩
  have S6 := S5.step k fr
  clear S5 k fr
  have c := S6.blk.cell (i := 5) rfl
  have f := S6.blk.free 5
  go_wp2_with fail
  clear c f
  have S6 := S6.set 5 (.int .i64 sm)
  go_loopw [24] (fun i wr => ∃ (k : Nat) (fs : List Fl) (s : List UInt8) (e : Nat) (fv : Value), k ≤ 2 ∧ i = .int .i64 k ∧ fs.length ≤ 2 ∧ s.length ≤ l.length ∧ TS w wr b s e #[.string (bs id), .int .i64 mn, .int .i64 mx, .int .i64 lv, .int .i64 sr, .int .i64 sm, fv, .slice none 0 0] ∧ FBuf w wr 45 3 fv fs.length (fcs fs) ∧ Hid (fs.length = k ∧ fs ++ (tFls (2 - k) s e).1 = [f1, f2] ∧ (tFls (2 - k) s e).2 = (s8, e8))) (fun i _ => 2 - (intOf i).toNat)
  case atStart => exact ⟨0, [], s6, e6, _, by omega, rfl, by simp, by omega, S6, FBuf.nil _ _ _ _, Lib.hid ⟨rfl, by rw [H7.out]; rfl, by rw [H7.out]⟩⟩
  case round =>
    obtain ⟨k, fs, s, e, fv, hk, rfl, hfl, hsl, S, hfb, HR⟩ := hrel
    clear S6
    have hshape := hfb.buf.shape
    obtain ⟨fA, fc, rfl, hfc⟩ := hshape
    by_cases hgo : k < 2
    · obtain ⟨nm, sA, eA, t1⟩ : ∃ a b c, tText 40 s e = (a, b, c) := ⟨_, _, _, rfl⟩
      obtain ⟨sz, sB, eB, t2⟩ : ∃ a b c, tNum 1048576 sA eA = (a, b, c) := ⟨_, _, _, rfl⟩
      obtain ⟨su, sC, eC, t3⟩ : ∃ a b c, tNum 4294967295 sB eB = (a, b, c) := ⟨_, _, _, rfl⟩
      have hR : (fs ++ [(⟨nm, sz, su⟩ : Fl)]).length = k + 1 ∧ (fs ++ [(⟨nm, sz, su⟩ : Fl)]) ++ (tFls (2 - (k + 1)) sC eC).1 = [f1, f2] ∧ (tFls (2 - (k + 1)) sC eC).2 = (s8, e8) := by
        obtain ⟨g1, g2, g3⟩ := HR.out
        rw [show 2 - k = (2 - (k + 1)) + 1 by omega] at g2 g3
        have hf : tFile s e = (⟨nm, sz, su⟩, sC, eC) := by simp only [tFile, t1, t2, t3]
        simp only [tFls, hf] at g2 g3
        exact ⟨by rw [List.length_append, g1]; rfl, by rw [List.append_assoc]; exact g2, g3⟩
      have hsu := tNum_le 4294967295 sB eB (by omega)
      rw [show ((4294967295 : Nat) : Int) = 4294967295 from rfl, t3] at hsu
      simp only at hsu
      have HR2 := Lib.hid hR
      have m1 := (tText_len t1 (by omega)).2
      have m2 := tNum_len t2 (by omega)
      have m3 := tNum_len t3 (by omega)
      have U1 := Lib.hid (ttext_of t1)
      have U2 := Lib.hid (tnum_of t2)
      have U3 := Lib.hid (tnum_of t3)
      clear t1 t2 t3 hR HR
      have hM := S.blk.lt
      have hFb : b ≠ wr.heap.size := by omega
      have hFge : w.heap.size + 2 ≤ wr.heap.size := by omega
      go_wp2_with fail
      refine (U1.out _ _ (S.alloc _).tk (by omega) (by omega) (by omega)).mono ?_
      rintro e w1 ⟨rfl, k1, fr1⟩
      have F1 := (Blk.new wr #[.string { data := #[] }, .int .i64 0, .int .u32 0] 45).fr fr1 (fun i hi => hFb hi.symm)
      have G := Fr.trans ((Fr.refl (fun k _ => k = b) wr).alloc _) fr1
      have S1 := (S.alloc _).step k1 fr1
      clear S k1 fr1
      have c := F1.cell (i := 0) rfl
      have f := F1.free 0
      go_wp2_with fail
      clear c f
      have G := G.setCell (k := wr.heap.size) (i := 0) (fun hk => absurd hk (Nat.lt_irrefl _)) (.string (bs nm))
      have S1 := S1.setF hFge 0 (.string (bs nm))
      have F1 := F1.set 0 (.string (bs nm))
      refine (U2.out _ _ S1.tk (by omega) (by omega) (by omega)).mono ?_
      rintro e w2 ⟨rfl, k2, fr2⟩
      have F2 := S1.keepF F1 fr2 hFb
      have G := Fr.trans G fr2
      have S2 := S1.step k2 fr2
      clear S1 k2 fr2 F1
      have c := F2.cell (i := 1) rfl
      have f := F2.free 1
      go_wp2_with fail
      clear c f
      have G := G.setCell (k := wr.heap.size) (i := 1) (fun hk => absurd hk (Nat.lt_irrefl _)) (.int .i64 sz)
      have S2 := S2.setF hFge 1 (.int .i64 sz)
      have F2 := F2.set 1 (.int .i64 sz)
      refine (U3.out _ _ S2.tk (by omega) (by omega) (by omega)).mono ?_
      rintro e w3 ⟨rfl, k3, fr3⟩
      have F3 := S2.keepF F2 fr3 hFb
      have G := Fr.trans G fr3
      have S3 := S2.step k3 fr3
      clear S2 k3 fr3 F2
      have hcv : IntKind.u32.wrap (su : Int) = su := by rw [IntKind.wrap_u32]; omega
      have G := G.setCell (k := wr.heap.size) (i := 2) (fun hk => absurd hk (Nat.lt_irrefl _)) (.int .u32 su)
      have S4 := S3.setF hFge 2 (.int .u32 su)
      have F4 := F3.set 2 (.int .u32 su)
      have hfb4 := hfb.fr G (fun k i hk hi => by omega)
      clear hfb G
      have c0 : w3.cell? ⟨wr.heap.size, 0, none⟩ = some (.string (bs nm)) := F3.cell (i := 0) rfl
      have c1 : w3.cell? ⟨wr.heap.size, 1, none⟩ = some (.int .i64 sz) := F3.cell (i := 1) rfl
      have c2 : w3.cell? ⟨wr.heap.size, 2, none⟩ = some (.int .u32 0) := F3.cell (i := 2) rfl
      have f := F3.free 2
      have d : w3.cell? ⟨w.heap.size + 1, 6, none⟩ = some (.slice fA fs.length fc) := S3.blk.cell (i := 6) rfl
      have df := S3.blk.free 6
      have hFne : w.heap.size + 1 ≠ wr.heap.size := by omega
      go_wp2_with (at_builtin; refine wpList_append_flit rfl (.tmp 37) (.tmp 39) 22 rfl file_ty rfl hfb4.buf rfl (by simp) rfl (by simp [Value.oneCell']) (by simp only [maxLen]; omega) (by omega) ?_; intro v3 w4 hb4 ha4 hg4; obtain ⟨gA, gc, rfl, hgc⟩ := hb4.shape; have S5 := (S4.alloc _).ap (hfb4.alloc _) ha4 (by decide); have hfb5 := (hfb4.alloc _).step (Nat.le_trans S4.fr.size (Nat.le_trans (Nat.le_succ _) (Nat.le_of_eq (by simp)))) hb4 hg4; clear S3 F3 F4 S4 hfb4 hb4 ha4 hg4 d df c0 c1 c2 f; have d : w4.cell? ⟨w.heap.size + 1, 6, none⟩ = some (.slice fA fs.length fc) := S5.blk.cell (i := 6) rfl; have df := S5.blk.free 6)
      have hfb6 := hfb5.set_ne S5.blk (by decide) 6 (.slice gA (fs.length + 1) gc)
      have S6 := S5.set 6 (.slice gA (fs.length + 1) gc)
      clear d df S5 hfb5
      go_roundw
      case rel => exact ⟨k + 1, fs ++ [(⟨nm, sz, su⟩ : Fl)], sC, eC, _, by omega, by go_num, by rw [HR2.out.1]; omega, by omega, S6, by rw [fcs_snoc, List.length_append]; exact hfb6, HR2⟩
      case measure => simp [intOf]; omega
    · obtain rfl : k = 2 := by omega
      obtain ⟨g1, g2, g3⟩ := HR.out
      simp only [Nat.sub_self, tFls, List.append_nil] at g2 g3
      obtain ⟨rfl, rfl⟩ : s8 = s ∧ e8 = e := by simp only [Prod.mk.injEq] at g3; exact ⟨g3.1.symm, g3.2.symm⟩
      subst g2
      clear g1 g3 HR hk hgo hfl
      obtain ⟨wo, rfl⟩ : ∃ wo : World, wo = wr := ⟨_, rfl⟩
      go_wp2_with fail
      refine (T9.out _ _ S.tk (by omega) (by omega) (by omega)).mono ?_
      rintro e w1 ⟨rfl, k1, fr1⟩
      have hfb := S.keepB hfb fr1
      have S1 := S.step k1 fr1
      clear S k1 fr1
      go_wp2_with fail
      go_loopw [5] (fun j wr => ∃ (q : Nat) (tt : List (List UInt8)) (s : List UInt8) (e : Nat) (sv : Value), j = .int .i64 q ∧ tt.length + q ≤ 50 ∧ s.length ≤ l.length ∧ TS w wr b s e #[.string (bs id), .int .i64 mn, .int .i64 mx, .int .i64 lv, .int .i64 sr, .int .i64 sm, .slice fA [f1, f2].length fc, sv] ∧ FBuf w wr 45 3 (.slice fA [f1, f2].length fc) [f1, f2].length (fcs [f1, f2]) ∧ FBuf w wr 9 1 sv tt.length (scs tt) ∧ Hid (tt ++ (tSrc q s e).1 = ss ∧ (tSrc q s e).2 = (s10, e10))) (fun j _ => (intOf j).toNat)
      case atStart => exact ⟨n, [], s9, e9, _, rfl, by simpa using hn50, by omega, S1, hfb, FBuf.nil _ _ _ _, Lib.hid ⟨by rw [H10.out]; rfl, by rw [H10.out]⟩⟩
      case round =>
        obtain ⟨q, tt, s, e, sv, rfl, htq, hsl, S, hfb, hsb, HR⟩ := hrel
        clear S1
        have hshape := hsb.buf.shape
        obtain ⟨sA, sc, rfl, hsc⟩ := hshape
        have tc1 := S.tk.c1
        by_cases hgo : 0 < q ∧ e = 0
        · obtain ⟨hq, rfl⟩ := hgo
          obtain ⟨x, sN, eN, t1⟩ : ∃ a b c, tText 16 s 0 = (a, b, c) := ⟨_, _, _, rfl⟩
          have m1 := (tText_len t1 (by omega)).2
          have hR : (tt ++ [x]) ++ (tSrc (q - 1) sN eN).1 = ss ∧ (tSrc (q - 1) sN eN).2 = (s10, e10) := by
            obtain ⟨g1, g2⟩ := HR.out
            rw [show q = (q - 1) + 1 by omega, tSrc, if_neg (by simp), t1] at g1 g2
            exact ⟨by rw [List.append_assoc]; exact g1, g2⟩
          have HR2 := Lib.hid hR
          have U1 := Lib.hid (ttext_of t1)
          have HS := Lib.hid S
          have HB := Lib.hid hsb
          have HF := Lib.hid hfb
          have d : wr.cell? ⟨w.heap.size + 1, 7, none⟩ = some (.slice sA tt.length sc) := S.blk.cell (i := 7) rfl
          have df := S.blk.free 7
          clear t1 hR HR S hsb hfb
          go_wp2_with fail
          go_region_law (first
            | (((rw [if_pos (by rfl)]); go_simp; go_at_call 39; refine (U1.out _ _ HS.out.drew.tk (by omega) (by omega) (by omega)).mono ?_; rintro e w1 ⟨rfl, k1, fr1⟩; have S1 := HS.out.drew.step k1 fr1; have hsb1 := HS.out.drew.keepB HB.out.drew fr1; have hfb1 := HS.out.drew.keepB HF.out.drew fr1; clear k1 fr1; have d1 : w1.cell? ⟨w.heap.size + 1, 7, none⟩ = some (.slice sA tt.length sc) := S1.blk.cell (i := 7) rfl; have d1a : ∀ o, (w1.alloc o).cell? ⟨w.heap.size + 1, 7, none⟩ = some (.slice sA tt.length sc) := fun o => (S1.alloc o).blk.cell (i := 7) rfl; dsimp only))
            | ((refine step_append_buf rfl (.tmp 57) (.tmp 60) 23 rfl str_ty rfl (hsb1.alloc _).buf rfl ((Buf.lit w1 9 1 1 [.string (bs x)] rfl (by decide)).src str_ty.slice (by simp [Value.oneCell'])) (by simp only [maxLen]; omega) (by omega) ?_; intro v2 w2 hb2 ha2 hg2; obtain ⟨gA, gc, rfl, hgc⟩ := hb2.shape; have S2 := (S1.alloc _).ap (hsb1.alloc _) ha2 (by decide); have hfb2 := (hfb1.alloc _).keep (hsb1.alloc _).buf ha2 (by decide); have hsb2 := (hsb1.alloc _).step (Nat.le_trans S1.fr.size (Nat.le_trans (Nat.le_succ _) (Nat.le_of_eq (by simp)))) hb2 hg2; clear hb2 ha2 hg2; have d2 : w2.cell? ⟨w.heap.size + 1, 7, none⟩ = some (.slice sA tt.length sc) := S2.blk.cell (i := 7) rfl; have df2 := S2.blk.free 7)))
          all_goals
            go_wp2_with fail
            have hfb3 := hfb2.set_ne S2.blk (by decide) 7 (.slice gA (tt.length + 1) gc)
            have hsb3 := hsb2.set_ne S2.blk (by decide) 7 (.slice gA (tt.length + 1) gc)
            have S3 := S2.set 7 (.slice gA (tt.length + 1) gc)
            clear d2 df2 d1 d1a S1 hsb1 hfb1 S2 hfb2 hsb2 HS HB HF
            go_roundw
            case rel => exact ⟨q - 1, tt ++ [x], sN, eN, _, by go_num, by rw [List.length_append]; simp only [List.length_cons, List.length_nil]; omega, by omega, S3, hfb3, by rw [scs_snoc, List.length_append]; exact hsb3, HR2⟩
            case measure => simp [intOf]; omega
        · have hres : tSrc q s e = ([], s, e) := by
            rcases Nat.eq_zero_or_pos q with h0 | h0
            · subst h0; rfl
            · exact tSrc_err q s e (fun he => hgo ⟨h0, he⟩)
          obtain ⟨g1, g2⟩ := HR.out
          rw [hres] at g1 g2
          simp only [List.append_nil] at g1
          obtain ⟨rfl, rfl⟩ : s10 = s ∧ e10 = e := by simp only [Prod.mk.injEq] at g2; exact ⟨g2.1.symm, g2.2.symm⟩
          subst g1
          clear g2 hres HR
          have E0 : TE w wr b s10 e10 (.slice fA [f1, f2].length fc) (.slice sA tt.length sc) [f1, f2] tt := ⟨S.tk, S.fr, ⟨_, S.res⟩, S.blt, hfb, hsb⟩
          have HE := Lib.hid (TE.set (TE.set (TE.set (TE.set (TE.set (TE.set (TE.set (TE.set E0 0 (.string (bs id))) 1 (.int .i64 mn)) 2 (.int .i64 mx)) 3 (.int .i64 lv)) 4 (.int .i64 sr)) 5 (.int .i64 sm)) 6 (.slice fA [f1, f2].length fc)) 7 (.slice sA tt.length sc))
          have c0 : wr.cell? ⟨w.heap.size + 1, 0, none⟩ = some (.string (bs id)) := S.blk.cell (i := 0) rfl
          have c1 : wr.cell? ⟨w.heap.size + 1, 1, none⟩ = some (.int .i64 mn) := S.blk.cell (i := 1) rfl
          have c2 : wr.cell? ⟨w.heap.size + 1, 2, none⟩ = some (.int .i64 mx) := S.blk.cell (i := 2) rfl
          have c3 : wr.cell? ⟨w.heap.size + 1, 3, none⟩ = some (.int .i64 lv) := S.blk.cell (i := 3) rfl
          have c4 : wr.cell? ⟨w.heap.size + 1, 4, none⟩ = some (.int .i64 sr) := S.blk.cell (i := 4) rfl
          have c5 : wr.cell? ⟨w.heap.size + 1, 5, none⟩ = some (.int .i64 sm) := S.blk.cell (i := 5) rfl
          have c6 : wr.cell? ⟨w.heap.size + 1, 6, none⟩ = some (.slice fA [f1, f2].length fc) := S.blk.cell (i := 6) rfl
          have c7 : wr.cell? ⟨w.heap.size + 1, 7, none⟩ = some (.slice sA tt.length sc) := S.blk.cell (i := 7) rfl
          have r0 : wr.cell? ⟨w.heap.size, 0, none⟩ = some (.string { data := #[] }) := S.res.cell (i := 0) rfl
          have q0 := S.res.free 0
          have r1 : wr.cell? ⟨w.heap.size, 1, none⟩ = some (.int .i64 0) := S.res.cell (i := 1) rfl
          have q1 := S.res.free 1
          have r2 : wr.cell? ⟨w.heap.size, 2, none⟩ = some (.int .i64 0) := S.res.cell (i := 2) rfl
          have q2 := S.res.free 2
          have r3 : wr.cell? ⟨w.heap.size, 3, none⟩ = some (.int .i64 0) := S.res.cell (i := 3) rfl
          have q3 := S.res.free 3
          have r4 : wr.cell? ⟨w.heap.size, 4, none⟩ = some (.int .i64 0) := S.res.cell (i := 4) rfl
          have q4 := S.res.free 4
          have r5 : wr.cell? ⟨w.heap.size, 5, none⟩ = some (.int .i64 0) := S.res.cell (i := 5) rfl
          have q5 := S.res.free 5
          have r6 : wr.cell? ⟨w.heap.size, 6, none⟩ = some (.slice none 0 0) := S.res.cell (i := 6) rfl
          have q6 := S.res.free 6
          have r7 : wr.cell? ⟨w.heap.size, 7, none⟩ = some (.slice none 0 0) := S.res.cell (i := 7) rfl
          have q7 := S.res.free 7
          clear E0
          have hend : q = 0 ∨ (0 < q ∧ e10 ≠ 0) := by omega
          clear hgo
          rcases hend with rfl | ⟨h0, h1⟩
          · go_wp2_with fail
            refine bodyPost_ret (v := .agg #[.string (bs id), .int .i64 mn, .int .i64 mx, .int .i64 lv, .int .i64 sr, .int .i64 sm, .slice fA 2 fc, .slice sA tt.length sc]) (by simp [results, Try.results43, go_sem, r0, r1, r2, r3, r4, r5, r6, r7]) rfl ?_
            exact ⟨_, _, rfl, HE.out.tk, HE.out.fr, HE.out.fb, HE.out.sb⟩
          · have hb : ((e10 : Int) == 0) = false := by rw [beq_eq_false_iff_ne]; omega
            clear h1
            go_wp2_with fail
            refine bodyPost_ret (v := .agg #[.string (bs id), .int .i64 mn, .int .i64 mx, .int .i64 lv, .int .i64 sr, .int .i64 sm, .slice fA 2 fc, .slice sA tt.length sc]) (by simp [results, Try.results43, go_sem, r0, r1, r2, r3, r4, r5, r6, r7]) rfl ?_
            exact ⟨_, _, rfl, HE.out.tk, HE.out.fr, HE.out.fb, HE.out.sb⟩

end Go.Proofs.Ytdmhjejjgcfplaa
