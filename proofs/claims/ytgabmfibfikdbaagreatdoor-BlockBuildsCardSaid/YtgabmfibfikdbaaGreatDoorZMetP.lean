/-
  Layer 9: the walk of the law's Few.
-/
import Derived.Test.YtgabmfibfikdbaaGreatDoorZMetR
import Derived.Test.YtgabmfibfikdbaaGreatDoorZBokQ
import Derived.Test.YtgabmfibfikdbaaGreatDoorZXorQ
import Derived.Test.YtgabmfibfikdbaaGreatDoorZLib11
import Derived.Test.YtgabmfibfikdbaaGreatDoorZBokM

set_option maxHeartbeats 32000000
set_option maxRecDepth 10000
namespace Go.Proofs.YtgabmfibfikdbaaGreatDoor
open Go.RowKit Go.Bar Go.Bar.Leb Go.Bar.Frm Go.Bar.Idt Go.Bar.Met

def cutF (f : Fl) : Fl := ⟨f.name.take 20, f.size, f.sum⟩
def fewM (m : Mt) : Mt := ⟨m.id.take 20, m.mn, m.mx, m.lv, m.sr, m.sm, (m.fs.take 3).map cutF, (m.ss.take 60).map fun s => s.take 20⟩
def halfF (k : Nat) (fs : List Fl) : List Fl := (fs.take k).map cutF ++ fs.drop k
def halfS (k : Nat) (ss : List (List UInt8)) : List (List UInt8) := ((ss.take k).map fun s => s.take 20) ++ ss.drop k
theorem halfF_length (k : Nat) (fs : List Fl) : (halfF k fs).length = fs.length := by simp [halfF]; omega
theorem halfS_length (k : Nat) (ss : List (List UInt8)) : (halfS k ss).length = ss.length := by simp [halfS]; omega
theorem halfF_at {k : Nat} {fs : List Fl} {f : Fl} (h : fs[k]? = some f) : (halfF k fs)[k]? = some f /\ halfF (k + 1) fs = (halfF k fs).set k (cutF f) := by
  obtain ⟨hl, he⟩ := List.getElem?_eq_some_iff.1 h
  have h1 : ((fs.take k).map cutF).length = k := by simp; omega
  refine ⟨?_, ?_⟩
  · unfold halfF
    rw [List.getElem?_append_right (by omega), h1, Nat.sub_self, List.getElem?_drop, Nat.add_zero, h]
  · unfold halfF
    rw [List.set_append_right _ _ (by omega), h1, Nat.sub_self, List.take_add_one, h, List.drop_eq_getElem_cons hl, he]
    simp
theorem halfS_at {k : Nat} {ss : List (List UInt8)} {s : List UInt8} (h : ss[k]? = some s) : (halfS k ss)[k]? = some s /\ halfS (k + 1) ss = (halfS k ss).set k (s.take 20) := by
  obtain ⟨hl, he⟩ := List.getElem?_eq_some_iff.1 h
  have h1 : ((ss.take k).map fun s => s.take 20).length = k := by simp; omega
  refine ⟨?_, ?_⟩
  · unfold halfS
    rw [List.getElem?_append_right (by omega), h1, Nat.sub_self, List.getElem?_drop, Nat.add_zero, h]
  · unfold halfS
    rw [List.set_append_right _ _ (by omega), h1, Nat.sub_self, List.take_add_one, h, List.drop_eq_getElem_cons hl, he]
    simp
theorem fcs_set : ∀ (fs : List Fl) (k : Nat) (n : List UInt8) (f : Fl), fs[k]? = some f -> (fcs fs).set (k * 3) (.string (bs n)) = fcs (fs.set k ⟨n, f.size, f.sum⟩)
  | [], k, n, f, h => by simp at h
  | y :: l, 0, n, f, h => by simp at h; subst h; simp [fcs]
  | y :: l, k + 1, n, f, h => by
    have := fcs_set l k n f (by simpa using h)
    unfold fcs at this ⊢
    simp only [List.flatMap_cons, List.set_cons_succ, List.cons_append, List.nil_append]
    rw [show (k + 1) * 3 = k * 3 + 1 + 1 + 1 by omega]
    simp only [List.set_cons_succ, this]
theorem scs_set (ss : List (List UInt8)) (k : Nat) (n : List UInt8) : (scs ss).set k (.string (bs n)) = scs (ss.set k n) := by
  unfold scs; rw [List.map_set]
theorem fcs_one (fs : List Fl) : ∀ u ∈ fcs fs, u.oneCell' = true := by
  intro u hu
  simp only [fcs, List.mem_flatMap, List.mem_cons, List.not_mem_nil, or_false] at hu
  obtain ⟨f, _, rfl | rfl | rfl⟩ := hu <;> rfl
theorem scs_one (ss : List (List UInt8)) : ∀ u ∈ scs ss, u.oneCell' = true := by
  intro u hu
  simp only [scs, List.mem_map] at hu
  obtain ⟨f, _, rfl⟩ := hu; rfl
theorem strs_ty : ElemTy Tryz.prog 51 9 (.string ByteArray.empty) 1 16 :=
  ⟨Tryz.underlying51, info_parts (show (Tryz.prog.info? 9).map (fun i => (i.zero, i.size, i.bytes)) = some (some (.string ByteArray.empty), 1, 16) by kernel_rfl), rfl⟩

def RetFew (w : World) (m : Mt) (e : Ending) (w' : World) : Prop := ∃ fv sv, e = .returned (.agg #[.string (bs m.id), .int .i64 m.mn, .int .i64 m.mx, .int .i64 m.lv, .int .i64 m.sr, .int .i64 m.sm, fv, sv]) /\ FBuf w w' 86 3 fv m.fs.length (fcs m.fs) /\ FBuf w w' 9 1 sv m.ss.length (scs m.ss) /\ Below w.heap.size w w'

def MZ0 : Array Value := #[.string { data := #[] }, .int .i64 0, .int .i64 0, .int .i64 0, .int .i64 0, .int .i64 0, .slice none 0 0, .slice none 0 0]

theorem few9_any (m : Mt) (fv sv : Value) (w : World) (h : MetaAt w m fv sv) :
    Calls Tryz.prog 20 #[mtV m fv sv] w (RetFew w (fewM m)) := by
  obtain ⟨hf, hs, hid, hnm, hss, _, _, _, _, _⟩ := h
  unfold mtV
  obtain ⟨A, c, rfl, hlc, hcm⟩ := hf.shape
  obtain ⟨A2, c2, rfl, hlc2, hcm2⟩ := hs.shape
  have hc1 : ∀ w, Calls Tryz.prog 9 #[.string (bs m.id), .int .i64 20] w fun e w' => e = .returned (.string (bs (m.id.take 20))) /\ w = w' := fun w => cut_any (bs m.id) 20 w (by omega) (by omega) hid
  have HC1 := Lib.hid hc1
  have HNM := Lib.hid hnm
  have HSS := Lib.hid hss
  unfold maxLen at hcm hcm2
  clear hc1 hnm hss hid
  go_enter Tryz.func20, Tryz.ntmps20
  go_wp2_with fail
  refine (HC1.out _).mono ?_
  rintro e w' ⟨rfl, rfl⟩
  go_upto_region 2 with fail
  have B1 := below_trans (mbelow_alloc1 w (.cells #[.string (bs (m.id.take 20)), .int .i64 m.mn, .int .i64 m.mx, .int .i64 m.lv, .int .i64 m.sr, .int .i64 m.sm, .slice A m.fs.length c, .slice A2 m.ss.length c2] 53)) (mbelow_alloc1 _ (.cells #[.string { data := #[] }, .int .i64 0, .int .i64 0, .int .i64 0, .int .i64 0, .int .i64 0, .slice none 0 0, .slice none 0 0] 53))
  have M1 := (Blk.new w #[.string (bs (m.id.take 20)), .int .i64 m.mn, .int .i64 m.mx, .int .i64 m.lv, .int .i64 m.sr, .int .i64 m.sm, .slice A m.fs.length c, .slice A2 m.ss.length c2] 53).alloc (.cells #[.string { data := #[] }, .int .i64 0, .int .i64 0, .int .i64 0, .int .i64 0, .int .i64 0, .slice none 0 0, .slice none 0 0] 53)
  have Z1 := Blk.new (w.alloc (.cells #[.string (bs (m.id.take 20)), .int .i64 m.mn, .int .i64 m.mx, .int .i64 m.lv, .int .i64 m.sr, .int .i64 m.sm, .slice A m.fs.length c, .slice A2 m.ss.length c2] 53)) MZ0 53
  rw [show (w.alloc (.cells #[.string (bs (m.id.take 20)), .int .i64 m.mn, .int .i64 m.mx, .int .i64 m.lv, .int .i64 m.sr, .int .i64 m.sm, .slice A m.fs.length c, .slice A2 m.ss.length c2] 53)).heap.size = w.heap.size + 1 by simp] at Z1
  obtain ⟨w1, hw1⟩ : ∃ w1, w1 = (w.alloc (.cells #[.string (bs (m.id.take 20)), .int .i64 m.mn, .int .i64 m.mx, .int .i64 m.lv, .int .i64 m.sr, .int .i64 m.sm, .slice A m.fs.length c, .slice A2 m.ss.length c2] 53)).alloc (.cells #[.string { data := #[] }, .int .i64 0, .int .i64 0, .int .i64 0, .int .i64 0, .int .i64 0, .slice none 0 0, .slice none 0 0] 53) := ⟨_, rfl⟩
  have Z1 : Blk w1 (w.heap.size + 1) 53 MZ0 := by rw [hw1]; exact Z1
  rw [<- hw1] at M1 B1 ⊢
  clear hw1
  go_cut [0] (fun _ wx => ∃ gv, Below w.heap.size w wx /\ Blk wx w.heap.size 53 #[.string (bs (m.id.take 20)), .int .i64 m.mn, .int .i64 m.mx, .int .i64 m.lv, .int .i64 m.sr, .int .i64 m.sm, gv, .slice A2 m.ss.length c2] /\ Blk wx (w.heap.size + 1) 53 MZ0 /\ FBuf w wx 86 3 gv (m.fs.take 3).length (fcs (m.fs.take 3)))
  case first =>
    have c6 : w1.cell? ⟨w.heap.size, 6, none⟩ = some (.slice A m.fs.length c) := M1.cell (i := 6) rfl
    have hlit : Buf (w1.alloc (.cells #[] 86)) 86 3 (.slice (some ⟨w1.heap.size, 0, none⟩) 0 0) 0 [] := Buf.lit w1 86 3 0 [] (by simp) (Nat.zero_le _)
    have c6' : ∀ o, (w1.alloc o).cell? ⟨w.heap.size, 6, none⟩ = some (.slice A m.fs.length c) := fun o => (M1.alloc o).cell (i := 6) rfl
    have hfw := SlAt.below (hf.below B1) (mbelow_alloc1 w1 (.cells #[] 86))
    have M2 := M1.alloc (.cells #[] 86)
    have Z2 := Z1.alloc (.cells #[] 86)
    have B2 := below_trans B1 (mbelow_alloc1 w1 (.cells #[] 86))
    have hsz : w.heap.size <= (w1.alloc (.cells #[] 86)).heap.size := B2.size
    have hsz1 : w.heap.size <= w1.heap.size := B1.size
    obtain ⟨k, hk, hk3, hkm⟩ : ∃ k : Nat, k = (m.fs.take 3).length /\ k <= 3 /\ k <= m.fs.length := ⟨_, rfl, by rw [List.length_take]; omega, by rw [List.length_take]; omega⟩
    have hsrc := (SlAt.take hfw k c hkm (by omega) (by unfold maxLen; omega)).src (P := Tryz.prog) (by decide) file_ty.slice (fun u hu => fcs_one m.fs u (List.mem_of_mem_take hu))
    rw [fcs_take, show m.fs.take k = m.fs.take 3 by rw [hk, List.length_take]; rcases Nat.le_total 3 m.fs.length with h | h; rw [Nat.min_eq_left h]; rw [Nat.min_eq_right h, List.take_of_length_le (by omega), List.take_of_length_le (by omega)]] at hsrc
    have hcase : (m.fs.length <= 3 /\ k = m.fs.length /\ min (m.fs.length : Int) 3 = m.fs.length) \/ (3 < m.fs.length /\ k = 3 /\ min (m.fs.length : Int) 3 = 3) := by rw [List.length_take] at hk; omega
    have HK := Lib.hid hk
    obtain ⟨N, hN⟩ : ∃ N : Nat, N = m.fs.length := ⟨_, rfl⟩
    have FB : FBuf w (w1.alloc (.cells #[] 86)) 86 3 (.slice (some ⟨w1.heap.size, 0, none⟩) 0 0) 0 [] := ⟨hlit, by intro j hj; injection (show some w1.heap.size = some j from hj) with hj; omega⟩
    clear hfw hk M1 Z1 B1
    rcases hcase with ⟨h3, rfl, hmn⟩ | ⟨h3, rfl, hmn⟩
    all_goals
      go_wp2_with (at_builtin; refine wpList_append_el rfl (.tmp 9) (.tmp 16) 50 50 rfl file_ty rfl hlit rfl hsrc (by simp only [maxLen]; omega) (by omega) ?_; intro v2 w2 hb2 ha2 hg2; obtain ⟨gA, gc, rfl, hgc⟩ := hb2.shape; have M3 := M2.ap hlit ha2 (by decide); have Z3 := Z2.ap hlit ha2 (by decide); have F3 := FB.step hsz hb2 hg2; have B3 := B2.trans (FB.belowB hsz ha2); clear hsrc hb2 hg2 ha2; have c6 : w2.cell? ⟨w.heap.size, 6, none⟩ = some (.slice A m.fs.length c) := M3.cell (i := 6) rfl; have f6 := M3.free 6)
      go_meet
      rw [Nat.zero_add, List.nil_append] at F3
      exact ⟨_, B3.setCell (Nat.le_refl _) _, M3.set 6 _, Z3.other (by omega) 6 _, by rw [<- HK.out]; exact F3.set_ne M3 (by decide) 6 _⟩
  case rest =>
  obtain ⟨gv, B2, M2, Z2, F2⟩ := hcut
  have hfs3 : ∀ f ∈ m.fs.take 3, f.name.length <= maxLen := fun f hf => (HNM.out f (List.mem_of_mem_take hf)).1
  have hl3 : (m.fs.take 3).length <= 3 := List.length_take_le _ _
  obtain ⟨fs3, hfs⟩ : ∃ l, l = m.fs.take 3 := ⟨_, rfl⟩
  rw [<- hfs] at F2 hfs3 hl3
  have HFS := Lib.hid hfs
  have HF3 := Lib.hid hfs3
  clear hfs hfs3 HNM
  obtain ⟨gA, gc, rfl, hgc⟩ := F2.buf.shape
  have c6 : wc.cell? ⟨w.heap.size, 6, none⟩ = some (.slice gA fs3.length gc) := M2.cell (i := 6) rfl
  go_wp2_with fail
  clear c6
  go_loopw [22] (fun i wr => ∃ k : Nat, i = .int .i64 k /\ k <= fs3.length /\ Below w.heap.size w wr /\ Blk wr w.heap.size 53 #[.string (bs (m.id.take 20)), .int .i64 m.mn, .int .i64 m.mx, .int .i64 m.lv, .int .i64 m.sr, .int .i64 m.sm, .slice gA fs3.length gc, .slice A2 m.ss.length c2] /\ Blk wr (w.heap.size + 1) 53 MZ0 /\ FBuf w wr 86 3 (.slice gA fs3.length gc) fs3.length (fcs (halfF k fs3))) (fun i _ => fs3.length - (intOf i).toNat)
  case atStart => exact ⟨0, rfl, Nat.zero_le _, B2, M2, Z2, F2⟩
  case round =>
    obtain ⟨k, rfl, hk, hB, hM, hZ, hF⟩ := hrel
    clear B2 M2 Z2 F2
    by_cases hgo : k < fs3.length
    · obtain ⟨f, hfk⟩ : ∃ f, fs3[k]? = some f := ⟨_, List.getElem?_eq_getElem hgo⟩
      obtain ⟨hf1, hf2⟩ := halfF_at hfk
      obtain ⟨b, o, rfl, hbb⟩ := hF.buf.some_at (by omega)
      obtain ⟨g0, gf⟩ := hF.buf.cellN (j := k * 3) (by omega)
      rw [(fcs_at _ _ _ hf1).1] at g0
      have hbM : b ≠ w.heap.size := fun h => hF.buf.ne_block hM (by decide) (by omega) (by rw [h]; rfl)
      have hbZ : b ≠ w.heap.size + 1 := fun h => hF.buf.ne_block hZ (by decide) (by omega) (by rw [h]; rfl)
      have hst := hF.buf.storeN (j := k * 3) (by omega) (.string (bs (f.name.take 20)))
      rw [fcs_set _ _ _ _ hf1, <- show cutF f = ⟨f.name.take 20, f.size, f.sum⟩ from rfl, <- hf2] at hst
      have hfn := HF3.out f (List.mem_of_getElem? hfk)
      have hnext : Hid (Below w.heap.size w (wr.setCell ⟨b, o + k * 3, none⟩ (.string (bs (f.name.take 20)))).drew /\ Blk (wr.setCell ⟨b, o + k * 3, none⟩ (.string (bs (f.name.take 20)))).drew w.heap.size 53 #[.string (bs (m.id.take 20)), .int .i64 m.mn, .int .i64 m.mx, .int .i64 m.lv, .int .i64 m.sr, .int .i64 m.sm, .slice (some ⟨b, o, none⟩) fs3.length gc, .slice A2 m.ss.length c2] /\ Blk (wr.setCell ⟨b, o + k * 3, none⟩ (.string (bs (f.name.take 20)))).drew (w.heap.size + 1) 53 MZ0 /\ FBuf w (wr.setCell ⟨b, o + k * 3, none⟩ (.string (bs (f.name.take 20)))).drew 86 3 (.slice (some ⟨b, o, none⟩) fs3.length gc) fs3.length (fcs (halfF (k + 1) fs3))) :=
        Lib.hid ⟨(hB.setCell (p := ⟨b, o + k * 3, none⟩) (hF.new b rfl) _).drew, (hM.other (fun e => hbM e.symm) _ _).drew, (hZ.other (fun e => hbZ e.symm) _ _).drew, ⟨hst.drew, hF.new⟩⟩
      have hc2 : ∀ w, Calls Tryz.prog 9 #[.string (bs f.name), .int .i64 20] w fun e w' => e = .returned (.string (bs (f.name.take 20))) /\ w = w' := fun w => cut_any (bs f.name) 20 w (by omega) (by omega) hfn
      have HC2 := Lib.hid hc2
      have c6 : wr.cell? ⟨w.heap.size, 6, none⟩ = some (.slice (some ⟨b, o, none⟩) fs3.length gc) := hM.cell (i := 6) rfl
      have hz0 : (0 : Int) <= (k : Int) := by omega
      have hz1 : (k : Int) < fs3.length := by omega
      clear hc2 hf1 hf2 hst hfk hM hZ hF hB hfn
      obtain ⟨nm, nm20, hnm⟩ : ∃ nm nm20, nm = f.name /\ nm20 = f.name.take 20 := ⟨_, _, rfl, rfl⟩
      rw [<- hnm.2] at hnext HC2
      rw [<- hnm.1] at HC2 g0
      clear hnm
      go_wp2_with fail
      refine Dn.wp_region_states [(1, .slice (some ⟨b, o, none⟩) fs3.length gc), (4, .slice (some ⟨b, o, none⟩) fs3.length gc), (8, .string (bs nm)), (9, .string (bs nm20)), (12, undef)] (LX 12 wr.drew (wr.drew.setCell ⟨b, o + k * 3, none⟩ (.string (bs nm20)))) (by kernel_rfl) 66 (by kernel_rfl) rfl (LX.pure rfl) LX.start ?_
      repeat (first
        | (refine Dn.Chain.step (v := ?_) (a' := ?_) rfl rfl rfl ?_ ?_ ?_; rotate_left 2; (focus (intro w; go_simp; try with_reducible rfl)); focus (simp only [Act.put, pqA, pqS, pqZ]; try rfl))
        | (refine Dn.Chain.call (a' := ?_) _ rfl rfl rfl (fun D wx hx hD hp => ?_) ?_ ?_
           rotate_left 1
           focus
             first
             | (have hw := hx.at_ hD (by decide); subst hw; go_simp; first | exact ⟨rfl, hx.read hD (by decide)⟩ | exact hx.read hD (by decide))
             | (have hw := hx.at_ hD (by decide); subst hw; go_simp; (with_reducible refine (HC2.out _).mono ?_); rintro e w' ⟨rfl, rfl⟩; exact ⟨rfl, hx.read hD (by decide)⟩)
             | (have hall := pre_all hp (by kernel_rfl); have hw := hx.1 hD; subst hw; go_simp; first | exact ⟨rfl, LX.last hall⟩ | exact LX.last hall)
           focus (simp only [Act.put, pqA, pqS, pqZ]; try rfl))
        | (refine Dn.Chain.skip (a' := ?_) rfl rfl rfl ?_ ?_; rotate_left 1; focus (simp only [Act.put, pqA, pqS, pqZ]; try rfl)))
      refine Dn.Chain.end_ (fun D wz hDD hx => ?_)
      have hw := hx.end_ (hDD 12 (by decide))
      subst hw
      go_wp2_with fail
      go_roundw
      case rel => exact ⟨k + 1, by go_num, by omega, hnext.out.1, hnext.out.2.1, hnext.out.2.2.1, hnext.out.2.2.2⟩
      case measure => simp [intOf]; omega
    · obtain rfl : k = fs3.length := by omega
      clear hgo hk
      have hend : halfF fs3.length fs3 = (fewM m).fs := by
        unfold halfF fewM
        rw [List.take_of_length_le (Nat.le_refl _), List.drop_of_length_le (Nat.le_refl _), List.append_nil, <- HFS.out]
      rw [hend] at hF
      obtain ⟨fs4, hfs4⟩ : ∃ l, l = (fewM m).fs := ⟨_, rfl⟩
      rw [<- hfs4] at hF
      have hl4 : fs3.length = fs4.length := by rw [hfs4, <- hend, halfF_length]
      rw [hl4] at hF hM
      have HF4 := Lib.hid hfs4
      obtain ⟨w1, hw1⟩ : ∃ x : World, x = wr := ⟨_, rfl⟩
      rw [<- hw1] at hB hM hZ hF ⊢
      clear hw1 hend hfs4 HFS HF3 hl3 hl4
      go_upto_region 8 with fail
      go_cut [0] (fun _ wx => ∃ hv, Below w.heap.size w wx /\ Blk wx w.heap.size 53 #[.string (bs (m.id.take 20)), .int .i64 m.mn, .int .i64 m.mx, .int .i64 m.lv, .int .i64 m.sr, .int .i64 m.sm, .slice gA fs4.length gc, hv] /\ Blk wx (w.heap.size + 1) 53 MZ0 /\ FBuf w wx 86 3 (.slice gA fs4.length gc) fs4.length (fcs fs4) /\ FBuf w wx 9 1 hv (m.ss.take 60).length (scs (m.ss.take 60)))
      case first =>
        have c7 : w1.cell? ⟨w.heap.size, 7, none⟩ = some (.slice A2 m.ss.length c2) := hM.cell (i := 7) rfl
        have hlit : Buf (w1.alloc (.cells #[] 9)) 9 1 (.slice (some ⟨w1.heap.size, 0, none⟩) 0 0) 0 [] := Buf.lit w1 9 1 0 [] (by simp) (Nat.zero_le _)
        have c7' : ∀ o, (w1.alloc o).cell? ⟨w.heap.size, 7, none⟩ = some (.slice A2 m.ss.length c2) := fun o => (hM.alloc o).cell (i := 7) rfl
        have hfw := SlAt.below (hs.below hB) (mbelow_alloc1 w1 (.cells #[] 9))
        have M2 := hM.alloc (.cells #[] 9)
        have Z2 := hZ.alloc (.cells #[] 9)
        have F2 := hF.alloc (.cells #[] 9)
        have B2 := below_trans hB (mbelow_alloc1 w1 (.cells #[] 9))
        have hsz : w.heap.size <= (w1.alloc (.cells #[] 9)).heap.size := B2.size
        have hsz1 : w.heap.size <= w1.heap.size := hB.size
        obtain ⟨k, hk, hk3, hkm⟩ : ∃ k : Nat, k = (m.ss.take 60).length /\ k <= 60 /\ k <= m.ss.length := ⟨_, rfl, by rw [List.length_take]; omega, by rw [List.length_take]; omega⟩
        have hsrc := (SlAt.take hfw k c2 hkm (by omega) (by unfold maxLen; omega)).src (P := Tryz.prog) (by decide) strs_ty.slice (fun u hu => scs_one m.ss u (List.mem_of_mem_take hu))
        rw [Nat.mul_one, show (scs m.ss).take k = scs (m.ss.take 60) by unfold scs; rw [<- List.map_take, hk, List.length_take]; rcases Nat.le_total 60 m.ss.length with h | h; rw [Nat.min_eq_left h]; rw [Nat.min_eq_right h, List.take_of_length_le (by omega), List.take_of_length_le (by omega)]] at hsrc
        have hcase : (m.ss.length <= 60 /\ k = m.ss.length /\ min (m.ss.length : Int) 60 = m.ss.length) \/ (60 < m.ss.length /\ k = 60 /\ min (m.ss.length : Int) 60 = 60) := by rw [List.length_take] at hk; omega
        have HK := Lib.hid hk
        have FB : FBuf w (w1.alloc (.cells #[] 9)) 9 1 (.slice (some ⟨w1.heap.size, 0, none⟩) 0 0) 0 [] := ⟨hlit, by intro j hj; injection (show some w1.heap.size = some j from hj) with hj; omega⟩
        clear hfw hk hM hZ hB hF
        rcases hcase with ⟨h3, rfl, hmn⟩ | ⟨h3, rfl, hmn⟩
        all_goals
          go_wp2_with (at_builtin; refine wpList_append_el rfl (.tmp 38) (.tmp 45) 51 51 rfl strs_ty rfl hlit rfl hsrc (by simp only [maxLen]; omega) (by omega) ?_; intro v2 w2 hb2 ha2 hg2; obtain ⟨hA, hc, rfl, hhc⟩ := hb2.shape; have M3 := M2.ap hlit ha2 (by decide); have Z3 := Z2.ap hlit ha2 (by decide); have G3 := F2.keep hlit ha2 (by decide); have F3 := FB.step hsz hb2 hg2; have B3 := B2.trans (FB.belowB hsz ha2); clear hsrc hb2 hg2 ha2; have c7 : w2.cell? ⟨w.heap.size, 7, none⟩ = some (.slice A2 m.ss.length c2) := M3.cell (i := 7) rfl; have f7 := M3.free 7)
          go_meet
          rw [Nat.zero_add, List.nil_append] at F3
          exact ⟨_, B3.setCell (Nat.le_refl _) _, M3.set 7 _, Z3.other (by omega) 7 _, G3.set_ne M3 (by decide) 7 _, by rw [<- HK.out]; exact F3.set_ne M3 (by decide) 7 _⟩
      case rest =>
      obtain ⟨gv, B2, M2, Z2, G2, F2⟩ := hcut
      have hss3 : ∀ s ∈ m.ss.take 60, s.length <= maxLen := fun s hs => HSS.out s (List.mem_of_mem_take hs)
      have hl3 : (m.ss.take 60).length <= 60 := List.length_take_le _ _
      obtain ⟨ss3, hfs⟩ : ∃ l, l = m.ss.take 60 := ⟨_, rfl⟩
      rw [<- hfs] at F2 hss3 hl3
      have HFS := Lib.hid hfs
      have HF3 := Lib.hid hss3
      clear hfs hss3 HSS
      obtain ⟨hA, hc, rfl, hgc⟩ := F2.buf.shape
      have c6 : wc.cell? ⟨w.heap.size, 7, none⟩ = some (.slice hA ss3.length hc) := M2.cell (i := 7) rfl
      go_wp2_with fail
      clear c6
      go_loopw [51] (fun i wr => ∃ k : Nat, i = .int .i64 k /\ k <= ss3.length /\ Below w.heap.size w wr /\ Blk wr w.heap.size 53 #[.string (bs (m.id.take 20)), .int .i64 m.mn, .int .i64 m.mx, .int .i64 m.lv, .int .i64 m.sr, .int .i64 m.sm, .slice gA fs4.length gc, .slice hA ss3.length hc] /\ Blk wr (w.heap.size + 1) 53 MZ0 /\ FBuf w wr 86 3 (.slice gA fs4.length gc) fs4.length (fcs fs4) /\ FBuf w wr 9 1 (.slice hA ss3.length hc) ss3.length (scs (halfS k ss3))) (fun i _ => ss3.length - (intOf i).toNat)
      case atStart => exact ⟨0, rfl, Nat.zero_le _, B2, M2, Z2, G2, F2⟩
      case round =>
        obtain ⟨k, rfl, hk, hB, hM, hZ, hG, hF⟩ := hrel
        clear B2 M2 Z2 F2 G2
        by_cases hgo : k < ss3.length
        · obtain ⟨f, hfk⟩ : ∃ f, ss3[k]? = some f := ⟨_, List.getElem?_eq_getElem hgo⟩
          obtain ⟨hf1, hf2⟩ := halfS_at hfk
          obtain ⟨b, o, rfl, hbb⟩ := hF.buf.some_at (by omega)
          obtain ⟨g0, gf⟩ := hF.buf.cellN (j := k) (by omega)
          rw [show (scs (halfS k ss3))[k]? = some (.string (bs f)) by unfold scs; rw [List.getElem?_map, hf1]; rfl] at g0
          have hbM : b ≠ w.heap.size := fun h => hF.buf.ne_block hM (by decide) (by omega) (by rw [h]; rfl)
          have hbZ : b ≠ w.heap.size + 1 := fun h => hF.buf.ne_block hZ (by decide) (by omega) (by rw [h]; rfl)
          have hst := hF.buf.storeN (j := k) (by omega) (.string (bs (f.take 20)))
          rw [scs_set, <- hf2] at hst
          have hfn := HF3.out f (List.mem_of_getElem? hfk)
          have hnext : Hid (Below w.heap.size w (wr.setCell ⟨b, o + k, none⟩ (.string (bs (f.take 20)))).drew /\ Blk (wr.setCell ⟨b, o + k, none⟩ (.string (bs (f.take 20)))).drew w.heap.size 53 #[.string (bs (m.id.take 20)), .int .i64 m.mn, .int .i64 m.mx, .int .i64 m.lv, .int .i64 m.sr, .int .i64 m.sm, .slice gA fs4.length gc, .slice (some ⟨b, o, none⟩) ss3.length hc] /\ Blk (wr.setCell ⟨b, o + k, none⟩ (.string (bs (f.take 20)))).drew (w.heap.size + 1) 53 MZ0 /\ FBuf w (wr.setCell ⟨b, o + k, none⟩ (.string (bs (f.take 20)))).drew 86 3 (.slice gA fs4.length gc) fs4.length (fcs fs4) /\ FBuf w (wr.setCell ⟨b, o + k, none⟩ (.string (bs (f.take 20)))).drew 9 1 (.slice (some ⟨b, o, none⟩) ss3.length hc) ss3.length (scs (halfS (k + 1) ss3))) :=
            Lib.hid ⟨(hB.setCell (p := ⟨b, o + k, none⟩) (hF.new b rfl) _).drew, (hM.other (fun e => hbM e.symm) _ _).drew, (hZ.other (fun e => hbZ e.symm) _ _).drew, FBuf.drew ⟨hG.buf.set_other hF.buf (by omega) (by decide) _ _, hG.new⟩, ⟨hst.drew, hF.new⟩⟩
          have hc2 : ∀ w, Calls Tryz.prog 9 #[.string (bs f), .int .i64 20] w fun e w' => e = .returned (.string (bs (f.take 20))) /\ w = w' := fun w => cut_any (bs f) 20 w (by omega) (by omega) hfn
          have HC2 := Lib.hid hc2
          have c6 : wr.cell? ⟨w.heap.size, 7, none⟩ = some (.slice (some ⟨b, o, none⟩) ss3.length hc) := hM.cell (i := 7) rfl
          have hz0 : (0 : Int) <= (k : Int) := by omega
          have hz1 : (k : Int) < ss3.length := by omega
          clear hc2 hf1 hf2 hst hfk hM hZ hF hB hfn
          obtain ⟨nm20, hnm⟩ : ∃ nm20, nm20 = f.take 20 := ⟨_, rfl⟩
          rw [<- hnm] at hnext HC2
          clear hnm
          go_wp2_with fail
          refine Dn.wp_region_states [(1, .slice (some ⟨b, o, none⟩) ss3.length hc), (4, .slice (some ⟨b, o, none⟩) ss3.length hc), (7, .string (bs f)), (8, .string (bs nm20)), (10, undef)] (LX 10 wr.drew (wr.drew.setCell ⟨b, o + k, none⟩ (.string (bs nm20)))) (by kernel_rfl) 66 (by kernel_rfl) rfl (LX.pure rfl) LX.start ?_
          repeat (first
            | (refine Dn.Chain.step (v := ?_) (a' := ?_) rfl rfl rfl ?_ ?_ ?_; rotate_left 2; (focus (intro w; go_simp; try with_reducible rfl)); focus (simp only [Act.put, pqA, pqS, pqZ]; try rfl))
            | (refine Dn.Chain.call (a' := ?_) _ rfl rfl rfl (fun D wx hx hD hp => ?_) ?_ ?_
               rotate_left 1
               focus
                 first
                 | (have hw := hx.at_ hD (by decide); subst hw; go_simp; first | exact ⟨rfl, hx.read hD (by decide)⟩ | exact hx.read hD (by decide))
                 | (have hw := hx.at_ hD (by decide); subst hw; go_simp; (with_reducible refine (HC2.out _).mono ?_); rintro e w' ⟨rfl, rfl⟩; exact ⟨rfl, hx.read hD (by decide)⟩)
                 | (have hall := pre_all hp (by kernel_rfl); have hw := hx.1 hD; subst hw; go_simp; first | exact ⟨rfl, LX.last hall⟩ | exact LX.last hall)
               focus (simp only [Act.put, pqA, pqS, pqZ]; try rfl))
            | (refine Dn.Chain.skip (a' := ?_) rfl rfl rfl ?_ ?_; rotate_left 1; focus (simp only [Act.put, pqA, pqS, pqZ]; try rfl)))
          refine Dn.Chain.end_ (fun D wz hDD hx => ?_)
          have hw := hx.end_ (hDD 10 (by decide))
          subst hw
          go_wp2_with fail
          go_roundw
          case rel => exact ⟨k + 1, by go_num, by omega, hnext.out.1, hnext.out.2.1, hnext.out.2.2.1, hnext.out.2.2.2.1, hnext.out.2.2.2.2⟩
          case measure => simp [intOf]; omega
        · obtain rfl : k = ss3.length := by omega
          clear hgo hk
          have hend : halfS ss3.length ss3 = (fewM m).ss := by
            unfold halfS fewM
            rw [List.take_of_length_le (Nat.le_refl _), List.drop_of_length_le (Nat.le_refl _), List.append_nil, <- HFS.out]
          rw [hend] at hF
          have hl5 : ss3.length = (fewM m).ss.length := by rw [<- hend, halfS_length]
          have c0 := hM.cell (i := 0) (u := .string (bs (m.id.take 20))) rfl
          have c1 := hM.cell (i := 1) (u := .int .i64 m.mn) rfl
          have c2 := hM.cell (i := 2) (u := .int .i64 m.mx) rfl
          have c3 := hM.cell (i := 3) (u := .int .i64 m.lv) rfl
          have c4 := hM.cell (i := 4) (u := .int .i64 m.sr) rfl
          have c5 := hM.cell (i := 5) (u := .int .i64 m.sm) rfl
          have c6 := hM.cell (i := 6) (u := .slice gA fs4.length gc) rfl
          have c7 := hM.cell (i := 7) (u := .slice hA ss3.length hc) rfl
          have d0 : wr.cell? ⟨w.heap.size + 1, 0, none⟩ = some (.string { data := #[] }) := hZ.cell (i := 0) rfl
          have d1 : wr.cell? ⟨w.heap.size + 1, 1, none⟩ = some (.int .i64 0) := hZ.cell (i := 1) rfl
          have d2 : wr.cell? ⟨w.heap.size + 1, 2, none⟩ = some (.int .i64 0) := hZ.cell (i := 2) rfl
          have d3 : wr.cell? ⟨w.heap.size + 1, 3, none⟩ = some (.int .i64 0) := hZ.cell (i := 3) rfl
          have d4 : wr.cell? ⟨w.heap.size + 1, 4, none⟩ = some (.int .i64 0) := hZ.cell (i := 4) rfl
          have d5 : wr.cell? ⟨w.heap.size + 1, 5, none⟩ = some (.int .i64 0) := hZ.cell (i := 5) rfl
          have d6 : wr.cell? ⟨w.heap.size + 1, 6, none⟩ = some (.slice none 0 0) := hZ.cell (i := 6) rfl
          have d7 : wr.cell? ⟨w.heap.size + 1, 7, none⟩ = some (.slice none 0 0) := hZ.cell (i := 7) rfl
          have e0 := hZ.free 0
          have e1 := hZ.free 1
          have e2 := hZ.free 2
          have e3 := hZ.free 3
          have e4 := hZ.free 4
          have e5 := hZ.free 5
          have e6 := hZ.free 6
          have e7 := hZ.free 7
          have HG := Lib.hid (show FBuf w wr 86 3 (.slice gA fs4.length gc) fs4.length (fcs fs4) /\ ∃ cur, Blk wr (w.heap.size + 1) 53 cur from ⟨hG, _, hZ⟩)
          have HF := Lib.hid (show FBuf w wr 9 1 (.slice hA ss3.length hc) ss3.length (scs (fewM m).ss) /\ ∃ cur, Blk wr (w.heap.size + 1) 53 cur from ⟨hF, _, hZ⟩)
          have HB := Lib.hid hB
          have HL5 := Lib.hid hl5
          clear hG hF hZ hM hB hend hl5
          go_wp2_with fail
          refine bodyPost_ret (v := .agg #[.string (bs (m.id.take 20)), .int .i64 m.mn, .int .i64 m.mx, .int .i64 m.lv, .int .i64 m.sr, .int .i64 m.sm, .slice gA fs4.length gc, .slice hA ss3.length hc]) (by simp [results, Tryz.results20, go_sem, d0, d1, d2, d3, d4, d5, d6, d7]) rfl ?_
          have HW8 : ∀ v0 v1 v2 v3 v4 v5 v6 v7, (FBuf w ((((((((wr.setCell ⟨w.heap.size + 1, 0, none⟩ v0).setCell ⟨w.heap.size + 1, 1, none⟩ v1).setCell ⟨w.heap.size + 1, 2, none⟩ v2).setCell ⟨w.heap.size + 1, 3, none⟩ v3).setCell ⟨w.heap.size + 1, 4, none⟩ v4).setCell ⟨w.heap.size + 1, 5, none⟩ v5).setCell ⟨w.heap.size + 1, 6, none⟩ v6).setCell ⟨w.heap.size + 1, 7, none⟩ v7) 86 3 (.slice gA fs4.length gc) fs4.length (fcs fs4)) := fun v0 v1 v2 v3 v4 v5 v6 v7 =>
            (FBuf.set_ne2 (FBuf.set_ne2 (FBuf.set_ne2 (FBuf.set_ne2 (FBuf.set_ne2 (FBuf.set_ne2 (FBuf.set_ne2 (FBuf.set_ne2 HG.out (by decide) 0 v0) (by decide) 1 v1) (by decide) 2 v2) (by decide) 3 v3) (by decide) 4 v4) (by decide) 5 v5) (by decide) 6 v6) (by decide) 7 v7).1
          have HX8 : ∀ v0 v1 v2 v3 v4 v5 v6 v7, (FBuf w ((((((((wr.setCell ⟨w.heap.size + 1, 0, none⟩ v0).setCell ⟨w.heap.size + 1, 1, none⟩ v1).setCell ⟨w.heap.size + 1, 2, none⟩ v2).setCell ⟨w.heap.size + 1, 3, none⟩ v3).setCell ⟨w.heap.size + 1, 4, none⟩ v4).setCell ⟨w.heap.size + 1, 5, none⟩ v5).setCell ⟨w.heap.size + 1, 6, none⟩ v6).setCell ⟨w.heap.size + 1, 7, none⟩ v7) 9 1 (.slice hA ss3.length hc) ss3.length (scs (fewM m).ss)) := fun v0 v1 v2 v3 v4 v5 v6 v7 =>
            (FBuf.set_ne2 (FBuf.set_ne2 (FBuf.set_ne2 (FBuf.set_ne2 (FBuf.set_ne2 (FBuf.set_ne2 (FBuf.set_ne2 (FBuf.set_ne2 HF.out (by decide) 0 v0) (by decide) 1 v1) (by decide) 2 v2) (by decide) 3 v3) (by decide) 4 v4) (by decide) 5 v5) (by decide) 6 v6) (by decide) 7 v7).1
          have e4 := HF4.out
          have e5 := HL5.out
          refine ⟨.slice gA fs4.length gc, .slice hA ss3.length hc, rfl, ?_, ?_, ?_⟩
          · have h1 := (HW8 (.string (bs (m.id.take 20))) (.int .i64 m.mn) (.int .i64 m.mx) (.int .i64 m.lv) (.int .i64 m.sr) (.int .i64 m.sm) (.slice gA fs4.length gc) (.slice hA ss3.length hc))
            rw [<- e4]
            exact h1
          · have h1 := (HX8 (.string (bs (m.id.take 20))) (.int .i64 m.mn) (.int .i64 m.mx) (.int .i64 m.lv) (.int .i64 m.sr) (.int .i64 m.sm) (.slice gA fs4.length gc) (.slice hA ss3.length hc))
            rw [<- e5]
            exact h1
          · repeat (refine Below.setCell ?_ (Nat.le_succ _) _)
            exact HB.out

end Go.Proofs.YtgabmfibfikdbaaGreatDoor
