/-
  Layer 9: the walk of the taker of all fields.
-/
import Derived.Test.YtgabmfibfikdbaaGreatDoorZXorQ
import Derived.Test.YtgabmfibfikdbaaGreatDoorZLib9
import Derived.Deep.RegionLaw
import Derived.Test.YtgabmfibfikdbaaGreatDoorZMetC
import Derived.Test.YtgabmfibfikdbaaGreatDoorZLebA
import Derived.BigQuiet
import Derived.Deep.QuietTactic
import Derived.Test.YtgabmfibfikdbaaGreatDoorZFrmR
import Derived.Test.YtgabmfibfikdbaaGreatDoorZLabU
import Derived.Test.YtgabmfibfikdbaaGreatDoorZBokF
import Derived.Test.YtgabmfibfikdbaaGreatDoorZLabH
import Derived.Test.YtgabmfibfikdbaaGreatDoorZLib24
import Derived.Test.YtgabmfibfikdbaaGreatDoorZBitM

namespace Go.Proofs.YtgabmfibfikdbaaGreatDoor
open Go.RowKit Go.Bar Go.Bar.Leb Go.Bar.Frm Go.Bar.Idt Go.Bar.Met

theorem blk_ne {b M i j : Nat} (h : b ≠ M) : (⟨b, i, none⟩ : Addr) ≠ ⟨M, j, none⟩ := fun e => h (Addr.mk.inj e).1
theorem TkAt.set {w : World} {b : Nat} {s : List UInt8} {e : Nat} (h : TkAt w b s e) {M : Nat} (hM : b ≠ M) (i : Nat) (v : Value) : TkAt (w.setCell ⟨M, i, none⟩ v) b s e :=
  ⟨(World.cell?_setCell_other w _ _ v (by first | exact blk_ne hM | exact (blk_ne hM).symm)).trans h.c0, (World.cell?_setCell_other w _ _ v (by first | exact blk_ne hM | exact (blk_ne hM).symm)).trans h.c1, by rw [World.frozen?_setCell]; exact h.f0, by rw [World.frozen?_setCell]; exact h.f1⟩
theorem TkAt.belowB {w w' : World} {b : Nat} {s : List UInt8} {e : Nat} (h : TkAt w b s e) {B : Nat} (hb : Below B w w') (hlt : b < B) : TkAt w' b s e :=
  ⟨(hb.cell (p := ⟨b, 0, none⟩) hlt).trans h.c0, (hb.cell (p := ⟨b, 1, none⟩) hlt).trans h.c1, (hb.frozen (p := ⟨b, 0, none⟩) hlt).trans h.f0, (hb.frozen (p := ⟨b, 1, none⟩) hlt).trans h.f1⟩

structure TS (w wr : World) (b : Nat) (s : List UInt8) (e : Nat) (cur : Array Value) : Prop where
  tk : TkAt wr b s e
  fr : TkFr b w wr
  res : Blk wr w.heap.size 53 #[.string ByteArray.empty, .int .i64 0, .int .i64 0, .int .i64 0, .int .i64 0, .int .i64 0, .slice none 0 0, .slice none 0 0]
  blk : Blk wr (w.heap.size + 1) 53 cur
  blt : b < w.heap.size
section
variable {w wr w2 : World} {b : Nat} {s s' : List UInt8} {e e' : Nat} {cur : Array Value}
theorem TS.step (h : TS w wr b s e cur) (hk : TkAt w2 b s' e') (hf : TkFr b wr w2) : TS w w2 b s' e' cur :=
  ⟨hk, Fr.trans h.fr hf, h.res.fr hf (fun i hi => absurd hi (by have := h.blt; omega)), h.blk.fr hf (fun i hi => absurd hi (by have := h.blt; omega)), h.blt⟩
theorem TS.below (h : TS w wr b s e cur) (hb : Below wr.heap.size wr w2) : TS w w2 b s e cur :=
  ⟨h.tk.below hb, Fr.then_below h.fr hb, h.res.below hb, h.blk.below hb, h.blt⟩
theorem TS.alloc (h : TS w wr b s e cur) (o : Obj) : TS w (wr.alloc o) b s e cur := h.below ((Below.refl _ _).alloc (Nat.le_refl _) o)
theorem TS.drew (h : TS w wr b s e cur) : TS w wr.drew b s e cur := h.below (Below.refl _ _).drew
theorem TS.set (h : TS w wr b s e cur) (i : Nat) (v : Value) : TS w (wr.setCell ⟨w.heap.size + 1, i, none⟩ v) b s e (cur.setIfInBounds i v) :=
  ⟨h.tk.set (by have := h.blt; omega) i v, Fr.setCell h.fr (fun hk => by omega) v, h.res.other (by omega) i v, h.blk.set i v, h.blt⟩
theorem TS.ap {ee : TypeId} {sz n : Nat} {v : Value} {xs : List Value} (h : TS w wr b s e cur) (hb : FBuf w wr ee sz v n xs) (ha : Ap wr w2 sz v) (hne : ee ≠ 53) : TS w w2 b s e cur := by
  have hB := hb.belowB h.fr.size ha
  exact ⟨h.tk.belowB hB h.blt, h.fr.then_belowB hB ha.size, h.res.ap hb.buf ha hne, h.blk.ap hb.buf ha hne, h.blt⟩
theorem TS.keepB (h : TS w wr b s e cur) {ee : TypeId} {sz n : Nat} {v : Value} {xs : List Value} (hb : FBuf w wr ee sz v n xs) (hf : TkFr b wr w2) : FBuf w w2 ee sz v n xs := hb.fr hf (fun _ _ hk hi => by have := h.blt; omega)
end

structure TE (w wr : World) (b : Nat) (s : List UInt8) (e : Nat) (fv sv : Value) (fs : List Fl) (ss : List (List UInt8)) : Prop where
  tk : TkAt wr b s e
  fr : TkFr b w wr
  res : ∃ c, Blk wr w.heap.size 53 c
  blt : b < w.heap.size
  fb : FBuf w wr 86 3 fv fs.length (fcs fs)
  sb : FBuf w wr 9 1 sv ss.length (scs ss)
theorem TE.set {w wr : World} {b : Nat} {s : List UInt8} {e : Nat} {fv sv : Value} {fs : List Fl} {ss : List (List UInt8)} (h : TE w wr b s e fv sv fs ss) (i : Nat) (v : Value) : TE w (wr.setCell ⟨w.heap.size, i, none⟩ v) b s e fv sv fs ss := by
  obtain ⟨c, hc⟩ := h.res
  exact ⟨h.tk.set (by have := h.blt; omega) i v, Fr.setCell h.fr (fun hk => by omega) v, ⟨_, hc.set i v⟩, h.blt, h.fb.set_ne hc (by decide) i v, h.sb.set_ne hc (by decide) i v⟩

end Go.Proofs.YtgabmfibfikdbaaGreatDoor

/-
  Layer 9: the walks of Take and Decode.
-/
namespace Go.Proofs.YtgabmfibfikdbaaGreatDoor
open Go.RowKit Go.Bar Go.Bar.Leb Go.Bar.Frm Go.Bar.Idt Go.Bar.Met

def S2 (B : Nat) : Nat → Nat → Prop := fun k _ => k = B ∨ k = B + 1
theorem S2.below {B : Nat} : ∀ k i, k < B → ¬ S2 B k i := fun k i hk h => by rcases h with h | h <;> omega

end Go.Proofs.YtgabmfibfikdbaaGreatDoor

/-
  Layer 9: the walks of the reference's Fields and Encode.
-/
namespace Go.Proofs.YtgabmfibfikdbaaGreatDoor
open Go.RowKit Go.Bar Go.Bar.Leb Go.Bar.Frm Go.Bar.Idt Go.Bar.Met

theorem refUint_w (z : Int) (W : World) : Calls Tryz.prog 51 #[.int .u64 (IntKind.u64.wrap z)] W (RetBelow W (.string (bs (u (w64 z))))) := by
  rw [wrap_w64]
  exact refUint_any (w64 z) W (w64_lt z)

end Go.Proofs.YtgabmfibfikdbaaGreatDoor

/-
  Layer 16: the walks of the reference's Index, Chunks.
-/
namespace Go.Proofs.YtgabmfibfikdbaaGreatDoor
open Go.RowKit Go.Bar Go.Bar.Leb Go.Bar.Frm Go.Bar.Lab Go.Bar.Xor Go.Bar.Mrg Go.Bar.Met Go.Bar.Bok

set_option maxHeartbeats 16000000 in
set_option maxRecDepth 10000 in
theorem xindex_any (v : Value) (l : List Ev) (w : World) (h : EsAt w v l) (hd : (idxD (l.map plE)).length ≤ 1000000000) (hp : ∀ x ∈ l, x.ls.length ≤ 1000 ∧ ∀ p ∈ x.ls, p.1.length ≤ 1000000 ∧ p.2.length ≤ 1000000) (hn : l.length ≤ 1000000000) :
    Calls Tryz.prog 18 #[v] w (RetBelow w (.string (bs (idxB (l.map plE))))) := by
  obtain ⟨A, c, rfl, hlc, hcm⟩ := h.shape
  unfold maxLen at hcm
  obtain ⟨N, hN⟩ : ∃ N, N = l.length := ⟨_, rfl⟩
  have hlm : (l.map plE).length = N := by rw [List.length_map, hN]
  obtain ⟨R, hR⟩ : ∃ R, R = l.map plE := ⟨_, rfl⟩
  rw [← hR] at hd hlm ⊢
  have hcv : IntKind.u64.wrap (N : Int) = (N : Int) := by rw [IntKind.wrap_u64]; omega
  have hu : ∀ w, Calls Tryz.prog 51 #[.int .u64 (N : Nat)] w (RetBelow w (.string (bs (u N)))) := fun w => refUint_any N w (by omega)
  obtain ⟨U0, hU0⟩ : ∃ U, U = u N := ⟨_, rfl⟩
  rw [← hU0] at hu
  have hid : idxD R = U0 ++ R.flatMap enB := by unfold idxD; rw [hlm, hU0]
  have hfin := fun w' => refBytes_any 5 (idxD R) w' (by omega)
  obtain ⟨F, hF⟩ : ∃ F, F = idxD R := ⟨_, rfl⟩
  obtain ⟨FB, hFB⟩ : ∃ F, F = idxB R := ⟨_, rfl⟩
  have hFB2 : Frm.rec (5, idxD R) = FB := by rw [hFB]; rfl
  rw [hFB2, ← hF] at hfin
  rw [← hFB]
  rw [← hF] at hid
  have HE := Lib.hid h
  have HP := Lib.hid hp
  have HR := Lib.hid hR
  have HID := Lib.hid hid
  have HU := Lib.hid hu
  have HFIN := Lib.hid hfin
  have HLM := Lib.hid hlm
  have HNN := Lib.hid hN
  have HD := Lib.hid (show F.length ≤ 1000000000 by rw [hF]; exact hd)
  rw [← hN] at h hlc hn HE ⊢
  have HCV := Lib.hid hcv
  clear h hp hR hid hu hfin hlm hd hN hU0 hF hFB hFB2 hcv
  have hcv := HCV.out
  go_enter Tryz.func18, Tryz.ntmps18
  go_wp2_with fail
  refine (HU.out _).mono ?_
  rintro e w1 ⟨rfl, b1⟩
  have B1 := Lib.hid b1
  clear b1 HU hcv
  go_upto_region 3 with fail
  go_loopw [12, 3] (fun iv sv wr => ∃ (k : Nat) (T : List UInt8), iv = .int .i64 k ∧ k ≤ N ∧ sv = .string (bs T) ∧ Hid (T = U0 ++ (R.take k).flatMap enB) ∧ Hid (Below w.heap.size w wr)) (fun iv _ _ => N - (intOf iv).toNat)
  case atStart => exact ⟨0, U0, rfl, Nat.zero_le _, rfl, Lib.hid (by simp), B1⟩
  case round =>
    obtain ⟨k, T, rfl, hk, rfl, HT, HB⟩ := hrel
    clear B1
    by_cases hgo : k < N
    · obtain ⟨x, hx⟩ : ∃ x, l[k]? = some x := ⟨_, List.getElem?_eq_getElem (by rw [← HNN.out]; exact hgo)⟩
      have hrx : R[k]? = some (plE x) := by rw [HR.out, List.getElem?_map, hx]; rfl
      obtain ⟨eb, eo, rfl, _, hps, g0, g1, g2, g3, g4⟩ := (HE.out.below HB.out).at_ hx
      obtain ⟨hp1, hp2⟩ := HP.out _ (List.mem_of_getElem? hx)
      obtain ⟨ls, la, lc, fr, n, mn, mx⟩ := x
      dsimp only at g0 g1 g2 g3 g4 hps hp1 hp2
      have hT2 : T ++ ((((key ls ++ u (w64 fr)) ++ u (w64 n)) ++ u (w64 mn)) ++ u (w64 mx)) = U0 ++ (R.take (k + 1)).flatMap enB := by
        rw [HT.out, List.take_add_one, hrx]
        simp only [Option.toList_some, List.flatMap_append, List.flatMap_cons, List.flatMap_nil, List.append_nil, List.append_assoc]
        rfl
      obtain ⟨wb, hwb⟩ : ∃ wb, wb = wr.alloc (.cells #[.slice la ls.length lc, .int .i64 fr, .int .i64 n, .int .i64 mn, .int .i64 mx] 114) := ⟨_, rfl⟩
      have hb2 : Below wr.heap.size wr wb := by rw [hwb]; exact below_al _ _
      have HZ : Hid (Blk wb wr.heap.size 114 #[.slice la ls.length lc, .int .i64 fr, .int .i64 n, .int .i64 mn, .int .i64 mx]) := Lib.hid (by rw [hwb]; exact Blk.new _ _ _)
      have hK := fun w' (hb : Below wb.heap.size wb w') => rkey_any (.slice la ls.length lc) ls w' ((hps.below hb2).below hb) hp1 hp2
      obtain ⟨K0, hK0⟩ : ∃ K, K = key ls := ⟨_, rfl⟩
      obtain ⟨K1, hK1⟩ : ∃ K, K = u (w64 fr) := ⟨_, rfl⟩
      obtain ⟨K2, hK2⟩ : ∃ K, K = u (w64 n) := ⟨_, rfl⟩
      obtain ⟨K3, hK3⟩ : ∃ K, K = u (w64 mn) := ⟨_, rfl⟩
      obtain ⟨K4, hK4⟩ : ∃ K, K = u (w64 mx) := ⟨_, rfl⟩
      have k1 := fun w' => refUint_w fr w'
      have k2 := fun w' => refUint_w n w'
      have k3 := fun w' => refUint_w mn w'
      have k4 := fun w' => refUint_w mx w'
      rw [← hK0] at hK
      rw [← hK1] at k1
      rw [← hK2] at k2
      rw [← hK3] at k3
      rw [← hK4] at k4
      rw [← hK0, ← hK1, ← hK2, ← hK3, ← hK4] at hT2
      have HK0 := Lib.hid hK
      have HK1 := Lib.hid k1
      have HK2 := Lib.hid k2
      have HK3 := Lib.hid k3
      have HK4 := Lib.hid k4
      have HT2 := Lib.hid hT2
      have hln : (T ++ ((((K0 ++ K1) ++ K2) ++ K3) ++ K4)).length ≤ 1000000000 := by
        rw [hT2]
        refine Nat.le_trans ?_ HD.out
        rw [HID.out, List.length_append, List.length_append]
        refine Nat.add_le_add_left ?_ _
        conv => rhs; rw [← List.take_append_drop (k + 1) R, List.flatMap_append, List.length_append]
        exact Nat.le_add_right _ _
      simp only [List.length_append] at hln
      have n1 : ¬ 9223372036854775807 < K0.length + K1.length := by omega
      have n2 : ¬ 9223372036854775807 < K0.length + K1.length + K2.length := by omega
      have n3 : ¬ 9223372036854775807 < K0.length + (K1.length + K2.length) + K3.length := by omega
      have n4 : ¬ 9223372036854775807 < K0.length + (K1.length + (K2.length + K3.length)) + K4.length := by omega
      have n5 : ¬ 9223372036854775807 < T.length + (K0.length + (K1.length + (K2.length + (K3.length + K4.length)))) := by omega
      have HB2 := Lib.hid (below_trans HB.out hb2)
      clear hln hx hrx hps hp1 hp2 hT2 hK k1 k2 k3 k4 hK0 hK1 hK2 hK3 hK4
      go_upto_region 5 with fail
      rw [← hwb]
      obtain ⟨P, hP⟩ : ∃ P, P = wr.heap.size := ⟨_, rfl⟩
      rw [← hP] at HZ ⊢
      clear hwb hP hb2 g0 g1 g2 g3 g4
      refine wp_region_known [(2, .slice la ls.length lc), (3, .string (bs K0)), (5, .int .i64 fr), (7, .string (bs K1)), (10, .int .i64 n), (12, .string (bs K2)), (15, .int .i64 mn), (17, .string (bs K3)), (20, .int .i64 mx), (22, .string (bs K4))] (by kernel_rfl) 45 (by kernel_rfl) rfl ?_
      repeat (first
        | (refine Chain.step (v := ?_) (a' := ?_) rfl rfl rfl ?_ ?_ ?_; rotate_left 2; (focus (intro w; go_simp; try with_reducible rfl)); focus (simp only [Act.put, pqA, pqS, pqZ]; try rfl))
        | (refine Chain.call (i := 2) (a' := ?_) _ rfl rfl rfl (fun wx hw => ?_) ?_ ?_; rotate_left 1; (focus (obtain ⟨g0, g1, g2, g3, g4⟩ := Blk.c5 (HZ.out.below hw); go_simp; first | exact ⟨rfl, rB⟩ | exact rB)); focus (simp only [Act.put, pqA, pqS, pqZ]; try rfl))
        | (refine Chain.call (i := 3) (a' := ?_) _ rfl rfl rfl (fun wx hw => ?_) ?_ ?_; rotate_left 1; (focus (go_simp; (with_reducible refine (HK0.out _ hw).mono ?_); exact (fun e w' ⟨h1, h2⟩ => by subst h1; exact ⟨rfl, h2⟩))); focus (simp only [Act.put, pqA, pqS, pqZ]; try rfl))
        | (refine Chain.call (i := 5) (a' := ?_) _ rfl rfl rfl (fun wx hw => ?_) ?_ ?_; rotate_left 1; (focus (obtain ⟨g0, g1, g2, g3, g4⟩ := Blk.c5 (HZ.out.below hw); go_simp; first | exact ⟨rfl, rB⟩ | exact rB)); focus (simp only [Act.put, pqA, pqS, pqZ]; try rfl))
        | (refine Chain.call (i := 7) (a' := ?_) _ rfl rfl rfl (fun wx hw => ?_) ?_ ?_; rotate_left 1; (focus (go_simp; (with_reducible refine (HK1.out _).mono ?_); exact (fun e w' ⟨h1, h2⟩ => by subst h1; exact ⟨rfl, h2⟩))); focus (simp only [Act.put, pqA, pqS, pqZ]; try rfl))
        | (refine Chain.call (i := 10) (a' := ?_) _ rfl rfl rfl (fun wx hw => ?_) ?_ ?_; rotate_left 1; (focus (obtain ⟨g0, g1, g2, g3, g4⟩ := Blk.c5 (HZ.out.below hw); go_simp; first | exact ⟨rfl, rB⟩ | exact rB)); focus (simp only [Act.put, pqA, pqS, pqZ]; try rfl))
        | (refine Chain.call (i := 12) (a' := ?_) _ rfl rfl rfl (fun wx hw => ?_) ?_ ?_; rotate_left 1; (focus (go_simp; (with_reducible refine (HK2.out _).mono ?_); exact (fun e w' ⟨h1, h2⟩ => by subst h1; exact ⟨rfl, h2⟩))); focus (simp only [Act.put, pqA, pqS, pqZ]; try rfl))
        | (refine Chain.call (i := 15) (a' := ?_) _ rfl rfl rfl (fun wx hw => ?_) ?_ ?_; rotate_left 1; (focus (obtain ⟨g0, g1, g2, g3, g4⟩ := Blk.c5 (HZ.out.below hw); go_simp; first | exact ⟨rfl, rB⟩ | exact rB)); focus (simp only [Act.put, pqA, pqS, pqZ]; try rfl))
        | (refine Chain.call (i := 17) (a' := ?_) _ rfl rfl rfl (fun wx hw => ?_) ?_ ?_; rotate_left 1; (focus (go_simp; (with_reducible refine (HK3.out _).mono ?_); exact (fun e w' ⟨h1, h2⟩ => by subst h1; exact ⟨rfl, h2⟩))); focus (simp only [Act.put, pqA, pqS, pqZ]; try rfl))
        | (refine Chain.call (i := 20) (a' := ?_) _ rfl rfl rfl (fun wx hw => ?_) ?_ ?_; rotate_left 1; (focus (obtain ⟨g0, g1, g2, g3, g4⟩ := Blk.c5 (HZ.out.below hw); go_simp; first | exact ⟨rfl, rB⟩ | exact rB)); focus (simp only [Act.put, pqA, pqS, pqZ]; try rfl))
        | (refine Chain.call (i := 22) (a' := ?_) _ rfl rfl rfl (fun wx hw => ?_) ?_ ?_; rotate_left 1; (focus (go_simp; (with_reducible refine (HK4.out _).mono ?_); exact (fun e w' ⟨h1, h2⟩ => by subst h1; exact ⟨rfl, h2⟩))); focus (simp only [Act.put, pqA, pqS, pqZ]; try rfl))
        | (refine Chain.skip (a' := ?_) rfl rfl rfl ?_ ?_; rotate_left 1; focus (simp only [Act.put, pqA, pqS, pqZ]; try rfl)))
      refine Chain.end_ (fun wy hwy _ => ?_)
      have HB3 := Lib.hid (below_trans HB2.out hwy)
      go_wp2_with fail
      go_roundw
      case rel => exact ⟨k + 1, _, by go_num, hgo, rfl, Lib.hid (by simpa only [List.append_assoc] using HT2.out), HB3⟩
      case measure => simp [intOf]; omega
    · obtain rfl : k = N := by omega
      have hTF : T = F := by rw [HT.out, HID.out, ← HLM.out, List.take_length]
      subst hTF
      have HF2 := Lib.hid (HFIN.out wr)
      clear HFIN
      go_wp2_with fail
      refine HF2.out.mono ?_
      rintro e w5 ⟨rfl, b5⟩
      have HB5 := Lib.hid (below_trans HB.out b5)
      go_wp2_with fail
      go_ret
      exact ⟨rfl, HB5.out⟩

end Go.Proofs.YtgabmfibfikdbaaGreatDoor

/-
  Plain mathematics of layer 7: the reference's Samples as a function; it takes again what is written. No program in sight; no condition.
-/
namespace Go.Bar.Xor
open Go.RowKit Go.Bar Go.Bar.Bit Go.Bar.Leb

def rtake (L : List Bool) (a n : Nat) : Nat × Nat := if L.length < a + n then (0, L.length + 1) else (num ((L.drop a).take n), a + n)
def rones (L : List Bool) (a : Nat) : Nat := a + run L a 4 + (if run L a 4 < 4 then 1 else 0)
def rtime (L : List Bool) (a : Nat) : Nat × Nat := rtake L (rones L a) (wd (run L a 4))
def rin (L : List Bool) (a fr wi : Nat) : Option (Nat × Nat × Nat × Nat) :=
  if wi = 0 ∨ 64 < fr + wi then none else some ((rtake L a wi).1 * 2 ^ (64 - fr - wi), (rtake L a wi).2, fr, wi)
def rval (L : List Bool) (a fr wi : Nat) : Option (Nat × Nat × Nat × Nat) :=
  if (rtake L a 1).1 = 1 then
    if (rtake L (rtake L a 1).2 1).1 = 1 then
      rin L (rtake L (rtake L (rtake L (rtake L a 1).2 1).2 6).2 6).2 (rtake L (rtake L (rtake L a 1).2 1).2 6).1 ((rtake L (rtake L (rtake L (rtake L a 1).2 1).2 6).2 6).1 + 1)
    else rin L (rtake L (rtake L a 1).2 1).2 fr wi
  else some (0, (rtake L a 1).2, fr, wi)
structure RS where
  a : Nat
  step : Int
  fr : Nat
  wi : Nat
def RS.zero : RS := ⟨0, 0, 0, 0⟩
def rfirst (L : List Bool) (r : RS) : Sm × RS := ((wrap64 (rtake L r.a 41).1, (rtake L (rtake L r.a 41).2 64).1), { r with a := (rtake L (rtake L r.a 41).2 64).2 })
def rstep (L : List Bool) (r : RS) : Int := wrap64 (r.step + unfold (rtime L r.a).1)
def rrest (L : List Bool) (r : RS) (was : Sm) : Option (Sm × RS) :=
  match rval L (rtime L r.a).2 r.fr r.wi with
  | none => none
  | some (x, b, fr, wi) => some ((wrap64 (was.1 + rstep L r), was.2 ^^^ x), ⟨b, rstep L r, fr, wi⟩)
def rloop (L : List Bool) : Nat → RS → List Sm → Option (List Sm × Nat)
  | 0, r, acc => some (acc, r.a)
  | k + 1, r, acc =>
    if r.a ≤ L.length then
      match acc.getLast? with
      | none => rloop L k (rfirst L r).2 (acc ++ [(rfirst L r).1])
      | some was =>
        match rrest L r was with
        | none => none
        | some (x, r') => rloop L k r' (acc ++ [x])
    else some (acc, r.a)
def rdone (w : List UInt8) (n len : Nat) : Option (List Sm × Nat) → Option (List Sm)
  | none => none
  | some (out, a) => if len < a ∨ out.length ≠ n ∨ (ofS St.zero out).2 ≠ 0 ∨ text (ofS St.zero out).1 ≠ w then none else some out
def rbody (w : List UInt8) (n : Nat) (rest : List UInt8) (m : Nat) : Option (List Sm) :=
  rdone w n ((unpack rest).take m).length (rloop ((unpack rest).take m) n RS.zero [])
def rsamples (w : List UInt8) : Option (List Sm) :=
  if (takeMost w 120).2.2 ≠ 0 then none
  else if (takeMost (takeMost w 120).2.1 1048576).2.2 ≠ 0 then none
  else if 200000 < (takeMost (takeMost w 120).2.1 1048576).2.1.length then none
  else rbody w (takeMost w 120).1 (takeMost (takeMost w 120).2.1 1048576).2.1 (takeMost (takeMost w 120).2.1 1048576).1

theorem rdone_some {w : List UInt8} {n len : Nat} {o : Option (List Sm × Nat)} {l : List Sm} (h : rdone w n len o = some l) : (ofS St.zero l).2 = 0 ∧ text (ofS St.zero l).1 = w := by
  unfold rdone at h
  split at h
  · cases h
  · next out a =>
    split at h
    · cases h
    · next hc =>
      injection h with h
      subst h
      simp only [not_or, Decidable.not_not] at hc
      exact ⟨hc.2.2.1, hc.2.2.2⟩
theorem rsamples_some {w : List UInt8} {l : List Sm} (h : rsamples w = some l) : (ofS St.zero l).2 = 0 ∧ text (ofS St.zero l).1 = w := by
  unfold rsamples at h
  split at h
  · cases h
  split at h
  · cases h
  split at h
  · cases h
  exact rdone_some h

theorem drop_len {L A rest : List Bool} {p : Nat} (h : L.drop p = A ++ rest) (hA : 0 < A.length) : p + A.length ≤ L.length := by
  have := congrArg List.length h
  rw [List.length_drop, List.length_append] at this
  omega
theorem rtake_of {L rest : List Bool} {p v n : Nat} (hn : 0 < n) (h : L.drop p = bitsOf v n ++ rest) : rtake L p n = (v % 2 ^ n, p + n) := by
  have hl := drop_len h (by rw [bitsOf_length]; exact hn)
  rw [bitsOf_length] at hl
  unfold rtake
  rw [if_neg (by omega), h, List.take_left' (bitsOf_length _ _), num_bitsOf]
theorem rtake_zero {L : List Bool} {p : Nat} (h : p ≤ L.length) : rtake L p 0 = (0, p) := by
  unfold rtake
  rw [if_neg (by omega)]
  rfl
theorem rtake_one {L rest : List Bool} {p : Nat} {x : Bool} (h : L.drop p = [x] ++ rest) : rtake L p 1 = (if x then 1 else 0, p + 1) := by
  have hl := drop_len h (by simp)
  unfold rtake
  rw [if_neg (by simp only [List.length_singleton] at hl; omega), h]
  cases x <;> rfl
theorem rin_of {L rest : List Bool} {a fr wi x : Nat} (hw : 0 < wi) (hl : fr + wi ≤ 64) (hd : 2 ^ (64 - fr - wi) ∣ x) (hlt : x < 2 ^ (64 - fr))
    (h : L.drop a = bitsOf (x / 2 ^ (64 - fr - wi)) wi ++ rest) : rin L a fr wi = some (x, a + wi, fr, wi) := by
  unfold rin
  rw [if_neg (by omega), rtake_of hw h, low_bits hd (by rw [show 64 - fr - wi + wi = 64 - fr by omega]; exact hlt)]
theorem rval_of {L rest : List Bool} {a fr wi x : Nat} (hw : fr + wi ≤ 64) (hx : x < 18446744073709551616)
    (h : L.drop a = valB fr wi x ++ rest) : rval L a fr wi = some (x, a + (valB fr wi x).length, valL fr wi x, valW fr wi x) := by
  unfold rval
  unfold valB at h ⊢
  unfold valL valW
  by_cases h0 : x = 0
  · rw [if_pos h0] at h
    rw [rtake_one h]
    simp only [Bool.false_eq_true, if_false]
    rw [if_neg (by decide), if_pos h0, if_pos (.inl h0), if_pos (.inl h0), h0]
    simp
  · rw [if_neg h0] at h
    obtain ⟨t1, t2, t3⟩ := tz_spec x (by omega)
    have hwx := width_le x hx
    have hsp := (width_spec x).1
    by_cases hf : fitW fr wi x
    · rw [if_pos hf, List.append_assoc] at h
      have h1 := rtake_one h
      have h2 : L.drop (a + 1) = [false] ++ (bitsOf (x / 2 ^ (64 - fr - wi)) wi ++ rest) := by
        rw [← List.drop_drop, h, List.append_assoc]; rfl
      have h3 := rtake_one h2
      have h4 : L.drop (a + 1 + 1) = bitsOf (x / 2 ^ (64 - fr - wi)) wi ++ rest := by
        rw [← List.drop_drop, h2]; rfl
      rw [h1]
      simp only [if_true]
      rw [h3]
      simp only [Bool.false_eq_true, if_false]
      rw [if_neg (by decide), if_neg h0, if_pos hf, if_pos (.inr hf), if_pos (.inr hf)]
      obtain ⟨f1, f2, f3⟩ := hf
      rw [rin_of f1 hw (Nat.dvd_trans (Nat.pow_dvd_pow 2 f3) t1) (Nat.lt_of_lt_of_le hsp (Nat.pow_le_pow_right (by omega) (by omega))) h4]
      simp only [List.length_append, bitsOf_length, List.length_cons, List.length_nil]
      congr 2
      simp only [Prod.mk.injEq, and_true]
      omega
    · rw [if_neg hf, List.append_assoc] at h
      have h1 := rtake_one h
      have h2 : L.drop (a + 1) = [true] ++ (bitsOf (64 - width x) 6 ++ (bitsOf (width x - tz x - 1) 6 ++ (bitsOf (x / 2 ^ tz x) (width x - tz x) ++ rest))) := by
        rw [← List.drop_drop, h, List.append_assoc, List.append_assoc, List.append_assoc]; rfl
      have h3 := rtake_one h2
      have h4 : L.drop (a + 1 + 1) = bitsOf (64 - width x) 6 ++ (bitsOf (width x - tz x - 1) 6 ++ (bitsOf (x / 2 ^ tz x) (width x - tz x) ++ rest)) := by
        rw [← List.drop_drop, h2]; rfl
      have h5 := rtake_of (by omega) h4
      have h6 : L.drop (a + 1 + 1 + 6) = bitsOf (width x - tz x - 1) 6 ++ (bitsOf (x / 2 ^ tz x) (width x - tz x) ++ rest) := by
        rw [← List.drop_drop, h4, List.drop_left' (bitsOf_length _ _)]
      have h7 := rtake_of (by omega) h6
      have h8 : L.drop (a + 1 + 1 + 6 + 6) = bitsOf (x / 2 ^ tz x) (width x - tz x) ++ rest := by
        rw [← List.drop_drop, h6, List.drop_left' (bitsOf_length _ _)]
      have hw1 := width_pos x (by omega)
      have m1 : (64 - width x) % 2 ^ 6 = 64 - width x := Nat.mod_eq_of_lt (by omega)
      have m2 : (width x - tz x - 1) % 2 ^ 6 = width x - tz x - 1 := Nat.mod_eq_of_lt (by omega)
      rw [m1] at h5
      rw [m2] at h7
      rw [h1]
      simp only [if_true]
      rw [h3]
      simp only [if_true]
      rw [h5]
      simp only
      rw [h7]
      simp only
      rw [if_neg h0, if_neg hf, if_neg (fun h => h.elim h0 hf), if_neg (fun h => h.elim h0 hf)]
      have hwd : width x - tz x - 1 + 1 = width x - tz x := by omega
      have hsh : 64 - (64 - width x) - (width x - tz x) = tz x := by omega
      rw [hwd, rin_of (by omega) (by omega) (by rw [hsh]; exact t1) (by rw [show 64 - (64 - width x) = width x by omega]; exact hsp) (by rw [hsh]; exact h8)]
      simp only [List.length_append, bitsOf_length, List.length_cons, List.length_nil]
      congr 2
      simp only [Prod.mk.injEq, and_true]
      omega
theorem eyeUnary_run {L : List Bool} {p k b : Nat} (h : eyeUnary L p 0 4 = (k, b, 0)) : run L p 4 = k ∧ rones L p = b := by
  unfold eyeUnary at h
  rw [if_neg (by omega)] at h
  have h4 : (4 : Int).toNat = 4 := rfl
  rw [h4] at h
  unfold rones
  have := run_le L 4 p
  split at h
  · next h1 => injection h with h2 h3; injection h3 with h3 _; rw [if_neg (by omega)]; omega
  · next h1 =>
    split at h
    · injection h with h2 h3; injection h3 with h3 _; rw [if_pos (by omega)]; omega
    · injection h with h2 h3; injection h3 with _ h3; cases h3
theorem rtime_of {L rest : List Bool} {a u : Nat} (hu : u < 18446744073709551616) (h : L.drop a = timeB u ++ rest) : rtime L a = (u, a + (timeB u).length) := by
  unfold timeB at h
  rw [List.append_assoc] at h
  have h1 := eyeUnary_of h
  have hk := kind_le u
  have ho : ones (kind u : Int) 4 = kind u := by unfold ones; omega
  rw [ho] at h1
  obtain ⟨g1, g2⟩ := eyeUnary_run h1
  have h2 : L.drop (a + (unary (kind u : Int) 4).length) = bitsOf u (wd (kind u)) ++ rest := by
    rw [← List.drop_drop, h, List.drop_left]
  unfold rtime
  rw [g1, g2]
  have hlen : a + (timeB u).length = a + (unary (kind u : Int) 4).length + wd (kind u) := by unfold timeB; rw [List.length_append, bitsOf_length]; omega
  rcases Nat.eq_zero_or_pos (wd (kind u)) with h0 | h0
  · have hul : 0 < (unary (kind u : Int) 4).length := by
      unfold unary
      rw [ho]
      have hk0 : kind u = 0 := by
        rcases Nat.eq_zero_or_pos (kind u) with h | h
        · exact h
        · exfalso
          have := hk
          rcases (show kind u = 1 ∨ kind u = 2 ∨ kind u = 3 ∨ kind u = 4 by omega) with h | h | h | h <;> rw [h] at h0 <;> simp [wd] at h0
      rw [hk0]; simp
    have hle := drop_len h hul
    have hu0 : u = 0 := by
      have := kind_wd u hu
      rw [h0] at this
      rcases Nat.eq_zero_or_pos u with h | h
      · exact h
      · rw [width_pos u h] at this; omega
    rw [h0, rtake_zero hle, hlen, h0, Nat.add_zero, hu0]
  · rw [rtake_of h0 h2, mod_of_width (kind_wd u hu), hlen]

structure RSync (r : RS) (s : St) : Prop where
  step : r.step = s.step
  fr : r.fr = s.lead
  wi : r.wi = s.wide
theorem rloop_of (L : List Bool) : ∀ (l : List Sm) (s s' : St) (r : RS) (acc : List Sm) (rest : List Bool), RSync r s → s.Ok → (∀ x ∈ l, x.2 < 18446744073709551616) → ofS s l = (s', 0) → L.drop r.a = more s l ++ rest → r.a ≤ L.length →
    (s.n = 0 → acc = []) → (0 < s.n → acc.getLast? = some (s.t, s.v)) → ∃ b, rloop L l.length r acc = some (acc ++ l, b) ∧ b ≤ L.length
  | [], s, s', r, acc, rest, _, _, _, _, _, ha, _, _ => ⟨r.a, by simp [rloop], ha⟩
  | x :: l, s, s', r, acc, rest, hy, hs, hx, ho, hd, ha, hn0, hn1 => by
    rw [ofS] at ho
    by_cases he : err s x = 0
    · rw [if_pos he] at ho
      obtain ⟨e1, e2, e3, e4⟩ := err_zero he
      have hx0 := hx x (by simp)
      rw [more, List.append_assoc] at hd
      obtain ⟨pn, pt, pv⟩ := put_n s x
      have ih := fun r' h1 h3 h4 => rloop_of L l (s.put x) s' r' (acc ++ [x]) rest h1 (hs.put he hx0) (fun z hz => hx z (by simp [hz])) ho h3 h4 (fun h => by rw [pn] at h; omega) (fun _ => by rw [List.getLast?_concat, pt, pv])
      rw [List.length_cons, rloop, if_pos ha]
      unfold inc at hd
      by_cases h0 : s.n = 0
      · rw [if_pos h0, List.append_assoc] at hd
        rw [hn0 h0]
        simp only [List.getLast?_nil]
        have h1 := rtake_of (by omega) hd
        have h2 : L.drop (r.a + 41) = bitsOf x.2 64 ++ (more (s.put x) l ++ rest) := by rw [← List.drop_drop, hd, List.drop_left' (bitsOf_length _ _)]
        have h3 := rtake_of (by omega) h2
        have hle := drop_len h2 (by rw [bitsOf_length]; omega)
        rw [bitsOf_length] at hle
        have hf : rfirst L r = (x, { r with a := r.a + 41 + 64 }) := by
          unfold rfirst
          rw [h1]
          simp only
          rw [h3]
          have hm1 : x.1.toNat % 2 ^ 41 = x.1.toNat := Nat.mod_eq_of_lt (by omega)
          have hm2 : x.2 % 2 ^ 64 = x.2 := Nat.mod_eq_of_lt (by simpa using hx0)
          rw [hm1, hm2, wrap64_of _ (by omega) (by omega)]
          have : ((x.1.toNat : Nat) : Int) = x.1 := by omega
          rw [this]
        rw [hf]
        rw [hn0 h0] at ih
        obtain ⟨b, hb1, hb2⟩ := ih { r with a := r.a + 41 + 64 } ⟨by unfold St.put; rw [if_pos h0]; exact hy.step, by unfold St.put; rw [if_pos h0]; exact hy.fr, by unfold St.put; rw [if_pos h0]; exact hy.wi⟩ (by
          show L.drop (r.a + 41 + 64) = _
          rw [← List.drop_drop, h2, List.drop_left' (bitsOf_length _ _)]) hle
        exact ⟨b, by simpa using hb1, hb2⟩
      · rw [if_neg h0, List.append_assoc] at hd
        rw [hn1 (by omega)]
        simp only
        have hxx := xor_lt hx0 hs.v
        have ht := hs.t
        have hst := hs.step
        have e3 := e3 (by omega)
        have hu := fold_lt (x.1 - s.t - s.step) (by omega) (by omega)
        have h1 := rtime_of hu hd
        have h2 : L.drop (r.a + (timeB (fold (x.1 - s.t - s.step))).length) = valB s.lead s.wide (x.2 ^^^ s.v) ++ (more (s.put x) l ++ rest) := by
          rw [← List.drop_drop, hd, List.drop_left]
        have h3 := rval_of hs.win hxx h2
        have hvl : 0 < (valB s.lead s.wide (x.2 ^^^ s.v)).length := by
          unfold valB
          split
          · simp
          · split <;> simp
        have hle := drop_len h2 hvl
        have hr : rrest L r (s.t, s.v) = some (x, ⟨r.a + (timeB (fold (x.1 - s.t - s.step))).length + (valB s.lead s.wide (x.2 ^^^ s.v)).length, x.1 - s.t, valL s.lead s.wide (x.2 ^^^ s.v), valW s.lead s.wide (x.2 ^^^ s.v)⟩) := by
          unfold rrest rstep
          rw [h1, hy.fr, hy.wi]
          simp only
          rw [h3]
          simp only
          rw [unfold_fold, hy.step, show s.step + (x.1 - s.t - s.step) = x.1 - s.t by omega, wrap64_of (x.1 - s.t) (by omega) (by omega), show s.t + (x.1 - s.t) = x.1 by omega, wrap64_of x.1 (by omega) (by omega)]
          have hv : s.v ^^^ (x.2 ^^^ s.v) = x.2 := by
            rw [Nat.xor_comm x.2 s.v, ← Nat.xor_assoc, Nat.xor_self, Nat.zero_xor]
          rw [hv]
        rw [hr]
        simp only
        obtain ⟨b, hb1, hb2⟩ := ih ⟨r.a + (timeB (fold (x.1 - s.t - s.step))).length + (valB s.lead s.wide (x.2 ^^^ s.v)).length, x.1 - s.t, valL s.lead s.wide (x.2 ^^^ s.v), valW s.lead s.wide (x.2 ^^^ s.v)⟩ ⟨by unfold St.put; rw [if_neg h0], by unfold St.put; rw [if_neg h0], by unfold St.put; rw [if_neg h0]⟩ (by
          show L.drop (_ + _ + _) = _
          rw [← List.drop_drop, h2, List.drop_left]) hle
        exact ⟨b, by rw [hb1, List.append_assoc]; rfl, hb2⟩
    · rw [if_neg he] at ho
      simp only [Prod.mk.injEq] at ho
      exact absurd ho.2 he

theorem rsamples_of {l : List Sm} {s : St} (h : ofS St.zero l = (s, 0)) (hx : ∀ x ∈ l, x.2 < 18446744073709551616) : rsamples (text s) = some l := by
  have hok : s.Ok := by
    have := ofS_ok l St.zero St.zero_ok hx
    rw [h] at this
    exact this
  obtain ⟨hb, hn⟩ := ofS_more l _ _ h
  have hn' : s.n = l.length := by rw [hn]; show 0 + l.length = _; omega
  have hb' : s.bits = more St.zero l := by rw [hb]; rfl
  have h1 := hok.n
  have h2 := hok.len
  unfold rsamples
  have ht : text s = u s.n ++ (u s.bits.length ++ pack s.bits) := rfl
  rw [ht, takeMost_u s.n _ 120 (by omega) (by omega)]
  simp only
  rw [if_neg (by omega), takeMost_u s.bits.length _ 1048576 (by omega) (by omega)]
  simp only
  rw [if_neg (by omega), if_neg (by rw [pack_length]; omega), ← ht]
  obtain ⟨b, hl, hle⟩ := rloop_of s.bits l St.zero s RS.zero [] [] ⟨rfl, rfl, rfl⟩ St.zero_ok hx h (by rw [List.append_nil]; exact hb') (Nat.zero_le _) (fun _ => rfl) (fun h => absurd h (by decide))
  unfold rbody rdone
  rw [unpack_pack_take, hn', hl]
  simp only [List.nil_append]
  rw [if_neg]
  rintro (g | g | g | g)
  · omega
  · exact g rfl
  · rw [h] at g; exact g rfl
  · rw [h] at g; exact g rfl

end Go.Bar.Xor
