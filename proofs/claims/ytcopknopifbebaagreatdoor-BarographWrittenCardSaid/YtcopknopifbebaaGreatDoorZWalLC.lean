/-
  Law 11 (wal): awake.
-/
import Derived.Test.YtcopknopifbebaaGreatDoorZWalEH
import Derived.Test.YtcopknopifbebaaGreatDoorZLib5
import Derived.Test.YtcopknopifbebaaGreatDoorZWalEE
import Derived.Test.YtcopknopifbebaaGreatDoorZLib11
import Derived.Test.YtcopknopifbebaaGreatDoorZLebM
import Derived.Lib.Bytealg
import Derived.Test.YtcopknopifbebaaGreatDoorZFrmN
import Derived.Test.YtcopknopifbebaaGreatDoorZLib4
import Derived.Lib.Strings
import Derived.BigQuiet
import Derived.Deep.QuietTactic
import Derived.Test.YtcopknopifbebaaGreatDoorZLib14
import Derived.Test.YtcopknopifbebaaGreatDoorZLib16
import Derived.Test.YtcopknopifbebaaGreatDoorZShelf
import Derived.Lib.BufferMore

namespace Go.Bar.Wal
open Go.RowKit Go.Bar Go.Bar.Leb Go.Bar.Frm Go.Proofs
theorem nl_rec : ¬ LTs 34 := fun c => by
  rcases c with c | c
  · rcases c with c | c | c <;> exact absurd c (by decide)
  · exact absurd c (by decide)
end Go.Bar.Wal
namespace Go.Proofs.YtcopknopifbebaaGreatDoor
open Go.RowKit Go.Bar Go.Bar.Wal Go.Bar.Leb Go.Bar.Frm Go.Conc
attribute [local go_sem] Oper.semAt_some

theorem open_ok (w : World) (h : Hd) (d : Ds) (B c : Nat) (limit : Int) (d' : Ds) (g' : Lg) (got : List Rc) (hw : wOpen d limit = (0, d', g', got)) (k : DkAt w h d) (hE : EnvAt w) (hB : h.Hi B) (hB4 : 4 ≤ B) (ha : Wal.Acc c d) (hc : c ≤ 10000) (hr : d.room ≤ 10000000) :
    Calls Tryz.prog 12 #[.pointer (some ⟨h.D, 0, none⟩), .int .i64 limit] w fun en w' => ∃ L A cp, en = .returned (.tuple #[.pointer (some ⟨L, 0, none⟩), .slice A got.length cp, .int .i64 0]) ∧ DkAt w' h d' ∧ LgAt w' L h g' ∧ B ≤ L ∧ Off LTs B w w' ∧ Buf w' 34 2 (.slice A got.length cp) got.length (frcs got) := by
  have hB0 := hiA k hB
  refine (lOpen_any w h d B c limit k hE hB hB4 ha hc hr).mono ?_
  rw [hw]
  rintro en w' ⟨k', o', hh⟩
  rcases hh with ⟨hh, _⟩ | ⟨_, L, v, rfl, l', hL, hbuf⟩
  · exact absurd rfl hh
  · obtain ⟨A, cp, rfl, _⟩ := hbuf.shape
    exact ⟨L, A, cp, rfl, k', l', Nat.le_trans hB0 hL, o', hbuf⟩
theorem append_ok (w : World) (L : Nat) (h : Hd) (d : Ds) (g : Lg) (B c : Nat) (v : Value) (rs : List Rc) (e : Nat) (d' : Ds) (g' : Lg) (hw : wAppend d g rs = (e, d', g')) (k : DkAt w h d) (kl : LgAt w L h g) (hE : EnvAt w) (hB : h.Hi B) (hL : B ≤ L) (hB4 : 4 ≤ B) (ha : Wal.Acc c d) (hc : c ≤ 100000) (hr : d.room ≤ 10000000)
    (hv : RecsAt w v rs) (hn : rs.length ≤ 20) (hs : ∀ r ∈ rs, r.2.length ≤ 1000) (hg1 : 1 ≤ g.limit) (hg2 : g.limit ≤ 9223372036854775807) (hg3 : g.seg ≤ 1000000) (hg4 : g.size ≤ 1000000000) :
    Calls Tryz.prog 14 #[.pointer (some ⟨L, 0, none⟩), v] w fun en w' => en = .returned (.int .i64 (e : Nat)) ∧ DkAt w' h d' ∧ LgAt w' L h g' ∧ Off LTs B w w' := by
  refine (lAppend_any w L h d g B c v rs k kl hE hB hL hB4 ha hc hr hv hn hs hg1 hg2 hg3 hg4).mono ?_
  rw [hw]
  rintro en w' ⟨h1, h2, h3, h4⟩
  exact ⟨h1, h2, h3, h4⟩
set_option maxHeartbeats 8000000 in
set_option maxRecDepth 10000 in
theorem awake11_any (w : World) (hE : EnvAt w) : Calls Tryz.prog 17 #[] w (RetBelow w (.bool true)) := by
  have hB4 := hE.four
  obtain ⟨B, hBe⟩ : ∃ B, B = w.heap.size := ⟨_, rfl⟩
  rw [← hBe] at hB4
  have hE0 := Lib.hid hE
  have hnew := Lib.hid (new_any w 1000)
  rw [← hBe] at hnew
  have hopen1 := Lib.hid (fun wx h (kx : DkAt wx h (Ds.new 1000)) hx (hB : h.Hi B) => open_ok wx h (Ds.new 1000) B 0 100 (Ds.new 1000) (awG 0 false) [] (open_new 1000 100).1 kx hx hB hB4 (Acc.new 1000) (by decide) (by decide))
  have happ1 := Lib.hid (fun wx L h v (kx : DkAt wx h (Ds.new 1000)) (lx : LgAt wx L h (awG 0 false)) hx (hB : h.Hi B) (hL : B ≤ L) (hv : RecsAt wx v awAB) => append_ok wx L h _ _ B 0 v awAB _ _ _ aw1 kx lx hx hB hL hB4 (Acc.new 1000) (by decide) (by decide) hv (by decide) (by decide) (by decide) (by decide) (by decide) (by decide))
  have harm := Lib.hid (fun wx h (kx : DkAt wx h (awD (laid awAB) 14 14 Fz.none_)) (hB : h.Hi B) => arm_any wx h _ B 1 false kx hB (by decide))
  have happ2 := Lib.hid (fun wx L h v (kx : DkAt wx h (awD (laid awAB) 14 14 ⟨[(1, false)], none⟩)) (lx : LgAt wx L h (awG 14 false)) hx (hB : h.Hi B) (hL : B ≤ L) (hv : RecsAt wx v awC) => append_ok wx L h _ _ B 1 v awC _ _ _ aw3 kx lx hx hB hL hB4 (aw_acc.fuse (z := ⟨[(1, false)], none⟩) (by decide)) (by decide) (by decide) hv (by decide) (by decide) (by decide) (by decide) (by decide) (by decide))
  have happ3 := Lib.hid (fun wx L h v (kx : DkAt wx h (awD (laid awAB ++ laid awC) 14 21 Fz.none_)) (lx : LgAt wx L h (awG 21 true)) hx (hB : h.Hi B) (hL : B ≤ L) (hv : RecsAt wx v awC) => append_ok wx L h _ _ B 2 v awC _ _ _ aw4 kx lx hx hB hL hB4 aw_acc3 (by decide) (by decide) hv (by decide) (by decide) (by decide) (by decide) (by decide) (by decide))
  obtain ⟨d6, g6, hw6⟩ := aw6
  have hcr := Lib.hid (fun wx h (kx : DkAt wx h (awD (laid awAB ++ laid awC) 14 21 Fz.none_)) (hB : h.Hi B) => crash_any wx h _ B 2 kx hB aw_acc3 (by decide) (by decide) none 0 [] (by decide) (fun w' _ => SlAt.of_buf (Buf.nil w' 3 1)))
  have hopen2 := Lib.hid (fun wx h (kx : DkAt wx h (awD (laid awAB) 14 14 Fz.none_)) hx (hB : h.Hi B) => open_ok wx h _ B 1 100 d6 g6 awAB hw6 kx hx hB hB4 aw_acc (by decide) (by decide))
  replace hopen2 : Hid (∀ wx h, DkAt wx h (awD (laid awAB) 14 14 Fz.none_) → EnvAt wx → h.Hi B → Calls Tryz.prog 12 #[.pointer (some ⟨h.D, 0, none⟩), .int .i64 100] wx fun en w' => ∃ L A cp, en = .returned (.tuple #[.pointer (some ⟨L, 0, none⟩), .slice A 2 cp, .int .i64 0]) ∧ DkAt w' h d6 ∧ LgAt w' L h g6 ∧ B ≤ L ∧ Off LTs B wx w' ∧ Buf w' 34 2 (.slice A 2 cp) 2 (frcs awAB)) := hopen2
  rw [aw2] at harm
  rw [aw5] at hcr
  have hEx : ∀ wx, Below B w wx → EnvAt wx := fun wx hb => hE.bel hb hB4
  replace hEx := Lib.hid hEx
  clear hE hw6
  go_enter Tryz.func17, Tryz.ntmps17
  go_upto_region 5 with (first
    | (go_at_call 11; refine hnew.out.mono ?_; rintro e w1 ⟨h, rfl, k1, hB, hb1⟩)
    | (go_at_call 12; refine (hopen1.out w1 h k1 (hEx.out _ hb1) hB).mono ?_; rintro e w2 ⟨L, A, cp, rfl, k2, l2, hL, o2, _⟩))
  go_upto_region 6 with fail
  have hba : Below w2.heap.size w2 (((w2.alloc (.cells #[.int .u8 1, .string { data := #[97] }] 34)).alloc (.cells #[.int .u8 1, .string { data := #[98] }] 34)).alloc (.cells #[.int .u8 1, .string { data := #[99] }] 34)) := (((Below.refl _ w2).alloc (Nat.le_refl _) _).alloc (by simp) _).alloc (by simp; omega) _
  have BA : Blk (((w2.alloc (.cells #[.int .u8 1, .string { data := #[97] }] 34)).alloc (.cells #[.int .u8 1, .string { data := #[98] }] 34)).alloc (.cells #[.int .u8 1, .string { data := #[99] }] 34)) w2.heap.size 34 #[.int .u8 1, .string { data := #[97] }] := ((blk_at rfl).alloc _).alloc _
  have BB : Blk (((w2.alloc (.cells #[.int .u8 1, .string { data := #[97] }] 34)).alloc (.cells #[.int .u8 1, .string { data := #[98] }] 34)).alloc (.cells #[.int .u8 1, .string { data := #[99] }] 34)) (w2.heap.size + 1) 34 #[.int .u8 1, .string { data := #[98] }] := (blk_at (by simp)).alloc _
  have BC : Blk (((w2.alloc (.cells #[.int .u8 1, .string { data := #[97] }] 34)).alloc (.cells #[.int .u8 1, .string { data := #[98] }] 34)).alloc (.cells #[.int .u8 1, .string { data := #[99] }] 34)) (w2.heap.size + 1 + 1) 34 #[.int .u8 1, .string { data := #[99] }] := blk_at (by simp)
  obtain ⟨w3, hw3⟩ : ∃ w3, w3 = (((w2.alloc (.cells #[.int .u8 1, .string { data := #[97] }] 34)).alloc (.cells #[.int .u8 1, .string { data := #[98] }] 34)).alloc (.cells #[.int .u8 1, .string { data := #[99] }] 34)) := ⟨_, rfl⟩
  rw [← hw3] at hba BA BB BC ⊢
  clear hw3
  have k3 := k2.below hba
  have l3 := l2.below hba
  have o1 : Off LTs B w w1 := ⟨Kc.of_below (by have := hb1; rwa [hBe] at this), hb1⟩
  have o3 : Off LTs B w w3 := o1.trans (o2.trans (Off.of_below hba (hiA k2 hB)))
  have al : ∀ wx (o : Obj), Below wx.heap.size wx (wx.alloc o) := fun wx o => (Below.refl _ _).alloc (Nat.le_refl _) o
  have AL := Lib.hid al
  clear hba k2 l2 o2 k1 hb1 al hnew hopen1
  obtain ⟨a0, a1⟩ := Blk.c2 BA
  obtain ⟨b0, b1⟩ := Blk.c2 BB
  have K3 := Lib.hid k3
  have L3 := Lib.hid l3
  have O3 := Lib.hid o3
  have HBC := Lib.hid BC
  have HBB := Lib.hid BB
  clear k3 l3 o3 BA BB BC
  have lit1 : ∀ wx : World, Hid (RecsAt (wx.alloc (.cells #[.int .u8 1, .string { data := #[97] }, .int .u8 1, .string { data := #[98] }] 34)) (.slice (some ⟨wx.heap.size, 0, none⟩) 2 2) awAB) := fun wx => SlAt.of_buf (Buf.lit wx 34 2 2 [.int .u8 1, .string (bs [97]), .int .u8 1, .string (bs [98])] rfl (by decide))
  have lit2 : ∀ wx : World, Hid (RecsAt (wx.alloc (.cells #[.int .u8 1, .string { data := #[99] }] 34)) (.slice (some ⟨wx.heap.size, 0, none⟩) 1 1) awC) := fun wx => SlAt.of_buf (Buf.lit wx 34 2 1 [.int .u8 1, .string (bs [99])] rfl (by decide))
  have LIT1 := Lib.hid lit1
  have LIT2 := Lib.hid lit2
  clear lit1 lit2
  have d2l : ∀ T, DT0 T → LTs T := fun T h => dlt T (dt0 T h)
  have D2L := Lib.hid d2l
  clear d2l
  go_upto_region 8 with (first
    | (go_at_call 14; refine (happ3.out _ L h _ (k6.below (AL.out _ _)) (l6.below (AL.out _ _)) (hEx.out _ ((O3.out.trans P6.out).trans (Off.of_below (AL.out _ _) (hiA k6 hB))).bel) hB hL (LIT2.out _).out).mono ?_; rintro e w7 ⟨rfl, k7, l7, o7⟩; have P7 := Lib.hid (P6.out.trans ((Off.of_below (AL.out _ _) (hiA k6 hB)).trans o7)))
    | (go_at_call 14; refine (happ2.out _ L h _ (k5.below (AL.out _ _)) (l5.below (AL.out _ _)) (hEx.out _ ((O3.out.trans P5.out).trans (Off.of_below (AL.out _ _) (hiA k5 hB))).bel) hB hL (LIT2.out _).out).mono ?_; rintro e w6 ⟨rfl, k6, l6, o6⟩; have P6 := Lib.hid (P5.out.trans ((Off.of_below (AL.out _ _) (hiA k5 hB)).trans o6)); obtain ⟨e0, e1⟩ := Blk.c2 (P6.out.kc.blk HBC.out nl_rec))
    | (go_at_call 18; refine (harm.out _ h k4 hB).mono ?_; rintro e w5 ⟨rfl, k5, o5⟩; have l5 := l4.off (o5.wide dt0); have P5 := Lib.hid (P4.out.trans (o5.wide D2L.out)); obtain ⟨c0, c1⟩ := Blk.c2 (P5.out.kc.blk HBC.out nl_rec))
    | (go_at_call 14; refine (happ1.out _ L h _ (K3.out.below (AL.out _ _)) (L3.out.below (AL.out _ _)) (hEx.out _ (O3.out.trans (Off.of_below (AL.out _ _) (hiA K3.out hB))).bel) hB hL (LIT1.out _).out).mono ?_; rintro e w4 ⟨rfl, k4, l4, o4⟩; have x0 := (d_cells k4).1; have P4 := Lib.hid ((Off.of_below (Ts := LTs) (AL.out _ _) (hiA K3.out hB)).trans o4)))
  go_upto_region 10 with (first
    | (go_at_call 19; refine (hcr.out _ h k7 hB).mono ?_; rintro e w8 ⟨rfl, k8, o8⟩; have P8 := Lib.hid (P7.out.trans (o8.wide dlt)))
    | (go_at_call 12; refine (hopen2.out w8 h k8 (hEx.out _ (O3.out.trans P8.out).bel) hB).mono ?_; rintro e w9 ⟨L9, A9, cp9, rfl, k9, l9, hL9, o9, hb9⟩; have P9 := Lib.hid (P8.out.trans o9)))
  have BB9 := Lib.hid (P9.out.kc.blk HBB.out nl_rec)
  have hE9 := Lib.hid (hEx.out _ (O3.out.trans P9.out).bel)
  have hbel : Below w.heap.size w w9 := by have := (O3.out.trans P9.out).bel; rwa [hBe] at this
  obtain ⟨b9, o9', rfl, hlt9, hc9⟩ := (SlAt.of_buf hb9).cells (by decide)
  have g2 := Lib.hid (hc9 2 (.int .u8 1) rfl)
  have g3 := Lib.hid (hc9 3 (.string (bs [98])) rfl)
  have HLT := Lib.hid hlt9
  clear hc9 hb9 hlt9
  have hn7 : ∀ wx, Below w9.heap.size w9 wx → Calls Tryz.prog 25 #[.int .i64 7] wx (RetBelow wx (.string (bs [119, 97, 108, 45, 48, 48, 48, 48, 48, 48, 48, 55]))) := fun wx hw => by
    have := name_any wx (hE9.out.below hw) 7 (by decide)
    rw [aw_seven] at this
    exact this
  have HN7 := Lib.hid hn7
  clear hn7
  refine wp_region_known [(10, .agg #[.int .u8 1, .string (bs [98])]), (11, .agg #[.int .u8 1, .string (bs [98])]), (15, .string (bs [119, 97, 108, 45, 48, 48, 48, 48, 48, 48, 48, 55]))] (by kernel_rfl) 86 (by kernel_rfl) rfl ?_
  repeat (first
    | (refine Chain.step (v := ?_) (a' := ?_) rfl rfl rfl ?_ ?_ ?_; rotate_left 2; (focus (intro w; go_simp; try with_reducible rfl)); focus (simp only [Act.put, pqA, pqS, pqZ]; try rfl))
    | (refine Chain.call (i := 10) (a' := ?_) _ rfl rfl rfl (fun wx hw => ?_) ?_ ?_; rotate_left 1; (focus (have q2 : wx.cell? ⟨b9, o9' + 2, none⟩ = some (.int .u8 1) := (hw.cell (p := ⟨b9, o9' + 2, none⟩) HLT.out).trans g2.out); (have q3 : wx.cell? ⟨b9, o9' + 2 + 1, none⟩ = some (.string (bs [98])) := (hw.cell (p := ⟨b9, o9' + 3, none⟩) HLT.out).trans g3.out); (go_simp); (first | exact ⟨rfl, rB⟩ | exact rB)); focus (simp only [Act.put, pqA, pqS, pqZ]; try rfl))
    | (refine Chain.call (i := 11) (a' := ?_) _ rfl rfl rfl (fun wx hw => ?_) ?_ ?_; rotate_left 1; (focus (obtain ⟨q2, q3⟩ := Blk.c2 (BB9.out.below hw)); (go_simp); (first | exact ⟨rfl, rB⟩ | exact rB)); focus (simp only [Act.put, pqA, pqS, pqZ]; try rfl))
    | (refine Chain.call (i := 15) (a' := ?_) _ rfl rfl rfl (fun wx hw => ?_) ?_ ?_; rotate_left 1; (focus (go_simp; (with_reducible refine (HN7.out wx hw).mono ?_); exact (fun e w' ⟨h1, h2⟩ => by subst h1; exact ⟨rfl, h2⟩))); focus (simp only [Act.put, pqA, pqS, pqZ]; try rfl))
    | (refine Chain.skip (a' := ?_) rfl rfl rfl ?_ ?_; rotate_left 1; focus (simp only [Act.put, pqA, pqS, pqZ]; try rfl)))
  refine Chain.end_ (fun wy hwy _ => ?_)
  go_wp2_with fail
  go_ret
  exact ⟨rfl, hbel.trans (hwy.mono hbel.size)⟩
end Go.Proofs.YtcopknopifbebaaGreatDoor

namespace Go.Bar.Wal
open Go.RowKit Go.Bar Go.Bar.Leb Go.Bar.Frm
structure WrI (k : Nat) (d : Ds) : Prop where
  acc : Acc k d
  fz : d.fz = Fz.none_
  rm : d.room = 1048576
  us : d.used ≤ 150 * k
theorem WrI.mono {k : Nat} {d : Ds} (h : WrI k d) : WrI (k + 1) d := ⟨h.acc.mono (Nat.le_succ _), h.fz, h.rm, by have := h.us; omega⟩
theorem WrI.append {k : Nat} {d : Ds} (h : WrI k d) (hk : k ≤ 100) {n : Nm} {s : List UInt8} (h0 : n ≠ []) (h1 : n.length ≤ 30) (h2 : s.length ≤ 150) : ∃ d', d.append n s = (0, d') ∧ WrI (k + 1) d' := by
  have hb : ¬ badName n := fun e => e.elim h0 (fun e => by omega)
  have hus := h.us
  have hrm := h.rm
  have hf : ¬ d.free < (s.length : Int) := by unfold Ds.free; omega
  have ha := h.acc.append n s
  have e : d.append n s = (0, { d with fs := fput d.fs n ⟨((fnd d.fs n).getD Fi.z).s ++ s, ((fnd d.fs n).getD Fi.z).sure⟩, used := d.used + s.length }) := by
    unfold Ds.append Ds.do_
    rw [if_neg hb, if_neg hf, h.fz]
    rfl
  rw [e] at ha
  exact ⟨_, e, ha, h.fz, h.rm, by show d.used + s.length ≤ _; omega⟩
theorem WrI.len {k : Nat} {d : Ds} (h : WrI k d) : ∀ p ∈ d.fs, p.2.s.length ≤ 150 * k := fun p hp => by
  obtain ⟨n, f⟩ := p
  have h1 := h.acc.srt.fnd hp
  have h2 := len_le_tot d.fs n
  rw [len_some h1] at h2
  have h3 := h.acc.use
  have h4 := h.us
  show f.s.length ≤ _
  omega
structure OpI (R : List Rc) (c : Nat) (d : Ds) : Prop where
  acc : Acc c d
  fz : d.fz = Fz.none_
  rm : d.room = 1048576
  all : refAll d.fs = R
theorem OpI.open_ {R : List Rc} {c : Nat} {d : Ds} (h : OpI R c d) (limit : Int) : ∃ d' g, wOpen d limit = (0, d', g, since R) ∧ Acc c d' ∧ d'.room = 1048576 ∧ OpI R c (d'.crash []) := by
  obtain ⟨d', g, e, e1, e2, e3⟩ := opens h.acc.srt h.fz limit h.acc.sok
  have ha := h.acc.wOpen limit
  have hr := wOpen_room d limit
  rw [e] at ha hr
  rw [h.all] at e e3
  exact ⟨d', g, e, ha, hr.trans h.rm, ha.crash [], rfl, hr.trans h.rm, e3 [] ha.sok⟩
end Go.Bar.Wal
namespace Go.Proofs.YtcopknopifbebaaGreatDoor
open Go.RowKit Go.Bar Go.Bar.Wal Go.Bar.Leb Go.Bar.Frm Go.Conc
attribute [local go_sem] Oper.semAt_some
theorem nl_rrec : ¬ LTs 78 := fun c => by
  rcases c with c | c
  · rcases c with c | c | c <;> exact absurd c (by decide)
  · exact absurd c (by decide)
def StrsAt (W : World) (v : Value) (ss : List (List UInt8)) : Prop := SlAt W 1 v ss.length (scs ss) ∧ ∀ s ∈ ss, s.length ≤ maxLen

set_option maxHeartbeats 8000000 in
set_option maxRecDepth 10000 in
theorem walReads_any (nv tv : Value) (ns ts : List (List UInt8)) (limit : Int) (w : World) (hN : StrsAt w nv ns) (hT : StrsAt w tv ts) (hE : EnvAt w) :
    Calls Tryz.prog 10 #[nv, tv, .int .i64 limit] w (RetBelow w (.bool true)) := by
  obtain ⟨A, c, rfl, hlc, hcm⟩ := hN.1.shape
  obtain ⟨A2, c2, rfl, hlc2, hcm2⟩ := hT.1.shape
  unfold maxLen at hcm hcm2
  have hB4 := hE.four
  obtain ⟨B, hBe⟩ : ∃ B, B = w.heap.size := ⟨_, rfl⟩
  rw [← hBe] at hB4
  have hEx : ∀ wx, Below B w wx → EnvAt wx := fun wx hb => hE.bel hb hB4
  have HEX := Lib.hid hEx
  have hbs : ∀ wx, Off LTs B w wx → B ≤ wx.heap.size := fun wx o => by rw [hBe]; exact o.size
  have HBS := Lib.hid hbs
  have hbw : ∀ wx, Off LTs B w wx → Below w.heap.size w wx := fun wx o => by have := o.bel; rwa [hBe] at this
  have HBW := Lib.hid hbw
  have HN1 := Lib.hid hN.1
  have HN2 := Lib.hid hN.2
  have HT1 := Lib.hid hT.1
  have HT2 := Lib.hid hT.2
  have hnew := Lib.hid (new_any w 1048576)
  rw [← hBe] at hnew
  clear hEx hbs hbw hE hN hT
  go_enter Tryz.func10, Tryz.ntmps10
  go_wp2_with (first
    | (go_at_call 11; refine hnew.out.mono ?_; rintro e w1 ⟨h, rfl, k1, hB, hb1⟩)
    | (go_at_call 17; refine (awake11_any w1 (HEX.out _ hb1)).mono ?_; rintro e w2 ⟨rfl, hb2⟩))
  have O2 := Lib.hid ((show Off LTs B w w1 from ⟨Kc.of_below (by have := hb1; rwa [hBe] at this), hb1⟩).trans (Off.of_below hb2 (by rw [hBe]; exact (show Off LTs B w w1 from ⟨Kc.of_below (by have := hb1; rwa [hBe] at this), hb1⟩).size)))
  have K2 := Lib.hid (k1.below hb2)
  have I2 : Hid (WrI 0 (Ds.new 1048576)) := ⟨Acc.new _, rfl, rfl, Int.le_refl _⟩
  clear hnew k1 hb1 hb2
  go_loopw [8] (fun i wr => ∃ (k : Nat) (d : Ds), i = .int .i64 k ∧ k ≤ ns.length ∧ k ≤ ts.length ∧ k ≤ 5 ∧ Hid (WrI k d) ∧ Hid (DkAt wr h d) ∧ Hid (Off LTs B w wr)) (fun i _ => 5 - (intOf i).toNat)
  case atStart => exact ⟨0, _, rfl, Nat.zero_le _, Nat.zero_le _, by omega, I2, K2, O2⟩
  case round =>
    obtain ⟨k, d, rfl, hk, hk', hk5, hI, hkk, hoo⟩ := hrel
    by_cases hgo : k < ns.length ∧ k < ts.length ∧ k < 5
    · obtain ⟨hk1, hk2, hk3⟩ := hgo
      obtain ⟨n, hn⟩ : ∃ r, ns[k]? = some r := ⟨_, List.getElem?_eq_getElem hk1⟩
      obtain ⟨t, ht⟩ : ∃ r, ts[k]? = some r := ⟨_, List.getElem?_eq_getElem hk2⟩
      have hbl := HBW.out _ hoo.out
      obtain ⟨b, o, rfl, hlt, hcell⟩ := (HN1.out.below hbl).cells (by omega)
      obtain ⟨b2, o2, rfl, hlt2, hcell2⟩ := (HT1.out.below hbl).cells (by omega)
      have c0 := hcell k (.string (bs n)) (scs_at hn)
      have c1 := hcell2 k (.string (bs t)) (scs_at ht)
      have hnl := HN2.out _ (List.mem_of_getElem? hn)
      have htl := HT2.out _ (List.mem_of_getElem? ht)
      have hci : (0 : Int) ≤ (k : Int) := by omega
      have hci2 : (k : Int) < ns.length := by omega
      have hci3 : (k : Int) < ts.length := by omega
      have cN := Lib.hid (fun w => cut_any (bs n) 30 w (by omega) (by omega) (by rw [bs_size]; exact hnl))
      have cT := Lib.hid (fun w => cut_any (bs t) 150 w (by omega) (by omega) (by rw [bs_size]; exact htl))
      obtain ⟨n2, hn2⟩ : ∃ n2, n2 = n.take 30 := ⟨_, rfl⟩
      obtain ⟨t2, ht2⟩ : ∃ t2, t2 = t.take 150 := ⟨_, rfl⟩
      have hnl2 : n2.length ≤ 30 := by rw [hn2, List.length_take]; omega
      have htl2 : t2.length ≤ 150 := by rw [ht2, List.length_take]; omega
      replace cN : Hid (∀ w, Calls Tryz.prog 31 #[.string (bs n), .int .i64 30] w fun e w' => e = .returned (.string (bs n2)) ∧ w = w') := by rw [hn2]; exact cN
      replace cT : Hid (∀ w, Calls Tryz.prog 31 #[.string (bs t), .int .i64 150] w fun e w' => e = .returned (.string (bs t2)) ∧ w = w') := by rw [ht2]; exact cT
      clear hn ht hcell hcell2 hlt hlt2 hbl hn2 ht2 hnl htl
      by_cases h0 : n2 = []
      · subst h0
        replace cN : Hid (∀ w, Calls Tryz.prog 31 #[.string (bs n), .int .i64 30] w fun e w' => e = .returned (.string ByteArray.empty) ∧ w = w') := cN
        have HI := Lib.hid hI.out.mono
        go_wp2_with (go_at_call 31; with_reducible refine (cN.out _).mono ?_; rintro e w3 ⟨rfl, rfl⟩)
        go_roundw
        case rel => exact ⟨k + 1, d, by go_num, by omega, by omega, by omega, HI, hkk, hoo⟩
        case measure => simp [intOf]; omega
      · obtain ⟨d', ea, hI2⟩ := hI.out.append (by omega) h0 hnl2 htl2
        have hac := hI.out.acc
        have hrm := hI.out.rm
        have cA := Lib.hid (fun wx (kx : DkAt wx h d) => dAppend_any wx h d B k kx hB hac (by omega) (by rw [hrm]; decide) n2 t2 (by unfold maxLen; omega) (by unfold maxLen; omega))
        rw [ea] at cA
        have HI := Lib.hid hI2
        clear ea hI2 hac hrm hI
        go_wp2_with (first
          | (go_at_call 36; refine (cA.out wr hkk.out).mono ?_; rintro e w5 ⟨rfl, k5, o5⟩)
          | (go_at_call 31; with_reducible refine (cT.out _).mono ?_; rintro e w3 ⟨rfl, rfl⟩)
          | (go_at_call 31; with_reducible refine (cN.out _).mono ?_; rintro e w3 ⟨rfl, rfl⟩))
        have O5 := Lib.hid (hoo.out.trans (o5.wide dlt))
        have K5 := Lib.hid k5
        clear o5 k5 hkk hoo
        go_roundw
        case rel => exact ⟨k + 1, d', by go_num, by omega, by omega, by omega, HI, K5, O5⟩
        case measure => simp [intOf]; omega
    · have hend : ns.length ≤ k ∨ k < ns.length ∧ ts.length ≤ k ∨ k < ns.length ∧ k < ts.length ∧ 5 ≤ k := by omega
      have hfs5 : d.fs.length ≤ 5 := Nat.le_trans hI.out.acc.num hk5
      have hlen := hI.out.len
      have hacc := hI.out.acc.mono hk5
      have hop : OpI (refAll d.fs) 5 d := ⟨hacc, hI.out.fz, hI.out.rm, rfl⟩
      have hdl : d.list [] = d.fs.map (·.1) := by
        unfold Ds.list
        exact List.filter_eq_self.2 fun n _ => by cases n <;> rfl
      have cL : Hid (∀ wx, DkAt wx h d → Calls Tryz.prog 22 #[.pointer (some ⟨h.D, 0, none⟩), .string { data := #[] }] wx fun e w' => ∃ A cp, e = .returned (.slice A d.fs.length cp) ∧ Buf w' 9 1 (.slice A d.fs.length cp) d.fs.length (scs (d.fs.map (·.1))) ∧ Below wx.heap.size wx w') := fun wx kx => by
        refine (dList_any wx h d 5 kx hacc (by omega) [] (by decide)).mono ?_
        rintro e w' ⟨v, rfl, hb, hbel⟩
        rw [hdl, List.length_map] at hb
        obtain ⟨A, cp, rfl, _⟩ := hb.shape
        exact ⟨A, cp, rfl, hb, hbel⟩
      have hread : ∀ (j : Nat) (n : Nm) (f : Fi), d.fs[j]? = some (n, f) → d.read n = (f.s, 0) ∧ n.length ≤ maxLen := fun j n f hj => by
        have hm := List.mem_of_getElem? hj
        have h1 := hacc.srt.fnd hm
        have h2 := hacc.nm _ hm
        unfold Ds.read
        rw [h1]
        exact ⟨rfl, by unfold maxLen; simp only at h2; omega⟩
      have hM : ∀ p ∈ d.fs, p.1.length ≤ maxLen ∧ p.2.s.length ≤ 100000 := fun p hp => ⟨by have := hacc.nm p hp; unfold maxLen; omega, by have := hlen p hp; omega⟩
      have cR := Lib.hid (fun wx (kx : DkAt wx h d) n (hn : n.length ≤ maxLen) => dRead_any wx h d kx n hn)
      obtain ⟨F, hF⟩ : ∃ F, F = d.fs := ⟨_, rfl⟩
      rw [← hF] at hfs5 hop hread hM cL
      have hROP := Lib.hid hop
      have HRD := Lib.hid hread
      have cRR := Lib.hid (fun wx nv tv hn ht => rRead_any nv tv F wx hn ht (by omega) hM)
      obtain ⟨G, hG⟩ : ∃ G, G = Wal.since (refAll F) := ⟨_, rfl⟩
      have hopen := Lib.hid (fun d' (hd : OpI (refAll F) 5 d') => hd.open_ limit)
      rw [← hG] at hopen cRR
      have HB := Lib.hid hoo.out
      have GL : G.length ≤ 10000000 := by
        have h1 := since_len (refAll F)
        have h2 := rdA_len (q := 6) (fun p hp => (hM p hp).2)
        rw [← refAll_rd] at h2
        have h3 : 100000 * F.length * 6 ≤ 100000 * 5 * 6 := Nat.mul_le_mul (Nat.mul_le_mul_left _ hfs5) (Nat.le_refl 6)
        rw [hG]; omega
      clear hlen hacc hop hdl hread hM hG hI hgo hF
      rcases hend with hend | ⟨hend1, hend2⟩ | ⟨hend1, hend2, hend3⟩
      all_goals
        go_wp2_with (go_at_call 22; refine (cL.out wr hkk.out).mono ?_; rintro e w10 ⟨LA, lc, rfl, lbuf, hb10⟩)
        have LB := Lib.hid lbuf
        have O10 := Lib.hid (hoo.out.trans (Off.of_below hb10 (HBS.out _ hoo.out)))
        have K10 := Lib.hid (hkk.out.below hb10)
        clear lbuf hb10 hkk hoo cL
        go_loopw [11, 66] (fun v i wz => ∃ j : Nat, i = .int .i64 j ∧ j ≤ F.length ∧ Hid (NBuf w10 wz 9 1 v j (scs ((F.take j).map (·.2.s))))) (fun _ i _ => F.length - (intOf i).toNat)
        case atStart => exact ⟨0, rfl, Nat.zero_le _, NBuf.lit0 (Below.refl _ w10) _ 1⟩
        case round =>
          obtain ⟨j, rfl, hj, hs⟩ := hrel
          by_cases hj1 : j < F.length
          · obtain ⟨⟨n, f⟩, hki⟩ : ∃ r, F[j]? = some r := ⟨_, List.getElem?_eq_getElem hj1⟩
            have hbl := hs.out.below
            obtain ⟨bb, oo, rfl, hlt, hcells⟩ := (SlAt.of_buf (LB.out.below hbl)).cells (by omega)
            have hcell := hcells j (.string (bs n)) (scs_at (by rw [List.getElem?_map, hki]; rfl))
            obtain ⟨hr1, hr2⟩ := HRD.out j n f hki
            have cRn := Lib.hid (fun wx (kx : DkAt wx h d) => cR.out wx kx n hr2)
            rw [hr1] at cRn
            have hci : (0 : Int) ≤ (j : Int) := by omega
            have hci2 : (j : Int) < F.length := by omega
            have htk : Hid (scs ((F.take (j + 1)).map (·.2.s)) = scs ((F.take j).map (·.2.s)) ++ [.string (bs f.s)]) := by
              show scs _ = _
              rw [List.take_add_one, hki, Option.toList_some, List.map_append]
              exact scs_snoc _ _
            have KZ := K10.out.below hbl
            clear hki hcells hlt hr1
            go_wp2_with (first
              | (go_at_call 23; refine (cRn.out wr KZ).mono ?_; rintro e w15 ⟨rfl, hb15⟩; have hs1 := hs.out.then_below hb15)
              | (at_builtin; refine wpList_append_nlit rfl (.tmp 76) (.tmp 78) 22 rfl str_tyw rfl hs1 rfl (by simp) rfl (by simp [Value.oneCell']) (by simp only [maxLen]; omega) (by omega) ?_; intro v2 w2 hn2 _))
            go_roundw
            case rel => exact ⟨j + 1, by go_num, by omega, by rw [htk.out]; exact hn2⟩
            case measure => simp [intOf]; omega
          · obtain rfl : j = F.length := by omega
            rw [List.take_length] at hs
            have hlb := Lib.hid (SlAt.of_buf (LB.out.below hs.out.below))
            have OZ := Lib.hid (O10.out.trans (Off.of_below hs.out.below (HBS.out _ O10.out)))
            have KZ := Lib.hid (K10.out.below hs.out.below)
            have hrr := Lib.hid (cRR.out wr _ _ hlb.out hs.out.slice)
            clear hj1
            go_wp2_with (go_at_call 37; refine hrr.out.mono ?_; rintro e w18 ⟨v18, rfl, hn18⟩)
            have O18 := Lib.hid (OZ.out.trans (Off.of_below hn18.below (HBS.out _ OZ.out)))
            have K18 := Lib.hid (KZ.out.below hn18.below)
            have W18 := Lib.hid hn18.buf
            clear hn18 hrr hlb OZ KZ
            go_loopw [17] (fun i wz => ∃ (q : Nat) (d : Ds), i = .int .i64 q ∧ q ≤ 2 ∧ Hid (OpI (refAll F) 5 d) ∧ Hid (DkAt wz h d) ∧ Hid (Off LTs B w wz) ∧ Hid (Off LTs B w18 wz)) (fun i _ => 2 - (intOf i).toNat)
            case atStart => exact ⟨0, d, rfl, by omega, hROP, K18, O18, Off.refl _ _ _⟩
            case round =>
              obtain ⟨q, d2, rfl, hq, hO, hk2, ho2, hp2⟩ := hrel
              by_cases hq2 : q < 2
              · obtain ⟨d3, g3, ew, ha3, hr3, hO3⟩ := hopen.out d2 hO.out
                have hac := hO.out.acc
                have hrm := hO.out.rm
                have cO := Lib.hid (fun wx (kx : DkAt wx h d2) hx => open_ok wx h d2 B 5 limit _ _ _ ew kx hx hB hB4 hac (by decide) (by rw [hrm]; decide))
                have cC := Lib.hid (fun wx (kx : DkAt wx h d3) => crash_any wx h d3 B 5 kx hB ha3 (by decide) (by rw [hr3]; decide) none 0 [] (by decide) (fun w' _ => SlAt.of_buf (Buf.nil w' 3 1)))
                have HO3 := Lib.hid hO3
                clear ew ha3 hr3 hO3 hac hrm
                go_wp2_with (go_at_call 12; refine (cO.out wr hk2.out (HEX.out _ ho2.out.bel)).mono ?_; rintro e w22 ⟨L4, A4, cp4, rfl, k22, _, _, o22, hgot⟩)
                have O22 := Lib.hid (ho2.out.trans o22)
                have P22 := Lib.hid (hp2.out.trans o22)
                have K22 := Lib.hid k22
                have GB := Lib.hid hgot
                obtain ⟨A9, c9, he4, hlc4, hcm4⟩ := (SlAt.of_buf hgot).shape
                injection he4 with e1 e2 e3
                subst e1; subst e3
                unfold maxLen at hcm4
                clear o22 k22 hgot cO hk2 ho2 hp2
                go_loopw [21, 104] (fun v i wy => ∃ j : Nat, i = .int .i64 j ∧ j ≤ G.length ∧ Hid (NBuf w22 wy 78 2 v j (frcs (G.take j)))) (fun _ i _ => G.length - (intOf i).toNat)
                case atStart => exact ⟨0, rfl, Nat.zero_le _, NBuf.lit0 (Below.refl _ w22) _ 2⟩
                case round =>
                  obtain ⟨j, rfl, hj, hs4⟩ := hrel
                  by_cases hj4 : j < G.length
                  · obtain ⟨⟨kd, dd⟩, hki⟩ : ∃ r, G[j]? = some r := ⟨_, List.getElem?_eq_getElem hj4⟩
                    have hbl4 := hs4.out.below
                    obtain ⟨b4, o4, rfl, hlt4, c0, c1⟩ := (show RecsAt wr _ G from SlAt.of_buf (GB.out.below hbl4)).at_ hki
                    have hci : (0 : Int) ≤ (j : Int) := by omega
                    have hci2 : (j : Int) < G.length := by omega
                    have htk : Hid (frcs (G.take (j + 1)) = frcs (G.take j) ++ [.int .u8 kd.toNat, .string (bs dd)]) := by
                      show frcs _ = _
                      rw [List.take_add_one, hki, Option.toList_some, frcs_snoc]
                    have hs5 := hs4.out.alloc (.cells #[.int .u8 kd.toNat, .string (bs dd)] 34)
                    clear hki hlt4
                    go_wp2_with (at_builtin; refine wpList_append_nlit rfl (.tmp 108) (.tmp 110) 76 rfl rrec_ty rfl hs5 rfl (by simp) rfl (by simp [Value.oneCell']) (by simp only [maxLen]; omega) (by omega) ?_; intro v5 w5 hn5 _)
                    go_roundw
                    case rel => exact ⟨j + 1, by go_num, by omega, by rw [htk.out]; exact hn5⟩
                    case measure => simp [intOf]; omega
                  · obtain rfl : j = G.length := by omega
                    rw [List.take_length] at hs4
                    have PZ := Lib.hid (P22.out.trans (Off.of_below hs4.out.below (HBS.out _ O22.out)))
                    have OZ := Lib.hid (O22.out.trans (Off.of_below hs4.out.below (HBS.out _ O22.out)))
                    have KZ := Lib.hid (K22.out.below hs4.out.below)
                    have cS := Lib.hid (rSame_any _ _ G G wr hs4.out.slice (SlAt.of_buf (PZ.out.kc.buf W18.out nl_rrec)))
                    rw [decide_eq_true rfl] at cS
                    clear hj4
                    go_wp2_with (first
                      | (go_at_call 38; refine cS.out.mono ?_; rintro e w31 ⟨rfl, n31, rfl⟩; have kc31 := KZ.out.below (below_draws wr n31))
                      | (go_at_call 19; refine (cC.out _ kc31).mono ?_; rintro e w33 ⟨rfl, k33, o33⟩))
                    have PQ := Lib.hid (PZ.out.trans ((Off.of_below (Ts := LTs) (below_draws wr n31) (HBS.out _ OZ.out)).trans (o33.wide dlt)))
                    have OQ := Lib.hid (OZ.out.trans ((Off.of_below (Ts := LTs) (below_draws wr n31) (HBS.out _ OZ.out)).trans (o33.wide dlt)))
                    have KQ := Lib.hid k33
                    clear kc31 k33 o33
                    go_roundw
                    case rel => exact ⟨q + 1, _, by go_num, by omega, HO3, KQ, OQ, PQ⟩
                    case measure => simp [intOf]; omega
              · obtain rfl : q = 2 := by omega
                go_wp2_with fail
                go_ret
                exact ⟨rfl, HBW.out _ ho2.out⟩

end Go.Proofs.YtcopknopifbebaaGreatDoor

namespace Go.Bar.Wal
open Go.RowKit Go.Bar Go.Bar.Leb Go.Bar.Frm
def mskR (r : Rc) : Rc := (r.1 &&& 127, r.2)
def mskJ (k : Nat) (rs : List Rc) : List Rc := (rs.take k).map mskR ++ rs.drop k
theorem mskJ_zero (rs : List Rc) : mskJ 0 rs = rs := by unfold mskJ; simp
theorem mskJ_all (rs : List Rc) : mskJ rs.length rs = rs.map mskR := by unfold mskJ; simp
theorem mskJ_at {k : Nat} {rs : List Rc} {r : Rc} (h : rs[k]? = some r) : (mskJ k rs)[k]? = some r := by
  have hlt : k < rs.length := (List.getElem?_eq_some_iff.1 h).1
  unfold mskJ
  rw [List.getElem?_append_right (by simp; omega), List.length_map, List.length_take, Nat.min_eq_left (by omega), Nat.sub_self, List.getElem?_drop, Nat.add_zero, h]
end Go.Bar.Wal
namespace Go.Proofs.YtcopknopifbebaaGreatDoor
open Go.RowKit Go.Bar Go.Bar.Wal Go.Bar.Leb Go.Bar.Frm Go.Conc
attribute [local go_sem] Oper.semAt_some
theorem mskJ_set {k : Nat} {rs : List Rc} {kd : UInt8} {d : List UInt8} (h : rs[k]? = some (kd, d)) : (frcs (mskJ k rs)).set (k * 2) (.int .u8 (kd &&& 127).toNat) = frcs (mskJ (k + 1) rs) := by
  have hlt : k < rs.length := (List.getElem?_eq_some_iff.1 h).1
  obtain ⟨hh, e⟩ := List.getElem?_eq_some_iff.1 h
  have h1 : mskJ k rs = (rs.take k).map mskR ++ (kd, d) :: rs.drop (k + 1) := by unfold mskJ; rw [List.drop_eq_getElem_cons hlt, e]
  have h2 : mskJ (k + 1) rs = (rs.take k).map mskR ++ (kd &&& 127, d) :: rs.drop (k + 1) := by
    unfold mskJ
    rw [List.take_add_one, h, Option.toList_some, List.map_append, List.append_assoc]
    rfl
  have hl : (frcs ((rs.take k).map mskR)).length = k * 2 := by rw [rcs_length, List.length_map, List.length_take]; omega
  rw [h1, h2, frcs_append, frcs_append, List.set_append_right _ _ (by omega), hl, Nat.sub_self]
  rfl

set_option maxHeartbeats 1000000 in
set_option maxRecDepth 10000 in
theorem few_nb (v : Value) (rs : List Rc) (w : World) (h : RecsAt w v rs) (hsz : ∀ r ∈ rs, r.2.length ≤ maxLen) : Calls Tryz.prog 13 #[v] w (fun en w' => ∃ v, en = .returned v ∧ NBuf w w' 34 2 v (few rs).length (frcs (few rs))) := by
  obtain ⟨A, c, rfl, hlc, hcm⟩ := h.shape
  unfold maxLen at hcm
  go_enter Tryz.func13, Tryz.ntmps13
  go_wp2_with fail
  go_loopw [3, 4] (fun s i wr => ∃ k : Nat, k ≤ rs.length ∧ k ≤ 6 ∧ i = .int .i64 k ∧ App (w.alloc (.cells #[] 34)) (.slice (some ⟨w.heap.size, 0, none⟩) 0 0) 34 2 0 [] wr s (cut60 (rs.take k)).length (frcs (cut60 (rs.take k)))) (fun _ i _ => 6 - (intOf i).toNat)
  case atStart => exact ⟨0, Nat.zero_le _, by omega, rfl, App.lit0 w _ _⟩
  case round =>
    obtain ⟨k, hk, hk6, rfl, happ⟩ := hrel
    have hbl := happ.below_lit0
    by_cases hgo : k < rs.length ∧ k < 6
    · obtain ⟨hk1, hk2⟩ := hgo
      obtain ⟨⟨kd, d⟩, hki⟩ : ∃ r, rs[k]? = some r := ⟨_, List.getElem?_eq_getElem hk1⟩
      have hn := cut60_next hki
      have hcl : (cut60 (rs.take k)).length ≤ 6 := by simp [cut60]; omega
      obtain ⟨b, o, rfl, hlt, c0, c1⟩ := (h.below hbl).at_ hki
      have hd := hsz _ (List.mem_of_getElem? hki)
      simp only at hd
      have HN := Lib.hid hn
      have hci : (0 : Int) ≤ (k : Int) := by omega
      have hci2 : (k : Int) < rs.length := by omega
      clear hn hki
      go_wp2_with fail
      go_region_law (first
        | (((rw [if_pos (by rfl)]); go_simp; go_at_call 31; refine (cut_any (bs d) 60 _ (by omega) (by omega) (by rw [bs_size]; exact hd)).mono ?_; rintro e w' ⟨rfl, rfl⟩; dsimp only))
        | ((refine step_append_app (by rfl) (.tmp 16) (.tmp 29) _ (by rfl) rec_ty (by rfl) ((happ.alloc _).drew) (by rfl) (Src.drew_ (Buf.lit wr 34 2 1 [.int .u8 kd.toNat, .string (bs (d.take 60))] rfl (by decide)) rec_ty.slice (by simp [Value.oneCell'])) (by simp only [maxLen]; omega) (by omega) ?_; intro v2 w2 happ2)))
      all_goals
        go_wp2_with fail
        go_roundw
        case rel => exact ⟨k + 1, by omega, by omega, by go_num, by rw [HN.out, List.length_append, ← frcs_snoc] at *; exact happ2⟩
        case measure => simp [intOf]; omega
    · have hend : rs.length ≤ k ∨ k < rs.length ∧ 6 ≤ k := by omega
      have he : cut60 (rs.take k) = few rs := by
        unfold cut60 few
        rcases hend with h1 | h1
        · rw [List.take_of_length_le h1, List.take_of_length_le (by omega)]
        · rw [show k = 6 by omega]
      rw [he] at happ
      have hbuf := happ.buf
      rw [Nat.zero_add, List.nil_append] at hbuf
      have hown := happ.grew.new (B := w.heap.size) (by simp) (NBuf.lit0 (Below.refl _ w) 34 2).new
      clear hgo he happ
      rcases hend with h1 | ⟨h1, h2⟩
      all_goals
        go_wp2_with fail
        go_ret
        exact ⟨_, rfl, hbuf, hbl, hown⟩
end Go.Proofs.YtcopknopifbebaaGreatDoor

namespace Go.Bar.Idt
open Go.RowKit Go.Bar

def signs : List UInt8 := [48, 49, 50, 51, 52, 53, 54, 55, 56, 57, 97, 98, 99, 100, 101, 102, 103, 104, 106, 107, 109, 110, 112, 113, 114, 115, 116, 118, 119, 120, 121, 122]
theorem signs_length : signs.length = 32 := rfl
def sgn (k : Nat) : UInt8 := signs.getD k 0
def ix (c : UInt8) : Int := Lib.indexByte signs c

def dg : Nat → Nat → List UInt8
  | 0, _ => []
  | m + 1, n => dg m (n / 32) ++ [sgn (n % 32)]
theorem dg_length : ∀ m n, (dg m n).length = m
  | 0, _ => rfl
  | m + 1, n => by rw [dg, List.length_append, dg_length m]; rfl
theorem dg_cons : ∀ (m n : Nat), dg (m + 1) n = sgn (n / 32 ^ m % 32) :: dg m n
  | 0, n => by simp [dg]
  | m + 1, n => by
    rw [dg, dg_cons m (n / 32), dg, Nat.div_div_eq_div_mul, Nat.pow_succ, Nat.mul_comm (32 ^ m) 32]
    rfl

def num : Nat → List UInt8 → Option Nat
  | acc, [] => some acc
  | acc, c :: r => if ix c < 0 then none else num (32 * acc + (ix c).toNat) r

def mk (t s : Nat) : List UInt8 := dg 8 t ++ dg 8 s
def parse (l : List UInt8) : Option (Nat × Nat) :=
  if l.length ≠ 16 then none else match num 0 (l.take 8), num 0 (l.drop 8) with
    | some a, some b => some (a, b)
    | _, _ => none

def parts : List (List UInt8) := [[99, 104, 117, 110, 107, 115], [105, 110, 100, 101, 120], [109, 101, 116, 97], [109, 97, 114, 107]]
def split (l : List UInt8) : Option (List UInt8 × List UInt8) :=
  if 17 ≤ l.length ∧ l[16]? = some 47 ∧ (parse (l.take 16)).isSome = true ∧ l.drop 17 ∈ parts then some (l.take 16, l.drop 17) else none

end Go.Bar.Idt

namespace Go.Proofs.YtcopknopifbebaaGreatDoor
open Go.RowKit Go.Bar Go.Bar.Idt

theorem sgn_get (k : Nat) (h : k < (bs signs).size) : (bs signs)[k]'h = sgn k := by
  unfold sgn
  rw [List.getD_eq_getElem?_getD, List.getElem?_eq_getElem h]
  rfl
theorem and31 (n : Nat) (h : n < 9223372036854775808) : bits .and .i64 (n : Int) 31 = ((n % 32 : Nat) : Int) := by
  have := i64_and_nat n 31 h (by omega)
  rw [show n &&& 31 = n % 2 ^ 5 from Nat.and_two_pow_sub_one_eq_mod n 5] at this
  exact this
theorem bcs_set (l : List UInt8) (i : Nat) (c : UInt8) : bcs (l.set i c) = (bcs l).set i (.int .u8 (c.toNat : Int)) := List.map_set

set_option maxHeartbeats 1000000 in
set_option maxRecDepth 10000 in
theorem digits_any (n : Nat) (w : World) (hn : n < 1099511627776) :
    Calls Tryz.prog 83 #[.int .i64 n] w (RetBelow w (.string (bs (dg 8 n)))) := by
  go_enter Tryz.func83, Tryz.ntmps83
  go_wp2_with fail
  go_loopw [0, 4] (fun m i wr => ∃ (q k : Nat) (l : List UInt8), q ≤ 8 ∧ (q = 0 ∧ i = .int .i64 (-1) ∨ ∃ p, q = p + 1 ∧ i = .int .i64 (p : Int)) ∧ m = .int .i64 k ∧ k < 1099511627776 ∧ l.length = 8 ∧ Buf wr 151 1 (.slice (some ⟨w.heap.size, 0, none⟩) 8 8) 8 (bcs l) ∧ Below w.heap.size w wr ∧ Hid (k = n / 32 ^ (8 - q) ∧ l.drop q = dg (8 - q) n))
    (fun _ i _ => (intOf i + 1).toNat)
  case atStart => exact ⟨8, n, List.replicate 8 0, Nat.le_refl _, .inr ⟨7, rfl, rfl⟩, rfl, hn, rfl, Buf.lit w _ 1 8 [.int .u8 0, .int .u8 0, .int .u8 0, .int .u8 0, .int .u8 0, .int .u8 0, .int .u8 0, .int .u8 0] rfl (by decide), (Below.refl _ _).alloc (Nat.le_refl _) _, (by simp : n = n / 32 ^ 0), rfl⟩
  case round =>
    obtain ⟨q, k, l, hq, hi, rfl, hk, hll, hb, hbl, HK⟩ := hrel
    rcases hi with ⟨rfl, rfl⟩ | ⟨p, rfl, rfl⟩
    · have hl : l = dg 8 n := HK.out.2
      have hsl : SlAt wr 1 (.slice (some ⟨w.heap.size, 0, none⟩) l.length 8) l.length (bcs l) := by rw [hll]; exact SlAt.of_buf hb
      have hcv := hsl.string bytes_ty 9 Tryz.underlying9
      rw [hll] at hcv
      have HL := Lib.hid hl
      clear hsl hl hb
      go_wp2_with fail
      go_ret
      rw [← HL.out]
      exact ⟨rfl, hbl⟩
    · have hand := and31 k (by omega)
      have h32 : k % 32 < (bs signs).size := by rw [bs_size, signs_length]; omega
      have hst := Buf.store hb (j := p) (by omega) (.int .u8 (((bs signs)[k % 32]'h32).toNat : Int))
      obtain ⟨hc1, hc2⟩ := hb.cellAt (j := p) (by omega)
      rw [Nat.zero_add] at hst hc1 hc2
      rw [List.getElem?_eq_getElem (by rw [bcs_length]; omega)] at hc1
      have H32 := Lib.hid h32
      have HST := Lib.hid hst
      clear hb hst
      go_wp2_with fail
      go_roundw
      case rel =>
        refine ⟨p, k / 32, l.set p (sgn (k % 32)), by omega, ?_, by go_num, by omega, by rw [List.length_set]; exact hll, by rw [bcs_set, ← sgn_get _ H32.out]; exact HST.out, hbl.setCell (by simp) _, ?_, ?_⟩
        · rcases p with _ | p
          · exact .inl ⟨rfl, rfl⟩
          · exact .inr ⟨p, rfl, by go_num⟩
        · show k / 32 = n / 32 ^ (8 - p)
          have e8 : 8 - p = (8 - (p + 1)) + 1 := by omega
          rw [HK.out.1, Nat.div_div_eq_div_mul, ← Nat.pow_succ, e8]
        · show (l.set p (sgn (k % 32))).drop p = dg (8 - p) n
          have e8 : 8 - p = (8 - (p + 1)) + 1 := by omega
          have e9 := List.drop_eq_getElem_cons (l := l.set p (sgn (k % 32))) (i := p) (by rw [List.length_set]; omega)
          rw [e8, dg_cons, ← HK.out.2, ← HK.out.1, e9, List.getElem_set_self, List.drop_set_of_lt (by omega)]
      case measure => simp [intOf]

def okT (n : Int) : Prop := 0 ≤ n ∧ n < 1099511627776

theorem digits_int (t : Int) (w : World) (h1 : 0 ≤ t) (h2 : t < 1099511627776) :
    Calls Tryz.prog 83 #[.int .i64 t] w (RetBelow w (.string (bs (dg 8 t.toNat)))) := by
  obtain ⟨n, rfl⟩ := Int.eq_ofNat_of_zero_le h1
  exact digits_any n w (by omega)

set_option maxHeartbeats 1000000 in
set_option maxRecDepth 10000 in
theorem make_ok (t s : Int) (w : World) (ht : okT t) (hs : okT s) :
    Calls Tryz.prog 56 #[.int .i64 t, .int .i64 s] w (RetBelow w (.tuple #[.string (bs (mk t.toNat s.toNat)), .int .i64 0])) := by
  obtain ⟨ht1, ht2⟩ := ht
  obtain ⟨hs1, hs2⟩ := hs
  obtain ⟨x, hx⟩ : ∃ x, dg 8 t.toNat = x := ⟨_, rfl⟩
  obtain ⟨y, hy⟩ : ∃ y, dg 8 s.toNat = y := ⟨_, rfl⟩
  have hl : x.length ≤ 8 ∧ y.length ≤ 8 := by rw [← hx, ← hy, dg_length, dg_length]; omega
  obtain ⟨hl1, hl2⟩ := hl
  have hnl : ¬ 9223372036854775807 < x.length + y.length := by omega
  have H1 := digits_int t
  have H2 := digits_int s
  rw [hx] at H1
  rw [hy] at H2
  have HM : mk t.toNat s.toNat = x ++ y := by rw [mk, hx, hy]
  rw [HM]
  have G1 := Lib.hid H1
  have G2 := Lib.hid H2
  clear H1 H2 HM hx hy
  go_enter Tryz.func56, Tryz.ntmps56
  go_wp2_with fail
  refine (G1.out _ ht1 ht2).mono ?_
  rintro e w1 ⟨rfl, hb1⟩
  go_wp2_with fail
  refine (G2.out _ hs1 hs2).mono ?_
  rintro e w2 ⟨rfl, hb2⟩
  go_wp2_with fail
  go_ret2
  exact ⟨rfl, below_trans hb1 hb2⟩

end Go.Proofs.YtcopknopifbebaaGreatDoor

namespace Go.Proofs.YtcopknopifbebaaGreatDoor
open Go.RowKit Go.Bar Go.Bar.Leb Go.Bar.Frm Go.Bar.Idt

theorem plist_ty : ElemTy Tryz.prog 73 3 (.int .i64 0) 1 8 :=
  ⟨Tryz.underlying73, info_parts (show (Tryz.prog.info? 3).map (fun i => (i.zero, i.size, i.bytes)) = some (some (.int .i64 0), 1, 8) by kernel_rfl), rfl⟩

theorem mk33 : mk 33 1 = [48, 48, 48, 48, 48, 48, 49, 49, 48, 48, 48, 48, 48, 48, 48, 49] := by decide

set_option maxHeartbeats 1000000 in
theorem name16_any (w : World) : Calls Tryz.prog 32 #[] w (RetBelow w (.tuple #[.string (bs [48, 48, 48, 48, 48, 48, 49, 49, 48, 48, 48, 48, 48, 48, 48, 49]), .bool true])) := by
  have h := fun w => make_ok 33 1 w (by constructor <;> decide) (by constructor <;> decide)
  rw [show mk (33 : Int).toNat (1 : Int).toNat = [48, 48, 48, 48, 48, 48, 49, 49, 48, 48, 48, 48, 48, 48, 48, 49] from mk33] at h
  have HC := Lib.hid h
  clear h
  go_enter Tryz.func32, Tryz.ntmps32
  go_wp2_with fail
  refine (HC.out _).mono ?_
  rintro e w1 ⟨rfl, hb⟩
  go_wp2_with fail
  go_ret2
  exact ⟨rfl, hb⟩

theorem dec7 : (⟨(Lib.decDigits 7).toArray⟩ : ByteArray) = bs [55] := by rw [show Lib.decDigits 7 = [55] by decide +kernel]; rfl
theorem rep7 : (⟨(Lib.repeatL [48] 7).toArray⟩ : ByteArray) = bs [48, 48, 48, 48, 48, 48, 48] := by rw [show Lib.repeatL [48] 7 = [48, 48, 48, 48, 48, 48, 48] by decide +kernel]; rfl

set_option maxHeartbeats 1000000 in
theorem walName7_any (w : World) : Calls Tryz.prog 25 #[.int .i64 7] w (RetBelow w (.string (bs [119, 97, 108, 45, 48, 48, 48, 48, 48, 48, 48, 55]))) := by
  have h1 := fun w => Tryz.strconv_Itoa_small 7 (by decide) w
  rw [dec7] at h1
  have h2 := fun w => Tryz.strings_Repeat (bs [48]) 7 w (by decide) (by decide)
  rw [bs_data, rep7] at h2
  have H1 := Lib.hid h1
  have H2 := Lib.hid h2
  clear h1 h2
  go_enter Tryz.func25, Tryz.ntmps25
  go_wp2_with fail
  refine (H1.out _).mono ?_
  rintro e w' ⟨rfl, rfl⟩
  go_wp2_with fail
  refine (H2.out _).mono ?_
  rintro e w1 ⟨rfl, hb⟩
  go_wp2_with fail
  go_ret
  exact ⟨rfl, hb⟩

set_option maxHeartbeats 1000000 in
set_option maxRecDepth 10000 in
theorem iclone_any (v : Value) (n : Nat) (xs : List Value) (w : World) (h : SlAt w 1 v n xs) (h0 : 0 < n) (hl : n ≤ 1000000) (h1 : ∀ u ∈ xs, u.oneCell' = true) :
    Calls Tryz.prog 58 #[v] w fun e w' => ∃ v', e = .returned v' ∧ NBuf w w' 3 1 v' n xs := by
  obtain ⟨A, c, rfl, hlc, hcm⟩ := h.shape
  obtain ⟨b, o, rfl, hb, _⟩ := SlAt.cells h (by omega)
  have hnil := fun w => Lib.run_eql_slice_some_nil (P := Tryz.prog) w (t := 73) ⟨b, o, none⟩ n c Tryz.underlying73
  have hs := fun o => SlAt.src (P := Tryz.prog) (h.below (ba1 w o)) (by omega) (t := 73) Tryz.underlying73 h1
  have HS := Lib.hid hs
  have hnb := NBuf.lit0 (Below.refl w.heap.size w) 3 1
  clear hs
  go_enter Tryz.func58, Tryz.ntmps58
  go_wp2_with (at_builtin; refine wpList_append_el rfl (.tmp 5) (.tmp 6) 73 73 rfl plist_ty rfl hnb.buf rfl (HS.out _) (by simp only [maxLen]; omega) (by omega) ?_; intro v' w' hb ha hg; have hn2 := hnb.step hb ha hg; clear hb ha hg)
  go_ret
  rw [Nat.zero_add, List.nil_append] at hn2
  exact ⟨_, rfl, hn2⟩

set_option maxHeartbeats 4000000 in
set_option maxRecDepth 10000 in
theorem meet12_any (va vb : Value) (w : World) (ha : SlAt w 1 va 2 [.int .i64 1, .int .i64 2]) (hb : SlAt w 1 vb 1 [.int .i64 2]) :
    Calls Tryz.prog 59 #[va, vb] w fun e w' => ∃ A c, e = .returned (.slice A 1 c) ∧ Below w.heap.size w w' := by
  obtain ⟨A, c, rfl, hlc, hcm⟩ := ha.shape
  obtain ⟨A', c', rfl, hlc', hcm'⟩ := hb.shape
  obtain ⟨b, o, rfl, hbw, hc⟩ := SlAt.cells ha (by omega)
  obtain ⟨b', o', rfl, hbw', hc'⟩ := SlAt.cells hb (by omega)
  have a0 := hc 0 _ rfl
  have a1 := hc 1 _ rfl
  have d0 := hc' 0 _ rfl
  rw [Nat.add_zero] at a0 d0
  clear hc hc'
  go_enter Tryz.func59, Tryz.ntmps59
  go_wp2_with fail
  go_loopw [6, 7, 5] (fun i k d wr => (∃ q, wr = w.drewN q ∧ d = .slice none 0 0 ∧ k = .int .i64 (0 : Nat) ∧ (i = .int .i64 (0 : Nat) ∨ i = .int .i64 (1 : Nat))) ∨ (i = .int .i64 (2 : Nat) ∧ k = .int .i64 (1 : Nat) ∧ ∃ A c, d = .slice A 1 c ∧ Hid (Below w.heap.size w wr))) (fun i _ _ _ => 2 - (intOf i).toNat)
  case atStart => exact .inl ⟨0, rfl, rfl, rfl, .inl rfl⟩
  case round =>
    rcases hrel with ⟨q, rfl, rfl, rfl, rfl | rfl⟩ | ⟨rfl, rfl, A, cc, rfl, hbl⟩
    · go_wp2_with fail
      go_quiet (fail)
      go_wp2_with fail
      go_roundw
      case rel => exact .inl ⟨_, rfl, rfl, rfl, .inr rfl⟩
      case measure => simp [intOf]
    · have HN := Lib.hid (fun q => NBuf.nil (below_draws w q) 3 1)
      go_wp2_with fail
      go_quiet (fail)
      go_wp2_with fail
      go_quiet (fail)
      go_wp2_with (at_builtin; refine wpList_append_nlit rfl (.tmp 18) (.tmp 23) 73 rfl plist_ty rfl (HN.out _) rfl (by simp) rfl (by simp [Value.oneCell']) (by simp only [maxLen]; omega) (by omega) ?_; intro v3 w3 hn3 _; obtain ⟨A3, c3, rfl, _⟩ := hn3.buf.shape; have HN4 := Lib.hid hn3; clear hn3)
      go_roundw
      case rel => exact .inr ⟨rfl, rfl, _, _, rfl, Lib.hid HN4.out.below⟩
      case measure => simp [intOf]
    · go_wp2_with fail
      go_ret
      exact ⟨_, _, rfl, hbl.out⟩

set_option maxHeartbeats 4000000 in
set_option maxRecDepth 10000 in
theorem both12_any (H : Nat) (va vb : Value) (w : World) (h : SlAt w 1 (.slice (some ⟨H, 0, none⟩) 2 2) 2 [va, vb]) (ha : SlAt w 1 va 2 [.int .i64 1, .int .i64 2]) (hb : SlAt w 1 vb 1 [.int .i64 2]) :
    Calls Tryz.prog 35 #[.slice (some ⟨H, 0, none⟩) 2 2] w fun e w' => ∃ A c, e = .returned (.slice A 1 c) ∧ Below w.heap.size w w' := by
  obtain ⟨b, o, he, hbw, hc⟩ := SlAt.cells h (by omega)
  injection he with he
  injection he with e1 e2 _
  subst e1; subst e2
  have a0 := hc 0 _ rfl
  have a1 := hc 1 _ rfl
  rw [Nat.add_zero] at a0
  rw [Nat.zero_add] at a1
  have HCL := Lib.hid (iclone_any va 2 _ w ha (by omega) (by omega) (by simp [Value.oneCell']))
  clear hc
  go_enter Tryz.func35, Tryz.ntmps35
  go_wp2_with fail
  refine HCL.out.mono ?_
  rintro e w1 ⟨c, rfl, hn⟩
  have HN := Lib.hid hn
  have b1 := (hn.below.cell (p := ⟨H, 1, none⟩) hbw).trans a1
  have HB := Lib.hid (hb.below hn.below)
  clear hn
  go_wp2_with fail
  go_loopw [16, 3] (fun i d wr => (wr = w1 ∧ i = .int .i64 (0 : Nat) ∧ d = c) ∨ (i = .int .i64 (1 : Nat) ∧ ∃ A c, d = .slice A 1 c ∧ Hid (Below w.heap.size w wr))) (fun i _ _ => 1 - (intOf i).toNat)
  case atStart => exact .inl ⟨rfl, rfl, rfl⟩
  case round =>
    rcases hrel with ⟨rfl, rfl, rfl⟩ | ⟨rfl, A, cc, rfl, hbl⟩
    · go_wp2_with fail
      refine (meet12_any _ _ _ HN.out.slice HB.out).mono ?_
      rintro e w2 ⟨A, cc, rfl, hb2⟩
      have HB2 := Lib.hid (below_trans HN.out.below hb2)
      clear hb2
      go_wp2_with fail
      go_roundw
      case rel => exact .inr ⟨rfl, _, _, rfl, HB2⟩
      case measure => simp [intOf]
    · go_wp2_with fail
      go_ret
      exact ⟨_, _, rfl, hbl.out⟩

theorem sum9 : sum [49, 50, 51, 52, 53, 54, 55, 56, 57] = 3808858755 := by decide +kernel

set_option maxHeartbeats 4000000 in
set_option maxRecDepth 10000 in
theorem live_any (w : World) : Calls Tryz.prog 9 #[] w (RetBelow w (.bool true)) := by
  have hfa : ∀ w, Calls Tryz.prog 34 #[.string (bs [49, 50, 51, 52, 53, 54, 55, 56, 57])] w fun e w' => e = .returned (.int .u32 3808858755) ∧ w = w' := fun w => by
    have := sum_any (bs [49, 50, 51, 52, 53, 54, 55, 56, 57]) w (by decide)
    rw [bs_data, sum9] at this
    exact this
  have HFA := Lib.hid hfa
  clear hfa
  go_enter Tryz.func9, Tryz.ntmps9
  go_wp2_with fail
  refine (name16_any _).mono ?_
  rintro e w1 ⟨rfl, hb1⟩
  have HB1 := Lib.hid hb1
  clear hb1
  go_wp2_with fail
  refine (uint_any (.slice none 0 0) [] 300 _ (by omega) (by simp) (BBuf.nil _ _)).mono ?_
  rintro e w2 ⟨v1, rfl, h1⟩
  have hc1 := h1.buf.string bytes_ty 9 Tryz.underlying9
  rw [fix3] at hc1
  have HB2 := Lib.hid (below_trans HB1.out h1.nil_below)
  clear h1
  go_wp2_with fail
  refine (HFA.out _).mono ?_
  rintro e w3 ⟨rfl, rfl⟩
  obtain ⟨H, hH⟩ : ∃ H, w2.heap.size = H := ⟨_, rfl⟩
  have s1 := SlAt.of_buf (Buf.lit w2 3 1 2 [.int .i64 1, .int .i64 2] (by simp) (by decide))
  rw [hH] at s1
  obtain ⟨wA, hwA⟩ : ∃ wA, wA = w2.alloc (.cells #[.int .i64 1, .int .i64 2] 3) := ⟨_, rfl⟩
  have s1 : SlAt wA 1 (.slice (some ⟨H, 0, none⟩) 2 2) 2 [.int .i64 1, .int .i64 2] := by rw [hwA]; exact s1
  have hAs : wA.heap.size = H + 1 := by rw [hwA]; simp [hH]
  have s2 := SlAt.of_buf (Buf.lit wA 3 1 1 [.int .i64 2] (by simp) (by decide))
  rw [hAs] at s2
  obtain ⟨wB, hwB⟩ : ∃ wB, wB = wA.alloc (.cells #[.int .i64 2] 3) := ⟨_, rfl⟩
  have s2 : SlAt wB 1 (.slice (some ⟨H + 1, 0, none⟩) 1 1) 1 [.int .i64 2] := by rw [hwB]; exact s2
  have hBs : wB.heap.size = H + 1 + 1 := by rw [hwB]; simp [hAs]
  have s3 := SlAt.of_buf (Buf.lit wB 73 1 2 [.slice (some ⟨H, 0, none⟩) 2 2, .slice (some ⟨H + 1, 0, none⟩) 1 1] (by simp) (by decide))
  rw [hBs] at s3
  obtain ⟨wC, hwC⟩ : ∃ wC, wC = wB.alloc (.cells #[.slice (some ⟨H, 0, none⟩) 2 2, .slice (some ⟨H + 1, 0, none⟩) 1 1] 73) := ⟨_, rfl⟩
  have s3 : SlAt wC 1 (.slice (some ⟨H + 1 + 1, 0, none⟩) 2 2) 2 [.slice (some ⟨H, 0, none⟩) 2 2, .slice (some ⟨H + 1, 0, none⟩) 1 1] := by rw [hwC]; exact s3
  have bAB : Below wA.heap.size wA wB := by rw [hwB]; exact ba1 _ _
  have bBC : Below wB.heap.size wB wC := by rw [hwC]; exact ba1 _ _
  have HBC := Lib.hid (both12_any _ _ _ _ s3 ((s1.below bAB).below bBC) (s2.below bBC))
  have HB3 := Lib.hid (below_trans HB2.out (below_trans (show Below w2.heap.size w2 wA by rw [hwA]; exact ba1 _ _) (below_trans bAB bBC)))
  have HWC := Lib.hid (show wC = ((w2.alloc (.cells #[.int .i64 1, .int .i64 2] 3)).alloc (.cells #[.int .i64 2] 3)).alloc (.cells #[.slice (some ⟨H, 0, none⟩) 2 2, .slice (some ⟨H + 1, 0, none⟩) 1 1] 73) by rw [hwC, hwB, hwA])
  clear s1 s2 s3 hAs hBs bAB bBC hwA hwB hwC
  go_wp2_with fail
  rw [← HWC.out]
  refine HBC.out.mono ?_
  rintro e w4 ⟨A, c, rfl, hb4⟩
  have HB4 := Lib.hid (below_trans HB3.out hb4)
  clear hb4
  go_wp2_with fail
  refine (walName7_any _).mono ?_
  rintro e w5 ⟨rfl, hb5⟩
  have HB5 := Lib.hid (below_trans HB4.out hb5)
  clear hb5
  go_wp2_with fail
  go_ret
  exact ⟨rfl, HB5.out⟩

end Go.Proofs.YtcopknopifbebaaGreatDoor
