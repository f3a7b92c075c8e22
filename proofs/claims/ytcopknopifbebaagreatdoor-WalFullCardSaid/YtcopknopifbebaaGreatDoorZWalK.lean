/-
  Layer 4 (disk): what the calls do to the files.
-/
import Derived.Test.YtcopknopifbebaaGreatDoorZWalU
import Derived.Test.YtcopknopifbebaaGreatDoorZLib22
import Derived.Deep.QuietTactic
import Derived.Shelf.Abstract

namespace Go.Bar.Wal
open Go.RowKit Go.Bar Go.Proofs
section
variable {P : Program} {t k e : TypeId} {w : World} {b : Nat} {fs : Fs}
theorem FmAt.upd (h : FmAt P k w b fs) (T : FmTy P t k e) (hs : Srt fs) (hn : fs.length < maxLen) (l : List UInt8) (hl : l.length ≤ maxLen) (f : Fi) :
    ∃ w', (Instr.mapUpdate t (.map (some b)) (.string (bs l)) (fiV f)).run P w = .ok () w' ∧ FmAt P k w' b (fput fs l f) ∧ w.grownBy w' (some b) := by
  obtain ⟨w', hrun, r1, r2⟩ := World.ownsMap.update h (Maps.string_keyed T.key) T.map hn (key_of T.key l hl) (fileR_of f)
  refine ⟨w', hrun, ?_, r2⟩
  rw [dOf_put hs] at r1
  exact owns_size r1 (by unfold dOf; rw [Maps.size_eq, List.length_map]; exact Nat.le_refl _)
theorem FmAt.drop (h : FmAt P k w b fs) (T : FmTy P t k e) (l : List UInt8) (hl : l.length ≤ maxLen) (ty : TypeId) :
    ∃ w', (Builtin.delete_ #[t, k] ty #[.map (some b), .string (bs l)]).run P w = .ok (.tuple #[]) w' ∧ FmAt P k w' b (fdel fs l) ∧ w.grownBy w' (some b) := by
  obtain ⟨w', hrun, r1, r2⟩ := World.ownsMap.drop h (Maps.string_keyed T.key) T.map (key_of T.key l hl) ty
  refine ⟨w', hrun, ?_, r2.grown⟩
  rw [dOf_del] at r1
  exact owns_size r1 (by unfold dOf; rw [Maps.size_eq, List.length_map]; exact Nat.le_refl _)
end
theorem Off.blk {Ts : TypeId → Prop} {B : Nat} {w w' : World} {M : Nat} {T : TypeId} {cur : Array Value} (o : Off Ts B w w') (hb : Blk w M T cur) (hT : ¬ Ts T) : Blk w' M T cur := o.kc.blk hb hT
theorem nd_ptr : ¬ DTs 26 := fun c => by rcases c with c | c | c <;> exact absurd c (by decide)
theorem nd_str : ¬ DTs 9 := fun c => by rcases c with c | c | c <;> exact absurd c (by decide)
theorem nd_int : ¬ DTs 3 := fun c => by rcases c with c | c | c <;> exact absurd c (by decide)
theorem n0_ptr : ¬ DT0 26 := fun c => nd_ptr (dt0 _ c)
theorem n0_str : ¬ DT0 9 := fun c => nd_str (dt0 _ c)
theorem n0_int : ¬ DT0 3 := fun c => nd_int (dt0 _ c)
theorem n0_file : ¬ DT0 94 := fun c => by rcases c with c | c <;> exact absurd c (by decide)
theorem ndk_file : NDk 94 := ⟨by decide, by decide⟩
theorem blk_grown {w w' : World} {M b : Nat} {T : TypeId} {cur : Array Value} {fs : Fs} (hb : Blk w M T cur) (hm : FmAt Go.Proofs.Tryz.prog 9 w b fs) (hg : w.grownBy w' (some b)) : Blk w' M T cur := by
  refine (hg.block M hb.lt fun e => ?_).trans hb
  injection e with e
  obtain ⟨es, cl, h1⟩ := hm.is_map
  unfold Blk at hb
  subst e
  rw [h1] at hb
  cases hb
theorem DkC.off_map {w w' : World} {h : Hd} {fs : Fs} {room used : Int} {q : List (Int × Bool)} {a : Int} {b arm : Bool} {B : Nat} (k : DkC w h fs room used q a b arm) (hB : h.Hi B) (hg : w.grownBy w' (some h.M)) : Off DTs B w w' := Off.map k.mp.is_map hg hB.m (Nat.le_trans hB.d (Nat.le_of_lt k.dk.lt))
end Go.Bar.Wal
namespace Go.Proofs.YtcopknopifbebaaGreatDoor
open Go.RowKit Go.Bar Go.Bar.Wal Go.Conc
attribute [local go_sem] Oper.semAt_some

theorem fm_ty : FmTy Tryz.prog 41 9 94 := ⟨Tryz.underlying41, Tryz.underlying9, fun w => by
  go_simp
  rfl⟩
set_option maxHeartbeats 4000000 in
set_option maxRecDepth 10000 in
theorem appendF_any (w : World) (h : Hd) (d : Ds) (B : Nat) (k : DkAt w h d) (hB : h.Hi B) (n s : List UInt8) (b3 b4 b5 : Nat) (B3 : Blk w b3 26 #[.pointer (some ⟨h.D, 0, none⟩)]) (B4 : Blk w b4 9 #[.string (bs n)]) (B5 : Blk w b5 9 #[.string (bs s)])
    (hs : Srt d.fs) (hn : d.fs.length < 1000000000) (hl : n.length ≤ maxLen) (hf : ((fnd d.fs n).getD Fi.z).s.length + s.length ≤ 1000000000000) (hu0 : 0 ≤ d.used) (hu : d.used ≤ 1000000000000) :
    Calls Tryz.prog 61 #[.pointer (some ⟨b3, 0, none⟩), .pointer (some ⟨b4, 0, none⟩), .pointer (some ⟨b5, 0, none⟩)] w
      (DkTo B w h { d with fs := fput d.fs n ⟨((fnd d.fs n).getD Fi.z).s ++ s, ((fnd d.fs n).getD Fi.z).sure⟩, used := d.used + s.length } (.int .i64 0)) := by
  obtain ⟨⟨a, b, k1, k2'⟩, k3, k4⟩ := k
  obtain ⟨f, hff⟩ : ∃ f, f = (fnd d.fs n).getD Fi.z := ⟨_, rfl⟩
  have hlk0 := k1.mp.below (Below.refl _ w).drew
  have hlk1 := hlk0.look fm_ty n hl
  have hlk2 : ∀ o, _ := fun o => ((k1.mp.below ((Below.refl _ _).alloc (Nat.le_refl _) o)).below (Below.refl _ (w.alloc o)).drew).look fm_ty n hl
  rw [← hff] at hf hlk1 ⊢
  simp only [← hff] at hlk2
  clear hff
  obtain ⟨fb, fn⟩ := f
  simp only [fiV] at hlk1 hlk2
  have c1 := k1.dk.cell (i := 1) rfl
  have c3 := k1.dk.cell (i := 3) rfl
  have f3 := k1.dk.free 3
  have x3 := B3.cell (i := 0) rfl
  have x4 := B4.cell (i := 0) rfl
  have x5 := B5.cell (i := 0) rfl
  have y1 := fun o => (k1.dk.alloc o).cell (i := 1) rfl
  have y3 := fun o => (B3.alloc o).cell (i := 0) rfl
  have y4 := fun o => (B4.alloc o).cell (i := 0) rfl
  go_enter Tryz.func61, Tryz.ntmps61
  go_upto_region 1 with fail
  go_region
  clear hlk0 hlk1 hlk2 c1 c3 f3 x3 x4 x5 y1 y3 y4
  obtain ⟨w1, hw1⟩ : ∃ w1, w1 = (w.alloc (.cells #[.string (bs fb), .int .i64 (fn : Nat)] 94)).drew := ⟨_, rfl⟩
  rw [← hw1]
  have hb1 : Below w.heap.size w w1 := by rw [hw1]; exact ((Below.refl _ w).alloc (Nat.le_refl _) _).drew
  have F1 : Blk w1 w.heap.size 94 #[.string (bs fb), .int .i64 (fn : Nat)] := by rw [hw1]; exact (Blk.new w _ _).drew
  clear hw1
  have hFB : B ≤ w.heap.size := hiW k1 hB
  replace k1 := k1.below hb1
  replace B3 := B3.below hb1
  replace B4 := B4.below hb1
  replace B5 := B5.below hb1
  have hcat : ¬ 9223372036854775807 < fb.length + s.length := by simp only at hf; omega
  have o1 : Off DTs B w w1 := Off.of_below hb1 hFB
  have c5 := B5.cell (i := 0) rfl
  have g0 := F1.cell (i := 0) rfl
  have gf := F1.free 0
  go_upto_region 3 with fail
  have k2 := k1.other F1 ndk_file 0 (.string (bs (fb ++ s)))
  have o2 : Off DTs B w1 _ := Off.set F1 (.inr (.inr rfl)) hFB 0 (.string (bs (fb ++ s)))
  have F2 := F1.set 0 (.string (bs (fb ++ s)))
  obtain ⟨w2, hw2⟩ : ∃ w2, w2 = w1.setCell ⟨w.heap.size, 0, none⟩ (.string (bs (fb ++ s))) := ⟨_, rfl⟩
  rw [← hw2] at k2 o2 F2 ⊢
  clear hw2
  have F2 : Blk w2 w.heap.size 94 #[.string (bs (fb ++ s)), .int .i64 (fn : Nat)] := F2
  replace B3 := o2.blk B3 nd_ptr
  replace B4 := o2.blk B4 nd_str
  replace B5 := o2.blk B5 nd_str
  replace o2 := o1.trans o2
  clear o1 k1 F1 c5 g0 gf
  have x3 := B3.cell (i := 0) rfl
  have x4 := B4.cell (i := 0) rfl
  have c1 := k2.dk.cell (i := 1) rfl
  obtain ⟨g0, g1⟩ := Blk.c2 F2
  have kd := k2.below (Below.refl _ w2).drew
  obtain ⟨w3, hup, hm3, hg3⟩ := kd.mp.upd fm_ty hs (by unfold maxLen; omega) n hl ⟨fb ++ s, fn⟩
  simp only [fiV] at hup
  have k3' := kd.files hm3 hg3
  have o3 := kd.off_map hB hg3
  replace o3 := o2.trans ((Off.of_below (Below.refl _ w2).drew (hiW k2 hB)).trans o3)
  have e3 := B3.drew
  have e5 := B5.drew
  replace e3 := blk_grown e3 kd.mp hg3
  replace e5 := blk_grown e5 kd.mp hg3
  clear hm3 hg3
  go_region
  clear x3 x4 c1 g0 g1 hup kd k2 o2 F2
  have x3 := e3.cell (i := 0) rfl
  have x5 := e5.cell (i := 0) rfl
  have c3 := k3'.dk.cell (i := 3) rfl
  have f3 := k3'.dk.free 3
  have k4' := k3'.setD (d.used + s.length)
  have o4 := o3.trans (offD k3' hB 3 (.int .i64 (d.used + s.length)))
  have hi : s.length ≤ 1000000000000 := by simp only at hf; omega
  go_upto_region 4 with fail
  go_region
  go_wp2_with fail
  go_ret
  exact ⟨rfl, ⟨⟨a, b, k4'.below (Below.refl _ _).drew, k2'⟩, k3, k4⟩, o4.trans (Off.of_below (Below.refl _ _).drew (hiW k4' hB))⟩
end Go.Proofs.YtcopknopifbebaaGreatDoor

/-
  Layer 4 (disk): Free, Append.
-/
namespace Go.Proofs.YtcopknopifbebaaGreatDoor
open Go.RowKit Go.Bar Go.Bar.Wal Go.Conc
attribute [local go_sem] Oper.semAt_some

set_option maxHeartbeats 4000000 in
theorem free_any (w : World) (h : Hd) (d : Ds) (k : DkAt w h d) (hr : d.room ≤ 1000000000000) (hr0 : 0 ≤ d.room) (hu0 : 0 ≤ d.used) (hu : d.used ≤ d.room) : Calls Tryz.prog 45 #[.pointer (some ⟨h.D, 0, none⟩)] w (Quiet w (.int .i64 d.free)) := by
  obtain ⟨⟨a, b, k1, k2⟩, k3, k4⟩ := k
  have c2 := k1.dk.cell (i := 2) rfl
  have c3 := k1.dk.cell (i := 3) rfl
  unfold Ds.free
  go_enter Tryz.func45, Tryz.ntmps45
  go_upto_region 1 with fail
  go_quiet (fail)
  go_wp2_with fail
  go_ret
  exact ⟨rfl, _, rfl⟩
set_option maxHeartbeats 4000000 in
set_option maxRecDepth 10000 in
theorem dAppend_any (w : World) (h : Hd) (d : Ds) (B c : Nat) (k : DkAt w h d) (hB : h.Hi B) (ha : Acc c d) (hc : c ≤ 100000000) (hr : d.room ≤ 100000000000) (n s : List UInt8) (hn : n.length ≤ maxLen) (hs : s.length ≤ maxLen) :
    Calls Tryz.prog 36 #[.pointer (some ⟨h.D, 0, none⟩), .string (bs n), .string (bs s)] w (DkTo B w h (d.append n s).2 (.int .i64 ((d.append n s).1 : Nat))) := by
  have hu := ha.use
  have hru := ha.room
  have hB0 : B ≤ w.heap.size := by obtain ⟨⟨a, b, k1, k2⟩, k3, k4⟩ := k; exact hiW k1 hB
  have hW := ((((Below.refl _ w).alloc (Nat.le_refl _) (.cells #[.pointer (some ⟨h.D, 0, none⟩)] 26)).alloc (by simp) (.cells #[.string (bs n)] 9)).alloc (by simp; omega) (.cells #[.string (bs s)] 9))
  obtain ⟨W, hWe⟩ : ∃ W, W = ((w.alloc (.cells #[.pointer (some ⟨h.D, 0, none⟩)] 26)).alloc (.cells #[.string (bs n)] 9)).alloc (.cells #[.string (bs s)] 9) := ⟨_, rfl⟩
  rw [← hWe] at hW
  have hk := k.below hW
  have hO : Off DTs B w W := Off.of_below hW hB0
  have b3 : Blk W w.heap.size 26 #[.pointer (some ⟨h.D, 0, none⟩)] := by rw [hWe]; exact ((blk_at rfl).alloc _).alloc _
  have b4 : Blk W (w.heap.size + 1) 9 #[.string (bs n)] := by rw [hWe]; exact (blk_at (by simp)).alloc _
  have b5 : Blk W (w.heap.size + 2) 9 #[.string (bs s)] := by rw [hWe]; exact blk_at (by simp)
  replace hWe := Lib.hid hWe
  have x3 := b3.cell (i := 0) rfl
  have x4 := b4.cell (i := 0) rfl
  have x5 := b5.cell (i := 0) rfl
  obtain ⟨r, hre⟩ : ∃ r, r = d.append n s := ⟨_, rfl⟩
  rw [← hre]
  replace hre := Lib.hid hre
  go_enter Tryz.func36, Tryz.ntmps36
  go_upto_region 1 with fail
  rw [← hWe.out]
  clear hWe
  have hn2 : n.length ≤ 9223372036854775807 := hn
  have hs2 : s.length ≤ 9223372036854775807 := hs
  by_cases hbad : badName n
  · have e : r = (1, d) := by have := hre.out; unfold Ds.append at this; rwa [if_pos hbad] at this
    replace e := Lib.hid e
    unfold badName at hbad
    rcases hbad with rfl | hbad
    · go_wp2_with fail
      go_ret
      rw [e.out]
      exact ⟨rfl, hk, hO⟩
    · have h1 : n.isEmpty = false := by cases n with | nil => simp at hbad | cons x l => rfl
      have h2 : decide (40 < (n.length : Int)) = true := decide_eq_true (by omega)
      go_wp2_with fail
      go_ret
      rw [e.out]
      exact ⟨rfl, hk, hO⟩
  · have h1 : n.isEmpty = false := by cases n with | nil => exact absurd (.inl rfl) hbad | cons x l => rfl
    have h2 : decide (40 < (n.length : Int)) = false := decide_eq_false (fun e => hbad (.inr (by omega)))
    have HF := fun nq => free_any (W.drewN nq) h d (hk.below (below_draws W nq)) (by omega) (by omega) (by omega) hru
    replace HF := Lib.hid HF
    by_cases hfull : d.free < s.length
    · have e : r = (7, d) := by have := hre.out; unfold Ds.append at this; rwa [if_neg hbad, if_pos hfull] at this
      replace e := Lib.hid e
      clear hbad
      go_upto_region 3 with fail
      go_quiet (first | (go_at_call 45; refine Calls.quiet_of (HF.out _)))
      go_wp2_with fail
      go_ret
      rw [e.out]
      exact ⟨rfl, hk.below (below_draws _ _), hO.trans (Off.of_below (below_draws _ _) (Nat.le_trans hB0 hW.size))⟩
    · have e : r = d.do_ (fun d => { d with fs := fput d.fs n ⟨((fnd d.fs n).getD Fi.z).s ++ s, ((fnd d.fs n).getD Fi.z).sure⟩, used := d.used + s.length }) := by have := hre.out; unfold Ds.append at this; rwa [if_neg hbad, if_neg hfull] at this
      replace e := Lib.hid e
      clear hbad
      go_upto_region 3 with fail
      go_quiet (first | (go_at_call 45; refine Calls.quiet_of (HF.out _)))
      replace hk := hk.below (below_draws W nq)
      replace hO := hO.trans (Off.of_below (below_draws W nq) (Nat.le_trans hB0 hW.size))
      replace b3 := b3.drewN nq
      replace b4 := b4.drewN nq
      replace b5 := b5.drewN nq
      clear x3 x4 x5
      have x3 := b3.cell (i := 0) rfl
      have x0 : (W.drewN nq).cell? ⟨h.D, 0, none⟩ = some (.pointer (some ⟨h.U, 0, none⟩)) := by obtain ⟨⟨a, b, k1, k2⟩, k3, k4⟩ := hk; exact k1.dk.cell (i := 0) rfl
      have hf1 : (d.used : Int) + s.length ≤ d.room := by unfold Ds.free at hfull; omega
      have hfl := len_le_tot d.fs n
      unfold lenAt at hfl
      have hdo := do_any 61 #[.pointer (some ⟨w.heap.size, 0, none⟩), .pointer (some ⟨w.heap.size + 1, 0, none⟩), .pointer (some ⟨w.heap.size + 1 + 1, 0, none⟩)] (enters_of Tryz.func61 (by kernel_rfl) rfl) _ h d B hk hB
        (fun d => { d with fs := fput d.fs n ⟨((fnd d.fs n).getD Fi.z).s ++ s, ((fnd d.fs n).getD Fi.z).sure⟩, used := d.used + s.length })
        (fun w1 hk1 ho1 => appendF_any w1 h _ B hk1 hB n s _ _ _ (ho1.blk b3 n0_ptr) (ho1.blk b4 n0_str) (ho1.blk b5 n0_str) ha.srt (by have := ha.num; show d.fs.length < _; omega) hn (by show ((fnd d.fs n).getD Fi.z).s.length + s.length ≤ 1000000000000; omega) (by show 0 ≤ d.used; omega) (by show d.used ≤ _; omega))
      rw [← e.out] at hdo
      replace hdo := Lib.hid hdo
      go_wp2_with (go_at_call 60; refine hdo.out.mono ?_; rintro e1 w1 ⟨rfl, hk1, ho1⟩)
      go_ret
      exact ⟨rfl, hk1, hO.trans ho1⟩
end Go.Proofs.YtcopknopifbebaaGreatDoor

/-
  Layer 4 (disk): Sync, Remove.
-/
namespace Go.Proofs.YtcopknopifbebaaGreatDoor
open Go.RowKit Go.Bar Go.Bar.Wal Go.Conc
attribute [local go_sem] Oper.semAt_some

structure Lk (w : World) (h : Hd) (d : Ds) (n : Nm) (f : Fi) (ok : Bool) : Prop where
  a : (Instr.lookup 41 (.map (some h.M)) (.string (bs n)) true).run Tryz.prog w.drew = .ok (.tuple #[fiV f, .bool ok]) w.drew
  b : ∀ o, (Instr.lookup 41 (.map (some h.M)) (.string (bs n)) true).run Tryz.prog (w.alloc o).drew = .ok (.tuple #[fiV f, .bool ok]) (w.alloc o).drew
theorem lk_of {w : World} {h : Hd} {d : Ds} {n : Nm} (k : DkAt w h d) (hn : n.length ≤ maxLen) : Lk w h d n ((fnd d.fs n).getD Fi.z) (fnd d.fs n).isSome := by
  obtain ⟨⟨a, b, k1, _⟩, _, _⟩ := k
  exact ⟨(k1.mp.below (Below.refl _ w).drew).look_ok fm_ty n hn, fun o => ((k1.mp.below ((Below.refl _ _).alloc (Nat.le_refl _) o)).below (Below.refl _ (w.alloc o)).drew).look_ok fm_ty n hn⟩
theorem d_cells {w : World} {h : Hd} {d : Ds} (k : DkAt w h d) : w.cell? ⟨h.D, 0, none⟩ = some (.pointer (some ⟨h.U, 0, none⟩)) ∧ w.cell? ⟨h.D, 1, none⟩ = some (.map (some h.M)) := by
  obtain ⟨⟨a, b, k1, _⟩, _, _⟩ := k
  exact ⟨k1.dk.cell (i := 0) rfl, k1.dk.cell (i := 1) rfl⟩
theorem hiA {w : World} {h : Hd} {d : Ds} {B : Nat} (k : DkAt w h d) (hB : h.Hi B) : B ≤ w.heap.size := by
  obtain ⟨⟨a, b, k1, _⟩, _, _⟩ := k
  exact hiW k1 hB
set_option maxHeartbeats 4000000 in
set_option maxRecDepth 10000 in
theorem syncF_any (w : World) (h : Hd) (d : Ds) (B : Nat) (k : DkAt w h d) (hB : h.Hi B) (n : List UInt8) (f : Fi) (b0 b1 b2 : Nat) (hb0 : B ≤ b0) (B0 : Blk w b0 94 #[.string (bs f.s), .int .i64 (f.sure : Nat)]) (B1 : Blk w b1 26 #[.pointer (some ⟨h.D, 0, none⟩)]) (B2 : Blk w b2 9 #[.string (bs n)])
    (hs : Srt d.fs) (hn : d.fs.length < 1000000000) (hl : n.length ≤ maxLen) (hf : f.s.length ≤ 1000000000000) :
    Calls Tryz.prog 68 #[.pointer (some ⟨b0, 0, none⟩), .pointer (some ⟨b1, 0, none⟩), .pointer (some ⟨b2, 0, none⟩)] w
      (DkTo B w h { d with fs := fput d.fs n ⟨f.s, f.s.length⟩ } (.int .i64 0)) := by
  obtain ⟨⟨a, b, k1, k2'⟩, k3, k4⟩ := k
  obtain ⟨fb, fn⟩ := f
  simp only at B0 hf ⊢
  obtain ⟨g0, g1⟩ := Blk.c2 B0
  have g1f := B0.free 1
  have hf2 : fb.length ≤ 9223372036854775807 := by omega
  go_enter Tryz.func68, Tryz.ntmps68
  go_upto_region 2 with fail
  have k2 := k1.other B0 ndk_file 1 (.int .i64 (fb.length : Nat))
  have o2 : Off DTs B w _ := Off.set B0 (.inr (.inr rfl)) hb0 1 (.int .i64 (fb.length : Nat))
  have F2 := B0.set 1 (.int .i64 (fb.length : Nat))
  obtain ⟨w2, hw2⟩ : ∃ w2, w2 = w.setCell ⟨b0, 1, none⟩ (.int .i64 (fb.length : Nat)) := ⟨_, rfl⟩
  rw [← hw2] at k2 o2 F2 ⊢
  clear hw2
  have F2 : Blk w2 b0 94 #[.string (bs fb), .int .i64 (fb.length : Nat)] := F2
  replace B1 := o2.blk B1 nd_ptr
  replace B2 := o2.blk B2 nd_str
  clear k1 B0 g0 g1 g1f
  have x1 := B1.cell (i := 0) rfl
  have x2 := B2.cell (i := 0) rfl
  have c1 := k2.dk.cell (i := 1) rfl
  obtain ⟨g0, g1⟩ := Blk.c2 F2
  have kd := k2.below (Below.refl _ w2).drew
  obtain ⟨w3, hup, hm3, hg3⟩ := kd.mp.upd fm_ty hs (by unfold maxLen; omega) n hl ⟨fb, fb.length⟩
  simp only [fiV] at hup
  have k3' := kd.files hm3 hg3
  have o3 := kd.off_map hB hg3
  replace o3 := o2.trans ((Off.of_below (Below.refl _ w2).drew (hiW k2 hB)).trans o3)
  clear hm3 hg3
  go_region
  clear x1 x2 c1 g0 g1 hup kd
  go_wp2_with fail
  go_ret
  exact ⟨rfl, ⟨⟨a, b, k3', k2'⟩, k3, k4⟩, o3⟩
set_option maxHeartbeats 4000000 in
set_option maxRecDepth 10000 in
theorem dSync_any (w : World) (h : Hd) (d : Ds) (B c : Nat) (k : DkAt w h d) (hB : h.Hi B) (ha : Acc c d) (hc : c ≤ 100000000) (hr : d.room ≤ 100000000000) (n : List UInt8) (hn : n.length ≤ maxLen) :
    Calls Tryz.prog 42 #[.pointer (some ⟨h.D, 0, none⟩), .string (bs n)] w (DkTo B w h (d.sync n).2 (.int .i64 ((d.sync n).1 : Nat))) := by
  have hu := ha.use
  have hru := ha.room
  have hB0 : B ≤ w.heap.size := hiA k hB
  have hW := (((Below.refl _ w).alloc (Nat.le_refl _) (.cells #[.pointer (some ⟨h.D, 0, none⟩)] 26)).alloc (by simp) (.cells #[.string (bs n)] 9))
  obtain ⟨W, hWe⟩ : ∃ W, W = (w.alloc (.cells #[.pointer (some ⟨h.D, 0, none⟩)] 26)).alloc (.cells #[.string (bs n)] 9) := ⟨_, rfl⟩
  have hz : W.heap.size = w.heap.size + 2 := by rw [hWe]; simp
  rw [← hWe] at hW
  have hk := k.below hW
  have hO : Off DTs B w W := Off.of_below hW hB0
  have b2 : Blk W w.heap.size 26 #[.pointer (some ⟨h.D, 0, none⟩)] := by rw [hWe]; exact (blk_at rfl).alloc _
  have b3 : Blk W (w.heap.size + 1) 9 #[.string (bs n)] := by rw [hWe]; exact blk_at (by simp)
  replace hWe := Lib.hid hWe
  have x2 := b2.cell (i := 0) rfl
  have x3 := b3.cell (i := 0) rfl
  have y2 := fun o => (b2.alloc o).cell (i := 0) rfl
  have y3 := fun o => (b3.alloc o).cell (i := 0) rfl
  obtain ⟨x0, x1⟩ := d_cells hk
  have y0 := fun o => (d_cells (hk.below ((Below.refl _ W).alloc (Nat.le_refl _) o))).2
  obtain ⟨r, hre⟩ : ∃ r, r = d.sync n := ⟨_, rfl⟩
  rw [← hre]
  replace hre := Lib.hid hre
  have hlk := lk_of hk hn
  go_enter Tryz.func42, Tryz.ntmps42
  go_upto_region 1 with fail
  rw [← hWe.out]
  clear hWe
  cases hfn : fnd d.fs n with
  | none =>
    have e : r = (5, d) := by have := hre.out; unfold Ds.sync at this; rwa [hfn] at this
    replace e := Lib.hid e
    rw [hfn] at hlk
    obtain ⟨l1, l2⟩ := hlk
    simp only [Option.getD_none, Option.isSome_none, Fi.z, fiV] at l1 l2
    clear hfn
    go_region
    go_wp2_with fail
    go_ret
    rw [e.out]
    have hb : Below W.heap.size W (W.alloc (.cells #[.string (bs []), .int .i64 ((0 : Nat) : Int)] 94)).drew := ((Below.refl _ _).alloc (Nat.le_refl _) _).drew
    exact ⟨rfl, hk.below hb, hO.trans (Off.of_below hb (Nat.le_trans hB0 hW.size))⟩
  | some f =>
    have e : r = d.do_ (fun d => { d with fs := fput d.fs n ⟨f.s, f.s.length⟩ }) := by have := hre.out; unfold Ds.sync at this; rwa [hfn] at this
    replace e := Lib.hid e
    rw [hfn] at hlk
    obtain ⟨l1, l2⟩ := hlk
    simp only [Option.getD_some, Option.isSome_some, fiV] at l1 l2
    have hfl := len_le_tot d.fs n
    rw [len_some hfn] at hfl
    clear hfn
    go_region
    clear x0 x1 x2 x3 y0 y2 y3 l1 l2
    have hb1 : Below W.heap.size W (W.alloc (.cells #[.string (bs f.s), .int .i64 (f.sure : Nat)] 94)).drew := ((Below.refl _ _).alloc (Nat.le_refl _) _).drew
    have F1 : Blk (W.alloc (.cells #[.string (bs f.s), .int .i64 (f.sure : Nat)] 94)).drew W.heap.size 94 #[.string (bs f.s), .int .i64 (f.sure : Nat)] := (Blk.new W _ _).drew
    obtain ⟨w1, hw1⟩ : ∃ w1, w1 = (W.alloc (.cells #[.string (bs f.s), .int .i64 (f.sure : Nat)] 94)).drew := ⟨_, rfl⟩
    rw [← hw1] at hb1 F1 ⊢
    clear hw1
    replace hk := hk.below hb1
    replace hO := hO.trans (Off.of_below hb1 (Nat.le_trans hB0 hW.size))
    replace b2 := b2.below hb1
    replace b3 := b3.below hb1
    have x2 := b2.cell (i := 0) rfl
    obtain ⟨x0, x1⟩ := d_cells hk
    have hBW : B ≤ W.heap.size := Nat.le_trans hB0 hW.size
    rw [hz] at F1
    have hdo := do_any 68 #[.pointer (some ⟨w.heap.size + 2, 0, none⟩), .pointer (some ⟨w.heap.size, 0, none⟩), .pointer (some ⟨w.heap.size + 1, 0, none⟩)] (enters_of Tryz.func68 (by kernel_rfl) rfl) _ h d B hk hB
      (fun d => { d with fs := fput d.fs n ⟨f.s, f.s.length⟩ })
      (fun w2 hk2 ho2 => syncF_any w2 h _ B hk2 hB n f _ _ _ (by omega) (ho2.blk F1 n0_file) (ho2.blk b2 n0_ptr) (ho2.blk b3 n0_str) ha.srt (by have := ha.num; show d.fs.length < _; omega) hn (by omega))
    rw [← e.out] at hdo
    replace hdo := Lib.hid hdo
    go_wp2_with (go_at_call 60; refine hdo.out.mono ?_; rintro e1 w2 ⟨rfl, hk1, ho1⟩)
    go_ret
    exact ⟨rfl, hk1, hO.trans ho1⟩
end Go.Proofs.YtcopknopifbebaaGreatDoor

/-
  Layer 4 (disk): Truncate.
-/
namespace Go.Proofs.YtcopknopifbebaaGreatDoor
open Go.RowKit Go.Bar Go.Bar.Wal Go.Conc
attribute [local go_sem] Oper.semAt_some

theorem blk_set {w : World} {M L : Nat} {T U : TypeId} {cur cur2 : Array Value} (hb : Blk w M T cur) (hm : Blk w L U cur2) (hne : T ≠ U) (i : Nat) (u : Value) : Blk (w.setCell ⟨L, i, none⟩ u) M T cur := hb.other (fun e => by
  subst e
  unfold Blk at hb hm
  rw [hb] at hm
  injection hm with hm
  injection hm with _ hm _
  exact hne hm) i u
set_option maxHeartbeats 4000000 in
set_option maxRecDepth 10000 in
theorem truncF_any (w : World) (h : Hd) (d : Ds) (B : Nat) (k : DkAt w h d) (hB : h.Hi B) (n : List UInt8) (f : Fi) (m : Nat) (b0 b1 b2 b3 : Nat) (B1 : Blk w b1 94 #[.string (bs f.s), .int .i64 (f.sure : Nat)]) (B0 : Blk w b0 26 #[.pointer (some ⟨h.D, 0, none⟩)]) (B2 : Blk w b2 3 #[.int .i64 (m : Nat)]) (B3 : Blk w b3 9 #[.string (bs n)])
    (hs : Srt d.fs) (hn : d.fs.length < 1000000000) (hl : n.length ≤ maxLen) (hm : m ≤ f.s.length) (hf : (f.s.length : Int) ≤ d.used) (hu : d.used ≤ 1000000000000) :
    Calls Tryz.prog 67 #[.pointer (some ⟨b0, 0, none⟩), .pointer (some ⟨b1, 0, none⟩), .pointer (some ⟨b2, 0, none⟩), .pointer (some ⟨b3, 0, none⟩)] w
      (DkTo B w h { d with fs := fput d.fs n ⟨f.s.take m, m⟩, used := d.used - (f.s.length - m : Nat) } (.int .i64 0)) := by
  obtain ⟨⟨a, b, k1, k2'⟩, k3, k4⟩ := k
  obtain ⟨fb, fn⟩ := f
  simp only at B1 hf hm ⊢
  have x0 := B0.cell (i := 0) rfl
  have x1 := B1.cell (i := 0) rfl
  have x2 := B2.cell (i := 0) rfl
  have c3 := k1.dk.cell (i := 3) rfl
  have f3 := k1.dk.free 3
  have hl2 : fb.length ≤ 1000000000000 := by omega
  have e1 : d.used - (fb.length - m : Nat) = d.used - ((fb.length : Int) - (m : Int)) := by omega
  have hut : (0 : Int) ≤ d.used := by omega
  rw [e1]
  go_enter Tryz.func67, Tryz.ntmps67
  go_upto_region 1 with fail
  go_region
  have kk := k1.setD (d.used - ((fb.length : Int) - (m : Int)))
  have oo := offD k1 hB 3 (.int .i64 (d.used - ((fb.length : Int) - (m : Int))))
  have hbD : Blk w h.D 43 _ := k1.dk
  have F1 := blk_set B1 hbD (by decide) 3 (.int .i64 (d.used - ((fb.length : Int) - (m : Int))))
  clear x0 x1 x2 c3 f3
  obtain ⟨w2, hw2⟩ : ∃ w2, w2 = w.setCell ⟨h.D, 3, none⟩ (.int .i64 (d.used - ((fb.length : Int) - (m : Int)))) := ⟨_, rfl⟩
  rw [← hw2] at kk oo F1 ⊢
  clear hw2
  have hdr : Below w2.heap.size w2 w2.drew := (Below.refl _ w2).drew
  replace oo := oo.trans (Off.of_below hdr (hiW kk hB))
  replace kk := kk.below hdr
  replace F1 := F1.below hdr
  obtain ⟨w4, hw4⟩ : ∃ w4, w4 = w2.drew := ⟨_, rfl⟩
  rw [← hw4] at kk oo F1 ⊢
  clear hw4 hdr
  replace B0 := oo.blk B0 nd_ptr
  replace B2 := oo.blk B2 nd_int
  replace B3 := oo.blk B3 nd_str
  have x0 := B0.cell (i := 0) rfl
  have x1 := F1.cell (i := 0) rfl
  have x2 := B2.cell (i := 0) rfl
  have x3 := B3.cell (i := 0) rfl
  have c1 := kk.dk.cell (i := 1) rfl
  have kd := kk.below (Below.refl _ w4).drew
  have hsl := fun w => slice_to (P := Tryz.prog) Tryz.underlying9 fb m hm w
  obtain ⟨w3, hup, hm3, hg3⟩ := kd.mp.upd fm_ty hs (by unfold maxLen; omega) n hl ⟨fb.take m, m⟩
  simp only [fiV] at hup
  have k3' := kd.files hm3 hg3
  have o3 := kd.off_map hB hg3
  replace o3 := oo.trans ((Off.of_below (Below.refl _ w4).drew (hiW kk hB)).trans o3)
  clear hm3 hg3
  go_upto_region 2 with fail
  go_region
  clear x0 x1 x2 x3 c1 hup kd hsl
  go_wp2_with fail
  go_ret
  exact ⟨rfl, ⟨⟨a, b, k3', k2'⟩, k3, k4⟩, o3⟩
end Go.Proofs.YtcopknopifbebaaGreatDoor

/-
  Layer 4 (disk): Rename's deed.
-/
namespace Go.Proofs.YtcopknopifbebaaGreatDoor
open Go.RowKit Go.Bar Go.Bar.Wal Go.Conc
attribute [local go_sem] Oper.semAt_some

set_option maxHeartbeats 4000000 in
set_option maxRecDepth 10000 in
theorem renameF_any (w : World) (h : Hd) (d : Ds) (B : Nat) (k : DkAt w h d) (hB : h.Hi B) (old n : List UInt8) (f : Fi) (b0 b1 b2 b3 : Nat) (B3 : Blk w b3 94 #[.string (bs f.s), .int .i64 (f.sure : Nat)]) (B2 : Blk w b2 26 #[.pointer (some ⟨h.D, 0, none⟩)]) (B0 : Blk w b0 9 #[.string (bs old)]) (B1 : Blk w b1 9 #[.string (bs n)])
    (hs : Srt d.fs) (hn : d.fs.length < 1000000000) (hl : n.length ≤ maxLen) (hlo : old.length ≤ maxLen) (hf : ((((fnd d.fs n).getD Fi.z).s.length : Nat) : Int) ≤ d.used) (hu : d.used ≤ 1000000000000) :
    Calls Tryz.prog 82 #[.pointer (some ⟨b0, 0, none⟩), .pointer (some ⟨b1, 0, none⟩), .pointer (some ⟨b2, 0, none⟩), .pointer (some ⟨b3, 0, none⟩)] w
      (DkTo B w h (if old = n then d else { d with fs := fput (fdel d.fs old) n f, used := d.used - (((fnd d.fs n).getD Fi.z).s.length : Nat) }) (.int .i64 0)) := by
  have hk0 := k
  obtain ⟨⟨a, b, k1, k2'⟩, k3, k4⟩ := k
  have x0 := B0.cell (i := 0) rfl
  have x1 := B1.cell (i := 0) rfl
  by_cases he : old = n
  · rw [if_pos he]
    subst he
    go_enter Tryz.func82, Tryz.ntmps82
    go_wp2_with fail
    go_ret
    exact ⟨rfl, hk0, Off.refl _ _ _⟩
  · rw [if_neg he]
    obtain ⟨g, hgg⟩ : ∃ g, g = (fnd d.fs n).getD Fi.z := ⟨_, rfl⟩
    have hlk := (k1.mp.below (Below.refl _ w).drew).look fm_ty n hl
    rw [← hgg] at hf hlk ⊢
    clear hgg hk0
    obtain ⟨gb, gn⟩ := g
    simp only [fiV] at hlk
    simp only at hf ⊢
    have x2 := B2.cell (i := 0) rfl
    have c1 := k1.dk.cell (i := 1) rfl
    have c3 := k1.dk.cell (i := 3) rfl
    have f3 := k1.dk.free 3
    have hne : (old == n) = false := by simpa using he
    have hl2 : gb.length ≤ 1000000000000 := by omega
    have hfd : ∀ W, (Instr.field 94 (.agg #[.string (bs gb), .int .i64 (gn : Nat)]) 0).run Tryz.prog W = .ok (.string (bs gb)) W := fun W => by go_simp; rfl
    go_enter Tryz.func82, Tryz.ntmps82
    go_upto_region 2 with fail
    go_region
    have kk := k1.setD (d.used - ((gb.length : Nat) : Int))
    have oo := offD k1 hB 3 (.int .i64 (d.used - ((gb.length : Nat) : Int)))
    have F1 := blk_set B3 k1.dk (by decide) 3 (.int .i64 (d.used - ((gb.length : Nat) : Int)))
    clear x0 x1 x2 c3 f3 c1 hlk k1 hfd
    obtain ⟨w2, hw2⟩ : ∃ w2, w2 = w.setCell ⟨h.D, 3, none⟩ (.int .i64 (d.used - ((gb.length : Nat) : Int))) := ⟨_, rfl⟩
    rw [← hw2] at kk oo F1 ⊢
    clear hw2
    have hdr : Below w2.heap.size w2 w2.drew := (Below.refl _ w2).drew
    replace oo := oo.trans (Off.of_below hdr (hiW kk hB))
    replace kk := kk.below hdr
    replace F1 := F1.below hdr
    obtain ⟨w4, hw4⟩ : ∃ w4, w4 = w2.drew := ⟨_, rfl⟩
    rw [← hw4] at kk oo F1 ⊢
    clear hw4 hdr
    replace B0 := oo.blk B0 nd_str
    replace B1 := oo.blk B1 nd_str
    replace B2 := oo.blk B2 nd_ptr
    have x0 := B0.cell (i := 0) rfl
    have x2 := B2.cell (i := 0) rfl
    have c1 := kk.dk.cell (i := 1) rfl
    have kd := kk.below (Below.refl _ w4).drew
    obtain ⟨w3, hdl, hm3, hg3⟩ := kd.mp.drop fm_ty old hlo 0
    have k5 := kd.files hm3 hg3
    have o5 := kd.off_map hB hg3
    replace o5 := oo.trans ((Off.of_below (Below.refl _ w4).drew (hiW kk hB)).trans o5)
    have e0 := blk_grown B0.drew kd.mp hg3
    have e1 := blk_grown B1.drew kd.mp hg3
    have e2 := blk_grown B2.drew kd.mp hg3
    have e3 := blk_grown F1.drew kd.mp hg3
    clear hm3 hg3
    go_upto_region 3 with fail
    go_region
    clear x0 x2 c1 hdl kd
    have x1 := e1.cell (i := 0) rfl
    have x2 := e2.cell (i := 0) rfl
    obtain ⟨g0, g1⟩ := Blk.c2 e3
    have c1 := k5.dk.cell (i := 1) rfl
    have kd := k5.below (Below.refl _ w3).drew
    obtain ⟨w5, hup, hm5, hg5⟩ := kd.mp.upd fm_ty (hs.del old) (by have := del_len_le d.fs old; unfold maxLen; omega) n hl f
    simp only [fiV] at hup
    have k6 := kd.files hm5 hg5
    have o6 := kd.off_map hB hg5
    replace o6 := o5.trans ((Off.of_below (Below.refl _ w3).drew (hiW k5 hB)).trans o6)
    clear hm5 hg5
    go_upto_region 4 with fail
    go_region
    clear x1 x2 g0 g1 c1 hup kd
    go_wp2_with fail
    go_ret
    exact ⟨rfl, ⟨⟨a, b, k6, k2'⟩, k3, k4⟩, o6⟩
end Go.Proofs.YtcopknopifbebaaGreatDoor

/-
  Layer 4 (disk): Rename.
-/
namespace Go.Proofs.YtcopknopifbebaaGreatDoor
open Go.RowKit Go.Bar Go.Bar.Wal Go.Conc
attribute [local go_sem] Oper.semAt_some

set_option maxHeartbeats 4000000 in
set_option maxRecDepth 10000 in
theorem dRename_any (w : World) (h : Hd) (d : Ds) (B c : Nat) (k : DkAt w h d) (hB : h.Hi B) (ha : Acc c d) (hc : c ≤ 100000000) (hr : d.room ≤ 100000000000) (old n : List UInt8) (hn : old.length ≤ maxLen) (hm : n.length ≤ maxLen) :
    Calls Tryz.prog 55 #[.pointer (some ⟨h.D, 0, none⟩), .string (bs old), .string (bs n)] w (DkTo B w h (d.rename old n).2 (.int .i64 ((d.rename old n).1 : Nat))) := by
  have hu := ha.use
  have hru := ha.room
  have hB0 : B ≤ w.heap.size := hiA k hB
  have hW := ((((Below.refl _ w).alloc (Nat.le_refl _) (.cells #[.pointer (some ⟨h.D, 0, none⟩)] 26)).alloc (by simp) (.cells #[.string (bs old)] 9)).alloc (by simp; omega) (.cells #[.string (bs n)] 9))
  obtain ⟨W, hWe⟩ : ∃ W, W = ((w.alloc (.cells #[.pointer (some ⟨h.D, 0, none⟩)] 26)).alloc (.cells #[.string (bs old)] 9)).alloc (.cells #[.string (bs n)] 9) := ⟨_, rfl⟩
  have hz : W.heap.size = w.heap.size + 3 := by rw [hWe]; simp
  rw [← hWe] at hW
  have hk := k.below hW
  have hO : Off DTs B w W := Off.of_below hW hB0
  have b2 : Blk W w.heap.size 26 #[.pointer (some ⟨h.D, 0, none⟩)] := by rw [hWe]; exact ((blk_at rfl).alloc _).alloc _
  have b3 : Blk W (w.heap.size + 1) 9 #[.string (bs old)] := by rw [hWe]; exact (blk_at (by simp)).alloc _
  have b4 : Blk W (w.heap.size + 2) 9 #[.string (bs n)] := by rw [hWe]; exact blk_at (by simp)
  replace hWe := Lib.hid hWe
  have x2 := b2.cell (i := 0) rfl
  have x3 := b3.cell (i := 0) rfl
  have y2 := fun o => (b2.alloc o).cell (i := 0) rfl
  have y3 := fun o => (b3.alloc o).cell (i := 0) rfl
  obtain ⟨x0, x1⟩ := d_cells hk
  have y0 := fun o => (d_cells (hk.below ((Below.refl _ W).alloc (Nat.le_refl _) o))).2
  obtain ⟨r, hre⟩ : ∃ r, r = d.rename old n := ⟨_, rfl⟩
  rw [← hre]
  replace hre := Lib.hid hre
  have hlk := lk_of hk hn
  go_enter Tryz.func55, Tryz.ntmps55
  go_upto_region 1 with fail
  rw [← hWe.out]
  clear hWe
  cases hfn : fnd d.fs old with
  | none =>
    have e : r = (5, d) := by have := hre.out; unfold Ds.rename at this; rw [hfn] at this; exact this
    replace e := Lib.hid e
    rw [hfn] at hlk
    obtain ⟨l1, l2⟩ := hlk
    simp only [Option.getD_none, Option.isSome_none, Fi.z, fiV] at l1 l2
    clear hfn
    go_region
    go_wp2_with fail
    go_ret
    rw [e.out]
    have hb : Below W.heap.size W (W.alloc (.cells #[.string (bs []), .int .i64 ((0 : Nat) : Int)] 94)).drew := ((Below.refl _ _).alloc (Nat.le_refl _) _).drew
    exact ⟨rfl, hk.below hb, hO.trans (Off.of_below hb (Nat.le_trans hB0 hW.size))⟩
  | some f =>
    rw [hfn] at hlk
    obtain ⟨l1, l2⟩ := hlk
    simp only [Option.getD_some, Option.isSome_some, fiV] at l1 l2
    have hr1 : badName n → r = (1, d) := fun hh => by have := hre.out; unfold Ds.rename at this; rw [hfn] at this; simp only at this; rwa [if_pos hh] at this
    have hr2 : ¬ badName n → r = d.do_ (fun d => if old = n then d else { d with fs := fput (fdel d.fs old) n f, used := d.used - (((fnd d.fs n).getD Fi.z).s.length : Nat) }) := fun hh => by have := hre.out; unfold Ds.rename at this; rw [hfn] at this; simp only at this; rwa [if_neg hh] at this
    replace hr1 := Lib.hid hr1
    replace hr2 := Lib.hid hr2
    clear hfn
    go_region
    clear x0 x1 x2 x3 y0 y2 y3 l1 l2
    have hb1 : Below W.heap.size W (W.alloc (.cells #[.string (bs f.s), .int .i64 (f.sure : Nat)] 94)).drew := ((Below.refl _ _).alloc (Nat.le_refl _) _).drew
    have F1 : Blk (W.alloc (.cells #[.string (bs f.s), .int .i64 (f.sure : Nat)] 94)).drew W.heap.size 94 #[.string (bs f.s), .int .i64 (f.sure : Nat)] := (Blk.new W _ _).drew
    obtain ⟨w1, hw1⟩ : ∃ w1, w1 = (W.alloc (.cells #[.string (bs f.s), .int .i64 (f.sure : Nat)] 94)).drew := ⟨_, rfl⟩
    rw [← hw1] at hb1 F1 ⊢
    clear hw1
    replace hk := hk.below hb1
    replace hO := hO.trans (Off.of_below hb1 (Nat.le_trans hB0 hW.size))
    replace b2 := b2.below hb1
    replace b3 := b3.below hb1
    replace b4 := b4.below hb1
    have x4 := b4.cell (i := 0) rfl
    have x2 := b2.cell (i := 0) rfl
    obtain ⟨x0, x1⟩ := d_cells hk
    by_cases hbad : badName n
    · have hbd := hbad
      unfold badName at hbd
      rcases hbd with rfl | hbd
      · go_wp2_with fail
        go_ret
        rw [hr1.out hbad]
        exact ⟨rfl, hk, hO⟩
      · have h1 : n.isEmpty = false := by cases n with | nil => simp at hbd | cons x l => rfl
        have h2 : decide (40 < (n.length : Int)) = true := decide_eq_true (by omega)
        have hm2 : n.length ≤ 9223372036854775807 := hm
        go_wp2_with fail
        go_ret
        rw [hr1.out hbad]
        exact ⟨rfl, hk, hO⟩
    · have h1 : n.isEmpty = false := by cases n with | nil => exact absurd (.inl rfl) hbad | cons x l => rfl
      have h2 : decide (40 < (n.length : Int)) = false := decide_eq_false (fun e => hbad (.inr (by omega)))
      have hm2 : n.length ≤ 9223372036854775807 := hm
      have hnl := len_le_tot d.fs n
      unfold lenAt at hnl
      have hBW : B ≤ W.heap.size := Nat.le_trans hB0 hW.size
      rw [hz] at F1
      have hdo := do_any 82 #[.pointer (some ⟨w.heap.size + 1, 0, none⟩), .pointer (some ⟨w.heap.size + 2, 0, none⟩), .pointer (some ⟨w.heap.size, 0, none⟩), .pointer (some ⟨w.heap.size + 3, 0, none⟩)] (enters_of Tryz.func82 (by kernel_rfl) rfl) _ h d B hk hB
        (fun d => if old = n then d else { d with fs := fput (fdel d.fs old) n f, used := d.used - (((fnd d.fs n).getD Fi.z).s.length : Nat) })
        (fun w2 hk2 ho2 => renameF_any w2 h _ B hk2 hB old n f _ _ _ _ (ho2.blk F1 n0_file) (ho2.blk b2 n0_ptr) (ho2.blk b3 n0_str) (ho2.blk b4 n0_str) ha.srt (by have := ha.num; show d.fs.length < _; omega) hm hn (by show ((((fnd d.fs n).getD Fi.z).s.length : Nat) : Int) ≤ d.used; omega) (by show d.used ≤ _; omega))
      rw [← hr2.out hbad] at hdo
      replace hdo := Lib.hid hdo
      go_wp2_with (go_at_call 60; refine hdo.out.mono ?_; rintro e1 w2 ⟨rfl, hk1, ho1⟩)
      go_ret
      exact ⟨rfl, hk1, hO.trans ho1⟩
end Go.Proofs.YtcopknopifbebaaGreatDoor

/-
  Layer 4 (disk): Remove.
-/
namespace Go.Proofs.YtcopknopifbebaaGreatDoor
open Go.RowKit Go.Bar Go.Bar.Wal Go.Conc
attribute [local go_sem] Oper.semAt_some

set_option maxHeartbeats 4000000 in
set_option maxRecDepth 10000 in
theorem removeF_any (w : World) (h : Hd) (d : Ds) (B : Nat) (k : DkAt w h d) (hB : h.Hi B) (n : List UInt8) (f : Fi) (b0 b1 b2 : Nat) (B2 : Blk w b2 94 #[.string (bs f.s), .int .i64 (f.sure : Nat)]) (B0 : Blk w b0 26 #[.pointer (some ⟨h.D, 0, none⟩)]) (B1 : Blk w b1 9 #[.string (bs n)])
    (hl : n.length ≤ maxLen) (hf : (f.s.length : Int) ≤ d.used) (hu : d.used ≤ 1000000000000) :
    Calls Tryz.prog 81 #[.pointer (some ⟨b0, 0, none⟩), .pointer (some ⟨b1, 0, none⟩), .pointer (some ⟨b2, 0, none⟩)] w
      (DkTo B w h { d with fs := fdel d.fs n, used := d.used - (f.s.length : Nat) } (.int .i64 0)) := by
  obtain ⟨⟨a, b, k1, k2'⟩, k3, k4⟩ := k
  have kd := k1.below (Below.refl _ w).drew
  obtain ⟨w3, hdl, hm3, hg3⟩ := kd.mp.drop fm_ty n hl 0
  have k3' := kd.files hm3 hg3
  have o3 := kd.off_map hB hg3
  replace o3 := (Off.of_below (Below.refl _ w).drew (hiW k1 hB)).trans o3
  have e0 := blk_grown B0.drew kd.mp hg3
  have e2 := blk_grown B2.drew kd.mp hg3
  clear hm3 hg3
  have x0 := B0.cell (i := 0) rfl
  have x1 := B1.cell (i := 0) rfl
  have c1 := k1.dk.cell (i := 1) rfl
  go_enter Tryz.func81, Tryz.ntmps81
  go_upto_region 1 with fail
  go_region
  clear x0 x1 c1 hdl kd
  have x0 := e0.cell (i := 0) rfl
  have x2 := e2.cell (i := 0) rfl
  have c3 := k3'.dk.cell (i := 3) rfl
  have f3 := k3'.dk.free 3
  have k4' := k3'.setD (d.used - (f.s.length : Nat))
  have o4 := o3.trans (offD k3' hB 3 (.int .i64 (d.used - (f.s.length : Nat))))
  go_upto_region 2 with fail
  go_region
  go_wp2_with fail
  go_ret
  exact ⟨rfl, ⟨⟨a, b, k4'.below (Below.refl _ _).drew, k2'⟩, k3, k4⟩, o4.trans (Off.of_below (Below.refl _ _).drew (hiW k4' hB))⟩
set_option maxHeartbeats 4000000 in
set_option maxRecDepth 10000 in
theorem dRemove_any (w : World) (h : Hd) (d : Ds) (B c : Nat) (k : DkAt w h d) (hB : h.Hi B) (ha : Acc c d) (_ : c ≤ 100000000) (hr : d.room ≤ 100000000000) (n : List UInt8) (hn : n.length ≤ maxLen) :
    Calls Tryz.prog 54 #[.pointer (some ⟨h.D, 0, none⟩), .string (bs n)] w (DkTo B w h (d.remove n).2 (.int .i64 ((d.remove n).1 : Nat))) := by
  have hu := ha.use
  have hru := ha.room
  have hB0 : B ≤ w.heap.size := hiA k hB
  have hW := (((Below.refl _ w).alloc (Nat.le_refl _) (.cells #[.pointer (some ⟨h.D, 0, none⟩)] 26)).alloc (by simp) (.cells #[.string (bs n)] 9))
  obtain ⟨W, hWe⟩ : ∃ W, W = (w.alloc (.cells #[.pointer (some ⟨h.D, 0, none⟩)] 26)).alloc (.cells #[.string (bs n)] 9) := ⟨_, rfl⟩
  have hz : W.heap.size = w.heap.size + 2 := by rw [hWe]; simp
  rw [← hWe] at hW
  have hk := k.below hW
  have hO : Off DTs B w W := Off.of_below hW hB0
  have b2 : Blk W w.heap.size 26 #[.pointer (some ⟨h.D, 0, none⟩)] := by rw [hWe]; exact (blk_at rfl).alloc _
  have b3 : Blk W (w.heap.size + 1) 9 #[.string (bs n)] := by rw [hWe]; exact blk_at (by simp)
  replace hWe := Lib.hid hWe
  have x2 := b2.cell (i := 0) rfl
  have x3 := b3.cell (i := 0) rfl
  have y2 := fun o => (b2.alloc o).cell (i := 0) rfl
  have y3 := fun o => (b3.alloc o).cell (i := 0) rfl
  obtain ⟨x0, x1⟩ := d_cells hk
  have y0 := fun o => (d_cells (hk.below ((Below.refl _ W).alloc (Nat.le_refl _) o))).2
  obtain ⟨r, hre⟩ : ∃ r, r = d.remove n := ⟨_, rfl⟩
  rw [← hre]
  replace hre := Lib.hid hre
  have hlk := lk_of hk hn
  go_enter Tryz.func54, Tryz.ntmps54
  go_upto_region 1 with fail
  rw [← hWe.out]
  clear hWe
  cases hfn : fnd d.fs n with
  | none =>
    have e : r = (5, d) := by have := hre.out; unfold Ds.remove at this; rwa [hfn] at this
    replace e := Lib.hid e
    rw [hfn] at hlk
    obtain ⟨l1, l2⟩ := hlk
    simp only [Option.getD_none, Option.isSome_none, Fi.z, fiV] at l1 l2
    clear hfn
    go_region
    go_wp2_with fail
    go_ret
    rw [e.out]
    have hb : Below W.heap.size W (W.alloc (.cells #[.string (bs []), .int .i64 ((0 : Nat) : Int)] 94)).drew := ((Below.refl _ _).alloc (Nat.le_refl _) _).drew
    exact ⟨rfl, hk.below hb, hO.trans (Off.of_below hb (Nat.le_trans hB0 hW.size))⟩
  | some f =>
    have e : r = d.do_ (fun d => { d with fs := fdel d.fs n, used := d.used - (f.s.length : Nat) }) := by have := hre.out; unfold Ds.remove at this; rwa [hfn] at this
    replace e := Lib.hid e
    rw [hfn] at hlk
    obtain ⟨l1, l2⟩ := hlk
    simp only [Option.getD_some, Option.isSome_some, fiV] at l1 l2
    have hfl := len_le_tot d.fs n
    rw [len_some hfn] at hfl
    clear hfn
    go_region
    clear x0 x1 x2 x3 y0 y2 y3 l1 l2
    have hb1 : Below W.heap.size W (W.alloc (.cells #[.string (bs f.s), .int .i64 (f.sure : Nat)] 94)).drew := ((Below.refl _ _).alloc (Nat.le_refl _) _).drew
    have F1 : Blk (W.alloc (.cells #[.string (bs f.s), .int .i64 (f.sure : Nat)] 94)).drew W.heap.size 94 #[.string (bs f.s), .int .i64 (f.sure : Nat)] := (Blk.new W _ _).drew
    obtain ⟨w1, hw1⟩ : ∃ w1, w1 = (W.alloc (.cells #[.string (bs f.s), .int .i64 (f.sure : Nat)] 94)).drew := ⟨_, rfl⟩
    rw [← hw1] at hb1 F1 ⊢
    clear hw1
    replace hk := hk.below hb1
    replace hO := hO.trans (Off.of_below hb1 (Nat.le_trans hB0 hW.size))
    replace b2 := b2.below hb1
    replace b3 := b3.below hb1
    have x2 := b2.cell (i := 0) rfl
    obtain ⟨x0, x1⟩ := d_cells hk
    have hBW : B ≤ W.heap.size := Nat.le_trans hB0 hW.size
    rw [hz] at F1
    have hdo := do_any 81 #[.pointer (some ⟨w.heap.size, 0, none⟩), .pointer (some ⟨w.heap.size + 1, 0, none⟩), .pointer (some ⟨w.heap.size + 2, 0, none⟩)] (enters_of Tryz.func81 (by kernel_rfl) rfl) _ h d B hk hB
      (fun d => { d with fs := fdel d.fs n, used := d.used - (f.s.length : Nat) })
      (fun w2 hk2 ho2 => removeF_any w2 h _ B hk2 hB n f _ _ _ (ho2.blk F1 n0_file) (ho2.blk b2 n0_ptr) (ho2.blk b3 n0_str) hn (by show _ ≤ d.used; omega) (by show d.used ≤ _; omega))
    rw [← e.out] at hdo
    replace hdo := Lib.hid hdo
    go_wp2_with (go_at_call 60; refine hdo.out.mono ?_; rintro e1 w2 ⟨rfl, hk1, ho1⟩)
    go_ret
    exact ⟨rfl, hk1, hO.trans ho1⟩
end Go.Proofs.YtcopknopifbebaaGreatDoor

/-
  Layer 4 (disk): Truncate.
-/
namespace Go.Proofs.YtcopknopifbebaaGreatDoor
open Go.RowKit Go.Bar Go.Bar.Wal Go.Conc
attribute [local go_sem] Oper.semAt_some

set_option maxHeartbeats 4000000 in
set_option maxRecDepth 10000 in
theorem dTrunc_any (w : World) (h : Hd) (d : Ds) (B c : Nat) (k : DkAt w h d) (hB : h.Hi B) (ha : Acc c d) (hc : c ≤ 100000000) (hr : d.room ≤ 100000000000) (n : List UInt8) (m : Nat) (hn : n.length ≤ maxLen) (hm : m ≤ maxLen) :
    Calls Tryz.prog 41 #[.pointer (some ⟨h.D, 0, none⟩), .string (bs n), .int .i64 (m : Nat)] w (DkTo B w h (d.truncate n m).2 (.int .i64 ((d.truncate n m).1 : Nat))) := by
  have hu := ha.use
  have hru := ha.room
  have hB0 : B ≤ w.heap.size := hiA k hB
  have hW := ((((Below.refl _ w).alloc (Nat.le_refl _) (.cells #[.pointer (some ⟨h.D, 0, none⟩)] 26)).alloc (by simp) (.cells #[.string (bs n)] 9)).alloc (by simp; omega) (.cells #[.int .i64 (m : Nat)] 3))
  obtain ⟨W, hWe⟩ : ∃ W, W = ((w.alloc (.cells #[.pointer (some ⟨h.D, 0, none⟩)] 26)).alloc (.cells #[.string (bs n)] 9)).alloc (.cells #[.int .i64 (m : Nat)] 3) := ⟨_, rfl⟩
  have hz : W.heap.size = w.heap.size + 3 := by rw [hWe]; simp
  rw [← hWe] at hW
  have hk := k.below hW
  have hO : Off DTs B w W := Off.of_below hW hB0
  have b2 : Blk W w.heap.size 26 #[.pointer (some ⟨h.D, 0, none⟩)] := by rw [hWe]; exact ((blk_at rfl).alloc _).alloc _
  have b3 : Blk W (w.heap.size + 1) 9 #[.string (bs n)] := by rw [hWe]; exact (blk_at (by simp)).alloc _
  have b4 : Blk W (w.heap.size + 2) 3 #[.int .i64 (m : Nat)] := by rw [hWe]; exact blk_at (by simp)
  replace hWe := Lib.hid hWe
  have x2 := b2.cell (i := 0) rfl
  have x3 := b3.cell (i := 0) rfl
  have y2 := fun o => (b2.alloc o).cell (i := 0) rfl
  have y3 := fun o => (b3.alloc o).cell (i := 0) rfl
  obtain ⟨x0, x1⟩ := d_cells hk
  have y0 := fun o => (d_cells (hk.below ((Below.refl _ W).alloc (Nat.le_refl _) o))).2
  obtain ⟨r, hre⟩ : ∃ r, r = d.truncate n m := ⟨_, rfl⟩
  rw [← hre]
  replace hre := Lib.hid hre
  have hlk := lk_of hk hn
  go_enter Tryz.func41, Tryz.ntmps41
  go_upto_region 1 with fail
  rw [← hWe.out]
  clear hWe
  cases hfn : fnd d.fs n with
  | none =>
    have e : r = (5, d) := by have := hre.out; unfold Ds.truncate at this; rw [hfn] at this; exact this
    replace e := Lib.hid e
    rw [hfn] at hlk
    obtain ⟨l1, l2⟩ := hlk
    simp only [Option.getD_none, Option.isSome_none, Fi.z, fiV] at l1 l2
    clear hfn
    go_region
    go_wp2_with fail
    go_ret
    rw [e.out]
    have hb : Below W.heap.size W (W.alloc (.cells #[.string (bs []), .int .i64 ((0 : Nat) : Int)] 94)).drew := ((Below.refl _ _).alloc (Nat.le_refl _) _).drew
    exact ⟨rfl, hk.below hb, hO.trans (Off.of_below hb (Nat.le_trans hB0 hW.size))⟩
  | some f =>
    rw [hfn] at hlk
    obtain ⟨l1, l2⟩ := hlk
    simp only [Option.getD_some, Option.isSome_some, fiV] at l1 l2
    have hfl := len_le_tot d.fs n
    rw [len_some hfn] at hfl
    have hr1 : f.s.length < m → r = (1, d) := fun hh => by have := hre.out; unfold Ds.truncate at this; rw [hfn] at this; simp only at this; rwa [if_pos hh] at this
    have hr2 : ¬ f.s.length < m → r = d.do_ (fun d => { d with fs := fput d.fs n ⟨f.s.take m, m⟩, used := d.used - (f.s.length - m : Nat) }) := fun hh => by have := hre.out; unfold Ds.truncate at this; rw [hfn] at this; simp only at this; rwa [if_neg hh] at this
    replace hr1 := Lib.hid hr1
    replace hr2 := Lib.hid hr2
    clear hfn
    go_region
    clear x0 x1 x2 x3 y0 y2 y3 l1 l2
    have hb1 : Below W.heap.size W (W.alloc (.cells #[.string (bs f.s), .int .i64 (f.sure : Nat)] 94)).drew := ((Below.refl _ _).alloc (Nat.le_refl _) _).drew
    have F1 : Blk (W.alloc (.cells #[.string (bs f.s), .int .i64 (f.sure : Nat)] 94)).drew W.heap.size 94 #[.string (bs f.s), .int .i64 (f.sure : Nat)] := (Blk.new W _ _).drew
    obtain ⟨w1, hw1⟩ : ∃ w1, w1 = (W.alloc (.cells #[.string (bs f.s), .int .i64 (f.sure : Nat)] 94)).drew := ⟨_, rfl⟩
    rw [← hw1] at hb1 F1 ⊢
    clear hw1
    replace hk := hk.below hb1
    replace hO := hO.trans (Off.of_below hb1 (Nat.le_trans hB0 hW.size))
    replace b2 := b2.below hb1
    replace b3 := b3.below hb1
    replace b4 := b4.below hb1
    have x4 := b4.cell (i := 0) rfl
    have g0 := F1.cell (i := 0) rfl
    rw [hz] at g0
    have hm2 : m ≤ 9223372036854775807 := hm
    have hf2 : f.s.length ≤ 9223372036854775807 := by omega
    have hm0 : (0 : Int) ≤ (m : Int) := by omega
    have x2 := b2.cell (i := 0) rfl
    obtain ⟨x0, x1⟩ := d_cells hk
    by_cases hbig : f.s.length < m
    · go_wp2_with fail
      go_ret
      rw [hr1.out hbig]
      exact ⟨rfl, hk, hO⟩
    · have hbig2 : m ≤ f.s.length := Nat.le_of_not_lt hbig
      have hBW : B ≤ W.heap.size := Nat.le_trans hB0 hW.size
      rw [hz] at F1
      have hdo := do_any 67 #[.pointer (some ⟨w.heap.size, 0, none⟩), .pointer (some ⟨w.heap.size + 3, 0, none⟩), .pointer (some ⟨w.heap.size + 2, 0, none⟩), .pointer (some ⟨w.heap.size + 1, 0, none⟩)] (enters_of Tryz.func67 (by kernel_rfl) rfl) _ h d B hk hB
        (fun d => { d with fs := fput d.fs n ⟨f.s.take m, m⟩, used := d.used - (f.s.length - m : Nat) })
        (fun w2 hk2 ho2 => truncF_any w2 h _ B hk2 hB n f m _ _ _ _ (ho2.blk F1 n0_file) (ho2.blk b2 n0_ptr) (ho2.blk b4 n0_int) (ho2.blk b3 n0_str) ha.srt (by have := ha.num; show d.fs.length < _; omega) hn (Nat.le_of_not_lt hbig) (by show _ ≤ d.used; omega) (by show d.used ≤ _; omega))
      rw [← hr2.out hbig] at hdo
      replace hdo := Lib.hid hdo
      go_wp2_with (go_at_call 60; refine hdo.out.mono ?_; rintro e1 w2 ⟨rfl, hk1, ho1⟩)
      go_ret
      exact ⟨rfl, hk1, hO.trans ho1⟩
end Go.Proofs.YtcopknopifbebaaGreatDoor

/-
  Layer 4 (disk): Read.
-/
namespace Go.Proofs.YtcopknopifbebaaGreatDoor
open Go.RowKit Go.Bar Go.Bar.Wal Go.Conc
attribute [local go_sem] Oper.semAt_some

set_option maxHeartbeats 4000000 in
set_option maxRecDepth 10000 in
theorem dRead_any (w : World) (h : Hd) (d : Ds) (k : DkAt w h d) (n : List UInt8) (hn : n.length ≤ maxLen) :
    Calls Tryz.prog 23 #[.pointer (some ⟨h.D, 0, none⟩), .string (bs n)] w (RetBelow w (.tuple #[.string (bs (d.read n).1), .int .i64 ((d.read n).2 : Nat)])) := by
  obtain ⟨x0, x1⟩ := d_cells k
  have hlk : (Instr.lookup 41 (.map (some h.M)) (.string (bs n)) true).run Tryz.prog w = .ok (.tuple #[fiV ((fnd d.fs n).getD Fi.z), .bool (fnd d.fs n).isSome]) w := by
    obtain ⟨⟨a, b, k1, _⟩, _, _⟩ := k
    exact k1.mp.look_ok fm_ty n hn
  unfold Ds.read
  cases hfn : fnd d.fs n with
  | none =>
    rw [hfn] at hlk
    simp only [Option.getD_none, Option.isSome_none, Fi.z, fiV] at hlk
    go_enter Tryz.func23, Tryz.ntmps23
    go_wp2_with fail
    go_ret2
    exact ⟨rfl, (Below.refl _ w).alloc (Nat.le_refl _) _⟩
  | some f =>
    rw [hfn] at hlk
    simp only [Option.getD_some, Option.isSome_some, fiV] at hlk
    go_enter Tryz.func23, Tryz.ntmps23
    go_wp2_with fail
    go_ret2
    exact ⟨rfl, (Below.refl _ w).alloc (Nat.le_refl _) _⟩
end Go.Proofs.YtcopknopifbebaaGreatDoor
