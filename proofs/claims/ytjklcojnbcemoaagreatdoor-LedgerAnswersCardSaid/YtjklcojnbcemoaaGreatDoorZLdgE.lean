/-
  Layer 25: the walks of the laws' point and points.
-/
import Derived.Test.YtjklcojnbcemoaaGreatDoorZLdgC
import Derived.Test.YtjklcojnbcemoaaGreatDoorZLib24
import Derived.Test.YtjklcojnbcemoaaGreatDoorZLib16

namespace Go.Proofs.YtjklcojnbcemoaaGreatDoor
open Go.RowKit Go.Bar Go.Bar.Leb Go.Bar.Lab Go.Bar.Xor Go.Bar.Mrg

/-- behind the first of the two stores -/
def MidPt (w wb : World) (X : Nat) (L : List Pr) (T : Int) (v : Nat) (vs : Nat → Value) (w' : World) : Prop :=
  Blk w' (X + 1) 46 #[vs 2, .int .i64 T, .int .u64 (v : Nat)] ∧ Blk w' (X + 1 + 1) 90 #[.slice none 0 0, .int .i64 0, .int .u64 0] ∧ Blk w' (X + 1 + 1 + 1) 42 #[.int .i64 T, .int .u64 (v : Nat)] ∧ FBuf wb w' 84 2 (vs 2) L.length (pcs L) ∧ FBuf wb w' 105 2 (vs 8) L.length (pcs L) ∧ Below w.heap.size w w'
/-- behind both -/
def FinPt (w wb : World) (X : Nat) (L : List Pr) (T : Int) (v : Nat) (vs : Nat → Value) (w' : World) : Prop :=
  Blk w' (X + 1) 46 #[vs 2, .int .i64 T, .int .u64 (v : Nat)] ∧ Blk w' (X + 1 + 1) 90 #[vs 8, .int .i64 T, .int .u64 (v : Nat)] ∧ FBuf wb w' 84 2 (vs 2) L.length (pcs L) ∧ FBuf wb w' 105 2 (vs 8) L.length (pcs L) ∧ Below w.heap.size w w'
theorem MidPt.of {w wb wx : World} {X : Nat} {L : List Pr} {T : Int} {v : Nat} {A B : Option Addr} {c d : Nat} (vs : Nat → Value) (h2 : vs 2 = .slice A L.length c) (h8 : vs 8 = .slice B L.length d) (hX : w.heap.size ≤ X) (hw : Below w.heap.size w wx) (b1 : Blk wx (X + 1) 46 #[.slice none 0 0, .int .i64 0, .int .u64 0]) (b2 : Blk wx (X + 1 + 1) 90 #[.slice none 0 0, .int .i64 0, .int .u64 0]) (b3 : Blk wx (X + 1 + 1 + 1) 42 #[.int .i64 T, .int .u64 (v : Nat)])
    (f1 : FBuf wb wx 84 2 (.slice A L.length c) L.length (pcs L)) (f2 : FBuf wb wx 105 2 (.slice B L.length d) L.length (pcs L)) :
    MidPt w wb X L T v vs (((wx.setCell ⟨X + 1, 0, none⟩ (.slice A L.length c)).setCell ⟨X + 1, 1, none⟩ (.int .i64 T)).setCell ⟨X + 1, 2, none⟩ (.int .u64 (v : Nat))) := by
  have c1 := b1.set 0 (.slice A L.length c)
  have c2 := c1.set 1 (.int .i64 T)
  refine ⟨?_, ((b2.other (by omega) _ _).other (by omega) _ _).other (by omega) _ _, ((b3.other (by omega) _ _).other (by omega) _ _).other (by omega) _ _, ?_, ?_, ?_⟩
  · rw [h2]; exact c2.set 2 (.int .u64 (v : Nat))
  · rw [h2]; exact ((f1.set_ne b1 (by decide) _ _).set_ne c1 (by decide) _ _).set_ne c2 (by decide) _ _
  · rw [h8]; exact ((f2.set_ne b1 (by decide) _ _).set_ne c1 (by decide) _ _).set_ne c2 (by decide) _ _
  · exact ((hw.setCell (p := ⟨X + 1, 0, none⟩) (by show _ ≤ X + 1; omega) _).setCell (p := ⟨X + 1, 1, none⟩) (by show _ ≤ X + 1; omega) _).setCell (p := ⟨X + 1, 2, none⟩) (by show _ ≤ X + 1; omega) _
theorem FinPt.of {w wb wx : World} {X : Nat} {L : List Pr} {T : Int} {v : Nat} {vs vs' : Nat → Value} (h2 : vs' 2 = vs 2) (h8 : vs' 8 = vs 8) (hX : w.heap.size ≤ X) (h : MidPt w wb X L T v vs wx) :
    FinPt w wb X L T v vs' (((wx.setCell ⟨X + 1 + 1, 0, none⟩ (vs 8)).setCell ⟨X + 1 + 1, 1, none⟩ (.int .i64 T)).setCell ⟨X + 1 + 1, 2, none⟩ (.int .u64 (v : Nat))) := by
  obtain ⟨b1, b2, b3, f1, f2, hw⟩ := h
  unfold FinPt
  rw [h2, h8]
  have c1 := b2.set 0 (vs 8)
  have c2 := c1.set 1 (.int .i64 T)
  refine ⟨((b1.other (by omega) _ _).other (by omega) _ _).other (by omega) _ _, c2.set 2 (.int .u64 (v : Nat)), ?_, ?_, ?_⟩
  · exact ((f1.set_ne b2 (by decide) _ _).set_ne c1 (by decide) _ _).set_ne c2 (by decide) _ _
  · exact ((f2.set_ne b2 (by decide) _ _).set_ne c1 (by decide) _ _).set_ne c2 (by decide) _ _
  · exact ((hw.setCell (p := ⟨X + 1 + 1, 0, none⟩) (by show _ ≤ X + 1 + 1; omega) _).setCell (p := ⟨X + 1 + 1, 1, none⟩) (by show _ ≤ X + 1 + 1; omega) _).setCell (p := ⟨X + 1 + 1, 2, none⟩) (by show _ ≤ X + 1 + 1; omega) _

theorem al_size (w : World) (o : Obj) : (w.alloc o).heap.size = w.heap.size + 1 := by simp
/-- a point, in both forms -/
def RetPt (w : World) (L : List Pr) (T : Int) (v : Nat) (e : Ending) (w' : World) : Prop := ∃ A c B d, e = .returned (.tuple #[.agg #[.slice A L.length c, .int .i64 T, .int .u64 (v : Nat)], .agg #[.slice B L.length d, .int .i64 T, .int .u64 (v : Nat)]]) ∧ NBuf w w' 84 2 (.slice A L.length c) L.length (pcs L)

set_option maxHeartbeats 8000000 in
set_option maxRecDepth 10000 in
theorem point_any (p : On3) (w : World) : Calls Tryz.prog 35 #[.agg #[.int .u8 (p.nm : Nat), .int .i64 p.t, .int .u64 (p.v : Nat)]] w (RetPt w (lab5 p.nm) (tm3 p.t) p.v) := by
  obtain ⟨L, hL⟩ : ∃ L, L = lab5 p.nm := ⟨_, rfl⟩
  have hll : L.length ≤ 2 := by rw [hL]; exact lab5_len _
  have hlb := labels_any p.nm
  rw [← hL] at hlb ⊢
  have HLB := Lib.hid hlb
  have htm := tm3_rng p.t
  have htr : -1000 < p.t.tmod 1000 ∧ p.t.tmod 1000 < 1000 := by
    have h1 := Int.lt_tmod_of_pos p.t (show (0 : Int) < 1000 by decide)
    have h2 := Int.tmod_lt_of_pos p.t (show (0 : Int) < 1000 by decide)
    omega
  have hw1 : IntKind.i64.wrap (p.t.tmod 1000 + 1000) = p.t.tmod 1000 + 1000 := by rw [IntKind.wrap_i64]; omega
  have hw2 : IntKind.i64.wrap (p.t.tmod 1000) = p.t.tmod 1000 := by rw [IntKind.wrap_i64]; omega
  obtain ⟨T, hT⟩ : ∃ T, T = tm3 p.t := ⟨_, rfl⟩
  have hw4 : (p.t.tmod 1000 + 1000).tmod 1000 = T := hT.symm
  rw [← hT] at htm ⊢
  clear hT hL hlb
  have hw3 : IntKind.i64.wrap T = T := by rw [IntKind.wrap_i64]; omega
  obtain ⟨wb, hwb⟩ : ∃ wb, wb = (((w.alloc (.cells #[.int .u8 (p.nm : Nat), .int .i64 p.t, .int .u64 (p.v : Nat)] 57)).alloc (.cells #[.slice none 0 0, .int .i64 0, .int .u64 0] 46)).alloc (.cells #[.slice none 0 0, .int .i64 0, .int .u64 0] 90)).alloc (.cells #[.int .i64 T, .int .u64 (p.v : Nat)] 42) := ⟨_, rfl⟩
  obtain ⟨X, hX⟩ : ∃ X, X = w.heap.size := ⟨_, rfl⟩
  have hXw : w.heap.size ≤ X := Nat.le_of_eq hX.symm
  go_enter Tryz.func35, Tryz.ntmps35
  go_upto_region 2 with fail
  rw [← hwb, ← hX]
  have hbw : Below w.heap.size w wb := by rw [hwb]; exact below_trans (below_trans (below_trans (below_alloc1 _ _) (below_alloc1 _ _)) (below_alloc1 _ _)) (below_alloc1 _ _)
  have B0 : Hid (Blk wb X 57 #[.int .u8 (p.nm : Nat), .int .i64 p.t, .int .u64 (p.v : Nat)]) := Lib.hid (by rw [hwb, hX]; exact (((Blk.new _ _ _).alloc _).alloc _).alloc _)
  have B1 : Hid (Blk wb (X + 1) 46 #[.slice none 0 0, .int .i64 0, .int .u64 0]) := Lib.hid (by rw [hwb, hX]; have h := Blk.new (w.alloc (.cells #[.int .u8 (p.nm : Nat), .int .i64 p.t, .int .u64 (p.v : Nat)] 57)) #[.slice none 0 0, .int .i64 0, .int .u64 0] 46; rw [al_size] at h; exact (h.alloc _).alloc _)
  have B2 : Hid (Blk wb (X + 1 + 1) 90 #[.slice none 0 0, .int .i64 0, .int .u64 0]) := Lib.hid (by rw [hwb, hX]; have h := Blk.new ((w.alloc (.cells #[.int .u8 (p.nm : Nat), .int .i64 p.t, .int .u64 (p.v : Nat)] 57)).alloc (.cells #[.slice none 0 0, .int .i64 0, .int .u64 0] 46)) #[.slice none 0 0, .int .i64 0, .int .u64 0] 90; rw [al_size, al_size] at h; exact h.alloc _)
  have B3 : Hid (Blk wb (X + 1 + 1 + 1) 42 #[.int .i64 T, .int .u64 (p.v : Nat)]) := Lib.hid (by rw [hwb, hX]; have h := Blk.new (((w.alloc (.cells #[.int .u8 (p.nm : Nat), .int .i64 p.t, .int .u64 (p.v : Nat)] 57)).alloc (.cells #[.slice none 0 0, .int .i64 0, .int .u64 0] 46)).alloc (.cells #[.slice none 0 0, .int .i64 0, .int .u64 0] 90)) #[.int .i64 T, .int .u64 (p.v : Nat)] 42; rw [al_size, al_size, al_size] at h; exact h)
  obtain ⟨v0, hv0⟩ : ∃ v0, v0 = p.v := ⟨_, rfl⟩
  rw [← hv0] at B0 B3 ⊢
  have HV0 := Lib.hid hv0
  clear hwb hX hw1 hw2 hw3 hw4 htr hv0
  refine Dv.wp_region_piv (L := ([(1, ((fun v => v = .int .u8 (p.nm : Nat)), noFact)), (2, ((fun v => ∃ A c, v = .slice A L.length c), fun v w' => FBuf wb w' 84 2 v L.length (pcs L))), (3, ((fun v => v = .agg #[.int .i64 T, .int .u64 (v0 : Nat)]), noFact)), (6, ((fun v => v = .int .u8 (p.nm : Nat)), noFact)), (7, ((fun v => ∃ A c, v = .slice A L.length c), fun v w' => FBuf wb w' 84 2 v L.length (pcs L))), (8, ((fun v => ∃ A c, v = .slice A L.length c), fun v w' => FBuf wb w' 105 2 v L.length (pcs L))), (9, ((fun v => v = .agg #[.int .i64 T, .int .u64 (v0 : Nat)]), noFact)), (11, ((fun _ => True), noFact)), (12, ((fun _ => True), noFact))] : List (Nat × Dv.Kq))) (p := 11) (m := 12) (Mid := MidPt w wb X L T v0) (Fin := FinPt w wb X L T v0) (by kernel_rfl) 24 (by kernel_rfl) rfl rfl rfl ?_ ?_ ?_ ?_
  · simp only [List.forall_mem_cons, List.not_mem_nil, false_imp_iff, implies_true, and_true]
    exact ⟨⟨_, rfl⟩, ⟨_, none, 0, rfl⟩, ⟨_, rfl⟩, ⟨_, rfl⟩, ⟨_, none, 0, rfl⟩, ⟨_, none, 0, rfl⟩, ⟨_, rfl⟩, ⟨undef, trivial⟩, ⟨undef, trivial⟩⟩
  · exact (fun vs vs' w' h hf => by unfold MidPt at hf ⊢; rw [← h 2 (by kernel_rfl) (.inl (by kernel_rfl)), ← h 8 (by kernel_rfl) (.inl (by kernel_rfl))]; exact hf)
  · exact (fun vs vs' w' h hf => by unfold FinPt at hf ⊢; rw [← h 2 (by kernel_rfl) (by decide), ← h 8 (by kernel_rfl) (by decide)]; exact hf)
  have hstT : ∀ k v w w', Below w.heap.size w w' → Dv.factQ ([(1, ((fun v => v = .int .u8 (p.nm : Nat)), noFact)), (2, ((fun v => ∃ A c, v = .slice A L.length c), fun v w' => FBuf wb w' 84 2 v L.length (pcs L))), (3, ((fun v => v = .agg #[.int .i64 T, .int .u64 (v0 : Nat)]), noFact)), (6, ((fun v => v = .int .u8 (p.nm : Nat)), noFact)), (7, ((fun v => ∃ A c, v = .slice A L.length c), fun v w' => FBuf wb w' 84 2 v L.length (pcs L))), (8, ((fun v => ∃ A c, v = .slice A L.length c), fun v w' => FBuf wb w' 105 2 v L.length (pcs L))), (9, ((fun v => v = .agg #[.int .i64 T, .int .u64 (v0 : Nat)]), noFact)), (11, ((fun _ => True), noFact)), (12, ((fun _ => True), noFact))] : List (Nat × Dv.Kq)) k v w → Dv.factQ ([(1, ((fun v => v = .int .u8 (p.nm : Nat)), noFact)), (2, ((fun v => ∃ A c, v = .slice A L.length c), fun v w' => FBuf wb w' 84 2 v L.length (pcs L))), (3, ((fun v => v = .agg #[.int .i64 T, .int .u64 (v0 : Nat)]), noFact)), (6, ((fun v => v = .int .u8 (p.nm : Nat)), noFact)), (7, ((fun v => ∃ A c, v = .slice A L.length c), fun v w' => FBuf wb w' 84 2 v L.length (pcs L))), (8, ((fun v => ∃ A c, v = .slice A L.length c), fun v w' => FBuf wb w' 105 2 v L.length (pcs L))), (9, ((fun v => v = .agg #[.int .i64 T, .int .u64 (v0 : Nat)]), noFact)), (11, ((fun _ => True), noFact)), (12, ((fun _ => True), noFact))] : List (Nat × Dv.Kq)) k v w' := by
    refine Dv.factQ_st ?_
    simp only [List.forall_mem_cons, List.not_mem_nil, false_imp_iff, implies_true, and_true]
    exact ⟨fun _ _ _ _ _ => trivial, fun _ _ _ hb h => h.below hb, fun _ _ _ _ _ => trivial, fun _ _ _ _ _ => trivial, fun _ _ _ hb h => h.below hb, fun _ _ _ hb h => h.below hb, fun _ _ _ _ _ => trivial, fun _ _ _ _ _ => trivial, fun _ _ _ _ _ => trivial⟩
  repeat (first
    | (refine Dv.Chain.step (v := ?_) (a' := ?_) rfl rfl rfl ?_ ?_ ?_
       rotate_left 2
       focus (intro w; go_simp; try with_reducible rfl)
       focus (simp only [Act.put, List.setIfInBounds_toArray, List.set_cons_succ, List.set_cons_zero]; try rfl))
    | (refine Dv.XP.skip (a' := ?_) rfl rfl rfl ?_ ?_
       rotate_left 1
       focus (simp only [Act.put, List.setIfInBounds_toArray, List.set_cons_succ, List.set_cons_zero]; try rfl)))
  refine Dv.XP.make _ _ rfl (by decide) (by decide) (by kernel_rfl) hstT rfl rfl (fun wx hw hF => ?_) (fun v1 hv1 a' ha => ?_)
  focus
    obtain ⟨g0, g1, g2⟩ := Blk.c3 (B0.out.below hw); go_simp; exact ⟨Below.refl _ _, trivial⟩
  obtain rfl := hv1
  simp only [Act.put, List.setIfInBounds_toArray, List.set_cons_succ, List.set_cons_zero] at ha
  subst ha
  repeat (first
    | (refine Dv.Chain.step (v := ?_) (a' := ?_) rfl rfl rfl ?_ ?_ ?_
       rotate_left 2
       focus (intro w; go_simp; try with_reducible rfl)
       focus (simp only [Act.put, List.setIfInBounds_toArray, List.set_cons_succ, List.set_cons_zero]; try rfl))
    | (refine Dv.XP.skip (a' := ?_) rfl rfl rfl ?_ ?_
       rotate_left 1
       focus (simp only [Act.put, List.setIfInBounds_toArray, List.set_cons_succ, List.set_cons_zero]; try rfl)))
  refine Dv.XP.make _ _ rfl (by decide) (by decide) (by kernel_rfl) hstT rfl rfl (fun wx hw hF => ?_) (fun v2 hv2 a' ha => ?_)
  focus
    go_simp
    with_reducible refine (HLB.out _).mono ?_
    rintro e w' ⟨v, rfl, hnb⟩
    obtain ⟨A, c, rfl, _⟩ := hnb.buf.shape
    exact ⟨⟨A, c, rfl⟩, hnb.below, hnb.buf, fun k hk => Nat.le_trans hw.size (hnb.new k hk)⟩
  obtain ⟨A2, c2, rfl⟩ := hv2
  simp only [Act.put, List.setIfInBounds_toArray, List.set_cons_succ, List.set_cons_zero] at ha
  subst ha
  repeat (first
    | (refine Dv.Chain.step (v := ?_) (a' := ?_) rfl rfl rfl ?_ ?_ ?_
       rotate_left 2
       focus (intro w; go_simp; try with_reducible rfl)
       focus (simp only [Act.put, List.setIfInBounds_toArray, List.set_cons_succ, List.set_cons_zero]; try rfl))
    | (refine Dv.XP.skip (a' := ?_) rfl rfl rfl ?_ ?_
       rotate_left 1
       focus (simp only [Act.put, List.setIfInBounds_toArray, List.set_cons_succ, List.set_cons_zero]; try rfl)))
  refine Dv.XP.make _ _ rfl (by decide) (by decide) (by kernel_rfl) hstT rfl rfl (fun wx hw hF => ?_) (fun v3 hv3 a' ha => ?_)
  focus
    obtain ⟨g0, g1⟩ := Blk.c2 (B3.out.below hw); go_simp; exact ⟨Below.refl _ _, trivial⟩
  obtain rfl := hv3
  simp only [Act.put, List.setIfInBounds_toArray, List.set_cons_succ, List.set_cons_zero] at ha
  subst ha
  repeat (first
    | (refine Dv.Chain.step (v := ?_) (a' := ?_) rfl rfl rfl ?_ ?_ ?_
       rotate_left 2
       focus (intro w; go_simp; try with_reducible rfl)
       focus (simp only [Act.put, List.setIfInBounds_toArray, List.set_cons_succ, List.set_cons_zero]; try rfl))
    | (refine Dv.XP.skip (a' := ?_) rfl rfl rfl ?_ ?_
       rotate_left 1
       focus (simp only [Act.put, List.setIfInBounds_toArray, List.set_cons_succ, List.set_cons_zero]; try rfl)))
  refine Dv.XP.make _ _ rfl (by decide) (by decide) (by kernel_rfl) hstT rfl rfl (fun wx hw hF => ?_) (fun v6 hv6 a' ha => ?_)
  focus
    obtain ⟨g0, g1, g2⟩ := Blk.c3 (B0.out.below hw); go_simp; exact ⟨Below.refl _ _, trivial⟩
  obtain rfl := hv6
  simp only [Act.put, List.setIfInBounds_toArray, List.set_cons_succ, List.set_cons_zero] at ha
  subst ha
  repeat (first
    | (refine Dv.Chain.step (v := ?_) (a' := ?_) rfl rfl rfl ?_ ?_ ?_
       rotate_left 2
       focus (intro w; go_simp; try with_reducible rfl)
       focus (simp only [Act.put, List.setIfInBounds_toArray, List.set_cons_succ, List.set_cons_zero]; try rfl))
    | (refine Dv.XP.skip (a' := ?_) rfl rfl rfl ?_ ?_
       rotate_left 1
       focus (simp only [Act.put, List.setIfInBounds_toArray, List.set_cons_succ, List.set_cons_zero]; try rfl)))
  refine Dv.XP.make _ _ rfl (by decide) (by decide) (by kernel_rfl) hstT rfl rfl (fun wx hw hF => ?_) (fun v7 hv7 a' ha => ?_)
  focus
    go_simp
    with_reducible refine (HLB.out _).mono ?_
    rintro e w' ⟨v, rfl, hnb⟩
    obtain ⟨A, c, rfl, _⟩ := hnb.buf.shape
    exact ⟨⟨A, c, rfl⟩, hnb.below, hnb.buf, fun k hk => Nat.le_trans hw.size (hnb.new k hk)⟩
  obtain ⟨A7, c7, rfl⟩ := hv7
  simp only [Act.put, List.setIfInBounds_toArray, List.set_cons_succ, List.set_cons_zero] at ha
  subst ha
  repeat (first
    | (refine Dv.Chain.step (v := ?_) (a' := ?_) rfl rfl rfl ?_ ?_ ?_
       rotate_left 2
       focus (intro w; go_simp; try with_reducible rfl)
       focus (simp only [Act.put, List.setIfInBounds_toArray, List.set_cons_succ, List.set_cons_zero]; try rfl))
    | (refine Dv.XP.skip (a' := ?_) rfl rfl rfl ?_ ?_
       rotate_left 1
       focus (simp only [Act.put, List.setIfInBounds_toArray, List.set_cons_succ, List.set_cons_zero]; try rfl)))
  refine Dv.XP.make _ _ rfl (by decide) (by decide) (by kernel_rfl) hstT rfl rfl (fun wx hw hF => ?_) (fun v8 hv8 a' ha => ?_)
  focus
    have f7 : FBuf wb wx 84 2 (.slice A7 L.length c7) L.length (pcs L) := hF 7 _ (by kernel_rfl) rfl
    have h7 : PsAt wx (.slice A7 L.length c7) L := f7.slice
    go_simp
    with_reducible refine (told_any6 _ L _ h7 (by omega)).mono ?_
    rintro e w' ⟨v, rfl, hnb⟩
    obtain ⟨A, c, rfl, _⟩ := hnb.buf.shape
    exact ⟨⟨A, c, rfl⟩, hnb.below, hnb.buf, fun k hk => Nat.le_trans hw.size (hnb.new k hk)⟩
  obtain ⟨A8, c8, rfl⟩ := hv8
  simp only [Act.put, List.setIfInBounds_toArray, List.set_cons_succ, List.set_cons_zero] at ha
  subst ha
  repeat (first
    | (refine Dv.Chain.step (v := ?_) (a' := ?_) rfl rfl rfl ?_ ?_ ?_
       rotate_left 2
       focus (intro w; go_simp; try with_reducible rfl)
       focus (simp only [Act.put, List.setIfInBounds_toArray, List.set_cons_succ, List.set_cons_zero]; try rfl))
    | (refine Dv.XP.skip (a' := ?_) rfl rfl rfl ?_ ?_
       rotate_left 1
       focus (simp only [Act.put, List.setIfInBounds_toArray, List.set_cons_succ, List.set_cons_zero]; try rfl)))
  refine Dv.XP.late _ rfl (by decide) (by decide) (by kernel_rfl) (fun vs vs' w' h hf => by unfold MidPt at hf ⊢; rw [← h 2 (by kernel_rfl) (.inl (by kernel_rfl)), ← h 8 (by kernel_rfl) (.inl (by kernel_rfl))]; exact hf) rfl rfl (fun wx hw hF => ?_) (fun vs wx hM hF => ?_) (fun v9 hv9 a' ha => ?_)
  focus
    obtain ⟨g0, g1⟩ := Blk.c2 (B3.out.below hw); go_simp; try trivial
  focus
    obtain ⟨_, _, b3, _⟩ := hM
    obtain ⟨g0, g1⟩ := b3.c2; go_simp; try trivial
  obtain rfl := hv9
  simp only [Act.put, List.setIfInBounds_toArray, List.set_cons_succ, List.set_cons_zero] at ha
  subst ha
  repeat (first
    | (refine Dv.Chain.step (v := ?_) (a' := ?_) rfl rfl rfl ?_ ?_ ?_
       rotate_left 2
       focus (intro w; go_simp; try with_reducible rfl)
       focus (simp only [Act.put, List.setIfInBounds_toArray, List.set_cons_succ, List.set_cons_zero]; try rfl))
    | (refine Dv.XP.skip (a' := ?_) rfl rfl rfl ?_ ?_
       rotate_left 1
       focus (simp only [Act.put, List.setIfInBounds_toArray, List.set_cons_succ, List.set_cons_zero]; try rfl)))
  refine Dv.XP.pivot _ _ rfl rfl (by decide) rfl rfl (fun vs wx hw hF => ?_) (fun v11 hv11 a' ha => ?_)
  focus
    have f2 : FBuf wb wx 84 2 (.slice A2 L.length c2) L.length (pcs L) := (hF 2 _ (by kernel_rfl) rfl).1
    have f8 : FBuf wb wx 105 2 (.slice A8 L.length c8) L.length (pcs L) := (hF 8 _ (by kernel_rfl) rfl).1
    have q2 := (hF 2 _ (by kernel_rfl) rfl).2
    have q8 := (hF 8 _ (by kernel_rfl) rfl).2
    have hfin := fun u => MidPt.of (w := w) (wb := wb) (Dv.updV vs 11 u) (show Dv.updV vs 11 u 2 = _ by rw [Dv.updV_ne _ _ (by decide)]; exact q2) (show Dv.updV vs 11 u 8 = _ by rw [Dv.updV_ne _ _ (by decide)]; exact q8) hXw (below_trans hbw hw) (B1.out.below hw) (B2.out.below hw) (B3.out.below hw) f2 f8
    have HFIN := Lib.hid hfin
    obtain ⟨k0, k1, k2⟩ := (B1.out.below hw).c3
    have u0 := (B1.out.below hw).free 0
    have u1 := (B1.out.below hw).free 1
    have u2 := (B1.out.below hw).free 2
    clear hfin
    go_simp
    exact ⟨undef, HFIN.out _⟩
  simp only [Act.put, List.setIfInBounds_toArray, List.set_cons_succ, List.set_cons_zero] at ha
  subst ha
  repeat (first
    | (refine Dv.Chain.step (v := ?_) (a' := ?_) rfl rfl rfl ?_ ?_ ?_
       rotate_left 2
       focus (intro w; go_simp; try with_reducible rfl)
       focus (simp only [Act.put, List.setIfInBounds_toArray, List.set_cons_succ, List.set_cons_zero]; try rfl))
    | (refine Dv.XP.skip (a' := ?_) rfl rfl rfl ?_ ?_
       rotate_left 1
       focus (simp only [Act.put, List.setIfInBounds_toArray, List.set_cons_succ, List.set_cons_zero]; try rfl)))
  refine Dv.XP.last _ _ rfl rfl (by decide) (by kernel_rfl) rfl rfl (fun vs wx hM hF => ?_) (fun v12 hv12 a' ha => ?_)
  focus
    have q8 := hF 8 _ (by kernel_rfl) rfl
    have hfin := fun u => FinPt.of (vs' := Dv.updV vs 12 u) (Dv.updV_ne _ _ (by decide)) (Dv.updV_ne _ _ (by decide)) hXw hM
    rw [q8] at hfin
    have HFIN := Lib.hid hfin
    obtain ⟨_, b2, _⟩ := hM
    obtain ⟨k0, k1, k2⟩ := b2.c3
    have u0 := b2.free 0
    have u1 := b2.free 1
    have u2 := b2.free 2
    clear hfin
    go_simp
    exact ⟨undef, HFIN.out _⟩
  simp only [Act.put, List.setIfInBounds_toArray, List.set_cons_succ, List.set_cons_zero] at ha
  subst ha
  repeat (first
    | (refine Dv.Chain.step (v := ?_) (a' := ?_) rfl rfl rfl ?_ ?_ ?_
       rotate_left 2
       focus (intro w; go_simp; try with_reducible rfl)
       focus (simp only [Act.put, List.setIfInBounds_toArray, List.set_cons_succ, List.set_cons_zero]; try rfl))
    | (refine Dv.XP.skip (a' := ?_) rfl rfl rfl ?_ ?_
       rotate_left 1
       focus (simp only [Act.put, List.setIfInBounds_toArray, List.set_cons_succ, List.set_cons_zero]; try rfl)))
  refine Dv.XP.end_ (by decide) (fun vs w10 hv hfin => ?_)
  have q2 := hv 2 _ rfl
  have q8 := hv 8 _ rfl
  obtain ⟨b1, b2, f1, f2, hbe⟩ := hfin
  rw [q2] at b1 f1
  rw [q8] at b2 f2
  obtain ⟨k0, k1, k2⟩ := b1.c3
  obtain ⟨m0, m1, m2⟩ := b2.c3
  have HF := Lib.hid (And.intro f1 hbe)
  clear hv q2 q8 f1 f2 b1 b2 hbe
  go_wp2_with fail
  refine bodyPost_ret (v := .tuple #[.agg #[.slice A2 L.length c2, .int .i64 T, .int .u64 (v0 : Nat)], .agg #[.slice A8 L.length c8, .int .i64 T, .int .u64 (v0 : Nat)]]) (by simp [results, Tryz.results35, go_sem, k0, k1, k2, m0, m1, m2]) rfl ?_
  have e0 := HV0.out
  subst e0
  exact ⟨_, _, _, _, rfl, ⟨HF.out.1.buf, HF.out.2, fun k hk => Nat.le_trans hbw.size (HF.out.1.new k hk)⟩⟩

theorem OwnP.snoc {W wa w2 : World} {v v2 : Value} {O : List Pv} {A6 : Option Addr} {c6 : Nat} {L : List Pr} {s : Sm} (h : OwnP W wa v O) (hL : NBuf W wa 84 2 (.slice A6 L.length c6) L.length (pcs L)) (hn : NBuf W w2 46 3 v2 (O.length + 1) (pts3 O ++ [.slice A6 L.length c6, .int .i64 s.1, .int .u64 (s.2 : Nat)])) (ha : Ap wa w2 3 v) : OwnP W w2 v2 (O ++ [⟨L, A6, c6, s⟩]) := by
  have hk : Ke (fun T => T = 46) wa w2 := Ke.of_ap h.1.buf ha rfl
  have hn1 : (O ++ [(⟨L, A6, c6, s⟩ : Pv)]).length = O.length + 1 := by simp
  refine ⟨?_, fun p hp => ?_⟩
  · rw [hn1, pts3_snoc]
    exact hn
  · rcases List.mem_append.1 hp with h1 | h1
    · exact nbuf_ke (h.2 p h1) hk hn.below (by decide)
    · obtain rfl := List.mem_singleton.1 h1
      exact nbuf_ke hL hk hn.below (by decide)
theorem rpt_ty : ElemTy Tryz.prog 36 90 (.agg #[.slice none 0 0, .int .i64 0, .int .u64 0]) 3 40 :=
  ⟨Tryz.underlying36, info_parts (show (Tryz.prog.info? 90).map (fun i => (i.zero, i.size, i.bytes)) = some (some (.agg #[.slice none 0 0, .int .i64 0, .int .u64 0]), 3, 40) by kernel_rfl), rfl⟩
/-- points, in both forms -/
def RetPts (w : World) (ps : List Pt) (e : Ending) (w' : World) : Prop := ∃ v1 v2 O, e = .returned (.tuple #[v1, v2]) ∧ OwnP w w' v1 O ∧ O.map plP = ps
theorem pt3_isL (x : On3) : IsL (pt3 x).1 := ⟨x.nm, rfl⟩

set_option maxHeartbeats 8000000 in
set_option maxRecDepth 10000 in
theorem points_any (v : Value) (l : List On3) (w : World) (h : O3At w v l) : Calls Tryz.prog 12 #[v] w (RetPts w ((l.take 12).map pt3)) := by
  obtain ⟨A, c, rfl, hlc, hcm⟩ := h.shape
  unfold maxLen at hcm
  have HT := Lib.hid h
  obtain ⟨R, hR⟩ : ∃ R, R = (l.take 12).map pt3 := ⟨_, rfl⟩
  rw [← hR]
  have HR := Lib.hid hR
  have hn1 := NBuf.lit0 (Below.refl w.heap.size w) 46 3
  have hn2 := NBuf.lit0 (below_alloc1 w (.cells #[] 46)) 90 3
  rw [al_size] at hn2
  have H1 := Lib.hid (show OwnP w ((w.alloc (.cells #[] 46)).alloc (.cells #[] 90)) (.slice (some ⟨w.heap.size, 0, none⟩) 0 0) [] from ⟨hn1.alloc _, fun p hp => by cases hp⟩)
  have H2 := Lib.hid hn2
  clear h hR hn1 hn2
  go_enter Tryz.func12, Tryz.ntmps12
  go_wp2_with fail
  go_loopw [4, 5, 6] (fun d g i wr => ∃ (k : Nat) (O : List Pv) (xs : List Value), k ≤ l.length ∧ k ≤ 12 ∧ i = .int .i64 k ∧ O.length = k ∧ Hid (OwnP w wr d O) ∧ Hid (NBuf w wr 90 3 g k xs) ∧ Hid (O.map plP = (l.take k).map pt3)) (fun _ _ i _ => l.length - (intOf i).toNat)
  case atStart => exact ⟨0, [], [], Nat.zero_le _, Nat.zero_le _, rfl, rfl, H1, H2, Lib.hid rfl⟩
  case round =>
    obtain ⟨k, O, xs, hk, hk2, rfl, hOk, HO, HG, HM⟩ := hrel
    obtain ⟨fA, fc, rfl, hfc⟩ := HO.out.1.buf.shape
    obtain ⟨gA, gc, rfl, hgc⟩ := HG.out.buf.shape
    have hbw := HG.out.below
    rw [hOk] at hfc ⊢
    clear H1 H2
    by_cases hgo : k < l.length ∧ k < 12
    · obtain ⟨hgo, hg4⟩ := hgo
      obtain ⟨⟨nm, t, v⟩, hx⟩ : ∃ p, l[k]? = some p := ⟨_, List.getElem?_eq_getElem hgo⟩
      obtain ⟨xb, xo, rfl, x0, x1, x2⟩ := (HT.out.below hbw).at_ hx
      have HPT := Lib.hid (point_any ⟨nm, t, v⟩ wr)
      obtain ⟨L, hL⟩ : ∃ L, L = lab5 nm := ⟨_, rfl⟩
      obtain ⟨T, hT⟩ : ∃ T, T = tm3 t := ⟨_, rfl⟩
      have hnx : O.map plP ++ [(L, (T, v))] = (l.take (k + 1)).map pt3 := by
        rw [List.take_add_one, hx, List.map_append, HM.out, hL, hT]; rfl
      rw [show lab5 (On3.mk nm t v).nm = L from hL.symm, show tm3 (On3.mk nm t v).t = T from hT.symm] at HPT
      have HNX := Lib.hid hnx
      have hk12 : (k : Int) < 12 := by omega
      have hki : (k : Int) < (l.length : Int) := by omega
      clear hnx hx HM hL hT
      go_wp2_with fail
      refine HPT.out.mono ?_
      rintro e w1 ⟨PA, pc, QA, qc, rfl, hpl⟩
      have HPL := Lib.hid hpl
      have HO1 := Lib.hid (HO.out.below hpl.below)
      have HG1 := Lib.hid (HG.out.then_below hpl.below)
      clear hpl HO HG HPT x0 x1 x2
      go_upto_region 7 with fail
      obtain ⟨w7, hw7⟩ : ∃ w7, w7 = (w1.alloc (.cells #[.slice PA L.length pc, .int .i64 T, .int .u64 (v : Nat)] 46)).alloc (.cells #[.slice QA L.length qc, .int .i64 T, .int .u64 (v : Nat)] 90) := ⟨_, rfl⟩
      have hb7 : Below w1.heap.size w1 w7 := by rw [hw7]; exact below_trans (below_alloc1 _ _) (below_alloc1 _ _)
      have B7 : Blk w7 w1.heap.size 46 #[.slice PA L.length pc, .int .i64 T, .int .u64 (v : Nat)] := by rw [hw7]; exact (Blk.new _ _ _).alloc _
      have B8 : Blk w7 (w1.heap.size + 1) 90 #[.slice QA L.length qc, .int .i64 T, .int .u64 (v : Nat)] := by
        rw [hw7]
        have h := Blk.new (w1.alloc (.cells #[.slice PA L.length pc, .int .i64 T, .int .u64 (v : Nat)] 46)) #[.slice QA L.length qc, .int .i64 T, .int .u64 (v : Nat)] 90
        rw [al_size] at h
        exact h
      have HO7 := Lib.hid (HO1.out.below hb7)
      have HG7 := Lib.hid (HG1.out.then_below hb7)
      have HP7 := Lib.hid ((HPL.out.after hbw).then_below hb7)
      obtain ⟨k0, k1, k2⟩ := B7.c3
      have HB8 := Lib.hid B8
      obtain ⟨Y, hY⟩ : ∃ Y, Y = w1.heap.size := ⟨_, rfl⟩
      rw [← hw7, ← hY]
      rw [← hY] at HB8 k0 k1 k2
      have hON := HO7.out.1
      rw [hOk] at hON
      have HON := Lib.hid hON
      have HOK := Lib.hid hOk
      clear hw7 hb7 B7 B8 hY HO1 HG1 HPL hON hOk
      go_upto_region 8 with (at_builtin; refine wpList_append_nlit rfl (.tmp 29) (.tmp 31) 33 rfl pt_ty rfl HON.out rfl (by simp) rfl (by simp [Value.oneCell']) (by simp only [maxLen]; omega) (by omega) ?_; intro v3 w3 hn3 ha3; have HD3 := Lib.hid (And.intro hn3 ha3); clear hn3 ha3)
      have hba := below_alloc1 w7 (.cells #[.slice PA L.length pc, .int .i64 T, .int .u64 (v : Nat)] 46)
      have hs3 := OwnP.snoc (s := (T, v)) (HO7.out.below hba) (HP7.out.then_below hba) (by rw [HOK.out]; exact HD3.out.1) (by rw [HOK.out]; exact HD3.out.2)
      have hg3 := (HG7.out.alloc _).keep (HON.out.alloc _) HD3.out.2 (by decide)
      obtain ⟨m0, m1, m2⟩ := ((HB8.out.alloc _).ap (HON.out.alloc _).buf HD3.out.2 (by decide)).c3
      have HS3 := Lib.hid hs3
      have HG3 := Lib.hid hg3
      clear hs3 hg3 HO7 HG7 HP7 HON HB8 k0 k1 k2 hba HD3
      go_wp2_with (at_builtin; refine wpList_append_nlit rfl (.tmp 33) (.tmp 35) 36 rfl rpt_ty rfl HG3.out rfl (by simp) rfl (by simp [Value.oneCell']) (by simp only [maxLen]; omega) (by omega) ?_; intro v4 w4 hn4 ha4; have HD4 := Lib.hid (And.intro hn4 ha4); clear hn4 ha4)
      have hba := below_alloc1 w3 (.cells #[.slice QA L.length qc, .int .i64 T, .int .u64 (v : Nat)] 90)
      have hs4 := (HS3.out.below hba).ke (Ke.of_ap (Ts := fun U => U = 90) (HG3.out.alloc _).buf HD4.out.2 rfl) HD4.out.1.below (by decide) (by decide)
      have HS4 := Lib.hid hs4
      have hm4 : (O ++ [(⟨L, PA, pc, (T, v)⟩ : Pv)]).map plP = (l.take (k + 1)).map pt3 := by rw [List.map_append]; exact HNX.out
      have HM4 := Lib.hid hm4
      clear hs4 hba hm4 m0 m1 m2 HS3 HG3
      go_roundw
      case rel => exact ⟨k + 1, _, _, by omega, by omega, by go_num, by rw [List.length_append, HOK.out]; rfl, HS4, Lib.hid HD4.out.1, HM4⟩
      case measure => simp [intOf]; omega
    · have hend : l.take k = l.take 12 := by
        rcases Nat.lt_or_ge k 12 with h1 | h1
        · rw [List.take_of_length_le (by omega), List.take_of_length_le (by omega)]
        · obtain rfl : k = 12 := by omega
          rfl
      have hm := HM.out
      rw [hend, ← HR.out] at hm
      have HM2 := Lib.hid hm
      have HOK := Lib.hid hOk
      clear hend hm HM hOk
      have hcase : (k : Int) = (l.length : Int) ∨ ((k : Int) < (l.length : Int) ∧ (12 : Int) ≤ (k : Int)) := by omega
      rcases hcase with h1 | ⟨h1, h2⟩
      case' inl => have h3 : (l.length : Int) ≤ (k : Int) := by omega
      case' inl => clear h1
      all_goals
        go_wp2_with fail
        go_ret2
        exact ⟨_, _, O, rfl, by have := HO.out; rw [HOK.out] at this; exact this, HM2.out⟩
end Go.Proofs.YtjklcojnbcemoaaGreatDoor

/-
  Layer 25: the walk of the laws' awake; what the laws take.
-/
namespace Go.Proofs.YtjklcojnbcemoaaGreatDoor
open Go.RowKit Go.Bar Go.Bar.Leb Go.Bar.Lab Go.Bar.Xor Go.Bar.Mrg

theorem tab3_szp (l : List On3) : SzP (tab3 l) 40 := by
  have h := (SzP.nil (n := 0)).addAll (ps := (l.take 40).map pt3) fun p hp => by
    obtain ⟨x, _, rfl⟩ := List.mem_map.1 hp
    exact pt3_isL x
  exact h.mono (by rw [List.length_map, List.length_take]; omega)
theorem settle_good {S N : List Row} {P : List Pt} (h : Tb N) : settleP S N P = if withinP S N = false then 5 else if withinP N (addAll S P) = false then 6 else if firstP N P [] = false then 10 else 0 := by
  unfold settleP
  rw [if_neg (by rw [goodB_true h.good]; exact Bool.noConfusion)]
theorem PtAt.drop {w : World} {A : Option Addr} {n c : Nat} {l : List Pv} (h : PtAt w (.slice A n c) l) (k : Nat) (hk : k ≤ n) : PtAt w (.slice (dropA A c k 3) (n - k) (c - k)) (l.drop k) := by
  obtain ⟨_, _, he, _⟩ := h.shape
  injection he with _ e2 _
  subst e2
  have h1 := SlAt.part h.1 k l.length hk (Nat.le_refl _)
  have h2 : ((pts3 l).drop (k * 3)).take ((l.length - k) * 3) = pts3 (l.drop k) := by
    rw [show (pts3 l).drop (k * 3) = pts3 (l.drop k) from flat_drop encPt 3 encPt_three l k, List.take_of_length_le (by rw [pts3_len, List.length_drop]; exact Nat.le_refl _)]
  rw [h2] at h1
  refine ⟨?_, fun p hp => h.2 p (List.mem_of_mem_drop hp)⟩
  rw [List.length_drop]
  exact h1
theorem pt_info : ∃ i, Tryz.prog.info? 46 = some i ∧ i.size = 3 := by
  have h : (Tryz.prog.info? 46).map (fun i => i.size) = some 3 := by kernel_rfl
  rcases hi : Tryz.prog.info? 46 with _ | i
  · rw [hi] at h; cases h
  · rw [hi] at h
    exact ⟨i, rfl, by injection h⟩
def aw3 : List On3 := [⟨0, 5, 0⟩, ⟨0, 6, 0⟩, ⟨0, 7, 0⟩]
def aw57 : List On3 := [⟨0, 5, 0⟩, ⟨0, 7, 0⟩]
def aw6 : List On3 := [⟨0, 6, 0⟩]
def aw56 : List On3 := [⟨0, 5, 0⟩, ⟨0, 6, 0⟩]
theorem aw_settle (l : List On3) (z : Int) (h : (if withinP (addAll [] [(lab5 0, (5, 0))]) (tab3 l) = false then 5 else if withinP (tab3 l) (addAll (addAll [] [(lab5 0, (5, 0))]) [(lab5 0, (6, 0)), (lab5 0, (7, 0))]) = false then 6 else if firstP (tab3 l) [(lab5 0, (6, 0)), (lab5 0, (7, 0))] [] = false then 10 else 0 : Int) = z) : z = settleP (addAll [] [(lab5 0, (5, 0))]) (tab3 l) [(lab5 0, (6, 0)), (lab5 0, (7, 0))] := by
  rw [settle_good (tab3_tb l), h]

theorem isl_of {O : List Pv} {l : List On3} (h : O.map plP = l.map pt3) : ∀ p ∈ O, IsL p.ls := fun p hp => by
  have h1 : plP p ∈ l.map pt3 := h ▸ List.mem_map_of_mem hp
  obtain ⟨x, _, e⟩ := List.mem_map.1 h1
  have := pt3_isL x
  rw [e] at this
  exact this

set_option maxHeartbeats 8000000 in
set_option maxRecDepth 10000 in
theorem awake25_any (w : World) : Calls Tryz.prog 7 #[] w (RetBelow w (.bool true)) := by
  obtain ⟨X, hX⟩ : ∃ X, X = w.heap.size := ⟨_, rfl⟩
  obtain ⟨w0, hw0⟩ : ∃ w0, w0 = w.alloc (.cells #[.slice none 0 0, .slice none 0 0] 35) := ⟨_, rfl⟩
  have hlg : Lg w X [] [] w0 := by rw [hw0, hX]; exact Lg.start w
  have hL3 : ∀ w0 : World, O3At (w0.alloc (.cells (ocs aw3).toArray 57)) (.slice (some ⟨w0.heap.size, 0, none⟩) 3 3) aw3 := fun w0 => (nbuf_lit (Below.refl w0.heap.size w0) 57 3 3 (ocs aw3) rfl (by decide)).slice
  have hL2 : ∀ w0 : World, O3At (w0.alloc (.cells (ocs aw57).toArray 57)) (.slice (some ⟨w0.heap.size, 0, none⟩) 2 2) aw57 := fun w0 => (nbuf_lit (Below.refl w0.heap.size w0) 57 3 2 (ocs aw57) rfl (by decide)).slice
  have hL6 : ∀ w0 : World, O3At (w0.alloc (.cells (ocs aw6).toArray 57)) (.slice (some ⟨w0.heap.size, 0, none⟩) 1 1) aw6 := fun w0 => (nbuf_lit (Below.refl w0.heap.size w0) 57 3 1 (ocs aw6) rfl (by decide)).slice
  have hL5 : ∀ w0 : World, O3At (w0.alloc (.cells (ocs aw56).toArray 57)) (.slice (some ⟨w0.heap.size, 0, none⟩) 2 2) aw56 := fun w0 => (nbuf_lit (Below.refl w0.heap.size w0) 57 3 2 (ocs aw56) rfl (by decide)).slice
  have HL := Lib.hid hlg
  have HP := Lib.hid (fun w0 => points_any _ aw3 _ (hL3 w0))
  have HA := Lib.hid (fun w0 => table_any _ aw57 _ (hL2 w0))
  have HB := Lib.hid (fun w0 => table_any _ aw6 _ (hL6 w0))
  have HC := Lib.hid (fun w0 => table_any _ aw56 _ (hL5 w0))
  obtain ⟨fi, hfi, hfs⟩ := pt_info
  have hsl := fun (a : Option Addr) (n c l : Nat) (h1 : l ≤ n) (h2 : n ≤ c) (w : World) => run_slice_f (P := Tryz.prog) (a := a) Tryz.underlying33 hfi hfs l h1 h2 w
  have HSL := Lib.hid hsl
  clear hlg hL3 hL2 hL6 hL5 hsl hfi hfs
  go_enter Tryz.func7, Tryz.ntmps7
  go_upto_region 2 with fail
  rw [← hw0, ← hX]
  clear hw0 hX
  go_wp2_with fail
  refine (HP.out _).mono ?_
  rintro e w2 ⟨v1, u1, O, rfl, ho, hm⟩
  have hisl : ∀ p ∈ O, IsL p.ls := isl_of hm
  rcases O with _ | ⟨q0, _ | ⟨q1, _ | ⟨q2, _ | ⟨q3, O⟩⟩⟩⟩
  · cases hm
  · simp [aw3] at hm
  · simp [aw3] at hm
  rotate_left 1
  · simp [aw3] at hm
  obtain ⟨e0, e1, e2⟩ : plP q0 = (lab5 0, (5, 0)) ∧ plP q1 = (lab5 0, (6, 0)) ∧ plP q2 = (lab5 0, (7, 0)) := by
    simp only [List.map_cons, List.map_nil, List.cons.injEq, aw3, List.take] at hm
    exact ⟨hm.1, hm.2.1, hm.2.2.1⟩
  have hb2 := below_trans (below_alloc1 w0 _) ho.1.below
  have HO := Lib.hid (ho.after (below_trans HL.out.bel (below_alloc1 w0 _)))
  have HIS := Lib.hid hisl
  have HE0 := Lib.hid e0
  have HE1 := Lib.hid e1
  have HE2 := Lib.hid e2
  obtain ⟨b, o, c, rfl, p0, p1, p2, hla⟩ : ∃ b o c, v1 = .slice (some ⟨b, o, none⟩) 3 c ∧ w2.cell? ⟨b, o, none⟩ = some (.slice q0.la q0.ls.length q0.lc) ∧ w2.cell? ⟨b, o + 1, none⟩ = some (.int .i64 q0.s.1) ∧ w2.cell? ⟨b, o + 2, none⟩ = some (.int .u64 (q0.s.2 : Nat)) ∧ LAt w2 q0 := by
    obtain ⟨A, c, rfl, _⟩ := ho.at_.shape
    obtain ⟨b, o, rfl, g0, g1, g2, gl⟩ := ho.at_.at_ (i := 0) rfl
    rw [Nat.zero_mul, Nat.add_zero] at g0 g1 g2
    exact ⟨b, o, c, rfl, g0, g1, g2, gl⟩
  obtain ⟨L0, la0, lc0, s0⟩ := q0
  dsimp only at p0 p1 p2
  have hcc : 3 ≤ c := by
    obtain ⟨_, _, he, h, _⟩ := ho.at_.shape
    injection he with _ _ e3
    subst e3
    exact h
  have hp3 : PtAt (w2.alloc (.cells #[.slice la0 L0.length lc0, .int .i64 s0.1, .int .u64 (s0.2 : Nat)] 46)) (.slice (some ⟨w2.heap.size, 0, none⟩) 1 1) [⟨L0, la0, lc0, s0⟩] := ⟨SlAt.of_buf (Buf.lit w2 46 3 1 (pts3 [⟨L0, la0, lc0, s0⟩]) rfl (by decide)), fun p hp => by
    obtain rfl := List.mem_singleton.1 hp
    exact PsAt.below hla (below_alloc1 _ _)⟩
  have hb3 := below_trans hb2 (below_alloc1 w2 (.cells #[.slice la0 L0.length lc0, .int .i64 s0.1, .int .u64 (s0.2 : Nat)] 46))
  have hdn := done_any w X [] [] _ _ 0 _ (HL.out.below hb3) hp3 Tb.nil SzP.nil (fun p hp => by
    obtain rfl := List.mem_singleton.1 hp
    exact HIS.out _ (List.mem_cons_self ..)) (by simp)
  have HDN := Lib.hid hdn
  have HP4 := Lib.hid (fun w' (hk : Ke Tl25 _ w') => PtAt.drop ((HO.out.below (below_alloc1 w2 (.cells #[.slice la0 L0.length lc0, .int .i64 s0.1, .int .u64 (s0.2 : Nat)] 46))).pt hk) 1 (by decide))
  have g1 := HSL.out (some ⟨b, o, none⟩) 3 c 1 (by decide) hcc
  have g1 : ∀ w, (Instr.slice 33 (.slice (some ⟨b, o, none⟩) 3 c) (some (.int .i64 1)) none none).run Tryz.prog w = .ok (.slice (dropA (some ⟨b, o, none⟩) c 1 3) 2 (c - 1)) w := g1
  obtain ⟨D, hD⟩ : ∃ D, D = dropA (some ⟨b, o, none⟩) c 1 3 := ⟨_, rfl⟩
  rw [← hD] at g1 HP4
  clear ho hm hb2 hp3 hdn e0 e1 e2 hisl hla hb3 hD HL HP
  go_wp2_with fail
  refine HDN.out.mono ?_
  rintro e w4 ⟨rfl, hk4, t4, hl4, hm4⟩
  have hkd := fun w' (h : Ke Tl25 w4 w') => HP4.out w' (hk4.trans h)
  have htr := tried_any w X t4 (.slice D 2 (c - 1)) [q1, q2] w4 hl4 hkd (fun p hp => HIS.out p (List.mem_cons_of_mem _ hp)) (by simp)
  have HTR := Lib.hid htr
  have HM4 := Lib.hid hm4
  clear hk4 hl4 hm4 hkd htr p0 p1 p2 HP4 HDN HO
  go_wp2_with fail
  refine HTR.out.mono ?_
  rintro e w5 ⟨rfl, O5, htd, hm5⟩
  have hlg5 := htd.lg
  have HL5 := Lib.hid hlg5
  have HM5 := Lib.hid hm5
  clear htd hm5 hlg5 HTR
  go_wp2_with fail
  refine (HA.out _).mono ?_
  rintro e w6 ⟨va, ua, ta, sa, rfl, da, ea, ma, na⟩
  have DA := Lib.hid (And.intro (da.rtb (Below.refl _ _)).tb ma)
  have hb6 := below_trans (below_alloc1 w5 _) da.n.below
  have HL6 := Lib.hid (HL5.out.below hb6)
  obtain ⟨Aa, ca, rfl, _⟩ := DA.out.1.shape
  clear da ea ma na HL5 hb6 HA
  go_wp2_with fail
  refine (HB.out _).mono ?_
  rintro e w7 ⟨vb, ub, tb, sb, rfl, db, eb, mb, nb⟩
  have DB := Lib.hid (And.intro (db.rtb (Below.refl _ _)).tb mb)
  have hb7 := below_trans (below_alloc1 w6 _) db.n.below
  have HL7 := Lib.hid (HL6.out.below hb7)
  have DA7 := Lib.hid (And.intro (DA.out.1.below hb7) DA.out.2)
  obtain ⟨Ab, cb, rfl, _⟩ := DB.out.1.shape
  clear db eb mb nb HL6 DA hb7 HB
  go_wp2_with fail
  refine (HC.out _).mono ?_
  rintro e w8 ⟨vc, uc, tc, sc, rfl, dc, ec, mc, nc⟩
  have DC := Lib.hid (And.intro (dc.rtb (Below.refl _ _)).tb mc)
  have hb8 := below_trans (below_alloc1 w7 _) dc.n.below
  have HL8 := Lib.hid (HL7.out.below hb8)
  have DA8 := Lib.hid (And.intro (DA7.out.1.below hb8) DA7.out.2)
  have DB8 := Lib.hid (And.intro (DB.out.1.below hb8) DB.out.2)
  obtain ⟨Ac, cc, rfl, _⟩ := DC.out.1.shape
  have HOP := Lib.hid (open_any w X t4 O5 w8 HL8.out)
  have hO5 : O5.map plP = [(lab5 0, (6, 0)), (lab5 0, (7, 0))] := by
    rw [HM5.out]
    show [plP q1, plP q2] = _
    rw [HE1.out, HE2.out]
  have hT4 : t4.map plR = addAll [] [(lab5 0, (5, 0))] := by
    rw [HM4.out]
    show addAll [] [plP _] = _
    rw [HE0.out]
  have hl5 : O5.length = 2 := by have := congrArg List.length hO5; simpa using this
  have hi5 : ∀ p ∈ O5, IsL p.ls := fun p hp => by
    have h1 : plP p ∈ O5.map plP := List.mem_map_of_mem hp
    rw [hO5] at h1
    simp only [List.mem_cons, List.not_mem_nil, or_false] at h1
    rcases h1 with h | h <;> exact ⟨0, congrArg Prod.fst h⟩
  rw [hl5] at HOP
  have htb4 : Tb (t4.map plR) := by rw [hT4]; exact (add_spec _ Tb.nil).1
  have hsz4 : SzP (t4.map plR) 1 := by rw [hT4]; exact (SzP.nil (n := 0)).addAll (ps := [(lab5 0, (5, 0))]) (fun p hp => by obtain rfl := List.mem_singleton.1 hp; exact ⟨0, rfl⟩)
  have hset := fun w' (v : Value) (n : List Rv) (l : List On3) (hb : Below w8.heap.size w8 w') (hv : TbAt w' v n) (hn : n.map plR = tab3 l) (z : Int) (hz : z = settleP (addAll [] [(lab5 0, (5, 0))]) (tab3 l) [(lab5 0, (6, 0)), (lab5 0, (7, 0))]) => settle_any w X t4 O5 1 v n w' (HL8.out.below hb) htb4 hsz4 hi5 (by omega) hv (by rw [hn]; exact (tab3_szp l).mono (by decide)) z (by rw [hT4, hn, hO5]; exact hz) (fun _ => by rw [hn]; exact tab3_tb l)
  have HS := Lib.hid hset
  clear dc ec mc nc HL7 DA7 DB hb8 HC hO5 hT4 hl5 hi5 htb4 hsz4 hset HM4 HM5
  go_wp2_with fail
  refine HOP.out.mono ?_
  rintro e w9 ⟨rfl, hb9⟩
  have H10 := Lib.hid (HS.out w9 _ ta aw57 hb9 (DA8.out.1.below hb9) DA8.out.2 10 (aw_settle _ _ (by decide +kernel)))
  clear HOP
  go_wp2_with fail
  refine H10.out.mono ?_
  rintro e w10 ⟨rfl, hr⟩
  rcases hr with ⟨_, hb10⟩ | ⟨h, _⟩
  rotate_left 1
  · cases h
  have hb10 := below_trans hb9 hb10
  have H11 := Lib.hid (HS.out w10 _ tb aw6 hb10 (DB8.out.1.below hb10) DB8.out.2 5 (aw_settle _ _ (by decide +kernel)))
  clear H10 hb9
  go_wp2_with fail
  refine H11.out.mono ?_
  rintro e w11 ⟨rfl, hr⟩
  rcases hr with ⟨_, hb11⟩ | ⟨h, _⟩
  rotate_left 1
  · cases h
  have hb11 := below_trans hb10 hb11
  have H12 := Lib.hid (HS.out w11 _ tc aw56 hb11 (DC.out.1.below hb11) DC.out.2 0 (aw_settle _ _ (by decide +kernel)))
  clear H11 hb10
  go_wp2_with fail
  refine H12.out.mono ?_
  rintro e w12 ⟨rfl, hr⟩
  rcases hr with ⟨h, _⟩ | ⟨_, hk12, n12, hl12, hm12⟩
  · exact absurd rfl h
  have H13 := Lib.hid (open_any w X n12 [] w12 hl12)
  have HB12 := Lib.hid hl12.bel
  clear hk12 hl12 hm12 H12 hb11
  go_wp2_with fail
  refine H13.out.mono ?_
  rintro e w13 ⟨rfl, hb13⟩
  go_wp2_with fail
  go_ret
  exact ⟨rfl, below_trans HB12.out hb13⟩
end Go.Proofs.YtjklcojnbcemoaaGreatDoor

/-
  Layer 25: a sample that came in by value; plain: what must be there and what may be are answers.
-/
namespace Go.Proofs.YtjklcojnbcemoaaGreatDoor
open Go.RowKit Go.Bar Go.Bar.Leb Go.Bar.Lab Go.Bar.Xor Go.Bar.Mrg Go.ChangeShapes Go.WideShapes Go.ChangeAt

/-- an argument that is a sample -/
def O1Arg (_ : World) (v : Value) (x : On3) : Prop := v = .agg #[.int .u8 (x.nm : Nat), .int .i64 x.t, .int .u64 (x.v : Nat)]
set_option maxRecDepth 100000 in
theorem open_one14 {H : Type} {enc : TypeId × Value → H} {W : World} {base b0 : Nat} {spare : Nat → Bool} {held : Bool} {r : Reach} {v : Value} {d : DataW H} {p : List MemPlace} (hval : Value.okWide Tryz.prog W r b0 57 v)
    (h : DataW.Trod enc Tryz.prog W base spare held 57 v d p) : ∃ x, O1Arg W v x := by
  obtain ⟨cs, rfl, hsz⟩ := okWide_struct Tryz.underlying57 hval
  have hC : Tryz.prog.cellsOf 57 = 3 := by kernel_rfl
  rw [hC] at hsz
  obtain ⟨fuel, hf⟩ := h
  obtain ⟨ys, k, _, _, _, hyl, hg⟩ := DataW.trod_struct Tryz.underlying57 hf
  have h1 : Tryz.prog.cellsOf 5 = 1 := by kernel_rfl
  have h2 : Tryz.prog.cellsOf 2 = 1 := by kernel_rfl
  have h3 : Tryz.prog.cellsOf 40 = 1 := by kernel_rfl
  obtain ⟨l⟩ := cs
  match l, hsz, ys, hyl with
  | [c0, c1, c2], _, [y0, y1, y2], _ =>
    have g0 : DataW.trod enc Tryz.prog W base spare held k 5 (([c0, c1, c2].drop 0).take (Tryz.prog.cellsOf 5)) = some y0 := hg 0 _ rfl
    have g1 : DataW.trod enc Tryz.prog W base spare held k 2 (([c0, c1, c2].drop 1).take (Tryz.prog.cellsOf 2)) = some y1 := hg 1 _ rfl
    have g2 : DataW.trod enc Tryz.prog W base spare held k 40 (([c0, c1, c2].drop 2).take (Tryz.prog.cellsOf 40)) = some y2 := hg 2 _ rfl
    rw [h1] at g0
    rw [h2] at g1
    rw [h3] at g2
    obtain ⟨n0, e0, _, w0⟩ := DataW.trod_int Tryz.underlying5 g0
    obtain ⟨n1, e1, _, w1⟩ := DataW.trod_int Tryz.underlying2 g1
    obtain ⟨n2, e2, _, w2⟩ := DataW.trod_int Tryz.underlying40 g2
    replace e0 : c0 = _ := (List.cons.inj e0).1
    replace e1 : c1 = _ := (List.cons.inj e1).1
    replace e2 : c2 = _ := (List.cons.inj e2).1
    subst e0; subst e1; subst e2
    have w0 := bounds_u8 w0
    have w2 := bounds_u64 w2
    refine ⟨⟨n0.toNat, n1, n2.toNat⟩, ?_⟩
    show Value.agg _ = .agg _
    simp only [Int.toNat_of_nonneg w0.1, Int.toNat_of_nonneg w2.1]

theorem answers_low {S : List Row} {P : List Pt} (a b : Int) (h : Tb S) : answersP S P S (betw S a b) a b = 0 := by
  obtain ⟨h1, _⟩ := betw_spec a b h
  have h2 := (add_spec P h).1
  unfold answersP
  rw [if_neg (by rw [goodB_true h1.good]; exact Bool.noConfusion), if_neg (by rw [within_self h1]; exact Bool.noConfusion), if_neg (by rw [within_betw a b h h2 (within_add0 P h)]; exact Bool.noConfusion)]
theorem answers_may {S : List Row} {P : List Pt} (a b : Int) (h : Tb S) : answersP S P S (betw (addAll S P) a b) a b = 0 := by
  have h2 := (add_spec P h).1
  obtain ⟨h1, _⟩ := betw_spec a b h2
  unfold answersP
  rw [if_neg (by rw [goodB_true h1.good]; exact Bool.noConfusion), if_neg (by rw [within_betw a b h h2 (within_add0 P h)]; exact Bool.noConfusion), if_neg (by rw [within_self h1]; exact Bool.noConfusion)]
/-- no sample's time is beyond 999 -/
theorem addAll_times {S : List Row} {P : List Pt} (h : Tb S) (hS : ∀ L t, 1000 ≤ t → val S L t = none) (hP : ∀ p ∈ P, p.2.1 < 1000) : ∀ L t, 1000 ≤ t → val (addAll S P) L t = none := fun L t ht => by
  rw [(add_spec P h).2, hS L t ht, Option.none_or]
  exact ptv_no fun p hp e => by have := hP p hp; omega
theorem pt3_time (x : On3) : (pt3 x).2.1 < 1000 := (tm3_rng x.t).2
theorem answers_more {S : List Row} {P : List Pt} (L : List Pr) (v : Nat) (h : Tb S) (hS : ∀ L t, 1000 ≤ t → val S L t = none) (hP : ∀ p ∈ P, p.2.1 < 1000) : answersP S P [] [(L, [(5000, v)])] 0 9000 = 6 := by
  have h2 := (add_spec P h).1
  have h3 := (betw_spec 0 9000 h2)
  have hT : Tb [(L, [((5000 : Int), v)])] := (addR_spec (L := L) (s := (5000, v)) Tb.nil).1
  unfold answersP
  rw [if_neg (by rw [goodB_true hT.good]; exact Bool.noConfusion), if_neg (by rw [show betw ([] : List Row) 0 9000 = [] from rfl, within_nil]; exact Bool.noConfusion), if_pos]
  rw [← Bool.not_eq_true]
  intro hw
  have h4 := (within_val hT h3.1).1 hw L 5000 (5000, v) (by
    unfold val rk
    simp
    exact lk_first ((5000 : Int), v) [])
  rw [h3.2, addAll_times h hS hP L 5000 (by decide)] at h4
  simp at h4
end Go.Proofs.YtjklcojnbcemoaaGreatDoor

/-
  Layer 25: plain: points with rising times; a table that lacks a sample; points stored anew in memory.
-/
namespace Go.Bar.Mrg
open Go.RowKit Go.Bar Go.Bar.Xor Go.Bar.Lab

/-- a table without the first sample of a row -/
def cutF (L : List Pr) (r : Row) : Row := if r.1 = L then (r.1, r.2.drop 1) else r
def lessP (L : List Pr) (R : List Row) : List Row := R.map (cutF L)
theorem cutF_fst (L : List Pr) (r : Row) : (cutF L r).1 = r.1 := by unfold cutF; split <;> rfl
theorem ris_drop {l : List Sm} (h : Ris l) : Ris (l.drop 1) := List.Pairwise.sublist (List.drop_sublist 1 l) h
theorem less_good {N : List Row} (h : Tb N) (L : List Pr) : GoodP (lessP L N) := by
  refine ⟨?_, fun r hr => ?_⟩
  · unfold lessP
    refine List.pairwise_map.2 (h.rls.imp fun {a b} hab => ?_)
    rw [cutF_fst, cutF_fst]
    exact hab
  · obtain ⟨x, hx, rfl⟩ := List.mem_map.1 hr
    unfold cutF
    split
    · exact ris_drop (h.ris x hx)
    · exact h.ris x hx
theorem less_within {R N : List Row} {L : List Pr} {s : Sm} {ss : List Sm} {R' : List Row} {ps : List Pt} (hR : Tb R) (hc : R = (L, s :: ss) :: R') (hN : N = addAll R ps) (hp : ∀ p ∈ ps, s.1 < p.2.1) : withinP R (lessP L N) = false := by
  have hmem : (L, s :: ss) ∈ R := by rw [hc]; exact List.mem_cons_self ..
  obtain ⟨hT, hv⟩ := add_spec ps hR
  rw [← hN] at hT hv
  have hRv : ∀ t, val R L t = lk (s :: ss) t := fun t => by
    unfold val
    rw [rk_mem hR.rls hmem]
    rfl
  have h0 : val N L s.1 = some s := by rw [hv, hRv, lk_first]; rfl
  rcases hrk : rk N L with _ | l
  · unfold val at h0; rw [hrk] at h0; cases h0
  have hlm := rk_some hrk
  have hlr := hT.ris _ hlm
  have hlv : ∀ t, val N L t = lk l t := fun t => by unfold val; rw [hrk]; rfl
  have hhead : l.head? = some s := by
    rcases l with _ | ⟨x, l⟩
    · rw [hlv] at h0; cases h0
    · have hx : val N L x.1 = some x := by rw [hlv, lk_first]
      have hxs : x.1 ≤ s.1 := by
        have hm := (lk_some (show lk (x :: l) s.1 = some s by rw [← hlv]; exact h0)).1
        rcases List.mem_cons.1 hm with e | e
        · rw [e]; exact Int.le_refl _
        · exact Int.le_of_lt ((List.pairwise_cons.1 hlr).1 s e)
      rw [hv, hRv] at hx
      have hptv : ptv ps L x.1 = none := ptv_no fun p hpm e => by have := hp p hpm; omega
      rw [hptv, Option.or_none] at hx
      have hm := (lk_some hx).1
      rcases List.mem_cons.1 hm with e | e
      · rw [e]; rfl
      · have := (List.pairwise_cons.1 (hR.ris _ hmem)).1 x e
        omega
  refine Go.Proofs.YtjklcojnbcemoaaGreatDoor.within_not hmem (List.mem_cons_self ..) ?_
  have hgl := (less_good hT L).1
  have hmem2 : (L, l.drop 1) ∈ lessP L N := by
    refine List.mem_map.2 ⟨(L, l), hlm, ?_⟩
    unfold cutF
    rw [if_pos rfl]
  unfold hasP
  rw [rk_mem hgl hmem2]
  refine decide_eq_false fun hms => ?_
  rcases l with _ | ⟨x, l⟩
  · cases hhead
  · injection hhead with hhead
    subst hhead
    have hms : x ∈ l := hms
    have := (List.pairwise_cons.1 hlr).1 x hms
    omega
end Go.Bar.Mrg
namespace Go.Proofs.YtjklcojnbcemoaaGreatDoor
open Go.RowKit Go.Bar Go.Bar.Leb Go.Bar.Lab Go.Bar.Xor Go.Bar.Mrg

/-- a point with another time -/
def tmAt (k : Nat) (p : Pv) : Pv := ⟨p.ls, p.la, p.lc, (1001 + (k : Int), p.s.2)⟩
def tmTo (k : Nat) (l : List Pv) : List Pv := l.mapIdx fun j p => if j < k then tmAt j p else p
theorem tmTo_len (k : Nat) (l : List Pv) : (tmTo k l).length = l.length := List.length_mapIdx
theorem tmTo_get (k : Nat) (l : List Pv) (j : Nat) : (tmTo k l)[j]? = l[j]?.map fun p => if j < k then tmAt j p else p := List.getElem?_mapIdx
theorem tmTo_zero (l : List Pv) : tmTo 0 l = l := by
  apply List.ext_getElem?
  intro j
  rw [tmTo_get]
  cases l[j]? <;> simp
theorem tmTo_succ {k : Nat} {l : List Pv} {p : Pv} (h : l[k]? = some p) : (tmTo k l).set k (tmAt k p) = tmTo (k + 1) l := by
  apply List.ext_getElem?
  intro j
  have hlt := (List.getElem?_eq_some_iff.1 h).1
  rw [List.getElem?_set, tmTo_get, tmTo_get]
  by_cases e : k = j
  · subst e
    rw [if_pos rfl, if_pos (by rw [tmTo_len]; exact hlt), h]
    simp
  · rw [if_neg e]
    cases l[j]? with
    | none => rfl
    | some q =>
      simp only [Option.map_some]
      by_cases h1 : j < k
      · rw [if_pos h1, if_pos (by omega)]
      · rw [if_neg h1, if_neg (by omega)]
theorem tmTo_all {l : List Pv} {j : Nat} {q : Pv} (h : (tmTo l.length l)[j]? = some q) : ∃ p, l[j]? = some p ∧ q = tmAt j p := by
  rw [tmTo_get] at h
  rcases hl : l[j]? with _ | p
  · rw [hl] at h; cases h
  · rw [hl] at h
    simp only [Option.map_some, Option.some.injEq] at h
    rw [if_pos (List.getElem?_eq_some_iff.1 hl).1] at h
    exact ⟨p, rfl, h.symm⟩
theorem tmTo_rise (l : List Pv) : ((tmTo l.length l).map plP).Pairwise (fun a b => a.2.1 < b.2.1) := by
  refine List.pairwise_iff_getElem.2 fun i j hi hj hij => ?_
  rw [List.getElem_map, List.getElem_map]
  rw [List.length_map] at hi hj
  obtain ⟨p, _, e1⟩ := tmTo_all (List.getElem?_eq_getElem hi)
  obtain ⟨q, _, e2⟩ := tmTo_all (List.getElem?_eq_getElem hj)
  rw [e1, e2]
  show 1001 + (i : Int) < 1001 + (j : Int)
  omega
theorem tmTo_late (l : List Pv) : ∀ p ∈ (tmTo l.length l).map plP, 1000 < p.2.1 := fun p hp => by
  obtain ⟨q, hq, rfl⟩ := List.mem_map.1 hp
  obtain ⟨j, hj⟩ := List.mem_iff_getElem?.1 hq
  obtain ⟨x, _, rfl⟩ := tmTo_all hj
  show 1000 < 1001 + (j : Int)
  omega
theorem tmTo_isl {l : List Pv} (h : ∀ p ∈ l, IsL p.ls) (k : Nat) : ∀ p ∈ tmTo k l, IsL p.ls := fun p hp => by
  obtain ⟨j, hj⟩ := List.mem_iff_getElem?.1 hp
  rw [tmTo_get] at hj
  rcases hl : l[j]? with _ | q
  · rw [hl] at hj; cases hj
  · rw [hl] at hj
    simp only [Option.map_some, Option.some.injEq] at hj
    have := h q (List.mem_of_getElem? hl)
    rw [← hj]
    split
    · exact this
    · exact this
theorem pts3_set : ∀ (O : List Pv) (k : Nat) (p : Pv) (T : Int), O[k]? = some p → pts3 (O.set k ⟨p.ls, p.la, p.lc, (T, p.s.2)⟩) = (pts3 O).set (k * 3 + 1) (.int .i64 T)
  | [], k, p, T, h => by cases h
  | x :: O, 0, p, T, h => by
    injection h with h
    subst h
    rfl
  | x :: O, k + 1, p, T, h => by
    have ih := pts3_set O k p T (by simpa using h)
    rw [List.set_cons_succ]
    show encPt x ++ pts3 (O.set k _) = (encPt x ++ pts3 O).set ((k + 1) * 3 + 1) _
    rw [ih, List.set_append, if_neg (by rw [encPt_three]; omega)]
    congr 2
    rw [encPt_three]; omega
/-- a store of a time into points -/
theorem OwnP.setTime {W w : World} {b o n c k : Nat} {O : List Pv} {p : Pv} (h : OwnP W w (.slice (some ⟨b, o, none⟩) n c) O) (hk : O[k]? = some p) (T : Int) :
    OwnP W (w.setCell ⟨b, o + k * 3 + 1, none⟩ (.int .i64 T)) (.slice (some ⟨b, o, none⟩) n c) (O.set k ⟨p.ls, p.la, p.lc, (T, p.s.2)⟩) ∧ Ke (fun U => U = 46) w (w.setCell ⟨b, o + k * 3 + 1, none⟩ (.int .i64 T)) := by
  have hlt := (List.getElem?_eq_some_iff.1 hk).1
  obtain ⟨hn, hl⟩ := h
  obtain ⟨_, _, he, _⟩ := hn.buf.shape
  injection he with _ e2 _
  subst e2
  have hst := hn.buf.storeN (j := k * 3 + 1) (by omega) (.int .i64 T)
  rw [← Nat.add_assoc, ← pts3_set O k p T hk] at hst
  have hke : Ke (fun U => U = 46) w (w.setCell ⟨b, o + k * 3 + 1, none⟩ (.int .i64 T)) := Ke.of_buf (Ts := fun U => U = 46) hn.buf (by omega) rfl _ _
  have hbe : Below W.heap.size W (w.setCell ⟨b, o + k * 3 + 1, none⟩ (.int .i64 T)) := hn.below.setCell (p := ⟨b, _, none⟩) (hn.new b (by simp [Value.ownBlock])) _
  refine ⟨⟨?_, fun q hq => ?_⟩, hke⟩
  · rw [List.length_set]
    exact ⟨hst, hbe, hn.new⟩
  · rcases List.mem_or_eq_of_mem_set hq with h1 | h1
    · exact nbuf_ke (hl q h1) hke hbe (by decide)
    · subst h1
      exact nbuf_ke (hl p (List.mem_of_getElem? hk)) hke hbe (by decide)
theorem Lg.ke0 {B w w' : World} {X : Nat} {t : List Rv} (h : Lg B X t [] w) (hk : Ke (fun U => U = 46) w w') (hb : Below B.heap.size B w') : Lg B X t [] w' := by
  obtain ⟨⟨A, c, A2, c2, h1, h2, h3, h4⟩, hn⟩ := h
  obtain rfl := h4 rfl
  exact ⟨⟨A, c, none, c2, hk.blk h1 (by decide), h2.ke hk hb (by decide) (by decide) (by decide), ⟨⟨(by
    obtain ⟨q1, q2, q3, q4, q5, q6, q7⟩ := h3.1.buf
    exact ⟨q1, q2, q3, q4, q5, q6, fun h0 => absurd h0 (by
      intro hc
      obtain ⟨_, _, _, _, hA, _⟩ := q7 hc
      injection q4 with q41
      rw [← q41] at hA
      cases hA)⟩), hb, fun k hk => by simp [Value.ownBlock] at hk⟩, fun x hx => by cases hx⟩, h4⟩, hn⟩

/-- a row without its first sample, in memory -/
def cutV (L : List Pr) (x : Rv) : Rv := if x.ls = L then ⟨x.ls, x.ss.drop 1, x.la, x.lc, dropA x.sa x.sc 1 2, x.sc - 1⟩ else x
theorem cutV_pl (L : List Pr) (x : Rv) : plR (cutV L x) = cutF L (plR x) := by
  unfold cutV cutF
  show _ = if x.ls = L then _ else _
  split <;> rfl
def lessV (L : List Pr) (k : Nat) (l : List Rv) : List Rv := l.mapIdx fun j x => if j < k then cutV L x else x
theorem lessV_len (L : List Pr) (k : Nat) (l : List Rv) : (lessV L k l).length = l.length := List.length_mapIdx
theorem lessV_get (L : List Pr) (k : Nat) (l : List Rv) (j : Nat) : (lessV L k l)[j]? = l[j]?.map fun x => if j < k then cutV L x else x := List.getElem?_mapIdx
theorem lessV_zero (L : List Pr) (l : List Rv) : lessV L 0 l = l := by
  apply List.ext_getElem?
  intro j
  rw [lessV_get]
  cases l[j]? <;> simp
theorem lessV_succ {L : List Pr} {k : Nat} {l : List Rv} {x : Rv} (h : l[k]? = some x) : (lessV L k l).set k (cutV L x) = lessV L (k + 1) l := by
  apply List.ext_getElem?
  intro j
  have hlt := (List.getElem?_eq_some_iff.1 h).1
  rw [List.getElem?_set, lessV_get, lessV_get]
  by_cases e : k = j
  · subst e
    rw [if_pos rfl, if_pos (by rw [lessV_len]; exact hlt), h]
    simp
  · rw [if_neg e]
    cases l[j]? with
    | none => rfl
    | some q =>
      simp only [Option.map_some]
      by_cases h1 : j < k
      · rw [if_pos h1, if_pos (by omega)]
      · rw [if_neg h1, if_neg (by omega)]
theorem lessV_same {L : List Pr} {k : Nat} {l : List Rv} {x : Rv} (h : l[k]? = some x) (hn : x.ls ≠ L) : lessV L k l = lessV L (k + 1) l := by
  rw [← lessV_succ h]
  have hc : cutV L x = x := by unfold cutV; rw [if_neg hn]
  rw [hc]
  apply List.ext_getElem?
  intro j
  rw [List.getElem?_set]
  by_cases e : k = j
  · subst e
    rw [if_pos rfl, if_pos (by rw [lessV_len]; exact (List.getElem?_eq_some_iff.1 h).1), lessV_get, h]
    simp
  · rw [if_neg e]
theorem lessV_all (L : List Pr) (l : List Rv) : (lessV L l.length l).map plR = lessP L (l.map plR) := by
  apply List.ext_getElem?
  intro j
  unfold lessP
  rw [List.getElem?_map, lessV_get, List.getElem?_map, List.getElem?_map]
  rcases hl : l[j]? with _ | x
  · rfl
  · simp only [Option.map_some, Option.some.injEq]
    rw [if_pos (List.getElem?_eq_some_iff.1 hl).1, cutV_pl]
theorem rcs_set1 : ∀ (O : List Rv) (k : Nat) (x y : Rv), O[k]? = some x → y.la = x.la → y.ls.length = x.ls.length → y.lc = x.lc → rcs (O.set k y) = (rcs O).set (k * 2 + 1) (.slice y.sa y.ss.length y.sc)
  | [], k, x, y, h, _, _, _ => by cases h
  | z :: O, 0, x, y, h, h1, h2, h3 => by
    injection h with h
    subst h
    show encR y ++ rcs O = _
    unfold encR
    rw [h1, h2, h3]
    rfl
  | z :: O, k + 1, x, y, h, h1, h2, h3 => by
    have ih := rcs_set1 O k x y (by simpa using h) h1 h2 h3
    rw [List.set_cons_succ]
    show encR z ++ rcs (O.set k _) = (encR z ++ rcs O).set ((k + 1) * 2 + 1) _
    rw [ih, List.set_append, if_neg (by rw [encR_two]; omega)]
    congr 2
    rw [encR_two]; omega
theorem sms_drop {w : World} {A : Option Addr} {c : Nat} {l : List Sm} (h : SmsAt w (.slice A l.length c) l) (hl : 1 ≤ l.length) : SmsAt w (.slice (dropA A c 1 2) (l.drop 1).length (c - 1)) (l.drop 1) := by
  have h1 := SlAt.part h 1 l.length hl (Nat.le_refl _)
  have h2 : ((smc l).drop (1 * 2)).take ((l.length - 1) * 2) = smc (l.drop 1) := by
    rw [smc_drop, List.take_of_length_le (by rw [smc_len, List.length_drop]; exact Nat.le_refl _)]
  rw [h2] at h1
  show SlAt w 2 _ _ _
  rw [List.length_drop]
  exact h1
/-- a point as a table, laid by literals -/
theorem one_row (w : World) (L : List Pr) (s : Sm) (la : Option Addr) (lc : Nat) (h : PsAt w (.slice la L.length lc) L) :
    TbAt ((w.alloc (.cells #[.int .i64 s.1, .int .u64 (s.2 : Nat)] 42)).alloc (.cells #[.slice la L.length lc, .slice (some ⟨w.heap.size, 0, none⟩) 1 1] 50)) (.slice (some ⟨w.heap.size + 1, 0, none⟩) 1 1) [⟨L, [s], la, lc, some ⟨w.heap.size, 0, none⟩, 1⟩] := by
  obtain ⟨w1, hw1⟩ : ∃ w1, w1 = w.alloc (.cells #[.int .i64 s.1, .int .u64 (s.2 : Nat)] 42) := ⟨_, rfl⟩
  have e2 : w.heap.size + 1 = w1.heap.size := by rw [hw1, al_size]
  have b1 : Below w.heap.size w w1 := by rw [hw1]; exact below_alloc1 _ _
  have hsm : SmsAt w1 (.slice (some ⟨w.heap.size, 0, none⟩) 1 1) [s] := by
    rw [hw1]
    exact SlAt.of_buf (Buf.lit w 42 2 1 (smc [s]) rfl (by decide))
  rw [← hw1, e2]
  refine ⟨?_, fun x hx => ?_⟩
  · exact SlAt.of_buf (Buf.lit w1 50 2 1 (rcs [⟨L, [s], la, lc, some ⟨w.heap.size, 0, none⟩, 1⟩]) rfl (by decide))
  · obtain rfl := List.mem_singleton.1 hx
    exact ⟨PsAt.below h (below_trans b1 (below_alloc1 _ _)), hsm.below (below_alloc1 _ _)⟩
theorem less_szp {N : List Row} {n : Nat} (L : List Pr) (h : SzP N n) : SzP (lessP L N) n := by
  refine ⟨by unfold lessP; rw [List.length_map]; exact h.1, fun r hr => ?_⟩
  obtain ⟨x, hx, rfl⟩ := List.mem_map.1 hr
  have hx2 := h.2 x hx
  rw [cutF_fst]
  refine ⟨hx2.1, ?_⟩
  unfold cutF
  split
  · have : (x.2.drop 1).length ≤ n := by rw [List.length_drop]; omega
    exact this
  · exact hx2.2
theorem settle_less {R N : List Row} {P ps : List Pt} {L : List Pr} {s : Sm} {ss : List Sm} {R' : List Row} (hR : Tb R) (hc : R = (L, s :: ss) :: R') (hN : N = addAll R ps) (hp : ∀ p ∈ ps, 1000 < p.2.1) (hS : ∀ L t, 1000 ≤ t → val R L t = none) : settleP R (lessP L N) P = 5 := by
  have hT : Tb N := by rw [hN]; exact (add_spec ps hR).1
  have hs : s.1 < 1000 := by
    rcases Int.lt_or_le s.1 1000 with h | h
    · exact h
    · have h0 := hS L s.1 h
      rw [hc] at h0
      unfold val at h0
      rw [show rk ((L, s :: ss) :: R') L = some (s :: ss) from by rw [← hc]; exact rk_mem hR.rls (by rw [hc]; exact List.mem_cons_self ..)] at h0
      have h1 := lk_first s ss
      rw [show (some (s :: ss)).bind (fun l => lk l s.1) = lk (s :: ss) s.1 from rfl, h1] at h0
      cases h0
  unfold settleP
  rw [if_neg (by rw [goodB_true (less_good hT L)]; exact Bool.noConfusion), if_pos (less_within hR hc hN fun p hp2 => by have := hp p hp2; omega)]
theorem settle_now {R : List Row} {ps qs : List Pt} (hR : Tb R) (hS : ∀ L t, 1000 ≤ t → val R L t = none) (hr : (ps ++ qs).Pairwise (fun a b => a.2.1 < b.2.1)) (hp : ∀ p ∈ ps ++ qs, 1000 < p.2.1) : settleP R (addAll R ps) (ps ++ qs) = 0 := by
  have h1 := (add_spec ps hR).1
  rw [settle_good h1, if_neg (by rw [within_add0 ps hR]; exact Bool.noConfusion), if_neg (by rw [within_add ps qs hR]; exact Bool.noConfusion), if_neg (by rw [settle_first hR hr fun p hp2 L => hS L _ (by have := hp p hp2; omega)]; exact Bool.noConfusion)]
theorem sm_info : ∃ i, Tryz.prog.info? 42 = some i ∧ i.size = 2 := by
  have h : (Tryz.prog.info? 42).map (fun i => i.size) = some 2 := by kernel_rfl
  rcases hi : Tryz.prog.info? 42 with _ | i
  · rw [hi] at h; cases h
  · rw [hi] at h
    exact ⟨i, rfl, by injection h⟩
theorem less_tb {W w wr : World} {v bv : Value} {N : List Rv} {L : List Pr} (h : OwnT W w v N) (hb : NBuf w wr 50 2 bv N.length (rcs (lessV L N.length N))) (hne : ∀ x ∈ N, 1 ≤ x.ss.length) : TbAt wr bv (lessV L N.length N) := by
  refine ⟨by rw [lessV_len]; exact hb.slice, fun x hx => ?_⟩
  obtain ⟨j, hj⟩ := List.mem_iff_getElem?.1 hx
  rw [lessV_get] at hj
  rcases hl : N[j]? with _ | y
  · rw [hl] at hj; cases hj
  · rw [hl] at hj
    simp only [Option.map_some, Option.some.injEq] at hj
    have hy := (h.tb.below hb.below).2 y (List.mem_of_getElem? hl)
    rw [← hj, if_pos (List.getElem?_eq_some_iff.1 hl).1]
    unfold cutV
    split
    · exact ⟨hy.1, sms_drop hy.2 (hne y (List.mem_of_getElem? hl))⟩
    · exact hy
end Go.Proofs.YtjklcojnbcemoaaGreatDoor
