/-
  Layer 15 (head): the walks of Config.Check and New.
-/
import Derived.Test.YtnoebccoaeiakaaGreatDoorZHdB
import Derived.Test.YtnoebccoaeiakaaGreatDoorZLib10
import Derived.Test.YtnoebccoaeiakaaGreatDoorZHdA
import Derived.Deep.RegionWith
import Derived.Lib.BufferMore
import Derived.Lib.LazyBuf
import Derived.Test.YtnoebccoaeiakaaGreatDoorZLib12
import Derived.Deep.CutRange
import Derived.Deep.QuietTactic

namespace Go.Proofs.YtnoebccoaeiakaaGreatDoor
open Go.RowKit Go.Bar Go.Bar.Leb Go.Bar.Lab Go.Bar.Xor Go.Bar.Mrg Go.Bar.Hd
attribute [local go_sem] Oper.semAt_some
def CfgOk (c : Cfg) : Prop := 1 ≤ c.s ∧ c.s ≤ 10000 ∧ 1 ≤ c.m ∧ c.m ≤ 1048576 ∧ 1 ≤ c.w ∧ c.w ≤ 1073741824
def cfgV (c : Cfg) : Value := .agg #[.int .i64 c.s, .int .i64 c.m, .int .i64 c.w]

set_option maxRecDepth 10000 in
theorem cfgCheck_any (c : Cfg) (w : World) (h : CfgOk c) : Calls Tryz.prog 31 #[cfgV c] w (RetBelow w (.int .i64 0)) := by
  obtain ⟨a1, a2, a3, a4, a5, a6⟩ := h
  unfold cfgV
  have b1 : decide (c.s < 1) = false := decide_eq_false (by omega)
  have b2 : decide (10000 < c.s) = false := decide_eq_false (by omega)
  have b3 : decide (c.m < 1) = false := decide_eq_false (by omega)
  have b4 : decide (1048576 < c.m) = false := decide_eq_false (by omega)
  have b5 : decide (c.w < 1) = false := decide_eq_false (by omega)
  have b6 : decide (1073741824 < c.w) = false := decide_eq_false (by omega)
  go_enter Tryz.func31, Tryz.ntmps31
  go_wp2_with fail
  go_ret
  exact ⟨rfl, below_alloc1 _ _⟩

structure NewX (c : Cfg) (w1 : World) (vs : Nat → Value) (D : Nat → Bool) (w : World) : Prop where
  bel : Below w1.heap.size w1 w
  r : D 1 = true → ∃ R, vs 1 = .map (some R) ∧ w1.heap.size ≤ R ∧ MfAt Tryz.prog 9 kyS elZ 0 w R 0 (fun _ => none)
  o : D 2 = true → ∃ O, vs 2 = .map (some O) ∧ w1.heap.size ≤ O ∧ MfAt Tryz.prog 3 kyZ elP none w O 0 (fun _ => none)
  i : D 3 = true → ∃ I M, vs 3 = .pointer (some ⟨I, 0, none⟩) ∧ w1.heap.size ≤ I ∧ w1.heap.size ≤ M ∧ Blk w I 151 #[.map (some M), .slice none 0 0] ∧ MfAt Tryz.prog 9 kyS elM none w M 0 (fun _ => none) ∧ (D 1 = true → vs 1 ≠ .map (some M)) ∧ (D 2 = true → vs 2 ≠ .map (some M))
  ro : D 1 = true → D 2 = true → vs 1 ≠ vs 2
  cl : D 5 = true → D 1 = true ∧ D 2 = true ∧ D 3 = true
  b : D 5 = true → ∃ p, vs 5 = .pointer (some ⟨p, 0, none⟩) ∧ w1.heap.size ≤ p ∧ Blk w p 91 #[.int .i64 c.s, .int .i64 c.m, .int .i64 c.w, vs 1, vs 2, vs 3, .int .i64 1, .int .i64 0, .int .i64 0, .int .i64 (-1)]
section
variable {c : Cfg} {w1 w w' : World} {vs vs' : Nat → Value} {D : Nat → Bool}
theorem NewX.below (h : NewX c w1 vs D w) (hb : Below w.heap.size w w') : NewX c w1 vs D w' :=
  ⟨below_trans h.bel hb, fun hd => (h.r hd).elim fun R ⟨a, b, m⟩ => ⟨R, a, b, m.below hb⟩, fun hd => (h.o hd).elim fun R ⟨a, b, m⟩ => ⟨R, a, b, m.below hb⟩, fun hd => (h.i hd).elim fun I ⟨M, a, b, d, k, m, r⟩ => ⟨I, M, a, b, d, k.below hb, m.below hb, r⟩, h.ro, h.cl, fun hd => (h.b hd).elim fun p ⟨a, b, k⟩ => ⟨p, a, b, k.below hb⟩⟩
theorem NewX.low (h : NewX c w1 vs D w) {i : Nat} (h1 : i ≠ 1) (h2 : i ≠ 2) (h3 : i ≠ 3) (h5 : i ≠ 5) (v : Value) : NewX c w1 (Dv.updV vs i v) (Dn.upd D i) w := by
  have e1 := Dn.upd_ne D h1.symm
  have e2 := Dn.upd_ne D h2.symm
  have e3 := Dn.upd_ne D h3.symm
  have e5 := Dn.upd_ne D h5.symm
  have f1 := Dv.updV_ne vs v h1.symm
  have f2 := Dv.updV_ne vs v h2.symm
  have f3 := Dv.updV_ne vs v h3.symm
  have f5 := Dv.updV_ne vs v h5.symm
  exact ⟨h.bel, by rw [e1, f1]; exact h.r, by rw [e2, f2]; exact h.o, by rw [e3, f3, e1, e2, f1, f2]; exact h.i, by rw [e1, e2, f1, f2]; exact h.ro, by rw [e5, e1, e2, e3]; exact h.cl, by rw [e5, f5, f1, f2, f3]; exact h.b⟩
theorem NewX.congr (he : ∀ k, D k = true → vs k = vs' k) (h : NewX c w1 vs D w) : NewX c w1 vs' D w :=
  ⟨h.bel, fun hd => by rw [← he 1 hd]; exact h.r hd, fun hd => by rw [← he 2 hd]; exact h.o hd, fun hd => by
    obtain ⟨I, M, a, b, d, k, m, r1, r2⟩ := h.i hd
    exact ⟨I, M, by rw [← he 3 hd]; exact a, b, d, k, m, fun h1 => by rw [← he 1 h1]; exact r1 h1, fun h1 => by rw [← he 2 h1]; exact r2 h1⟩, fun h1 h2 => by rw [← he 1 h1, ← he 2 h2]; exact h.ro h1 h2, h.cl, fun hd => by
    obtain ⟨p, a, b, k⟩ := h.b hd
    obtain ⟨d1, d2, d3⟩ := h.cl hd
    exact ⟨p, by rw [← he 5 hd]; exact a, b, by rw [← he 1 d1, ← he 2 d2, ← he 3 d3]; exact k⟩⟩
theorem NewX.k1 (h : NewX c w1 vs D w) (hD : D 1 = false) : NewX c w1 (Dv.updV vs 1 (.map (some w.heap.size))) (Dn.upd D 1) (w.alloc (.map #[] 0)) := by
  have hb : Below w.heap.size w (w.alloc (.map #[] 0)) := (Below.refl _ _).alloc (Nat.le_refl _) _
  have k := h.below hb
  have e2 := Dn.upd_ne D (show 2 ≠ 1 by decide)
  have e3 := Dn.upd_ne D (show 3 ≠ 1 by decide)
  have e5 := Dn.upd_ne D (show 5 ≠ 1 by decide)
  have f2 := Dv.updV_ne vs (.map (some w.heap.size)) (show 2 ≠ 1 by decide)
  have f3 := Dv.updV_ne vs (.map (some w.heap.size)) (show 3 ≠ 1 by decide)
  have f5 := Dv.updV_ne vs (.map (some w.heap.size)) (show 5 ≠ 1 by decide)
  have h5 : D 5 = false := by
    rcases h5 : D 5 with _ | _
    · rfl
    · have := (h.cl h5).1; rw [hD] at this; cases this
  refine ⟨k.bel, fun _ => ⟨_, Dv.updV_self .., h.bel.size, MfAt.made w _ _ _ _ _⟩, by rw [e2, f2]; exact k.o, by
    rw [e3, f3, e2, f2, Dv.updV_self]
    intro hd
    obtain ⟨I, M, a, b, d, bk, m, r1, r2⟩ := k.i hd
    refine ⟨I, M, a, b, d, bk, m, fun _ e => ?_, r2⟩
    obtain ⟨I', M', a', _, _, bk', m', _⟩ := h.i hd
    rw [a] at a'
    injection a' with a'
    injection a' with a'
    injection a' with a' _ _
    subst a'
    have e1 := bk'.below hb
    unfold Blk at bk e1
    rw [bk] at e1
    injection e1 with e1
    injection e1 with e1 _ _
    have e1 := congrArg (fun a : Array Value => a[0]?) e1
    simp at e1
    have := m'.lt
    injection e with e
    injection e with e
    omega, by
    rw [e2, f2, Dv.updV_self]
    intro _ hd e
    obtain ⟨O, a, b, m⟩ := h.o hd
    rw [a] at e
    have := m.lt
    injection e with e
    injection e with e
    omega, (by rw [e5, h5]; intro hd; cases hd), (by rw [e5, h5]; intro hd; cases hd)⟩
theorem NewX.k2 (h : NewX c w1 vs D w) (hD : D 2 = false) : NewX c w1 (Dv.updV vs 2 (.map (some w.heap.size))) (Dn.upd D 2) (w.alloc (.map #[] 0)) := by
  have hb : Below w.heap.size w (w.alloc (.map #[] 0)) := (Below.refl _ _).alloc (Nat.le_refl _) _
  have k := h.below hb
  have e1 := Dn.upd_ne D (show 1 ≠ 2 by decide)
  have e3 := Dn.upd_ne D (show 3 ≠ 2 by decide)
  have e5 := Dn.upd_ne D (show 5 ≠ 2 by decide)
  have f1 := Dv.updV_ne vs (.map (some w.heap.size)) (show 1 ≠ 2 by decide)
  have f3 := Dv.updV_ne vs (.map (some w.heap.size)) (show 3 ≠ 2 by decide)
  have f5 := Dv.updV_ne vs (.map (some w.heap.size)) (show 5 ≠ 2 by decide)
  have h5 : D 5 = false := by
    rcases h5 : D 5 with _ | _
    · rfl
    · have := (h.cl h5).2.1; rw [hD] at this; cases this
  refine ⟨k.bel, by rw [e1, f1]; exact k.r, fun _ => ⟨_, Dv.updV_self .., h.bel.size, MfAt.made w _ _ _ _ _⟩, by
    rw [e3, f3, e1, f1, Dv.updV_self]
    intro hd
    obtain ⟨I, M, a, b, d, bk, m, r1, r2⟩ := k.i hd
    refine ⟨I, M, a, b, d, bk, m, r1, fun _ e => ?_⟩
    obtain ⟨I', M', a', _, _, bk', m', _⟩ := h.i hd
    rw [a] at a'
    injection a' with a'
    injection a' with a'
    injection a' with a' _ _
    subst a'
    have e1 := bk'.below hb
    unfold Blk at bk e1
    rw [bk] at e1
    injection e1 with e1
    injection e1 with e1 _ _
    have e1 := congrArg (fun a : Array Value => a[0]?) e1
    simp at e1
    have := m'.lt
    injection e with e
    injection e with e
    omega, by
    rw [e1, f1, Dv.updV_self]
    intro hd _ e
    obtain ⟨O, a, b, m⟩ := h.r hd
    rw [a] at e
    have := m.lt
    injection e with e
    injection e with e
    omega, (by rw [e5, h5]; intro hd; cases hd), (by rw [e5, h5]; intro hd; cases hd)⟩
theorem NewX.k3 (h : NewX c w1 vs D w) (hD : D 3 = false) {I M : Nat} (hb : Below w.heap.size w w') (hI : w.heap.size ≤ I) (hM : w.heap.size ≤ M) (bk : Blk w' I 151 #[.map (some M), .slice none 0 0]) (m : MfAt Tryz.prog 9 kyS elM none w' M 0 (fun _ => none)) : NewX c w1 (Dv.updV vs 3 (.pointer (some ⟨I, 0, none⟩))) (Dn.upd D 3) w' := by
  have k := h.below hb
  have e1 := Dn.upd_ne D (show 1 ≠ 3 by decide)
  have e2 := Dn.upd_ne D (show 2 ≠ 3 by decide)
  have e5 := Dn.upd_ne D (show 5 ≠ 3 by decide)
  have f1 := Dv.updV_ne vs (.pointer (some ⟨I, 0, none⟩)) (show 1 ≠ 3 by decide)
  have f2 := Dv.updV_ne vs (.pointer (some ⟨I, 0, none⟩)) (show 2 ≠ 3 by decide)
  have h5 : D 5 = false := by
    rcases h5 : D 5 with _ | _
    · rfl
    · have := (h.cl h5).2.2; rw [hD] at this; cases this
  have hs := h.bel.size
  refine ⟨k.bel, by rw [e1, f1]; exact k.r, by rw [e2, f2]; exact k.o, fun _ => ⟨I, M, Dv.updV_self .., Nat.le_trans hs hI, Nat.le_trans hs hM, bk, m, by
    rw [e1, f1]
    intro hd e
    obtain ⟨O, a, b, m⟩ := h.r hd
    rw [a] at e
    have := m.lt
    injection e with e
    injection e with e
    omega, by
    rw [e2, f2]
    intro hd e
    obtain ⟨O, a, b, m⟩ := h.o hd
    rw [a] at e
    have := m.lt
    injection e with e
    injection e with e
    omega⟩, by rw [e1, f1, e2, f2]; exact k.ro, (by rw [e5, h5]; intro hd; cases hd), (by rw [e5, h5]; intro hd; cases hd)⟩
theorem NewX.k5 (h : NewX c w1 vs D w) (h1 : D 1 = true) (h2 : D 2 = true) (h3 : D 3 = true) {R O I : Value} (v1 : vs 1 = R) (v2 : vs 2 = O) (v3 : vs 3 = I) : NewX c w1 (Dv.updV vs 5 (.pointer (some ⟨w.heap.size, 0, none⟩))) (Dn.upd D 5) (w.alloc (.cells #[.int .i64 c.s, .int .i64 c.m, .int .i64 c.w, R, O, I, .int .i64 1, .int .i64 0, .int .i64 0, .int .i64 (-1)] 91)) := by
  have hb : Below w.heap.size w (w.alloc (.cells #[.int .i64 c.s, .int .i64 c.m, .int .i64 c.w, R, O, I, .int .i64 1, .int .i64 0, .int .i64 0, .int .i64 (-1)] 91)) := (Below.refl _ _).alloc (Nat.le_refl _) _
  have k := h.below hb
  have e1 := Dn.upd_ne D (show 1 ≠ 5 by decide)
  have e2 := Dn.upd_ne D (show 2 ≠ 5 by decide)
  have e3 := Dn.upd_ne D (show 3 ≠ 5 by decide)
  have f1 := Dv.updV_ne vs (.pointer (some ⟨w.heap.size, 0, none⟩)) (show 1 ≠ 5 by decide)
  have f2 := Dv.updV_ne vs (.pointer (some ⟨w.heap.size, 0, none⟩)) (show 2 ≠ 5 by decide)
  have f3 := Dv.updV_ne vs (.pointer (some ⟨w.heap.size, 0, none⟩)) (show 3 ≠ 5 by decide)
  refine ⟨k.bel, by rw [e1, f1]; exact k.r, by rw [e2, f2]; exact k.o, by rw [e3, f3, e1, f1, e2, f2]; exact k.i, by rw [e1, f1, e2, f2]; exact k.ro, by rw [e1, e2, e3]; exact fun _ => ⟨h1, h2, h3⟩, fun _ => ⟨_, Dv.updV_self .., h.bel.size, ?_⟩⟩
  rw [f1, f2, f3, v1, v2, v3]
  exact Blk.new w _ _
end

set_option maxHeartbeats 2000000 in
set_option maxRecDepth 10000 in
theorem hnew_any (c : Cfg) (w : World) (h : CfgOk c) : Calls Tryz.prog 7 #[cfgV c] w fun e w' => ∃ p g, e = .returned (.tuple #[.pointer (some ⟨p, 0, none⟩), .int .i64 0]) ∧ Below w.heap.size w w' ∧ HdAt Tryz.prog hty 3 w' p w.heap.size c [] g ∧ g.nx = 1 ∧ g.n = 0 ∧ g.Z = fun _ => False := by
  have hck := Lib.hid (fun w => cfgCheck_any c w h)
  unfold cfgV at hck ⊢
  clear h
  go_enter Tryz.func7, Tryz.ntmps7
  go_upto_region 4 with (go_at_call 31; refine (hck.out _).mono ?_; rintro e w1 ⟨rfl, hb1⟩)
  have BC := (Blk.new w #[.int .i64 c.s, .int .i64 c.m, .int .i64 c.w] 26).below hb1
  have hb01 := below_trans (below_alloc1 w (.cells #[.int .i64 c.s, .int .i64 c.m, .int .i64 c.w] 26)) hb1
  have HB := Lib.hid hb01
  have hmm := @run_makeMap Tryz.prog
  clear hck hb1 hb01
  have hst : NewX c w1 (fun _ => undef) (fun _ => false) w1.drew := ⟨(Below.refl _ _).drew, fun h => (by cases h), fun h => (by cases h), fun h => (by cases h), fun h => (by cases h), fun h => (by cases h), fun h => (by cases h)⟩
  refine Dv.wp_region_chain (fun kQ => List.lookup kQ [(0, fun v => v = .agg #[.int .i64 c.s, .int .i64 c.m, .int .i64 c.w]), (1, fun v => ∃ R, v = .map (some R)), (2, fun v => ∃ R, v = .map (some R)), (3, fun v => ∃ I, v = .pointer (some ⟨I, 0, none⟩)), (5, fun v => ∃ p, v = .pointer (some ⟨p, 0, none⟩))]) (NewX c w1) (by kernel_rfl) 16 (by kernel_rfl) rfl ?_ (fun vs vs' D w he hX => hX.congr he) ?_ (hst) ?_
  · apply Dk.lookup_all (p := fun _ (g : Value → Prop) => ∃ v, g v)
    simp only [List.forall_mem_cons, List.not_mem_nil, false_imp_iff, implies_true, and_true]
    exact ⟨⟨_, rfl⟩, ⟨_, 0, rfl⟩, ⟨_, 0, rfl⟩, ⟨_, 0, rfl⟩, ⟨_, 0, rfl⟩⟩
  · (intro i vs D w v hi hX; refine hX.low (fun h => ?_) (fun h => ?_) (fun h => ?_) (fun h => ?_) v; all_goals (rw [h] at hi; exact (Option.some_ne_none _ hi).elim))
  repeat (first
    | (refine Dv.Chain.step (v := ?_) (a' := ?_) rfl rfl rfl ?_ ?_ ?_; rotate_left 2; (focus (intro w; go_simp; try with_reducible rfl)); focus (simp only [Act.put, pqA, pqS, pqZ]; try rfl))
    | (refine Dv.Chain.make (i := 0) _ rfl rfl rfl (fun vs D wx hx hD hp hv => ?_) (fun v0 hv0 a' ha => ?_); (focus (obtain ⟨g0, g1, g2⟩ := (BC.below hx.bel).c3); (go_simp); (first | exact ⟨rfl, hx.low (by decide) (by decide) (by decide) (by decide) _⟩ | exact hx.low (by decide) (by decide) (by decide) (by decide) _)); obtain rfl := hv0; simp only [Act.put, pqA, pqS, pqZ] at ha; subst ha)
    | (refine Dv.Chain.make (i := 1) _ rfl rfl rfl (fun vs D wx hx hD hp hv => ?_) (fun v1 hv1 a' ha => ?_); (focus (go_simp); (exact hx.k1 hD)); obtain ⟨R1, rfl⟩ := hv1; simp only [Act.put, pqA, pqS, pqZ] at ha; subst ha)
    | (refine Dv.Chain.make (i := 2) _ rfl rfl rfl (fun vs D wx hx hD hp hv => ?_) (fun v2 hv2 a' ha => ?_); (focus (go_simp); (exact hx.k2 hD)); obtain ⟨O1, rfl⟩ := hv2; simp only [Act.put, pqA, pqS, pqZ] at ha; subst ha)
    | (refine Dv.Chain.make (i := 3) _ rfl rfl rfl (fun vs D wx hx hD hp hv => ?_) (fun v3 hv3 a' ha => ?_); (focus (go_simp); (with_reducible refine (pnew_any _).mono ?_); (rintro e w' ⟨I, M, rfl, hb, hI, hM, bk, m⟩); (have := hx.k3 hD hb hI hM bk m); (first | exact ⟨⟨_, rfl⟩, this⟩ | exact this)); obtain ⟨I1, rfl⟩ := hv3; simp only [Act.put, pqA, pqS, pqZ] at ha; subst ha)
    | (refine Dv.Chain.make (i := 5) _ rfl rfl rfl (fun vs D wx hx hD hp hv => ?_) (fun v5 hv5 a' ha => ?_); (focus (have hk := hx.k5 (hp 1 (by kernel_rfl)) (hp 2 (by kernel_rfl)) (hp 3 (by kernel_rfl)) (hv 1 _ (by kernel_rfl) rfl) (hv 2 _ (by kernel_rfl) rfl) (hv 3 _ (by kernel_rfl) rfl)); (go_simp <;> first | exact hk | exact ⟨⟨_, rfl⟩, hk⟩)); obtain ⟨p1, rfl⟩ := hv5; simp only [Act.put, pqA, pqS, pqZ] at ha; subst ha))
  refine Dv.Chain.end_ (fun vs D w2 hD hX hv => ?_)
  have v5 := hv 5 _ rfl
  have d := fun k (hk : k < 8) => hD k hk
  obtain ⟨R, r1, r2, r3⟩ := hX.r (d 1 (by decide))
  obtain ⟨O, o1, o2, o3⟩ := hX.o (d 2 (by decide))
  obtain ⟨I, M, i1, i2, i3, i4, i5, i6, i7⟩ := hX.i (d 3 (by decide))
  obtain ⟨p, p1, p2, p3⟩ := hX.b (d 5 (by decide))
  have hro := hX.ro (d 1 (by decide)) (d 2 (by decide))
  replace i6 := i6 (d 1 (by decide))
  replace i7 := i7 (d 2 (by decide))
  rw [r1] at hro i6 p3
  rw [o1] at hro i7 p3
  rw [i1] at p3
  rw [p1] at v5
  injection v5 with v5
  injection v5 with v5
  injection v5 with v5 _ _
  have hs := HB.out.size
  have hfin : HdAt Tryz.prog hty 3 w2 p w.heap.size c [] ⟨R, O, I, fun _ => 0, fun _ => .slice none 0 0, fun _ => .slice none 0 0, 0, -1, 1, ⟨M, .slice none 0 0, fun _ => none, fun _ _ => none, 0⟩, fun _ => False⟩ :=
    HdAt.new p3 (by omega) r3 o3 (by omega) ⟨by omega, fun e => hro (by rw [e])⟩ i4 i5 (by omega) ⟨by omega, fun e => i6 (by rw [e]), fun e => i7 (by rw [e])⟩
  have HFIN := Lib.hid hfin
  have HBX := Lib.hid (below_trans HB.out hX.bel)
  subst v5
  clear hfin hX hv p3 i4 i5 i6 i7 r3 o3 hro hD d BC hst
  go_wp2_with fail
  go_ret2
  exact ⟨_, rfl, HBX.out, _, HFIN.out, rfl, rfl, rfl⟩
end Go.Proofs.YtnoebccoaeiakaaGreatDoor

namespace Go.Proofs.YtnoebccoaeiakaaGreatDoor
open Go.RowKit Go.Bar Go.Bar.Leb Go.Bar.Lab

set_option maxHeartbeats 4000000 in
set_option maxRecDepth 10000 in
theorem key_any (v : Value) (l : List Pr) (w : World) (h : PsAt w v l) (hl : l.length ≤ 1000) (hp : ∀ p ∈ l, p.1.length ≤ 1000000 ∧ p.2.length ≤ 1000000) :
    Calls Tryz.prog 36 #[v] w (RetBelow w (.string (bs (key l)))) := by
  obtain ⟨A, c, rfl, hlc, hcm⟩ := h.shape
  unfold maxLen at hcm
  have hu := u_len l.length (by omega)
  have hconv : IntKind.u64.wrap (l.length : Int) = (l.length : Int) := by rw [IntKind.wrap_u64]; omega
  have HCV := Lib.hid hconv
  clear hconv
  go_enter Tryz.func36, Tryz.ntmps36
  go_wp2_with fail
  refine (uint_any (.slice none 0 0) [] l.length _ (by omega) (by simp) (BBuf.nil _ _)).mono ?_
  rintro e w1 ⟨v1, rfl, h1⟩
  go_wp2_with fail
  go_loopw [12, 3] (fun i b wr => ∃ (k : Nat) (ys : List UInt8), k ≤ l.length ∧ i = .int .i64 k ∧ BApp w (.slice none 0 0) 5 [] wr b ys ∧ ys.length ≤ 10 + k * 2000020 ∧ Hid (ys = u l.length ++ (l.take k).flatMap fun p => tx p.1 ++ tx p.2)) (fun i _ _ => l.length - (intOf i).toNat)
  case atStart => exact ⟨0, _, Nat.zero_le _, rfl, h1, by omega, Lib.hid (by simp)⟩
  case round =>
    clear h1
    obtain ⟨k, ys, hk, rfl, hch, hyl, hy⟩ := hrel
    have hB := hch.nil_below
    by_cases hgo : k < l.length
    · obtain ⟨p, hpk⟩ : ∃ p, l[k]? = some p := ⟨_, List.getElem?_eq_getElem hgo⟩
      obtain ⟨b, o, rfl, hbb, g1, g2⟩ := (h.below hB).at_ hpk
      obtain ⟨hp1, hp2⟩ := hp p (List.mem_of_getElem? hpk)
      have HP := Lib.hid hpk
      clear hpk
      have t1 := text_any
      go_wp2_with fail
      clear g1 g2
      have hck := (Blk.new wr #[.string (bs p.1), .string (bs p.2)] 155).drew
      have hch := (hch.alloc (.cells #[.string (bs p.1), .string (bs p.2)] 155)).drew
      have u1 := u_len p.1.length (by omega)
      have u2 := u_len p.2.length (by omega)
      go_region_with (first
        | (go_at_call 63; ((with_reducible refine (text_any _ _ (bs p.1) _ (by rw [bs_size]; unfold maxLen; omega) (by rw [bs_size]; simp; omega) hch.buf).mono ?_); rintro e w2 ⟨v2, rfl, h2⟩; have hck2 := hck.ap hch.buf h2.ap (by decide); have hch2 := hch.trans h2; have c1 : w2.cell? ⟨wr.heap.size, 1, none⟩ = some (.string (bs p.2)) := hck2.cell (i := 1) rfl; clear h2))
        | (go_at_call 63; ((with_reducible refine (text_any _ _ (bs p.2) _ (by rw [bs_size]; unfold maxLen; omega) (by simp only [bs_size, bs_data, List.nil_append, List.length_append]; omega) hch2.buf).mono ?_); rintro e w3 ⟨v3, rfl, h3⟩; have hch3 := hch2.trans h3; clear h3)))
      all_goals
        go_wp2_with fail
        go_roundw
        case rel =>
          refine ⟨k + 1, _, by omega, by go_num, hch3, by simp only [bs_size, bs_data, List.length_append]; omega, Lib.hid ?_⟩
          rw [hy.out, List.take_add_one, HP.out]
          simp [tx, bs_size, bs_data]
        case measure => simp [intOf]; omega
    · obtain rfl : k = l.length := by omega
      have hz : ys = key l := by rw [hy.out, List.take_length]; rfl
      have hc := hch.buf.string bytes_ty 9 Tryz.underlying9
      rw [List.nil_append, hz] at hc
      clear hz hy
      go_wp2_with fail
      go_ret
      exact ⟨rfl, hB⟩

end Go.Proofs.YtnoebccoaeiakaaGreatDoor

namespace Go.Proofs.YtnoebccoaeiakaaGreatDoor
open Go.RowKit Go.Bar Go.Bar.Leb Go.Bar.Lab

theorem cset_ty : ElemTy Tryz.prog 93 155 (.agg #[.string ByteArray.empty, .string ByteArray.empty]) 2 32 :=
  ⟨Tryz.underlying93, info_parts (show (Tryz.prog.info? 155).map (fun i => (i.zero, i.size, i.bytes)) = some (some (.agg #[.string ByteArray.empty, .string ByteArray.empty]), 2, 32) by kernel_rfl), rfl⟩
def RetCs (w : World) (l : List Pr) (e : Ending) (w' : World) : Prop := ∃ v, e = .returned v ∧ NBuf w w' 155 2 v l.length (pcs l)

set_option maxHeartbeats 1000000 in
set_option maxRecDepth 10000 in
theorem cloneSet_any (v : Value) (l : List Pr) (w : World) (h : PsAt w v l) (hl : l.length ≤ 1000000) :
    Calls Tryz.prog 66 #[v] w (RetCs w l) := by
  obtain ⟨A, c, rfl, hlc, hcm⟩ := h.shape
  have hnil := fun w => run_eql_slice_nil (P := Tryz.prog) w 93 155 A l.length c Tryz.underlying93
  rcases A with _ | A
  · have h0 : l.length = 0 := by
      rcases Nat.eq_zero_or_pos l.length with h0 | h0
      · exact h0
      · obtain ⟨p, hp⟩ : ∃ p, l[0]? = some p := ⟨_, List.getElem?_eq_getElem h0⟩
        obtain ⟨b, o, hA, _⟩ := h.at_ hp
        cases hA
    obtain rfl : l = [] := List.eq_nil_of_length_eq_zero h0
    clear h0 hnil
    have hnil := fun w => run_eql_slice_nil (P := Tryz.prog) w 93 155 none 0 c Tryz.underlying93
    go_enter Tryz.func66, Tryz.ntmps66
    go_wp2_with fail
    go_ret
    exact ⟨_, rfl, NBuf.nil (Below.refl _ _) _ _⟩
  · have hs := fun o => SlAt.src (P := Tryz.prog) (h.below (below_alloc1 w o)) (by omega) (t := 93) Tryz.underlying93 (pcs_one l)
    have HS := Lib.hid hs
    have hnb := NBuf.lit0 (Below.refl w.heap.size w) 155 2
    clear hs
    go_enter Tryz.func66, Tryz.ntmps66
    go_wp2_with (at_builtin; refine wpList_append_el rfl (.tmp 5) (.tmp 6) 93 93 rfl cset_ty rfl hnb.buf rfl (HS.out _) (by simp only [maxLen]; omega) (by omega) ?_; intro v' w' hb ha hg; have hn2 := hnb.step hb ha hg; clear hb ha hg)
    go_ret
    rw [Nat.zero_add, List.nil_append] at hn2
    exact ⟨_, rfl, hn2⟩

end Go.Proofs.YtnoebccoaeiakaaGreatDoor

namespace Go.Bar.Hd
open Go.RowKit Go.Bar
theorem below_setBoth {w w' : World} (h : Below w.heap.size w w') (b i : Nat) (v : Value) : Below (w.setCell ⟨b, i, none⟩ v).heap.size (w.setCell ⟨b, i, none⟩ v) (w'.setCell ⟨b, i, none⟩ v) := by
  have hs : (w.setCell ⟨b, i, none⟩ v).heap.size = w.heap.size := by simp [World.setCell]
  have hs' : (w'.setCell ⟨b, i, none⟩ v).heap.size = w'.heap.size := by simp [World.setCell]
  refine ⟨h.os, h.tape, h.output, by rw [hs, hs']; exact h.size, fun k hk => ?_⟩
  rw [hs] at hk
  have hb := h.block k hk
  simp only [World.setCell, Array.getElem?_modify]
  rw [hb]
end Go.Bar.Hd
namespace Go.Proofs.YtnoebccoaeiakaaGreatDoor
open Go.RowKit Go.Bar Go.Bar.Leb Go.Bar.Lab Go.Bar.Xor Go.Bar.Mrg Go.Bar.Hd
attribute [local go_sem] Oper.semAt_some
set_option maxHeartbeats 1000000 in
set_option maxRecDepth 10000 in
theorem sclone_any (v : Value) (l : List Sm) (w : World) (h : SmsAt w v l) (hl : l.length ≤ 1000000) :
    Calls Tryz.prog 68 #[v] w fun e w' => ∃ v', e = .returned v' ∧ NBuf w w' 98 2 v' l.length (smc l) := by
  obtain ⟨A, c, rfl, hlc, hcm⟩ := h.shape
  have hnil := fun w => run_eql_slice_nil (P := Tryz.prog) w 60 98 A l.length c Tryz.underlying60
  rcases A with _ | A
  · have h0 : l.length = 0 := by
      rcases Nat.eq_zero_or_pos l.length with h0 | h0
      · exact h0
      · obtain ⟨p, hp⟩ : ∃ p, l[0]? = some p := ⟨_, List.getElem?_eq_getElem h0⟩
        obtain ⟨b, o, hA, _⟩ := h.at_ hp
        cases hA
    obtain rfl : l = [] := List.eq_nil_of_length_eq_zero h0
    clear h0 hnil
    have hnil := fun w => run_eql_slice_nil (P := Tryz.prog) w 60 98 none 0 c Tryz.underlying60
    go_enter Tryz.func68, Tryz.ntmps68
    go_wp2_with fail
    go_ret
    exact ⟨_, rfl, NBuf.nil (Below.refl _ _) _ _⟩
  · have hs := fun o => SlAt.src (P := Tryz.prog) (h.below (below_alloc1 w o)) (by omega) (t := 60) Tryz.underlying60 (smc_one l)
    have HS := Lib.hid hs
    have hnb := NBuf.lit0 (Below.refl w.heap.size w) 98 2
    clear hs
    go_enter Tryz.func68, Tryz.ntmps68
    go_wp2_with (at_builtin; refine wpList_append_el rfl (.tmp 5) (.tmp 6) 60 60 rfl sm_ty rfl hnb.buf rfl (HS.out _) (by simp only [maxLen]; omega) (by omega) ?_; intro v' w' hb ha hg; have hn2 := hnb.step hb ha hg; clear hb ha hg)
    go_ret
    rw [Nat.zero_add, List.nil_append] at hn2
    exact ⟨_, rfl, hn2⟩

theorem ps_of {w : World} {v : Value} {L : List Pr} (h : Buf w 155 2 v L.length (pcs L)) : PsAt w v L := SlAt.of_buf h
theorem sms_of {w : World} {v : Value} {l : List Sm} (h : Buf w 98 2 v l.length (smc l)) : SmsAt w v l := SlAt.of_buf h
def HTs (t : TypeId) : Prop := t = hty.hd ∨ t = hty.sr ∨ t = hty.sm ∨ t = hty.ix ∨ t = hty.it
structure HXs (Z : Nat → Prop) (H : Nat) (w w' : World) : Prop where
  kx : Kx HTs (fun b => H ≤ b ∧ ¬ Z b) w w'
  bel : Below H w w'
section
variable {H : Nat} {w w' : World} {a b c : World} {O Z : Nat → Prop}
theorem HXs.trans (h : HXs Z H a b) (k : HXs Z H b c) : HXs Z H a c := ⟨h.kx.trans k.kx, h.bel.trans k.bel⟩
theorem HXs.of_below (h : Below w.heap.size w w') (hH : H ≤ w.heap.size) : HXs Z H w w' := ⟨Kx.of_below h, h.mono hH⟩
theorem HXs.size (h : HXs Z H w w') (hH : H ≤ w.heap.size) : H ≤ w'.heap.size := Nat.le_trans hH h.kx.kc.size
theorem HXs.of_ix (h : IxX hty H O w w') (hz : ∀ b, Z b → O b) : HXs Z H w w' := ⟨h.kx.wide (fun _ h => h.elim (fun h => .inr (.inr (.inr (.inl h)))) fun h => .inr (.inr (.inr (.inr h)))) (fun _ h => ⟨h.1, fun e => h.2 (hz _ e)⟩), h.bel⟩
theorem HXs.of_set {M : Nat} {T : TypeId} {cur : Array Value} (hb : Blk w M T cur) (hT : HTs T) (hM : H ≤ M) (i : Nat) (u : Value) : HXs Z H w (w.setCell ⟨M, i, none⟩ u) := ⟨Kx.of_set hb hT i u, (Below.refl H w).setCell hM u⟩
theorem HXs.of_map {m : Nat} (hm : ∃ es clock, w.heap[m]? = some (.map es clock)) (hg : w.grownBy w' (some m)) (hM : H ≤ m ∧ ¬ Z m) (hH : H ≤ w.heap.size) : HXs Z H w w' := ⟨Kx.of_map hm hg hM, below_grown hg hM.1 hH⟩
theorem HXs.of_app {V v : Value} {N m : Nat} {xs ys : List Value} (h : App w V 98 2 N xs w' v m ys) (hH : H ≤ w.heap.size) (hV : ∀ k, V.ownBlock = some k → H ≤ k) : HXs Z H w w' := ⟨Kx.of_ap h.start h.ap (.inr (.inr (.inl rfl))), h.ap.below hH hV⟩
end
theorem nh_pair : ¬ HTs 155 := fun h => by rcases h with h | h | h | h | h <;> exact absurd h (by decide)
theorem nh_point : ¬ HTs 100 := fun h => by rcases h with h | h | h | h | h <;> exact absurd h (by decide)
end Go.Proofs.YtnoebccoaeiakaaGreatDoor

namespace Go.Bar.Hd
open Go.RowKit Go.Bar Go.Bar.Leb Go.Bar.Lab
theorem key_le {L : List Pr} (h : Ok L) : (key L).length ≤ 1000 := by
  have h1 := u_len L.length (by have := h.2.1; omega)
  have h2 : ∀ M : List Pr, (∀ p ∈ M, p.1.length ≤ 40 ∧ p.2.length ≤ 40) → (M.flatMap fun p => tx p.1 ++ tx p.2).length ≤ M.length * 100 := by
    intro M
    induction M with
    | nil => intro _; simp
    | cons p M ih =>
      intro hm
      have a1 := ih fun q hq => hm q (List.mem_cons_of_mem _ hq)
      obtain ⟨b1, b2⟩ := hm p List.mem_cons_self
      have c1 := u_len p.1.length (by omega)
      have c2 := u_len p.2.length (by omega)
      rw [List.flatMap_cons, List.length_append, List.length_append, List.length_cons]
      unfold tx at a1 ⊢
      rw [List.length_append, List.length_append]
      omega
  have h3 := h2 L fun p hp => by have := okP_len (h.2.2.1 p hp); exact ⟨this.1, this.2.1⟩
  have h4 := h.2.1
  unfold key
  rw [List.length_append]
  omega
end Go.Bar.Hd
namespace Go.Proofs.YtnoebccoaeiakaaGreatDoor
open Go.RowKit Go.Bar Go.Bar.Leb Go.Bar.Lab Go.Bar.Xor Go.Bar.Mrg Go.Bar.Hd
attribute [local go_sem] Oper.semAt_some
def FinSer (w2 : World) (O n : Nat) (Q0 : Nat → Nat) (L : List Pr) (_ : Nat → Value) (w5 : World) : Prop := ∃ w4 Q lv, Below w2.heap.size w2 w4 ∧ Blk w4 Q 109 #[lv, .slice none 0 0, .int .i64 (-1)] ∧ Buf w4 155 2 lv L.length (pcs L) ∧ w2.heap.size ≤ Q ∧ w4.grownBy w5 (some O) ∧ MfAt Tryz.prog 3 kyZ elP none w5 O (n + 1) (updF (ofF n Q0) ((n : Int) + 1) (some Q))
def FinAdd (I H m : Nat) (O : Nat → Prop) (w5 : World) (_ : Nat → Value) (w6 : World) : Prop := ∃ G', IxAt Tryz.prog hty w6 I H O (m + 1) (fun _ => ((m + 1 : Nat) : Int)) G' ∧ IxX hty H O w5 w6 ∧ G'.N ≤ 16 * (m + 1)
def MidApp (w0 : World) (V : Value) (n : Nat) (xs news : List Value) (vs : Nat → Value) (wy : World) : Prop := ∃ wx v1, vs 8 = v1 ∧ Below w0.heap.size w0 wx ∧ App wx V 98 2 n xs wy v1 1 news
def FinApp (w0 : World) (Q : Nat) (V : Value) (n : Nat) (xs news : List Value) (_ : Nat → Value) (w' : World) : Prop := ∃ wx wy A c, Below w0.heap.size w0 wx ∧ App wx V 98 2 n xs wy (.slice A (n + 1) c) 1 news ∧ w' = wy.setCell ⟨Q, 1, none⟩ (.slice A (n + 1) c)
def RetAdd (w : World) (p H : Nat) (c : Cfg) (h : List Row) (g : Hg) (L : List Pr) (s : Sm) (e : Ending) (w' : World) : Prop :=
  ∃ r g', e = .returned (.int .i64 r) ∧ HdAt Tryz.prog hty 3 w' p H c (addM h L s) g' ∧ HXs g.Z H w w' ∧ g'.Z = g.Z ∧ g'.n = g.n + 1 ∧ g'.nx = if ixM h L = none then g.nx + 1 else g.nx

set_option maxHeartbeats 4000000 in
set_option maxRecDepth 10000 in
theorem hadd_any (p H : Nat) (c : Cfg) (h : List Row) (g : Hg) (L : List Pr) (s : Sm) (v : Value) (w : World) (k : HdAt Tryz.prog hty 3 w p H c h g) (hl : Buf w 155 2 v L.length (pcs L)) (hok : Ok L) (hs : TmOk s) (hlb : ∀ r ∈ h, LbOk r.1)
    (hnx : ixM h L = none → g.nx = h.length + 1) (hH : H ≤ w.heap.size) (hb1 : h.length ≤ 100000) (hb2 : g.n ≤ 1000000) (hb3 : ∀ r ∈ h, r.2.length ≤ 1000000) (hb4 : g.nx ≤ 2000000) :
    Calls Tryz.prog 41 #[.pointer (some ⟨p, 0, none⟩), .agg #[v, .int .i64 s.1, .int .u64 (s.2 : Nat)]] w (RetAdd w p H c h g L s) := by
  obtain ⟨A, cp, rfl, hlc⟩ := hl.shape
  obtain ⟨T, V⟩ := s
  obtain ⟨gR, gO, gI, gQ, glv, gsv, gn, gtp, gnx, gG, gZ⟩ := g
  simp only at hnx hb2 hb4
  obtain ⟨hs1, hs2, hs3⟩ := hs
  simp only at hs1 hs2 hs3
  have hkey := Lib.hid (fun wx (hb : Below w.heap.size w wx) => key_any (.slice A L.length cp) L wx ((ps_of hl).below hb) (by have := hok.2.1; omega) (fun q hq => by have := okL hok hq; omega))
  have hkl : (key L).length ≤ maxLen := Nat.le_trans (key_le hok) (by decide)
  have HK := Lib.hid k
  have HL := Lib.hid hl
  have HOK := Lib.hid hok
  have HLB := Lib.hid hlb
  have HB3 := Lib.hid hb3
  have HLL := Lib.hid (LbOk.of_ok hok)
  clear k hl hok hlb hb3
  go_enter Tryz.func41, Tryz.ntmps41
  go_upto_region 2 with (go_at_call 36; refine (hkey.out _ (below_alloc1 _ _)).mono ?_; rintro e w1 ⟨rfl, hb1⟩)
  have hb01 := below_trans (below_alloc1 w (.cells #[.slice A L.length cp, .int .i64 T, .int .u64 (V : Nat)] 100)) hb1
  have BP1 := (Blk.new w #[.slice A L.length cp, .int .i64 T, .int .u64 (V : Nat)] 100).below hb1
  obtain ⟨K, hK⟩ : ∃ K, K = w.heap.size := ⟨_, rfl⟩
  rw [← hK] at BP1 ⊢
  have HK1 := Lib.hid (HK.out.below hb01)
  have HX1 := Lib.hid (HXs.of_below (Z := gZ) hb01 hH)
  have HL1 := Lib.hid (HL.out.below hb01)
  have hH1 := HX1.out.size hH
  clear hb1 hb01 hkey hK HK HL hH
  have hd1 := HK1.out.hd
  unfold hdC at hd1
  obtain ⟨c0, c1, c2, c3, c4, c5, c6, c7, c8, c9⟩ := hd1.c10
  obtain ⟨NX, hNX⟩ : ∃ NX : Int, NX = (gnx : Nat) := ⟨_, rfl⟩
  have hNX1 : 0 ≤ NX := by omega
  have hNX2 : NX ≤ 2000000 := by omega
  simp only [← hNX] at c6
  have HNX := Lib.hid hNX
  clear hNX
  rcases hi : ixM h L with _ | i
  case' none =>
    have hnx1 := hnx hi
    have hlk : (Instr.lookup 86 (.map (some gR)) (.string (bs (key L))) true).run Tryz.prog w1 = .ok (.tuple #[.int .i64 0, .bool false]) w1 := by
      have h1 := HK1.out.rf.look_ok mtyR (key L) hkl
      rw [refF_key HLB.out HLL.out, hi] at h1
      exact h1
    have HI := Lib.hid hi
    have f6 := hd1.free 6
    have c3b : (w1.setCell ⟨p, 6, none⟩ (.int .i64 (NX + 1))).cell? ⟨p, 3, none⟩ = some (.map (some gR)) := (hd1.set 6 _).cell (i := 3) rfl
    have hrf := HK1.out.rf.set p 6 (.int .i64 (NX + 1))
    simp only at hrf
    have HRF := Lib.hid hrf
    have hhl : h.length < maxLen := by unfold maxLen; omega
    clear hi hrf hnx
    go_upto_region 7 with (at_mapUpdate; refine wpList_update_mf rfl _ _ _ 86 rfl mtyR rfl HRF.out hhl (key L) rfl hkl NX rfl ?_; intro w2 hm2 hg2; have HM2 := Lib.hid hm2; have HG2 := Lib.hid hg2; clear hm2 hg2)
    have hg2 : (w1.setCell ⟨p, 6, none⟩ (.int .i64 ((gnx + 1 : Nat) : Int))).grownBy w2 (some gR) := by
      rw [show ((gnx + 1 : Nat) : Int) = NX + 1 by rw [HNX.out]; omega]
      exact HG2.out
    have hX2 : HXs gZ H w1 w2 := (HXs.of_set hd1 (.inl rfl) HK1.out.hp 6 _).trans (HXs.of_map HRF.out.is_map HG2.out ⟨HK1.out.hR, HK1.out.hZ.1⟩ (by simp [World.setCell]; exact hH1))
    have hd2 : Blk w2 p hty.hd #[.int .i64 c.s, .int .i64 c.m, .int .i64 c.w, .map (some gR), .map (some gO), .pointer (some ⟨gI, 0, none⟩), .int .i64 (NX + 1), .int .i64 gn, .int .i64 0, .int .i64 gtp] := (hd1.set 6 (.int .i64 (NX + 1))).mappedF HRF.out.is_map HG2.out
    have BP2 := hX2.kx.blk BP1 nh_point
    have HL2 := Lib.hid (hX2.kx.buf HL1.out nh_pair)
    have HO2 := Lib.hid ((HK1.out.of_.set p 6 (.int .i64 (NX + 1))).grown HG2.out HK1.out.hO.2.symm)
    have hHN : NX = (h.length : Int) + 1 := by rw [HNX.out]; omega
    have HNN := Lib.hid hHN
    have HX2 := Lib.hid hX2
    have HGG := Lib.hid hg2
    have hL8 : L.length ≤ 1000000 := by have := HOK.out.2.1; omega
    clear hg2 hX2 hHN HG2 HRF f6 c3b hlk c0 c1 c2 c3 c4 c5 c6 c7 c8 c9 hd1 BP1
    have hstT : ∀ k v w w', Below w.heap.size w w' → Dv.factOf ([(3, ((fun v => v = (.map (some gO))), noFact, 3)), (6, ((fun v => v = (.slice A L.length cp)), noFact, 6)), (7, ((fun v => ∃ A' c', v = .slice A' L.length c'), (fun v w' => Buf w' 155 2 v L.length (pcs L)), 10)), (9, ((fun v => ∃ Q, v = .pointer (some ⟨Q, 0, none⟩)), (fun v w' => ∃ Q lv, v = .pointer (some ⟨Q, 0, none⟩) ∧ Blk w' Q 109 #[lv, .slice none 0 0, .int .i64 (-1)] ∧ Buf w' 155 2 lv L.length (pcs L) ∧ w2.heap.size ≤ Q), 10)), (10, ((fun _ => True), noFact, 10))] : List (Nat × Dv.Kp)) k v w → Dv.factOf ([(3, ((fun v => v = (.map (some gO))), noFact, 3)), (6, ((fun v => v = (.slice A L.length cp)), noFact, 6)), (7, ((fun v => ∃ A' c', v = .slice A' L.length c'), (fun v w' => Buf w' 155 2 v L.length (pcs L)), 10)), (9, ((fun v => ∃ Q, v = .pointer (some ⟨Q, 0, none⟩)), (fun v w' => ∃ Q lv, v = .pointer (some ⟨Q, 0, none⟩) ∧ Blk w' Q 109 #[lv, .slice none 0 0, .int .i64 (-1)] ∧ Buf w' 155 2 lv L.length (pcs L) ∧ w2.heap.size ≤ Q), 10)), (10, ((fun _ => True), noFact, 10))] : List (Nat × Dv.Kp)) k v w' := Dv.fact_st (by
      simp only [List.forall_mem_cons, List.not_mem_nil, false_imp_iff, implies_true, and_true]
      refine ⟨?_, ?_, ?_, ?_, ?_⟩
      · exact fun _ _ _ _ _ => trivial
      · exact fun _ _ _ _ _ => trivial
      · exact fun _ _ _ hb h => h.below hb
      · exact fun _ _ _ hb h => by obtain ⟨Q, lv, e, b, f, l⟩ := h; exact ⟨Q, lv, e, b.below hb, f.below hb, l⟩
      · exact fun _ _ _ _ _ => trivial)
    have htrT : ∀ x ∈ ([(3, ((fun v => v = (.map (some gO))), noFact, 3)), (6, ((fun v => v = (.slice A L.length cp)), noFact, 6)), (7, ((fun v => ∃ A' c', v = .slice A' L.length c'), (fun v w' => Buf w' 155 2 v L.length (pcs L)), 10)), (9, ((fun v => ∃ Q, v = .pointer (some ⟨Q, 0, none⟩)), (fun v w' => ∃ Q lv, v = .pointer (some ⟨Q, 0, none⟩) ∧ Blk w' Q 109 #[lv, .slice none 0 0, .int .i64 (-1)] ∧ Buf w' 155 2 lv L.length (pcs L) ∧ w2.heap.size ≤ Q), 10)), (10, ((fun _ => True), noFact, 10))] : List (Nat × Dv.Kp)), (([(3, ((fun v => v = (.map (some gO))), noFact, 3)), (6, ((fun v => v = (.slice A L.length cp)), noFact, 6)), (7, ((fun v => ∃ A' c', v = .slice A' L.length c'), (fun v w' => Buf w' 155 2 v L.length (pcs L)), 10)), (9, ((fun v => ∃ Q, v = .pointer (some ⟨Q, 0, none⟩)), (fun v w' => ∃ Q lv, v = .pointer (some ⟨Q, 0, none⟩) ∧ Blk w' Q 109 #[lv, .slice none 0 0, .int .i64 (-1)] ∧ Buf w' 155 2 lv L.length (pcs L) ∧ w2.heap.size ≤ Q), 10)), (10, ((fun _ => True), noFact, 10))] : List (Nat × Dv.Kp)).lookup x.2.2.2).isSome = true := by
      simp only [List.forall_mem_cons, List.not_mem_nil, false_imp_iff, implies_true, and_true]
      exact ⟨by kernel_rfl, by kernel_rfl, by kernel_rfl, by kernel_rfl, by kernel_rfl⟩
    refine Dv.wp_region_two (L := ([(3, ((fun v => v = (.map (some gO))), noFact, 3)), (6, ((fun v => v = (.slice A L.length cp)), noFact, 6)), (7, ((fun v => ∃ A' c', v = .slice A' L.length c'), (fun v w' => Buf w' 155 2 v L.length (pcs L)), 10)), (9, ((fun v => ∃ Q, v = .pointer (some ⟨Q, 0, none⟩)), (fun v w' => ∃ Q lv, v = .pointer (some ⟨Q, 0, none⟩) ∧ Blk w' Q 109 #[lv, .slice none 0 0, .int .i64 (-1)] ∧ Buf w' 155 2 lv L.length (pcs L) ∧ w2.heap.size ≤ Q), 10)), (10, ((fun _ => True), noFact, 10))] : List (Nat × Dv.Kp))) (m := 10) (Fin := (FinSer w2 gO h.length gQ L)) (by kernel_rfl) 100 (by kernel_rfl) rfl (by kernel_rfl) ?_ ?_ ?_
    · simp only [List.forall_mem_cons, List.not_mem_nil, false_imp_iff, implies_true, and_true]
      exact ⟨⟨_, rfl⟩, ⟨_, rfl⟩, ⟨_, none, 0, rfl⟩, ⟨_, 0, rfl⟩, ⟨.bool true, trivial⟩⟩
    · exact (fun _ _ _ _ h => h)
    repeat (first
      | (refine Dv.Chain.step (v := ?_) (a' := ?_) rfl rfl rfl ?_ ?_ ?_; rotate_left 2; (focus (intro w; go_simp; try with_reducible rfl)); focus (simp only [Act.put, pqA, pqS, pqZ]; try rfl))
      | (refine Dv.XT.call (i := 3) (a' := ?_) _ _ rfl (by decide) hstT rfl rfl (fun wx hw hF => ?_) htrT ?_ ?_; rotate_left 1; (focus ((have y0 := (hd2.below hw).cell (i := 4) rfl; go_simp; first | exact ⟨rfl, rB⟩ | exact rB))); focus (simp only [Act.put, pqA, pqS, pqZ]; try rfl))
      | (refine Dv.XT.call (i := 6) (a' := ?_) _ _ rfl (by decide) hstT rfl rfl (fun wx hw hF => ?_) htrT ?_ ?_; rotate_left 1; (focus ((have y0 := (BP2.below hw).cell (i := 0) rfl; go_simp; first | exact ⟨rfl, rB⟩ | exact rB))); focus (simp only [Act.put, pqA, pqS, pqZ]; try rfl))
      | (refine Dv.XT.make (i := 7) _ _ _ rfl (by decide) hstT rfl rfl (fun wx hw hF => ?_) htrT (fun v7 hv7 a' ha => ?_); (focus (go_simp); (with_reducible refine (cloneSet_any _ L wx (ps_of (HL2.out.below hw)) hL8).mono ?_); (rintro e w' ⟨v', rfl, hn⟩); (obtain ⟨A7, c7, rfl, _⟩ := hn.buf.shape); (exact ⟨⟨_, _, rfl⟩, hn.below, hn.buf⟩)); obtain ⟨A7, c7, rfl⟩ := hv7; simp only [Act.put, pqA, pqS, pqZ] at ha; subst ha)
      | (refine Dv.XT.make (i := 9) _ _ _ rfl (by decide) hstT rfl rfl (fun wx hw hF => ?_) htrT (fun v9 hv9 a' ha => ?_); (focus (have f7 : (fun v w' => Buf w' 155 2 v L.length (pcs L) : Value → World → Prop) _ wx := hF 7 _ (by kernel_rfl) rfl (by kernel_rfl)); (have hnew := Blk.new wx #[.slice A7 L.length c7, .slice none 0 0, .int .i64 (-1)] 109); (have hba := below_alloc1 wx (.cells #[.slice A7 L.length c7, .slice none 0 0, .int .i64 (-1)] 109)); (have hfa := f7.alloc (.cells #[.slice A7 L.length c7, .slice none 0 0, .int .i64 (-1)] 109)); (have hsz := hw.size); (go_simp); (first | exact ⟨_, hnew, hfa⟩ | exact ⟨⟨_, rfl⟩, hba, _, _, rfl, hnew, hfa, hsz⟩)); obtain ⟨Q9, rfl⟩ := hv9; simp only [Act.put, pqA, pqS, pqZ] at ha; subst ha)
      | (refine Dv.XT.last (i := 10) _ _ _ rfl rfl (by kernel_rfl) rfl rfl (fun vs wx hw hF => ?_) (fun v10 hv10 a' ha => ?_); (focus (have f9 : (fun v w' => ∃ Q lv, v = .pointer (some ⟨Q, 0, none⟩) ∧ Blk w' Q 109 #[lv, .slice none 0 0, .int .i64 (-1)] ∧ Buf w' 155 2 lv L.length (pcs L) ∧ w2.heap.size ≤ Q : Value → World → Prop) _ wx := (hF 9 _ (by kernel_rfl) rfl).1 (by kernel_rfl)); (have q9 := (hF 9 _ (by kernel_rfl) rfl).2); (obtain ⟨Q, lv, e, b, f, l⟩ := f9); (injection e with e); (injection e with e); (injection e with e _ _); (subst e); (refine oper_update_mf _ _ _ 87 rfl mtyO rfl (HO2.out.below hw) hhl NX rfl ⟨by omega, by omega⟩ (some Q9) rfl ?_); (intro w5 hm5 hg5); (rw [HNN.out] at hm5); (exact ⟨_, rfl, trivial, wx, Q9, lv, hw, b, f, l, hg5, hm5⟩)); obtain _ := hv10; simp only [Act.put] at ha; subst ha)
      | (refine Dv.Chain.skip' (a' := ?_) rfl rfl rfl ?_ ?_; rotate_left 1; focus (simp only [Act.put, pqA, pqS, pqZ]; try rfl)))
    refine Dv.XT.end_ (by decide) (fun vs w5 hv hfin => ?_)
    obtain ⟨w4, Q, lv, b4, sr4, lab4, hQ, hg5, m5⟩ := hfin
    have hH2 := HX2.out.size hH1
    have hX25 : HXs gZ H w2 w5 := (HXs.of_below b4 hH2).trans (HXs.of_map (HO2.out.below b4).is_map hg5 ⟨HK1.out.hO.1, HK1.out.hZ.2⟩ (Nat.le_trans hH2 b4.size))
    have HIX := Lib.hid (HK1.out.series_ix HGG.out b4 hg5)
    have BP5 := hX25.kx.blk BP2 nh_point
    have hd5 := (series_x HK1.out HGG.out b4 hg5).2.2.2.2
    have HL5 := Lib.hid (hX25.kx.buf HL2.out nh_pair)
    have hH5 := hX25.size hH2
    have hadd := fun wx (hw : Below w5.heap.size w5 wx) => ixAdd_any gI H h.length (fun b => b = gR ∨ b = gO ∨ gZ b) gG L _ wx (HIX.out.below hw) (HL5.out.below hw) HOK.out (by omega) HK1.out.gn (Nat.le_trans hH5 hw.size)
    rw [← HNN.out] at hadd
    have HADD := Lib.hid hadd
    have hser := fun w8 G' x6 ix6 hn6 => HK1.out.series (w6 := w8) (G' := G') hH1 HI.out HLL.out HLB.out HGG.out (by have := HM2.out; rw [HNN.out] at this; exact this) b4 sr4 lab4 hQ hg5 m5 x6 ix6 hn6
    have HSER := Lib.hid hser
    have HX5 := Lib.hid (HX2.out.trans hX25)
    unfold hdC at hd5
    clear hv hser hadd hX25 b4 sr4 lab4 hQ hg5 m5 HX2 HL2 HO2 HGG HM2 hd2 BP2 hH2
    go_upto_region 8 with fail
    have hstT : ∀ k v w w', Below w.heap.size w w' → Dv.factOf ([(3, ((fun v => v = (.pointer (some ⟨gI, 0, none⟩))), noFact, 3)), (6, ((fun v => v = (.slice A L.length cp)), noFact, 6)), (7, ((fun _ => True), noFact, 7))] : List (Nat × Dv.Kp)) k v w → Dv.factOf ([(3, ((fun v => v = (.pointer (some ⟨gI, 0, none⟩))), noFact, 3)), (6, ((fun v => v = (.slice A L.length cp)), noFact, 6)), (7, ((fun _ => True), noFact, 7))] : List (Nat × Dv.Kp)) k v w' := Dv.fact_st (by
      simp only [List.forall_mem_cons, List.not_mem_nil, false_imp_iff, implies_true, and_true]
      refine ⟨?_, ?_, ?_⟩
      · exact fun _ _ _ _ _ => trivial
      · exact fun _ _ _ _ _ => trivial
      · exact fun _ _ _ _ _ => trivial)
    have htrT : ∀ x ∈ ([(3, ((fun v => v = (.pointer (some ⟨gI, 0, none⟩))), noFact, 3)), (6, ((fun v => v = (.slice A L.length cp)), noFact, 6)), (7, ((fun _ => True), noFact, 7))] : List (Nat × Dv.Kp)), (([(3, ((fun v => v = (.pointer (some ⟨gI, 0, none⟩))), noFact, 3)), (6, ((fun v => v = (.slice A L.length cp)), noFact, 6)), (7, ((fun _ => True), noFact, 7))] : List (Nat × Dv.Kp)).lookup x.2.2.2).isSome = true := by
      simp only [List.forall_mem_cons, List.not_mem_nil, false_imp_iff, implies_true, and_true]
      exact ⟨by kernel_rfl, by kernel_rfl, by kernel_rfl⟩
    refine Dv.wp_region_two (L := ([(3, ((fun v => v = (.pointer (some ⟨gI, 0, none⟩))), noFact, 3)), (6, ((fun v => v = (.slice A L.length cp)), noFact, 6)), (7, ((fun _ => True), noFact, 7))] : List (Nat × Dv.Kp))) (m := 7) (Fin := (FinAdd gI H h.length (fun b => b = gR ∨ b = gO ∨ gZ b) w5)) (by kernel_rfl) 100 (by kernel_rfl) rfl (by kernel_rfl) ?_ ?_ ?_
    · simp only [List.forall_mem_cons, List.not_mem_nil, false_imp_iff, implies_true, and_true]
      exact ⟨⟨_, rfl⟩, ⟨_, rfl⟩, ⟨.bool true, trivial⟩⟩
    · exact (fun _ _ _ _ h => h)
    repeat (first
      | (refine Dv.Chain.step (v := ?_) (a' := ?_) rfl rfl rfl ?_ ?_ ?_; rotate_left 2; (focus (intro w; go_simp; try with_reducible rfl)); focus (simp only [Act.put, pqA, pqS, pqZ]; try rfl))
      | (refine Dv.XT.call (i := 3) (a' := ?_) _ _ rfl (by decide) hstT rfl rfl (fun wx hw hF => ?_) htrT ?_ ?_; rotate_left 1; (focus ((have y0 := (hd5.below hw).cell (i := 5) rfl; go_simp; first | exact ⟨rfl, rB⟩ | exact rB))); focus (simp only [Act.put, pqA, pqS, pqZ]; try rfl))
      | (refine Dv.XT.call (i := 6) (a' := ?_) _ _ rfl (by decide) hstT rfl rfl (fun wx hw hF => ?_) htrT ?_ ?_; rotate_left 1; (focus ((have y0 := (BP5.below hw).cell (i := 0) rfl; go_simp; first | exact ⟨rfl, rB⟩ | exact rB))); focus (simp only [Act.put, pqA, pqS, pqZ]; try rfl))
      | (refine Dv.XT.last (i := 7) _ _ _ rfl rfl (by kernel_rfl) rfl rfl (fun vs wx hw hF => ?_) (fun v7 hv7 a' ha => ?_); (focus (go_simp); (with_reducible refine (HADD.out wx hw).mono ?_); (rintro e w' ⟨rfl, G', hix, hx, hn⟩); (have hk : FinAdd gI H h.length (fun b => b = gR ∨ b = gO ∨ gZ b) w5 vs w' := ⟨G', hix, (IxX.of_below hw hH5).trans hx, hn⟩); (first | exact hk | exact ⟨trivial, hk⟩ | exact ⟨_, rfl, trivial, hk⟩)); obtain _ := hv7; simp only [Act.put] at ha; subst ha)
      | (refine Dv.Chain.skip' (a' := ?_) rfl rfl rfl ?_ ?_; rotate_left 1; focus (simp only [Act.put, pqA, pqS, pqZ]; try rfl)))
    refine Dv.XT.end_ (by decide) (fun vs w8 hv hfin => ?_)
    obtain ⟨G', ix6, x6, hn6⟩ := hfin
    have hpk : ∃ h1 g1 i ss, Hid (HdAt Tryz.prog hty 3 w8 p H c h1 g1) ∧ Hid (h1[i]? = some (L, ss)) ∧ Hid (h1.set i (L, ss ++ [(T, V)]) = addM h L (T, V)) ∧ Hid (NX = (i : Int) + 1) ∧ i < 100002 ∧ ss.length ≤ 1000000 ∧ Hid (g1.n = gn) ∧ Hid (g1.Z = gZ) ∧ Hid (g1.nx = if ixM h L = none then gnx + 1 else gnx) :=
      ⟨_, _, h.length, [], Lib.hid (HSER.out w8 G' x6.kx ix6 hn6), Lib.hid (by simp), Lib.hid (by rw [addM_new _ HI.out]; simp), HNN, by omega, Nat.zero_le _, Lib.hid rfl, Lib.hid rfl, Lib.hid (by rw [if_pos HI.out])⟩
    have HX8 := Lib.hid (HX5.out.trans (HXs.of_ix x6 fun _ e => .inr (.inr e)))
    have BP8 := x6.kx.blk BP5 (by decide)
    obtain ⟨Z, hZ⟩ : ∃ Z, Z = NX := ⟨_, rfl⟩
    rw [← hZ] at hpk ⊢
    have hZ1 : 0 ≤ Z := by omega
    have hZ2 : Z ≤ 2000000 := by omega
    clear hZ hv ix6 x6 hn6 HADD HSER HX5 HL5 hd5 BP5 hH5 HIX HNN HI
    go_upto_region 9 with fail
  case' some =>
    have hlk : (Instr.lookup 86 (.map (some gR)) (.string (bs (key L))) true).run Tryz.prog w1 = .ok (.tuple #[.int .i64 ((i : Int) + 1), .bool true]) w1 := by
      have h1 := HK1.out.rf.look_ok mtyR (key L) hkl
      rw [refF_key HLB.out HLL.out, hi] at h1
      exact h1
    obtain ⟨ss, hss⟩ := ixM_some hi
    have hil := ixM_lt hi
    have hpk : ∃ h1 g1 i' ss, Hid (HdAt Tryz.prog hty 3 w1 p H c h1 g1) ∧ Hid (h1[i']? = some (L, ss)) ∧ Hid (h1.set i' (L, ss ++ [(T, V)]) = addM h L (T, V)) ∧ Hid ((i : Int) + 1 = (i' : Int) + 1) ∧ i' < 100002 ∧ ss.length ≤ 1000000 ∧ Hid (g1.n = gn) ∧ Hid (g1.Z = gZ) ∧ Hid (g1.nx = if ixM h L = none then gnx + 1 else gnx) :=
      ⟨h, _, i, ss, HK1, Lib.hid hss, Lib.hid (addM_old _ hi hss).symm, Lib.hid rfl, by omega, HB3.out _ (List.mem_of_getElem? hss), Lib.hid rfl, Lib.hid rfl, Lib.hid (by rw [hi]; simp)⟩
    have HX8 := HX1
    have BP8 := BP1
    obtain ⟨Z, hZ⟩ : ∃ Z, Z = (i : Int) + 1 := ⟨_, rfl⟩
    rw [← hZ] at hpk hlk
    have hZ1 : 0 ≤ Z := by omega
    have hZ2 : Z ≤ 2000000 := by omega
    clear hZ hi hss hnx hil
    go_upto_region 9 with fail
    clear hlk c0 c1 c2 c3 c4 c5 c6 c7 c8 c9 hd1 BP1
    obtain ⟨w8, hw8⟩ : ∃ w8, w8 = w1 := ⟨_, rfl⟩
    rw [← hw8] at hpk BP8 ⊢
    replace HX8 : Hid (HXs gZ H w1 w8) := Lib.hid (by rw [hw8]; exact HXs.of_below (Below.refl _ _) hH1)
    clear hw8
  all_goals
    obtain ⟨h1, g1, i, ss, HK8, HI8, HSET, HZI, hi8, hss8, HN8, HZ8, HNX8⟩ := hpk
    obtain ⟨R1, O1, I1, Q1, lv1, sv1, n1, tp1, nx1, G1, Z1⟩ := g1
    have hsr := HK8.out.sr i _ HI8.out
    have hH8 := HX8.out.size hH1
    have hil := (List.getElem?_eq_some_iff.1 HI8.out).1
    have hlk9 : (Instr.lookup 87 (.map (some O1)) (.int .i64 Z) false).run Tryz.prog w8 = .ok (.pointer (some ⟨Q1 i, 0, none⟩)) w8 := by
      have h2 := HK8.out.of_.look mtyO ((i : Int) + 1) ⟨by omega, by omega⟩
      rw [ofF_at _ hil] at h2
      rw [HZI.out]
      exact h2
    obtain ⟨sA, sc, hsv, _⟩ := hsr.sms.shape
    simp only at hsv hsr
    have hsb : Blk w8 (Q1 i) hty.sr #[lv1 i, sv1 i, .int .i64 (lastT ss)] := hsr.blk
    have hsm : Buf w8 98 2 (sv1 i) ss.length (smc ss) := hsr.sms
    have hso := hsr.own
    have hsq := hsr.hQ
    rw [hsv] at hsb hsm hso
    obtain ⟨Qi, hQi⟩ : ∃ Qi, Qi = Q1 i := ⟨_, rfl⟩
    rw [← hQi] at hsb hlk9 hsq
    have HQI := Lib.hid hQi
    have HSV := Lib.hid hsv
    have HSM := Lib.hid hsm
    have HSO := Lib.hid hso
    have hd8 := HK8.out.hd
    unfold hdC at hd8
    obtain ⟨d0, d1, d2, d3, d4, d5, d6, d7, d8, d9⟩ := hd8.c10
    simp only at d4 d7 d9 hsb
    have hKQ : K ≠ Qi := blk_types BP8 hsb (by decide)
    have hpQ : p ≠ Qi := blk_types hd8 hsb (by decide)
    have hpK : p ≠ K := blk_types hd8 BP8 (by decide)
    have HBQ := Lib.hid hsb
    clear hQi hsv hsm hso hsr hil hsb
    go_upto_region 10 with fail
    clear hlk9
    have hstT : ∀ k v w w', Below w.heap.size w w' → Dv.factQ ([(4, ((fun v => v = (.slice sA ss.length sc)), noFact)), (6, ((fun v => v = (.agg #[.int .i64 T, .int .u64 (V : Nat)])), noFact)), (7, ((fun v => ∃ B, v = .slice (some ⟨B, 0, none⟩) 1 1), (fun v w' => Buf w' 98 2 v 1 [.int .i64 T, .int .u64 (V : Nat)]))), (8, ((fun v => ∃ A c, v = .slice A (ss.length + 1) c), noFact)), (11, ((fun _ => True), noFact))] : List (Nat × Dv.Kq)) k v w → Dv.factQ ([(4, ((fun v => v = (.slice sA ss.length sc)), noFact)), (6, ((fun v => v = (.agg #[.int .i64 T, .int .u64 (V : Nat)])), noFact)), (7, ((fun v => ∃ B, v = .slice (some ⟨B, 0, none⟩) 1 1), (fun v w' => Buf w' 98 2 v 1 [.int .i64 T, .int .u64 (V : Nat)]))), (8, ((fun v => ∃ A c, v = .slice A (ss.length + 1) c), noFact)), (11, ((fun _ => True), noFact))] : List (Nat × Dv.Kq)) k v w' := Dv.factQ_st (by
      simp only [List.forall_mem_cons, List.not_mem_nil, false_imp_iff, implies_true, and_true]
      exact ⟨fun _ _ _ _ _ => trivial, fun _ _ _ _ _ => trivial, (fun _ _ _ hb h => h.below hb), fun _ _ _ _ _ => trivial, fun _ _ _ _ _ => trivial⟩)
    refine Dv.wp_region_piv (L := ([(4, ((fun v => v = (.slice sA ss.length sc)), noFact)), (6, ((fun v => v = (.agg #[.int .i64 T, .int .u64 (V : Nat)])), noFact)), (7, ((fun v => ∃ B, v = .slice (some ⟨B, 0, none⟩) 1 1), (fun v w' => Buf w' 98 2 v 1 [.int .i64 T, .int .u64 (V : Nat)]))), (8, ((fun v => ∃ A c, v = .slice A (ss.length + 1) c), noFact)), (11, ((fun _ => True), noFact))] : List (Nat × Dv.Kq))) (p := 8) (m := 11) (Mid := (MidApp w8 (.slice sA ss.length sc) ss.length (smc ss) [.int .i64 T, .int .u64 (V : Nat)])) (Fin := (FinApp w8 Qi (.slice sA ss.length sc) ss.length (smc ss) [.int .i64 T, .int .u64 (V : Nat)])) (by kernel_rfl) 100 (by kernel_rfl) rfl (by kernel_rfl) (by kernel_rfl) ?_ ?_ ?_ ?_
    · simp only [List.forall_mem_cons, List.not_mem_nil, false_imp_iff, implies_true, and_true]
      exact ⟨⟨_, rfl⟩, ⟨_, rfl⟩, ⟨_, 0, rfl⟩, ⟨_, none, 0, rfl⟩, ⟨.bool true, trivial⟩⟩
    · exact (fun vs vs' w' h hf => by unfold MidApp at hf ⊢; rw [← h 8 (by kernel_rfl) (.inr rfl)]; exact hf)
    · exact (fun _ _ _ _ h => h)
    repeat (first
      | (refine Dv.Chain.step (v := ?_) (a' := ?_) rfl rfl rfl ?_ ?_ ?_; rotate_left 2; (focus (intro w; go_simp; try with_reducible rfl)); focus (simp only [Act.put, pqA, pqS, pqZ]; try rfl))
      | (refine Dv.XP.make (i := 4) _ _ rfl (by decide) (by decide) (by kernel_rfl) hstT rfl rfl (fun wx hw hF => ?_) (fun v4 hv4 a' ha => ?_); (focus ((have y0 := (HBQ.out.below hw).cell (i := 1) rfl; go_simp; first | exact ⟨rB, trivial⟩ | exact rB))); obtain rfl := hv4; simp only [Act.put, pqA, pqS, pqZ] at ha; subst ha)
      | (refine Dv.XP.make (i := 6) _ _ rfl (by decide) (by decide) (by kernel_rfl) hstT rfl rfl (fun wx hw hF => ?_) (fun v6 hv6 a' ha => ?_); (focus ((obtain ⟨y0, y1, y2⟩ := (BP8.below hw).c3; go_simp; first | exact ⟨rB, trivial⟩ | exact rB))); obtain rfl := hv6; simp only [Act.put, pqA, pqS, pqZ] at ha; subst ha)
      | (refine Dv.XP.make (i := 7) _ _ rfl (by decide) (by decide) (by kernel_rfl) hstT rfl rfl (fun wx hw hF => ?_) (fun v7 hv7 a' ha => ?_); (focus (have hnew := Buf.lit wx 98 2 1 [.int .i64 T, .int .u64 (V : Nat)] rfl (by decide)); (have hba := below_alloc1 wx (.cells #[.int .i64 T, .int .u64 (V : Nat)] 98)); (go_simp <;> first | exact hnew | exact ⟨⟨_, rfl⟩, hba, hnew⟩ | exact ⟨hba, hnew⟩)); obtain ⟨B7, rfl⟩ := hv7; simp only [Act.put, pqA, pqS, pqZ] at ha; subst ha)
      | (refine Dv.XP.pivot (i := 8) _ _ rfl rfl (by decide) rfl rfl (fun vs wx hw hF => ?_) (fun v8 hv8 a' ha => ?_); (focus (have f7 : (fun v w' => Buf w' 98 2 v 1 [.int .i64 T, .int .u64 (V : Nat)] : Value → World → Prop) _ wx := (hF 7 _ (by kernel_rfl) rfl).1); (refine oper_append_buf _ _ _ rfl sm_ty rfl (HSM.out.below hw) rfl (f7.src sm_ty.slice (smc_one [(T, V)])) (by simp only [maxLen]; omega) (by omega) ?_); (intro v' w' hb ha hg); (have hap : App wx (.slice sA ss.length sc) 98 2 ss.length (smc ss) w' v' 1 [.int .i64 T, .int .u64 (V : Nat)] := ⟨HSM.out.below hw, hb, ha, hg⟩); (obtain ⟨A8, c8, rfl, _⟩ := hb.shape); (exact ⟨_, rfl, ⟨_, _, rfl⟩, wx, _, rfl, hw, hap⟩)); obtain ⟨A8, c8, rfl⟩ := hv8; simp only [Act.put, pqA, pqS, pqZ] at ha; subst ha)
      | (refine Dv.XP.last (i := 11) _ _ rfl rfl (by decide) (by kernel_rfl) rfl rfl (fun vs wx hM hF => ?_) (fun v11 hv11 a' ha => ?_); (focus (obtain ⟨wq, v1, hvs, hbq, haq⟩ := hM); (have q8 := hF 8 _ (by kernel_rfl) rfl); (rw [q8] at hvs); (subst hvs); (have bq := (HBQ.out.below hbq).ap haq.start haq.ap (by decide)); (have y0 := bq.cell (i := 1) rfl); (have y1 := bq.free 1); (have hk : FinApp w8 Qi (.slice sA ss.length sc) ss.length (smc ss) [.int .i64 T, .int .u64 (V : Nat)] vs (wx.setCell ⟨Qi, 1, none⟩ (.slice A8 (ss.length + 1) c8)) := ⟨wq, wx, A8, c8, hbq, haq, rfl⟩); (go_simp <;> first | exact ⟨.bool true, hk⟩ | exact hk | exact ⟨trivial, hk⟩ | exact ⟨_, rfl, trivial, hk⟩)); obtain _ := hv11; simp only [Act.put] at ha; subst ha)
      | (refine Dv.XP.skip (a' := ?_) rfl rfl rfl ?_ ?_; rotate_left 1; focus (simp only [Act.put, pqA, pqS, pqZ]; try rfl)))
    refine Dv.XP.end_ (by decide) (fun vs w10 hv hfin => ?_)
    obtain ⟨wx, wy, vA, vc, hbx, hap, hw10⟩ := hfin
    have HAP := Lib.hid hap
    have hHx := Nat.le_trans hH8 hbx.size
    have bqy := (HBQ.out.below hbx).ap hap.start hap.ap (by decide)
    have bpy := (BP8.below hbx).ap hap.start hap.ap (by decide)
    have hdy := (hd8.below hbx).ap hap.start hap.ap (by decide)
    have HBX := Lib.hid hbx
    have hX9 : HXs gZ H wx wy := HXs.of_app hap hHx (fun b hb => (HSO.out b hb).1)
    have HX9 := Lib.hid ((HXs.of_below hbx hH8).trans hX9)
    have bq10 : Blk w10 Qi hty.sr #[lv1 i, .slice vA (ss.length + 1) vc, .int .i64 (lastT ss)] := by rw [hw10]; exact bqy.set 1 _
    have bp10 : Blk w10 K 100 #[.slice A L.length cp, .int .i64 T, .int .u64 (V : Nat)] := by rw [hw10]; exact bpy.other hKQ 1 _
    have hd10 : Blk w10 p hty.hd #[.int .i64 c.s, .int .i64 c.m, .int .i64 c.w, .map (some R1), .map (some O1), .pointer (some ⟨I1, 0, none⟩), .int .i64 (nx1 : Nat), .int .i64 n1, .int .i64 0, .int .i64 tp1] := by rw [hw10]; exact hdy.other hpQ 1 _
    have HX10 := Lib.hid (show HXs gZ H w8 w10 by rw [hw10]; exact HX9.out.trans (HXs.of_set bqy (.inr (.inl rfl)) hsq 1 _))
    have HW10 := Lib.hid hw10
    have e2 := bq10.cell (i := 2) rfl
    have f2 := bq10.free 2
    have p1 := bp10.cell (i := 1) rfl
    clear hw10 hap bqy bpy hdy hbx hX9 HX9 hv d0 d1 d2 d3 d4 d5 d6 d7 d8 d9 BP8 hd8
    go_upto_region 12 with fail
    have HX11 := Lib.hid (HX10.out.trans (HXs.of_set bq10 (.inr (.inl rfl)) hsq 2 (.int .i64 T)))
    have hd11 := hd10.other hpQ 2 (.int .i64 T)
    have bp11 := bp10.other hKQ 2 (.int .i64 T)
    obtain ⟨w11, hw11⟩ : ∃ w11, w11 = w10.setCell ⟨Qi, 2, none⟩ (.int .i64 T) := ⟨_, rfl⟩
    rw [← hw11] at HX11 hd11 bp11 ⊢
    have HW11 := Lib.hid hw11
    clear hw11 hd10 bp10 bq10 e2 f2 p1
    obtain ⟨d0, d1, d2, d3, d4, d5, d6, d7, d8, d9⟩ := hd11.c10
    have f9 := hd11.free 9
    have p1 := bp11.cell (i := 1) rfl
    go_region
    obtain ⟨TP, hTP⟩ : ∃ TP : Int, TP = (if tp1 < T then T else tp1) := ⟨_, rfl⟩
    rw [← hTP]
    have hn1 : 0 ≤ n1 := HK8.out.nn
    have hn2 : n1 ≤ 1000000 := by have := HN8.out; simp only at this; omega
    have HFIN : Hid (HdAt Tryz.prog hty 3 ((w11.setCell ⟨p, 9, none⟩ (.int .i64 TP)).drew.setCell ⟨p, 7, none⟩ (.int .i64 (n1 + 1))) p H c (addM h L (T, V)) ⟨R1, O1, I1, Q1, lv1, fun j => if j = i then .slice vA (ss.length + 1) vc else sv1 j, n1 + 1, TP, nx1, G1, Z1⟩) := Lib.hid (by
      have ha := HAP.out
      rw [← HSV.out] at ha
      have hm := (HK8.out.below HBX.out).more (s := (T, V)) hHx HI8.out (tp := TP) ha
      rw [HSET.out] at hm
      simp only [← HQI.out] at hm
      rw [← HW10.out, ← HW11.out] at hm
      exact hm.below (below_setBoth (Below.refl _ _).drew p 7 (.int .i64 (n1 + 1))))
    have hd12 := (hd11.set 9 (.int .i64 TP)).drew
    have c7 : (w11.setCell ⟨p, 9, none⟩ (.int .i64 TP)).drew.cell? ⟨p, 7, none⟩ = some (.int .i64 n1) := hd12.cell (i := 7) rfl
    have f7 : (w11.setCell ⟨p, 9, none⟩ (.int .i64 TP)).drew.frozen? ⟨p, 7, none⟩ = false := hd12.free 7
    have HX13 : Hid (HXs gZ H w ((w11.setCell ⟨p, 9, none⟩ (.int .i64 TP)).drew.setCell ⟨p, 7, none⟩ (.int .i64 (n1 + 1)))) := Lib.hid (HX1.out.trans (HX8.out.trans (HX11.out.trans ((HXs.of_set hd11 (.inl rfl) HK8.out.hp 9 _).trans ((HXs.of_below (Below.refl _ _).drew (by simp [World.setCell]; exact Nat.le_trans hH8 HX11.out.kx.kc.size)).trans (HXs.of_set hd12 (.inl rfl) HK8.out.hp 7 _))))))
    obtain ⟨w12, hw12⟩ : ∃ w12, w12 = (w11.setCell ⟨p, 9, none⟩ (.int .i64 TP)).drew := ⟨_, rfl⟩
    rw [← hw12] at HFIN HX13 c7 f7 ⊢
    clear hw12 hd12 hd11 bp11 d0 d1 d2 d3 d4 d5 d6 d7 d8 d9 f9 p1 HAP HBX hTP
    go_wp2_with fail
    go_ret
    exact ⟨_, _, rfl, HFIN.out, HX13.out, HZ8.out, by have := HN8.out; simp only at this ⊢; omega, by have := HNX8.out; simp only at this ⊢; split at this <;> simp_all⟩
end Go.Proofs.YtnoebccoaeiakaaGreatDoor
