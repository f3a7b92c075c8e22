/-
  Layer 9: MetaMeets: two metas meet each other's times, or neither does.
-/
import Derived.Test.YtdmhjejjgcfplaaMetO
import Derived.Test.YtdmhjejjgcfplaaLib10
import Derived.Test.YtdmhjejjgcfplaaRows
namespace Go.Proofs.Ytdmhjejjgcfplaa
open Go.RowKit Go.Bar Go.Bar.Leb Go.Bar.Frm Go.Bar.Idt Go.Bar.Met Go.ChangeShapes Go.WideShapes Go.ChangeAt
open Go.ChangeMaps (open_string shut_string)

/-- a zero meta's cells -/
def MZ : Array Value := #[.string { data := #[] }, .int .i64 0, .int .i64 0, .int .i64 0, .int .i64 0, .int .i64 0, .slice none 0 0, .slice none 0 0]
/-- a meta's cells, whatever its lists' places -/
def MC (w : World) (B : Nat) (m : Mt) : Prop := ∃ F f S s, Blk w B 25 #[.string (bs m.id), .int .i64 m.mn, .int .i64 m.mx, .int .i64 m.lv, .int .i64 m.sr, .int .i64 m.sm, .slice F m.fs.length f, .slice S m.ss.length s]
theorem MC.keep {w w' : World} {M : Nat} {m : Mt} (h : MC w M m) (hk : ∀ cur, Blk w M 25 cur → Blk w' M 25 cur) : MC w' M m := by
  obtain ⟨F, f, S, s, h⟩ := h
  exact ⟨F, f, S, s, hk _ h⟩
/-- all eight cells of a block are stored -/
def set8 (w : World) (B : Nat) (v0 v1 v2 v3 v4 v5 v6 v7 : Value) : World := ((((((((w.setCell ⟨B, 0, none⟩ v0).setCell ⟨B, 1, none⟩ v1).setCell ⟨B, 2, none⟩ v2).setCell ⟨B, 3, none⟩ v3).setCell ⟨B, 4, none⟩ v4).setCell ⟨B, 5, none⟩ v5).setCell ⟨B, 6, none⟩ v6).setCell ⟨B, 7, none⟩ v7)
section
variable {w : World} {B : Nat} {v0 v1 v2 v3 v4 v5 v6 v7 : Value} {T : TypeId}
theorem set8_at (h : Blk w B T MZ) : Blk (set8 w B v0 v1 v2 v3 v4 v5 v6 v7) B T #[v0, v1, v2, v3, v4, v5, v6, v7] := by
  have := ((((((((h.set 0 v0).set 1 v1).set 2 v2).set 3 v3).set 4 v4).set 5 v5).set 6 v6).set 7 v7)
  unfold set8
  simpa [MZ] using this
theorem set8_other {M : Nat} {cur : Array Value} (h : Blk w M T cur) (hne : M ≠ B) : Blk (set8 w B v0 v1 v2 v3 v4 v5 v6 v7) M T cur := by unfold set8; exact ((((((((h.other hne 0 v0).other hne 1 v1).other hne 2 v2).other hne 3 v3).other hne 4 v4).other hne 5 v5).other hne 6 v6).other hne 7 v7)
theorem set8_size : (set8 w B v0 v1 v2 v3 v4 v5 v6 v7).heap.size = w.heap.size := by simp [set8, World.setCell]
theorem set8_below {a : World} {N : Nat} (hb : Below N a w) (hB : N ≤ B) : Below N a (set8 w B v0 v1 v2 v3 v4 v5 v6 v7) := by unfold set8; exact ((((((((hb.setCell (p := ⟨B, 0, none⟩) hB v0).setCell (p := ⟨B, 1, none⟩) hB v1).setCell (p := ⟨B, 2, none⟩) hB v2).setCell (p := ⟨B, 3, none⟩) hB v3).setCell (p := ⟨B, 4, none⟩) hB v4).setCell (p := ⟨B, 5, none⟩) hB v5).setCell (p := ⟨B, 6, none⟩) hB v6).setCell (p := ⟨B, 7, none⟩) hB v7)
end
theorem MZ_cell {w : World} {B : Nat} (h : Blk w B 25 MZ) : w.cell? ⟨B, 0, none⟩ = some (.string { data := #[] }) ∧ (∀ i, 1 ≤ i → i < 6 → w.cell? ⟨B, i, none⟩ = some (.int .i64 0)) ∧ w.cell? ⟨B, 6, none⟩ = some (.slice none 0 0) ∧ w.cell? ⟨B, 7, none⟩ = some (.slice none 0 0) ∧ ∀ i, w.frozen? ⟨B, i, none⟩ = false := by
  refine ⟨h.cell (i := 0) rfl, fun i h1 h2 => ?_, h.cell (i := 6) rfl, h.cell (i := 7) rfl, fun i => h.free i⟩
  rcases (show i = 1 ∨ i = 2 ∨ i = 3 ∨ i = 4 ∨ i = 5 by omega) with rfl | rfl | rfl | rfl | rfl
  · exact h.cell (i := 1) rfl
  · exact h.cell (i := 2) rfl
  · exact h.cell (i := 3) rfl
  · exact h.cell (i := 4) rfl
  · exact h.cell (i := 5) rfl
theorem MC.lt {w : World} {B : Nat} {m : Mt} (h : MC w B m) : B < w.heap.size := by
  obtain ⟨_, _, _, _, h⟩ := h
  exact h.lt
/-- how the world stands in 'x, y := Made(a, 1, 1), Made(b, 2, 2)' -/
structure XM (W : World) (x y : Mt) (vs : Nat → Value) (D : Nat → Bool) (w : World) : Prop where
  bel : Below W.heap.size W w
  fst : ∀ B, D 4 = true → vs 4 = .pointer (some ⟨B, 0, none⟩) → W.heap.size ≤ B ∧ (D 6 = false → Blk w B 25 MZ) ∧ (D 6 = true → MC w B x)
  snd : ∀ B, D 5 = true → vs 5 = .pointer (some ⟨B, 0, none⟩) → W.heap.size ≤ B ∧ (D 7 = false → Blk w B 25 MZ) ∧ (D 7 = true → MC w B y)
  ne : ∀ B B', D 4 = true → D 5 = true → vs 4 = .pointer (some ⟨B, 0, none⟩) → vs 5 = .pointer (some ⟨B', 0, none⟩) → B ≠ B'
  d6 : D 4 = false → D 6 = false
  d7 : D 5 = false → D 7 = false
section
variable {W w w' : World} {x y : Mt} {vs : Nat → Value} {D : Nat → Bool}
theorem XM.congr : ∀ vs vs' D w, (∀ k, D k = true → vs k = vs' k) → XM W x y vs D w → XM W x y vs' D w := fun vs vs' D w h hX =>
  ⟨hX.bel, fun B h4 hv => hX.fst B h4 ((h 4 h4).trans hv), fun B h5 hv => hX.snd B h5 ((h 5 h5).trans hv), fun B B' h4 h5 hv hv' => hX.ne B B' h4 h5 ((h 4 h4).trans hv) ((h 5 h5).trans hv'), hX.d6, hX.d7⟩
theorem XM.low (h : XM W x y vs D w) {i : Nat} (hi : i < 4 ∨ 7 < i) (hb : Below w.heap.size w w') (v : Value) : XM W x y (Dv.updV vs i v) (Dn.upd D i) w' := by
  have e4 := Dn.upd_ne D (show 4 ≠ i by omega)
  have e5 := Dn.upd_ne D (show 5 ≠ i by omega)
  have e6 := Dn.upd_ne D (show 6 ≠ i by omega)
  have e7 := Dn.upd_ne D (show 7 ≠ i by omega)
  have u4 := Dv.updV_ne vs v (show 4 ≠ i by omega)
  have u5 := Dv.updV_ne vs v (show 5 ≠ i by omega)
  refine ⟨below_trans h.bel hb, fun B h4 hv => ?_, fun B h5 hv => ?_, fun B B' h4 h5 hv hv' => ?_, ?_, ?_⟩
  · rw [e4] at h4; rw [u4] at hv; rw [e6]
    obtain ⟨g1, g2, g3⟩ := h.fst B h4 hv
    exact ⟨g1, fun h => (g2 h).below hb, fun h => (g3 h).keep (fun cur hc => hc.below hb)⟩
  · rw [e5] at h5; rw [u5] at hv; rw [e7]
    obtain ⟨g1, g2, g3⟩ := h.snd B h5 hv
    exact ⟨g1, fun h => (g2 h).below hb, fun h => (g3 h).keep (fun cur hc => hc.below hb)⟩
  · rw [e4] at h4; rw [e5] at h5; rw [u4] at hv; rw [u5] at hv'
    exact h.ne B B' h4 h5 hv hv'
  · rw [e4, e6]; exact h.d6
  · rw [e5, e7]; exact h.d7
theorem ptr_inj {B B' : Nat} (h : Value.pointer (some ⟨B, 0, none⟩) = .pointer (some ⟨B', 0, none⟩)) : B = B' := by
  injection h with h
  injection h with h
  injection h
theorem XM.four (h : XM W x y vs D w) (hD : D 4 = false) : XM W x y (Dv.updV vs 4 (.pointer (some ⟨w.heap.size, 0, none⟩))) (Dn.upd D 4) (w.alloc (.cells MZ 25)) := by
  have hb := below_alloc1 w (.cells MZ 25)
  have e5 := Dn.upd_ne D (show 5 ≠ 4 by omega)
  have e6 := Dn.upd_ne D (show 6 ≠ 4 by omega)
  have e7 := Dn.upd_ne D (show 7 ≠ 4 by omega)
  have u5 := Dv.updV_ne vs (.pointer (some ⟨w.heap.size, 0, none⟩)) (show 5 ≠ 4 by omega)
  have h6 := h.d6 hD
  refine ⟨below_trans h.bel hb, fun B _ hv => ?_, fun B h5 hv => ?_, fun B B' _ h5 hv hv' => ?_, ?_, ?_⟩
  · rw [Dv.updV_self] at hv; rw [e6, h6]
    obtain rfl := ptr_inj hv
    exact ⟨h.bel.size, fun _ => Blk.new _ _ _, fun h => (by cases h)⟩
  · rw [e5] at h5; rw [u5] at hv; rw [e7]
    obtain ⟨g1, g2, g3⟩ := h.snd B h5 hv
    exact ⟨g1, fun h => (g2 h).below hb, fun h => (g3 h).keep (fun cur hc => hc.below hb)⟩
  · rw [e5] at h5; rw [Dv.updV_self] at hv; rw [u5] at hv'
    obtain ⟨g1, g2, g3⟩ := h.snd B' h5 hv'
    obtain rfl := ptr_inj hv
    have hlt : B' < w.heap.size := by
      rcases hd : D 7 with _ | _
      · exact (g2 hd).lt
      · exact (g3 hd).lt
    omega
  · intro h'; rw [Dn.upd_self] at h'; cases h'
  · rw [e5, e7]; exact h.d7
theorem XM.five (h : XM W x y vs D w) (hD : D 5 = false) : XM W x y (Dv.updV vs 5 (.pointer (some ⟨w.heap.size, 0, none⟩))) (Dn.upd D 5) (w.alloc (.cells MZ 25)) := by
  have hb := below_alloc1 w (.cells MZ 25)
  have e4 := Dn.upd_ne D (show 4 ≠ 5 by omega)
  have e6 := Dn.upd_ne D (show 6 ≠ 5 by omega)
  have e7 := Dn.upd_ne D (show 7 ≠ 5 by omega)
  have u4 := Dv.updV_ne vs (.pointer (some ⟨w.heap.size, 0, none⟩)) (show 4 ≠ 5 by omega)
  have h7 := h.d7 hD
  refine ⟨below_trans h.bel hb, fun B h4 hv => ?_, fun B _ hv => ?_, fun B B' h4 _ hv hv' => ?_, ?_, ?_⟩
  · rw [e4] at h4; rw [u4] at hv; rw [e6]
    obtain ⟨g1, g2, g3⟩ := h.fst B h4 hv
    exact ⟨g1, fun h => (g2 h).below hb, fun h => (g3 h).keep (fun cur hc => hc.below hb)⟩
  · rw [Dv.updV_self] at hv; rw [e7, h7]
    obtain rfl := ptr_inj hv
    exact ⟨h.bel.size, fun _ => Blk.new _ _ _, fun h => (by cases h)⟩
  · rw [e4] at h4; rw [u4] at hv; rw [Dv.updV_self] at hv'
    obtain ⟨g1, g2, g3⟩ := h.fst B h4 hv
    obtain rfl := ptr_inj hv'
    have hlt : B < w.heap.size := by
      rcases hd : D 6 with _ | _
      · exact (g2 hd).lt
      · exact (g3 hd).lt
    omega
  · rw [e4, e6]; exact h.d6
  · intro h'; rw [Dn.upd_self] at h'; cases h'
theorem XM.six (h : XM W x y vs D w) {B : Nat} (h4 : D 4 = true) (h5 : D 5 = true) {B' : Nat} (hv : vs 4 = .pointer (some ⟨B, 0, none⟩)) (hv' : vs 5 = .pointer (some ⟨B', 0, none⟩)) {v0 v1 v2 v3 v4 v5 v6 v7 u : Value} (hm : MC (set8 w B v0 v1 v2 v3 v4 v5 v6 v7) B x) : XM W x y (Dv.updV vs 6 u) (Dn.upd D 6) (set8 w B v0 v1 v2 v3 v4 v5 v6 v7) := by
  have e4 := Dn.upd_ne D (show 4 ≠ 6 by omega)
  have e5 := Dn.upd_ne D (show 5 ≠ 6 by omega)
  have e7 := Dn.upd_ne D (show 7 ≠ 6 by omega)
  have u4 := Dv.updV_ne vs u (show 4 ≠ 6 by omega)
  have u5 := Dv.updV_ne vs u (show 5 ≠ 6 by omega)
  obtain ⟨gN, _, _⟩ := h.fst B h4 hv
  have hne := h.ne B B' h4 h5 hv hv'
  refine ⟨set8_below h.bel gN, fun C _ hc => ?_, fun C _ hc => ?_, fun C C' _ _ hc hc' => ?_, ?_, ?_⟩
  · rw [u4, hv] at hc
    obtain rfl := ptr_inj hc
    exact ⟨gN, fun h' => (by rw [Dn.upd_self] at h'; cases h'), fun _ => hm⟩
  · rw [u5] at hc; rw [e7]
    obtain ⟨g1, g2, g3⟩ := h.snd C h5 hc
    have hCB : C ≠ B := by rw [hv'] at hc; obtain rfl := ptr_inj hc; exact fun e => hne e.symm
    exact ⟨g1, fun h => set8_other (g2 h) hCB, fun h => (g3 h).keep (fun cur hc => set8_other hc hCB)⟩
  · rw [u4] at hc; rw [u5] at hc'
    exact h.ne C C' h4 h5 hc hc'
  · rw [e4, h4]; intro h'; cases h'
  · rw [e5, h5]; intro h'; cases h'
theorem XM.seven (h : XM W x y vs D w) {B : Nat} (h4 : D 4 = true) (h5 : D 5 = true) (h6 : D 6 = true) {B' : Nat} (hv : vs 4 = .pointer (some ⟨B, 0, none⟩)) (hv' : vs 5 = .pointer (some ⟨B', 0, none⟩)) {v0 v1 v2 v3 v4 v5 v6 v7 u : Value} (hm : MC (set8 w B' v0 v1 v2 v3 v4 v5 v6 v7) B' y) : XM W x y (Dv.updV vs 7 u) (Dn.upd D 7) (set8 w B' v0 v1 v2 v3 v4 v5 v6 v7) := by
  have e4 := Dn.upd_ne D (show 4 ≠ 7 by omega)
  have e5 := Dn.upd_ne D (show 5 ≠ 7 by omega)
  have e6 := Dn.upd_ne D (show 6 ≠ 7 by omega)
  have u4 := Dv.updV_ne vs u (show 4 ≠ 7 by omega)
  have u5 := Dv.updV_ne vs u (show 5 ≠ 7 by omega)
  obtain ⟨gN, _, _⟩ := h.snd B' h5 hv'
  have hne := h.ne B B' h4 h5 hv hv'
  refine ⟨set8_below h.bel gN, fun C _ hc => ?_, fun C _ hc => ?_, fun C C' _ _ hc hc' => ?_, ?_, ?_⟩
  · rw [u4] at hc; rw [e6]
    obtain ⟨g1, g2, g3⟩ := h.fst C h4 hc
    have hCB : C ≠ B' := by rw [hv] at hc; obtain rfl := ptr_inj hc; exact hne
    exact ⟨g1, fun h => set8_other (g2 h) hCB, fun h => (g3 h).keep (fun cur hc => set8_other hc hCB)⟩
  · rw [u5, hv'] at hc
    obtain rfl := ptr_inj hc
    exact ⟨gN, fun h' => (by rw [Dn.upd_self] at h'; cases h'), fun _ => hm⟩
  · rw [u4] at hc; rw [u5] at hc'
    exact h.ne C C' h4 h5 hc hc'
  · rw [e4, h4]; intro h'; cases h'
  · rw [e5, h5]; intro h'; cases h'
end

set_option maxHeartbeats 16000000 in
set_option maxRecDepth 10000 in
theorem metaMeets_walk1 (a b : Mt) (fa sa fb sb : Value) (w : World) (ha : MetaAt w a fa sa) (hb : MetaAt w b fb sb) :
    Calls Try.prog 3 #[mtV a fa sa, mtV b fb sb] w (RetBelow w (.bool true)) := by
  unfold mtV
  obtain ⟨A1, c1, rfl, _, _⟩ := ha.fl.shape
  obtain ⟨A2, c2, rfl, _, _⟩ := ha.sr.shape
  obtain ⟨A3, c3, rfl, _, _⟩ := hb.fl.shape
  obtain ⟨A4, c4, rfl, _, _⟩ := hb.sr.shape
  have hxo := made_ok a 1 1
  have hyo := made_ok b 2 2
  have hma := fun w' (h1 : FlsAt w' (.slice A1 a.fs.length c1) a.fs) (h2 : SrcAt w' (.slice A2 a.ss.length c2) a.ss) => made_any a 1 1 _ _ w' h1 h2 ha.id
  have hmb := fun w' (h1 : FlsAt w' (.slice A3 b.fs.length c3) b.fs) (h2 : SrcAt w' (.slice A4 b.ss.length c4) b.ss) => made_any b 2 2 _ _ w' h1 h2 hb.id
  obtain ⟨x, hx⟩ : ∃ x, x = made a 1 1 := ⟨_, rfl⟩
  obtain ⟨y, hy⟩ : ∃ y, y = made b 2 2 := ⟨_, rfl⟩
  rw [← hx] at hma hxo
  rw [← hy] at hmb hyo
  clear hx hy
  have x1 := hxo.1.2.1
  have x2 := hxo.1.2.2.1
  have x3 := hxo.1.2.2.2.1
  have y1 := hyo.1.2.1
  have y2 := hyo.1.2.2.1
  have y3 := hyo.1.2.2.2.1
  clear hxo hyo
  have hfa := ha.fl
  have hsa := ha.sr
  have hfb := hb.fl
  have hsb := hb.sr
  obtain ⟨bb, hbb⟩ : ∃ bb, (decide (x.mn < y.mx) && decide (y.mn < x.mx)) = bb := ⟨_, rfl⟩
  have k1 : ∀ fv sv w, Calls Try.prog 10 #[.agg #[.string (bs x.id), .int .i64 x.mn, .int .i64 x.mx, .int .i64 x.lv, .int .i64 x.sr, .int .i64 x.sm, fv, sv], .int .i64 y.mn, .int .i64 y.mx] w (RetBelow w (.bool bb)) := fun fv sv w => by
    have := meets_any x fv sv y.mn y.mx w
    rwa [hbb] at this
  have k2 : ∀ fv sv w, Calls Try.prog 10 #[.agg #[.string (bs y.id), .int .i64 y.mn, .int .i64 y.mx, .int .i64 y.lv, .int .i64 y.sr, .int .i64 y.sm, fv, sv], .int .i64 x.mn, .int .i64 x.mx] w (RetBelow w (.bool bb)) := fun fv sv w => by
    have := meets_any y fv sv x.mn x.mx w
    rwa [Bool.and_comm, hbb] at this
  have k3 : ∀ fv sv w, Calls Try.prog 10 #[.agg #[.string (bs x.id), .int .i64 x.mn, .int .i64 x.mx, .int .i64 x.lv, .int .i64 x.sr, .int .i64 x.sm, fv, sv], .int .i64 x.mn, .int .i64 x.mx] w (RetBelow w (.bool true)) := fun fv sv w => by
    have := meets_any x fv sv x.mn x.mx w
    rwa [decide_eq_true x2, Bool.true_and] at this
  have k4 : ∀ fv sv w, Calls Try.prog 10 #[.agg #[.string (bs x.id), .int .i64 x.mn, .int .i64 x.mx, .int .i64 x.lv, .int .i64 x.sr, .int .i64 x.sm, fv, sv], .int .i64 x.mx, .int .i64 (x.mx + 1)] w (RetBelow w (.bool false)) := fun fv sv w => by
    have := meets_any x fv sv x.mx (x.mx + 1) w
    rwa [decide_eq_false (show ¬ x.mx < x.mx by omega), Bool.and_false] at this
  have hwr : IntKind.i64.wrap (x.mx + 1) = x.mx + 1 := IntWalk.i64_in _ ⟨by omega, by omega⟩
  have K1 := Lib.hid k1
  have K2 := Lib.hid k2
  have K3 := Lib.hid k3
  have K4 := Lib.hid k4
  have HMA := Lib.hid hma
  have HMB := Lib.hid hmb
  have HWR := Lib.hid hwr
  clear k1 k2 k3 k4 hma hmb hbb hwr ha hb
  have hlow := below_trans (below_alloc1 w (.cells #[.string (bs a.id), .int .i64 a.mn, .int .i64 a.mx, .int .i64 a.lv, .int .i64 a.sr, .int .i64 a.sm, .slice A1 a.fs.length c1, .slice A2 a.ss.length c2] 25)) (below_alloc1 _ (.cells #[.string (bs b.id), .int .i64 b.mn, .int .i64 b.mx, .int .i64 b.lv, .int .i64 b.sr, .int .i64 b.sm, .slice A3 b.fs.length c3, .slice A4 b.ss.length c4] 25))
  have hBa := (Blk.new w #[.string (bs a.id), .int .i64 a.mn, .int .i64 a.mx, .int .i64 a.lv, .int .i64 a.sr, .int .i64 a.sm, .slice A1 a.fs.length c1, .slice A2 a.ss.length c2] 25).alloc (.cells #[.string (bs b.id), .int .i64 b.mn, .int .i64 b.mx, .int .i64 b.lv, .int .i64 b.sr, .int .i64 b.sm, .slice A3 b.fs.length c3, .slice A4 b.ss.length c4] 25)
  have hBb := Blk.new (w.alloc (.cells #[.string (bs a.id), .int .i64 a.mn, .int .i64 a.mx, .int .i64 a.lv, .int .i64 a.sr, .int .i64 a.sm, .slice A1 a.fs.length c1, .slice A2 a.ss.length c2] 25)) #[.string (bs b.id), .int .i64 b.mn, .int .i64 b.mx, .int .i64 b.lv, .int .i64 b.sr, .int .i64 b.sm, .slice A3 b.fs.length c3, .slice A4 b.ss.length c4] 25
  rw [show (w.alloc (.cells #[.string (bs a.id), .int .i64 a.mn, .int .i64 a.mx, .int .i64 a.lv, .int .i64 a.sr, .int .i64 a.sm, .slice A1 a.fs.length c1, .slice A2 a.ss.length c2] 25)).heap.size = w.heap.size + 1 by simp] at hBb
  go_enter Try.func3, Try.ntmps3
  go_upto_region 1 with fail
  obtain ⟨ws, hws⟩ : ∃ ws, ws = (w.alloc (.cells #[.string (bs a.id), .int .i64 a.mn, .int .i64 a.mx, .int .i64 a.lv, .int .i64 a.sr, .int .i64 a.sm, .slice A1 a.fs.length c1, .slice A2 a.ss.length c2] 25)).alloc (.cells #[.string (bs b.id), .int .i64 b.mn, .int .i64 b.mx, .int .i64 b.lv, .int .i64 b.sr, .int .i64 b.sm, .slice A3 b.fs.length c3, .slice A4 b.ss.length c4] 25) := ⟨_, rfl⟩
  rw [← hws] at hlow hBa hBb ⊢
  clear hws
  have hlow := hlow.drew'
  have hBa := hBa.drew
  have hBb := hBb.drew
  have HFA := Lib.hid (FlsAt.below hfa hlow)
  have HSA := Lib.hid (SrcAt.below hsa hlow)
  have HFB := Lib.hid (FlsAt.below hfb hlow)
  have HSB := Lib.hid (SrcAt.below hsb hlow)
  have HLOW := Lib.hid hlow
  have HBA := Lib.hid hBa
  have HBB := Lib.hid hBb
  clear hfa hsa hfb hsb hlow hBa hBb
  refine Dv.wp_region_chain (fun k => List.lookup k [(0, fun v => v = .agg #[.string (bs a.id), .int .i64 a.mn, .int .i64 a.mx, .int .i64 a.lv, .int .i64 a.sr, .int .i64 a.sm, .slice A1 a.fs.length c1, .slice A2 a.ss.length c2]), (1, fun v => ∃ X1 d1 X2 d2, v = .agg #[.string (bs x.id), .int .i64 x.mn, .int .i64 x.mx, .int .i64 x.lv, .int .i64 x.sr, .int .i64 x.sm, .slice X1 x.fs.length d1, .slice X2 x.ss.length d2]), (2, fun v => v = .agg #[.string (bs b.id), .int .i64 b.mn, .int .i64 b.mx, .int .i64 b.lv, .int .i64 b.sr, .int .i64 b.sm, .slice A3 b.fs.length c3, .slice A4 b.ss.length c4]), (3, fun v => ∃ Y1 d3 Y2 d4, v = .agg #[.string (bs y.id), .int .i64 y.mn, .int .i64 y.mx, .int .i64 y.lv, .int .i64 y.sr, .int .i64 y.sm, .slice Y1 y.fs.length d3, .slice Y2 y.ss.length d4]), (4, fun v => ∃ B, v = .pointer (some ⟨B, 0, none⟩)), (5, fun v => ∃ B, v = .pointer (some ⟨B, 0, none⟩)), (6, fun _ => True), (7, fun _ => True)])
    (XM ws.drew x y) (by kernel_rfl) 45 (by kernel_rfl) rfl ?_ XM.congr ?_ ?_ ?_
  · apply Dk.lookup_all (p := fun _ (g : Value → Prop) => ∃ v, g v)
    simp only [List.forall_mem_cons, List.not_mem_nil, false_imp_iff, implies_true, and_true]
    exact ⟨⟨_, rfl⟩, ⟨_, none, 0, none, 0, rfl⟩, ⟨_, rfl⟩, ⟨_, none, 0, none, 0, rfl⟩, ⟨_, 0, rfl⟩, ⟨_, 0, rfl⟩, ⟨undef, trivial⟩, ⟨undef, trivial⟩⟩
  · intro i vs D w v hi hX
    rcases (show i < 4 ∨ 7 < i ∨ i = 4 ∨ i = 5 ∨ i = 6 ∨ i = 7 by omega) with h | h | h | h | h | h
    · exact hX.low (.inl h) (Below.refl _ _) v
    · exact hX.low (.inr h) (Below.refl _ _) v
    all_goals (rw [h] at hi; exact (Option.some_ne_none _ hi).elim)
  · exact ⟨Below.refl _ _, fun _ h => (by cases h), fun _ h => (by cases h), fun _ _ h => (by cases h), fun _ => rfl, fun _ => rfl⟩
  repeat
    first
    | (refine Dv.Chain.make _ rfl rfl rfl (fun vs D wx hx hD hp hv => ?_) (fun vk hvk a' ha => ?_)
       focus
         first
         | (have hh := HBA.out.below hx.bel
            have g0 : wx.cell? ⟨w.heap.size, 0, none⟩ = some (.string (bs a.id)) := hh.cell (i := 0) rfl
            have g1 : wx.cell? ⟨w.heap.size, 1, none⟩ = some (.int .i64 a.mn) := hh.cell (i := 1) rfl
            have g2 : wx.cell? ⟨w.heap.size, 2, none⟩ = some (.int .i64 a.mx) := hh.cell (i := 2) rfl
            have g3 : wx.cell? ⟨w.heap.size, 3, none⟩ = some (.int .i64 a.lv) := hh.cell (i := 3) rfl
            have g4 : wx.cell? ⟨w.heap.size, 4, none⟩ = some (.int .i64 a.sr) := hh.cell (i := 4) rfl
            have g5 : wx.cell? ⟨w.heap.size, 5, none⟩ = some (.int .i64 a.sm) := hh.cell (i := 5) rfl
            have g6 : wx.cell? ⟨w.heap.size, 6, none⟩ = some (.slice A1 a.fs.length c1) := hh.cell (i := 6) rfl
            have g7 : wx.cell? ⟨w.heap.size, 7, none⟩ = some (.slice A2 a.ss.length c2) := hh.cell (i := 7) rfl
            clear hh
            go_simp
            first | exact ⟨rfl, hx.low (.inl (by decide)) (Below.refl _ _) _⟩ | exact hx.low (.inl (by decide)) (Below.refl _ _) _)
         | (have hh := HBB.out.below hx.bel
            have g0 : wx.cell? ⟨w.heap.size + 1, 0, none⟩ = some (.string (bs b.id)) := hh.cell (i := 0) rfl
            have g1 : wx.cell? ⟨w.heap.size + 1, 1, none⟩ = some (.int .i64 b.mn) := hh.cell (i := 1) rfl
            have g2 : wx.cell? ⟨w.heap.size + 1, 2, none⟩ = some (.int .i64 b.mx) := hh.cell (i := 2) rfl
            have g3 : wx.cell? ⟨w.heap.size + 1, 3, none⟩ = some (.int .i64 b.lv) := hh.cell (i := 3) rfl
            have g4 : wx.cell? ⟨w.heap.size + 1, 4, none⟩ = some (.int .i64 b.sr) := hh.cell (i := 4) rfl
            have g5 : wx.cell? ⟨w.heap.size + 1, 5, none⟩ = some (.int .i64 b.sm) := hh.cell (i := 5) rfl
            have g6 : wx.cell? ⟨w.heap.size + 1, 6, none⟩ = some (.slice A3 b.fs.length c3) := hh.cell (i := 6) rfl
            have g7 : wx.cell? ⟨w.heap.size + 1, 7, none⟩ = some (.slice A4 b.ss.length c4) := hh.cell (i := 7) rfl
            clear hh
            go_simp
            first | exact ⟨rfl, hx.low (.inl (by decide)) (Below.refl _ _) _⟩ | exact hx.low (.inl (by decide)) (Below.refl _ _) _)
         | (go_simp
            (first | (with_reducible refine (HMA.out _ (HFA.out.below hx.bel) (HSA.out.below hx.bel)).mono ?_) | (with_reducible refine (HMB.out _ (HFB.out.below hx.bel) (HSB.out.below hx.bel)).mono ?_))
            rintro e w' ⟨fv, sv, rfl, hxf, hxs, hb1⟩
            obtain ⟨X1, d1, rfl, _⟩ := hxf.buf.shape
            obtain ⟨X2, d2, rfl, _⟩ := hxs.buf.shape
            exact ⟨⟨_, _, _, _, rfl⟩, hx.low (.inl (by decide)) hb1 _⟩)
         | (go_simp
            first | exact ⟨_, hx.four hD⟩ | exact hx.four hD | exact hx.five hD)
         | (have h4 := hp 4 (by kernel_rfl)
            have h5 := hp 5 (by kernel_rfl)
            have hv4 := hv 4 _ (by kernel_rfl) rfl
            have hv5 := hv 5 _ (by kernel_rfl) rfl
            obtain ⟨hN, g2, g3⟩ := hx.fst _ h4 hv4
            have hz := g2 hD
            obtain ⟨z0, zi, z6, z7, zf⟩ := MZ_cell hz
            have z1 := zi 1 (by omega) (by omega)
            have z2 := zi 2 (by omega) (by omega)
            have z3 := zi 3 (by omega) (by omega)
            have z4 := zi 4 (by omega) (by omega)
            have z5 := zi 5 (by omega) (by omega)
            clear zi
            go_simp
            first | exact ⟨undef, hx.six h4 h5 hv4 hv5 ⟨_, _, _, _, set8_at hz⟩⟩)
         | (have h4 := hp 4 (by kernel_rfl)
            have h5 := hp 5 (by kernel_rfl)
            have hv4 := hv 4 _ (by kernel_rfl) rfl
            have hv5 := hv 5 _ (by kernel_rfl) rfl
            obtain ⟨hN, g2, g3⟩ := hx.snd _ h5 hv5
            have hz := g2 hD
            obtain ⟨z0, zi, z6, z7, zf⟩ := MZ_cell hz
            have z1 := zi 1 (by omega) (by omega)
            have z2 := zi 2 (by omega) (by omega)
            have z3 := zi 3 (by omega) (by omega)
            have z4 := zi 4 (by omega) (by omega)
            have z5 := zi 5 (by omega) (by omega)
            clear zi
            go_simp
            first | exact ⟨undef, hx.seven h4 h5 (hp 6 (by kernel_rfl)) hv4 hv5 ⟨_, _, _, _, set8_at hz⟩⟩)
       simp only [Act.put, List.setIfInBounds_toArray, List.set_cons_succ, List.set_cons_zero] at ha
       subst ha
       (first | (obtain ⟨X1, d1, X2, d2, rfl⟩ := hvk) | (obtain ⟨P4, rfl⟩ := hvk) | (subst hvk) | skip))
  refine Dv.Chain.end_ (fun vs D w9 hDD hX hv => ?_)
  have hv4 := hv 4 _ rfl
  have hv5 := hv 5 _ rfl
  obtain ⟨_, _, gx⟩ := hX.fst _ (hDD 4 (by decide)) hv4
  obtain ⟨_, _, gy⟩ := hX.snd _ (hDD 5 (by decide)) hv5
  have hbl := below_trans HLOW.out hX.bel
  obtain ⟨FX, fx, GX, gx, hmx⟩ := gx (hDD 6 (by decide))
  obtain ⟨FY, fy, GY, gy, hmy⟩ := gy (hDD 7 (by decide))
  have HX := Lib.hid hmx
  have HY := Lib.hid hmy
  have HBL := Lib.hid hbl
  clear hmx hmy hbl hv4 hv5 hX hv hDD
  have hwr := HWR.out
  go_upto_region 2 with fail
  refine wp_region_known [(0, .bool true), (2, .agg #[.string (bs x.id), .int .i64 x.mn, .int .i64 x.mx, .int .i64 x.lv, .int .i64 x.sr, .int .i64 x.sm, .slice FX x.fs.length fx, .slice GX x.ss.length gx]), (4, .int .i64 y.mn), (6, .int .i64 y.mx), (7, .bool bb), (8, .agg #[.string (bs y.id), .int .i64 y.mn, .int .i64 y.mx, .int .i64 y.lv, .int .i64 y.sr, .int .i64 y.sm, .slice FY y.fs.length fy, .slice GY y.ss.length gy]), (10, .int .i64 x.mn), (12, .int .i64 x.mx), (13, .bool bb), (17, .agg #[.string (bs x.id), .int .i64 x.mn, .int .i64 x.mx, .int .i64 x.lv, .int .i64 x.sr, .int .i64 x.sm, .slice FX x.fs.length fx, .slice GX x.ss.length gx]), (19, .int .i64 x.mn), (21, .int .i64 x.mx), (22, .bool true), (25, .agg #[.string (bs x.id), .int .i64 x.mn, .int .i64 x.mx, .int .i64 x.lv, .int .i64 x.sr, .int .i64 x.sm, .slice FX x.fs.length fx, .slice GX x.ss.length gx]), (27, .int .i64 x.mx), (29, .int .i64 x.mx), (31, .bool false)] (by kernel_rfl) 45 (by kernel_rfl) rfl ?_
  repeat (first
    | (refine Chain.step (v := ?_) (a' := ?_) rfl rfl rfl ?_ ?_ ?_
       rotate_left 2
       focus (intro w; go_simp; try with_reducible rfl)
       focus (simp only [Act.put, List.setIfInBounds_toArray, List.set_cons_succ, List.set_cons_zero]; try rfl))
    | (refine Chain.call (a' := ?_) _ rfl rfl rfl (fun wx hw => ?_) ?_ ?_
       rotate_left 1
       focus
         first
         | (go_simp; (with_reducible refine (awake9_any _).mono ?_); exact (fun e w' ⟨h1, h2⟩ => by subst h1; exact ⟨rfl, h2⟩))
         | (go_simp; (with_reducible refine (K1.out _ _ _).mono ?_); exact (fun e w' ⟨h1, h2⟩ => by subst h1; exact ⟨rfl, h2⟩))
         | (go_simp; (with_reducible refine (K2.out _ _ _).mono ?_); exact (fun e w' ⟨h1, h2⟩ => by subst h1; exact ⟨rfl, h2⟩))
         | (go_simp; (with_reducible refine (K3.out _ _ _).mono ?_); exact (fun e w' ⟨h1, h2⟩ => by subst h1; exact ⟨rfl, h2⟩))
         | (go_simp; (with_reducible refine (K4.out _ _ _).mono ?_); exact (fun e w' ⟨h1, h2⟩ => by subst h1; exact ⟨rfl, h2⟩))
         | (have hh := HX.out.below hw
            have g0 := hh.cell (i := 0) (u := .string (bs x.id)) rfl
            have g1 := hh.cell (i := 1) (u := .int .i64 x.mn) rfl
            have g2 := hh.cell (i := 2) (u := .int .i64 x.mx) rfl
            have g3 := hh.cell (i := 3) (u := .int .i64 x.lv) rfl
            have g4 := hh.cell (i := 4) (u := .int .i64 x.sr) rfl
            have g5 := hh.cell (i := 5) (u := .int .i64 x.sm) rfl
            have g6 := hh.cell (i := 6) (u := .slice FX x.fs.length fx) rfl
            have g7 := hh.cell (i := 7) (u := .slice GX x.ss.length gx) rfl
            clear hh
            go_simp
            first | exact ⟨rfl, Below.refl _ _⟩ | exact Below.refl _ _)
         | (have hh := HY.out.below hw
            have g0 := hh.cell (i := 0) (u := .string (bs y.id)) rfl
            have g1 := hh.cell (i := 1) (u := .int .i64 y.mn) rfl
            have g2 := hh.cell (i := 2) (u := .int .i64 y.mx) rfl
            have g3 := hh.cell (i := 3) (u := .int .i64 y.lv) rfl
            have g4 := hh.cell (i := 4) (u := .int .i64 y.sr) rfl
            have g5 := hh.cell (i := 5) (u := .int .i64 y.sm) rfl
            have g6 := hh.cell (i := 6) (u := .slice FY y.fs.length fy) rfl
            have g7 := hh.cell (i := 7) (u := .slice GY y.ss.length gy) rfl
            clear hh
            go_simp
            first | exact ⟨rfl, Below.refl _ _⟩ | exact Below.refl _ _)
       focus (simp only [Act.put, List.setIfInBounds_toArray, List.set_cons_succ, List.set_cons_zero]; try rfl)))
  refine Chain.end_ (fun wz hwz _ => ?_)
  go_wp2_with fail
  go_ret
  exact ⟨rfl, below_trans HBL.out hwz⟩

theorem metaMeets_walk0 (v : Value) (x : Mt × Value × Value) (u : Value) (y : Mt × Value × Value) (w : World) (hx : MetaArg w v x) (hy : MetaArg w u y) :
    Calls Try.prog 3 #[v, u] w (RetBelow w (.bool true)) := by
  obtain ⟨a, fa, sa⟩ := x
  obtain ⟨b, fb, sb⟩ := y
  obtain ⟨rfl, ha⟩ := hx
  obtain ⟨rfl, hb⟩ := hy
  exact metaMeets_walk1 a b fa sa fb sb w ha hb

set_option maxRecDepth 100000 in
theorem metaMeets_lifted (os : Os) (started : os.Started) (H : Type) (enc : TypeId × Value → H) :
    ReturnsInHanded {} Try.checked os 3 .any (Rows.metaMeetsSpec.pre6 enc Try.prog Try.f3 Rows.metaMeetsRow.domain false) (Rows.metaMeetsSpec.post enc Try.prog Try.f3 false true false false) := by
  refine returnsInHanded_of_change_sized (C := Try.checked) law_own started (by kernel_rfl) Try.func3
    (ChangeSpec.witness6 (enc := enc) (C := Try.checked) false ⟨#[], #[.agg #[.string ByteArray.empty, .int .i64 0, .int .i64 0, .int .i64 0, .int .i64 0, .int .i64 0, .slice none 0 0, .slice none 0 0], .agg #[.string ByteArray.empty, .int .i64 0, .int .i64 0, .int .i64 0, .int .i64 0, .int .i64 0, .slice none 0 0, .slice none 0 0]], []⟩ 8 (by kernel_rfl) (by kernel_rfl) (by kernel_rfl) (by kernel_rfl)) ?_
  intro W base args ds gs before hval0 hW _ hsz0 _
  have hval : ∀ (j : Nat) t v, Try.f3.params[j]? = some t → args[j]? = some v → Value.okWide Try.prog W .any base t v := hval0
  have hsz : (DataW.weightsEach Try.prog (Try.f3.params.toList ++ Rows.metaMeetsSpec.plain.varTypes Try.prog) (ds ++ gs)).all (· ≤ reachBytes) = true := hsz0
  have hW' := hW
  obtain ⟨p, q, hA0, hV, rfl, _, _⟩ := hW
  have hA : DataW.TrodAll enc Try.prog W 0 (fun _ => true) true Try.f3.params.toList args.toList ds p := hA0
  rw [Try.params3] at hA hval hsz
  obtain ⟨v0, vs0, d0, ds0, p0, q0, hargs, rfl, rfl, h0, r0⟩ := trodAll_cons hA
  obtain ⟨v1, vs1, d1, ds1, p1, q1, rfl, rfl, rfl, h1, r1⟩ := trodAll_cons r0
  obtain ⟨rfl, rfl, rfl⟩ := trodAll_nil r1
  obtain rfl : args = #[v0, v1] := by cases args; simp_all
  obtain ⟨rfl, rfl⟩ := trodVars_none hV
  obtain ⟨ts0, hts0⟩ := open_metaV (hval 0 25 v0 rfl rfl) h0
  obtain ⟨ts1, hts1⟩ := open_metaV (hval 1 25 v1 rfl rfl) h1
  refine (metaMeets_walk0 v0 ts0 v1 ts1 W hts0 hts1).mono fun e W' ⟨he, hb⟩ => ?_
  subst he
  exact ⟨_, rfl, law_post law_laid (by intro t ht; rw [Try.params3] at ht; simp only [List.mem_cons, List.not_mem_nil, or_false] at ht; rcases ht with rfl | rfl <;> exact ⟨by kernel_rfl, of_decide_eq_true (by kernel_rfl)⟩) rfl Try.underlying4 rfl rfl hW' hb⟩

theorem metaMeets_holds : Rows.MetaMeetsSaid :=
  OpenClaim.holds_of_wide 3 Try.f3 rfl rfl rfl rfl rfl rfl rfl ⟨rfl, rfl, rfl, rfl, rfl⟩ rfl rfl rfl rfl rfl (by kernel_rfl) Try.func3 (by kernel_rfl)
    (of_decide_eq_true (by kernel_rfl)) (by unfold Func.isWrapper; first | (rw [if_pos (by decide +kernel)]; kernel_rfl) | (rw [if_neg (by decide +kernel)]; exact ⟨rfl, rfl⟩))
    (fun os started H enc _ => metaMeets_lifted os started H enc)

end Go.Proofs.Ytdmhjejjgcfplaa
