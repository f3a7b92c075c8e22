/-
  Layer 7: the walks of the eye that takes samples, and of Samples.
-/
import Derived.Test.YtgabmfibfikdbaaGreatDoorZXorB

set_option maxHeartbeats 32000000
set_option maxRecDepth 10000
namespace Go.Proofs.YtgabmfibfikdbaaGreatDoor
open Go.RowKit Go.Bar Go.Bar.Bit Go.Bar.Leb Go.Bar.Xor

def eyc (X : Nat) (y : Ey) : List Value := [.pointer (some ⟨X, 0, none⟩), .int .i64 y.t, .int .u64 (y.v : Nat), .int .i64 y.step, .int .i64 (y.lead : Nat), .int .i64 (y.wide : Nat)]
structure YC (w : World) (Y X : Nat) (y : Ey) : Prop where
  cell : ∀ i u, (eyc X y)[i]? = some u -> w.cell? ⟨Y, i, none⟩ = some u
  free : ∀ i, i < 6 -> w.frozen? ⟨Y, i, none⟩ = false
def EyS (Y X k _i : Nat) : Prop := k = X \/ k = Y
structure EyAt (w : World) (Y X : Nat) (L : List Bool) (y : Ey) : Prop where
  eye : EyeAt w X 0 L y.p y.e
  yc : YC w Y X y
  ne : X ≠ Y
structure EyCh (w : World) (Y X : Nat) (L : List Bool) (w' : World) (y : Ey) : Prop where
  at_ : EyAt w' Y X L y
  fr : Fr (EyS Y X) w w'
def EyTo (w : World) (Y X : Nat) (L : List Bool) (v : Value) (y : Ey) (en : Ending) (w' : World) : Prop := en = .returned v /\ EyCh w Y X L w' y

section
variable {w w' w'' : World} {Y X : Nat} {L : List Bool} {y y' : Ey}
theorem eyc_len (X : Nat) (y : Ey) : (eyc X y).length = 6 := rfl
theorem eyc_some (X : Nat) (y : Ey) {i : Nat} (hi : i < 6) : ∃ u, (eyc X y)[i]? = some u := ⟨_, List.getElem?_eq_getElem (by rw [eyc_len]; exact hi)⟩
theorem YC.keep (h : YC w Y X y) {S : Nat -> Nat -> Prop} (hf : Fr S w w') (h1 : ∀ i, ¬ S Y i) : YC w' Y X y :=
  ⟨fun i u hu => hf.cell (h.cell i u hu) (h1 _), fun i hi => by obtain ⟨u, hu⟩ := eyc_some X y hi; exact hf.free (h.cell i u hu) (h.free i hi)⟩
theorem YC.below (h : YC w Y X y) (hb : Below w.heap.size w w') : YC w' Y X y := h.keep (Fr.of_below (S := fun _ _ => False) hb) (fun _ => id)
theorem YC.pe (h : YC w Y X y) (p e : Nat) : YC w Y X { y with p := p, e := e } := ⟨h.cell, h.free⟩
theorem YC.set (h : YC w Y X y) (i : Nat) (hi : i < 6) (u : Value) (hc : eyc X y' = (eyc X y).set i u) : YC (w.setCell ⟨Y, i, none⟩ u) Y X y' := by
  have hf : Fr (fun k j => k = Y /\ j = i) w (w.setCell ⟨Y, i, none⟩ u) := (Fr.refl _ _).setCell (fun _ => ⟨rfl, rfl⟩) _
  obtain ⟨u0, hu0⟩ := eyc_some X y hi
  refine ⟨fun j x hx => ?_, fun j hj => by obtain ⟨y, hy⟩ := eyc_some X y hj; exact hf.free (h.cell j y hy) (h.free j hj)⟩
  rw [hc] at hx
  by_cases hij : j = i
  · subst hij
    rw [List.getElem?_set_self (by rw [eyc_len]; exact hi)] at hx
    injection hx with hx
    subst hx
    rw [World.cell?_setCell_same w _ _ (h.cell j u0 hu0)]
  · rw [List.getElem?_set_ne (fun e => hij e.symm)] at hx
    exact hf.cell (h.cell j x hx) (fun e => hij e.2)
theorem EyeAt.below {o p e : Nat} (h : EyeAt w X o L p e) (hb : Below w.heap.size w w') : EyeAt w' X o L p e := h.keep (Fr.of_below (S := fun _ _ => False) hb) (fun _ _ _ => id)
theorem EyeAt.set_other {o p e : Nat} (h : EyeAt w X o L p e) (hne : X ≠ Y) (i : Nat) (u : Value) : EyeAt (w.setCell ⟨Y, i, none⟩ u) X o L p e :=
  have hf : Fr (fun k _ => k = Y) w (w.setCell ⟨Y, i, none⟩ u) := Fr.setCell (S := fun k _ => k = Y) (Fr.refl _ _) (fun _ => rfl) _
  h.keep hf (fun _ _ _ hh => hne hh)
theorem EyAt.below (h : EyAt w Y X L y) (hb : Below w.heap.size w w') : EyAt w' Y X L y := ⟨h.eye.below hb, h.yc.below hb, h.ne⟩
theorem EyCh.refl (h : EyAt w Y X L y) : EyCh w Y X L w y := ⟨h, Fr.refl _ _⟩
theorem EyCh.below (h : EyCh w Y X L w' y) (hb : Below w'.heap.size w' w'') : EyCh w Y X L w'' y := ⟨h.at_.below hb, h.fr.then_below hb⟩
theorem EyCh.after (hb : Below w.heap.size w w') (h : EyCh w' Y X L w'' y) : EyCh w Y X L w'' y := ⟨h.at_, (Fr.of_below hb).trans' h.fr (fun _ _ _ hS => hS)⟩
theorem EyCh.eye (h : EyCh w Y X L w' y) {v : Value} {p e : Nat} {en : Ending} (hto : EyeTo w' X 0 L v p e en w'') : en = .returned v /\ EyCh w Y X L w'' { y with p := p, e := e } := by
  obtain ⟨he, ha, hf⟩ := hto
  exact ⟨he, ⟨ha, (h.at_.yc.pe p e).keep hf (fun i hS => h.at_.ne hS.1.symm), h.at_.ne⟩, h.fr.trans' hf (fun k i _ hS => .inl hS.1)⟩
theorem EyCh.step (h : EyCh w Y X L w' y) {v : Value} {en : Ending} (hto : EyTo w' Y X L v y' en w'') : en = .returned v /\ EyCh w Y X L w'' y' := by
  obtain ⟨he, ha, hf⟩ := hto
  exact ⟨he, ha, h.fr.trans hf⟩
theorem EyCh.set (h : EyCh w Y X L w' y) (i : Nat) (hi : i < 6) (u : Value) (hp : y'.p = y.p) (he : y'.e = y.e) (hc : eyc X y' = (eyc X y).set i u) : EyCh w Y X L (w'.setCell ⟨Y, i, none⟩ u) y' :=
  ⟨⟨by rw [hp, he]; exact h.at_.eye.set_other h.at_.ne i u, h.at_.yc.set i hi u hc, h.at_.ne⟩, h.fr.setCell (fun _ => .inr rfl) _⟩
end

theorem widths_fr {w w' : World} {S : Nat -> Nat -> Prop} (h : WidthsAt w) (hf : Fr S w w') (hS : ∀ i, ¬ S 1 i) : WidthsAt w' := ⟨fun k hk => hf.cell (h.c k hk) (hS k)⟩

theorem eyTime_any (Y X : Nat) (L : List Bool) (y : Ey) (w : World) (h : EyAt w Y X L y) (hW : WidthsAt w) (hX : X ≠ 1) (hY : Y ≠ 1) (hn : L.length < 100000000000)
    (_ : -9223372036854775808 <= y.step /\ y.step <= 9223372036854775807) (_ : -9223372036854775808 <= y.t /\ y.t <= 9223372036854775807) :
    Calls Tryz.prog 105 #[.pointer (some ⟨Y, 0, none⟩)] w (EyTo w Y X L (.int .i64 (timeR L y).1) (timeR L y).2) := by
  have hne := h.ne
  have hrun := run_le L 4 y.p
  obtain ⟨k, p1, e1, hu⟩ : ∃ k p e, eyeUnary L y.p y.e 4 = (k, p, e) := ⟨_, _, _, rfl⟩
  have hk : k <= 4 := by
    have : (eyeUnary L y.p y.e 4).1 <= 4 := by
      unfold eyeUnary
      split
      · exact Nat.zero_le _
      · split
        · exact Nat.le_refl _
        · split
          · exact hrun
          · exact Nat.zero_le _
    rw [hu] at this; exact this
  obtain ⟨U, p2, e2, hb⟩ : ∃ a p e, eyeBits L p1 e1 (wd k : Nat) = (a, p, e) := ⟨_, _, _, rfl⟩
  have hU : U < 18446744073709551616 := by
    have := eyeBits_lt L p1 e1 (wd k : Nat)
    rw [hb, clip_nat _ (wd_le _)] at this
    exact Nat.lt_of_lt_of_le this (Nat.pow_le_pow_right (n := 2) (by omega) (wd_le k))
  have c1 : ∀ w (ha : EyeAt w X 0 L y.p y.e), Calls Tryz.prog 123 #[.pointer (some ⟨X, 0, none⟩), .int .i64 4] w (EyeTo w X 0 L (.int .i64 (k : Nat)) p1 e1) := fun w ha => by
    have := eyeUnary_any X 0 L y.p y.e 4 w ha hn (by omega)
    rw [hu] at this
    exact this
  have c2 : ∀ w (ha : EyeAt w X 0 L p1 e1), Calls Tryz.prog 103 #[.pointer (some ⟨X, 0, none⟩), .int .i64 (wd k : Nat)] w (EyeTo w X 0 L (.int .u64 (U : Nat)) p2 e2) := fun w ha => by
    have := eyeBits_any X 0 L p1 e1 (wd k : Nat) w ha hn (by omega) (by have := wd_le k; omega)
    rw [hb] at this
    exact this
  have c3 := fun w => zag_any U w hU
  obtain ⟨G, hG⟩ : ∃ G, G = unfold U := ⟨_, rfl⟩
  have hGr := unfold_rg U hU
  rw [<- hG] at c3 hGr
  obtain ⟨S, hS⟩ : ∃ S, S = IntKind.i64.wrap (y.step + G) := ⟨_, rfl⟩
  have hw64 : ∀ z, wrap64 z = IntKind.i64.wrap z := fun z => by rw [IntKind.wrap_i64]; unfold wrap64; omega
  have hSr : -9223372036854775808 <= S /\ S <= 9223372036854775807 := by rw [hS, IntKind.wrap_i64]; omega
  obtain ⟨T, hT⟩ : ∃ T, T = IntKind.i64.wrap (y.t + S) := ⟨_, rfl⟩
  have HE := Lib.hid (show timeR L y = (T, { y with p := p2, e := e2, step := S }) by
    unfold timeR
    rw [hu]
    simp only
    rw [hb]
    simp only
    rw [<- hG, hw64, hw64, <- hS, <- hT])
  have HC1 := Lib.hid c1
  have HC2 := Lib.hid c2
  have HC3 := Lib.hid c3
  have HH := Lib.hid (EyCh.refl h)
  have HSE := Lib.hid hS.symm
  have HTE := Lib.hid hT.symm
  clear c1 c2 c3 hw64 hT hS hG hb hu hU hrun h
  obtain ⟨TV, hTV⟩ : ∃ TV, TV = (timeR L y).1 := ⟨_, rfl⟩
  obtain ⟨TY, hTY⟩ : ∃ TV, TV = (timeR L y).2 := ⟨_, rfl⟩
  rw [<- hTV, <- hTY]
  have HTV := Lib.hid (show TV = T by rw [hTV, HE.out])
  have HTY := Lib.hid (show TY = { y with p := p2, e := e2, step := S } by rw [hTY, HE.out])
  clear hTV hTY HE
  have c0 : w.cell? ⟨Y, 0, none⟩ = some (.pointer (some ⟨X, 0, none⟩)) := HH.out.at_.yc.cell 0 _ rfl
  go_enter Tryz.func105, Tryz.ntmps105
  go_wp2_with fail
  refine (HC1.out _ HH.out.at_.eye).mono ?_
  intro e w1 hto
  obtain ⟨rfl, h1⟩ := HH.out.eye hto
  have HW1 := Lib.hid (widths_fr hW h1.fr (fun i hh => hh.elim (fun h => hX h.symm) (fun h => hY h.symm)))
  have H1 := Lib.hid h1
  have hwb : wd k <= 64 := wd_le k
  clear hto h1 c0
  go_upto_region 2 with fail
  have hSe := HSE.out
  have hz0 : (0 : Int) <= (k : Int) := by omega
  have hz1 : (k : Int) < 5 := by omega
  refine Dn.wp_region_states [(3, .int .i64 y.step), (7, .pointer (some ⟨X, 0, none⟩)), (10, .int .i64 (wd k : Nat)), (11, .int .u64 (U : Nat)), (12, .int .i64 G), (16, undef)]
    (fun D w' => Cl 16 D /\ Fr (EyS Y X) w w' /\ Sw 11 (fun w' => EyeAt w' X 0 L p1 e1) (fun w' => EyeAt w' X 0 L p2 e2) D w' /\ Sw 16 (fun w' => YC w' Y X y) (fun w' => YC w' Y X { y with step := S }) D w') (by kernel_rfl) 35 (by kernel_rfl) rfl
    (fun i D w' hi hx => ⟨hx.1.upd (lookup_ne' rfl hi), hx.2.1, hx.2.2.1.same (lookup_ne' rfl hi), hx.2.2.2.same (lookup_ne' rfl hi)⟩)
    ⟨Cl.start, H1.out.fr.then_below (Below.refl _ _).drew, Sw.start (H1.out.at_.eye.below (Below.refl _ _).drew), Sw.start ((H1.out.at_.yc.pe y.p y.e).below (Below.refl _ _).drew)⟩ ?_
  repeat (first
    | (refine Dn.Chain.step (v := ?_) (a' := ?_) rfl rfl rfl ?_ ?_ ?_; rotate_left 2; (focus (intro w; go_simp; try with_reducible rfl)); focus (simp only [Act.put, pqA, pqS, pqZ]; try rfl))
    | (refine Dn.Chain.call (a' := ?_) _ rfl rfl rfl (fun D wx hx hD hp => ?_) ?_ ?_
       rotate_left 1
       focus
         first
         | (obtain ⟨hcl, hf, hs1, hs2⟩ := hx
            have hyc := hs2.1 (hcl.no hD (by decide))
            have y3 : wx.cell? ⟨Y, 3, none⟩ = some (.int .i64 y.step) := hyc.cell 3 _ rfl
            have y0 : wx.cell? ⟨Y, 0, none⟩ = some (.pointer (some ⟨X, 0, none⟩)) := hyc.cell 0 _ rfl
            have y1 : wx.cell? ⟨1, k, none⟩ = some (.int .i64 (wd k : Nat)) := (widths_fr hW hf (fun i hh => hh.elim (fun h => hX h.symm) (fun h => hY h.symm))).c k hk
            go_simp
            (repeat' (with_reducible apply And.intro)) <;> first | exact rfl | exact hcl.upd (by decide) | exact hf | exact hs1.same (by decide) | exact hs2.same (by decide))
         | (obtain ⟨hcl, hf, hs1, hs2⟩ := hx
            go_simp
            (with_reducible refine (HC3.out _).mono ?_)
            rintro e w' ⟨rfl, rfl⟩
            exact ⟨rfl, hcl.upd (by decide), hf, hs1.same (by decide), hs2.same (by decide)⟩)
         | (obtain ⟨hcl, hf, hs1, hs2⟩ := hx
            have hcn := hcl.no hD (by decide)
            have hyc := hs2.1 hcn
            have he1 := hs1.1 hD
            go_simp
            (with_reducible refine (HC2.out _ he1).mono ?_)
            intro e w3 hto
            obtain ⟨rfl, ha, hf2⟩ := hto
            have hyk : YC w3 Y X y := hyc.keep hf2 (fun i hh => hne hh.1.symm)
            exact ⟨rfl, hcl.upd (by decide), hf.trans' hf2 (fun k i _ hh => .inl hh.1), Sw.done ha, ⟨fun _ => hyk, fun g => (by rw [Dn.upd_ne D (show (16 : Nat) ≠ 11 by decide), hcn] at g; cases g)⟩⟩)
         | (obtain ⟨hcl, hf, hs1, hs2⟩ := hx
            have hall := pre_all hp (by kernel_rfl)
            have hyc := hs2.1 hD
            have y3 : wx.cell? ⟨Y, 3, none⟩ = some (.int .i64 y.step) := hyc.cell 3 _ rfl
            have f3 := hyc.free 3 (by omega)
            have hy2 : YC (wx.setCell ⟨Y, 3, none⟩ (.int .i64 S)) Y X { y with step := S } := hyc.set 3 (by omega) _ rfl
            have hf3 : Fr (EyS Y X) w (wx.setCell ⟨Y, 3, none⟩ (.int .i64 S)) := hf.setCell (fun _ => .inr rfl) _
            have he3 := (hs1.2 (hall 11 (by omega))).set_other hne 3 (.int .i64 S)
            go_simp
            (repeat' (with_reducible apply And.intro)) <;> first | exact rfl | exact Cl.last hall | exact hf3 | exact ⟨fun g => (by rw [Dn.upd_ne D (show (11 : Nat) ≠ 16 by decide), hall 11 (by omega)] at g; cases g), fun _ => he3⟩ | exact Sw.done hy2)
       focus (simp only [Act.put, pqA, pqS, pqZ]; try rfl))
    | (refine Dn.Chain.skip (a' := ?_) rfl rfl rfl ?_ ?_; rotate_left 1; focus (simp only [Act.put, pqA, pqS, pqZ]; try rfl)))
  refine Dn.Chain.end_ (fun D w2 hDD hx => ?_)
  obtain ⟨_, hf, hs1, hs2⟩ := hx
  have he2 := hs1.2 (hDD 11 (by decide))
  have hy2 := hs2.2 (hDD 16 (by decide))
  have c3 : w2.cell? ⟨Y, 3, none⟩ = some (.int .i64 S) := hy2.cell 3 _ rfl
  have c1 : w2.cell? ⟨Y, 1, none⟩ = some (.int .i64 y.t) := hy2.cell 1 _ rfl
  have H2 := Lib.hid (show EyCh w Y X L w2 { y with p := p2, e := e2, step := S } from ⟨⟨he2, hy2.pe p2 e2, hne⟩, hf⟩)
  clear hf hs1 hs2 he2 hy2 hDD hSe
  go_upto_region 3 with fail
  have hTe := HTE.out
  clear c3 c1
  refine wp_region_known [(4, .int .i64 y.t), (8, .int .i64 S)] (by kernel_rfl) 35 (by kernel_rfl) rfl ?_
  repeat (first
    | (refine Chain.step (v := ?_) (a' := ?_) rfl rfl rfl ?_ ?_ ?_; rotate_left 2; (focus (intro w; go_simp; try with_reducible rfl)); focus (simp only [Act.put, pqA, pqS, pqZ]; try rfl))
    | (refine Chain.call (a' := ?_) _ rfl rfl rfl (fun wx hw => ?_) ?_ ?_
       rotate_left 1
       focus
         first
         | (have y1 : wx.cell? ⟨Y, 1, none⟩ = some (.int .i64 y.t) := (H2.out.below hw).at_.yc.cell 1 _ rfl
            have y3 : wx.cell? ⟨Y, 3, none⟩ = some (.int .i64 S) := (H2.out.below hw).at_.yc.cell 3 _ rfl
            go_simp
            first | exact ⟨rfl, Below.refl _ _⟩ | exact Below.refl _ _)
       focus (simp only [Act.put, pqA, pqS, pqZ]; try rfl))
    | (refine Chain.skip (a' := ?_) rfl rfl rfl ?_ ?_; rotate_left 1; focus (simp only [Act.put, pqA, pqS, pqZ]; try rfl)))
  refine Chain.end_ (fun wz hwz _ => ?_)
  have H3 := Lib.hid (H2.out.below hwz)
  clear hwz
  go_wp2_with fail
  go_ret
  exact ⟨by rw [HTV.out]; rfl, by rw [HTY.out]; exact H3.out⟩

theorem eyeBits_le (L : List Bool) (p e : Nat) (n : Int) (m : Nat) (h : clip n = m) : (eyeBits L p e n).1 < 2 ^ m := by rw [<- h]; exact eyeBits_lt L p e n
theorem eyBit_of {L : List Bool} {p e x p1 e1 : Nat} {b : Bool} (hb : eyeBit L p e = (b, p1, e1)) (hn : L.length < 100000000000) (_hx : x = x) (X : Nat) (w : World) (ha : EyeAt w X 0 L p e) :
    Calls Tryz.prog 122 #[.pointer (some ⟨X, 0, none⟩)] w (EyeTo w X 0 L (.bool b) p1 e1) := by
  have := eyeBit_any X 0 L p e w ha hn
  rw [hb] at this
  exact this
theorem eyBits_of {L : List Bool} {p e v p1 e1 : Nat} {n : Int} (hb : eyeBits L p e n = (v, p1, e1)) (hn : L.length < 100000000000) (h1 : -9223372036854775808 <= n) (h2 : n <= 9223372036854775807) (X : Nat) (w : World) (ha : EyeAt w X 0 L p e) :
    Calls Tryz.prog 103 #[.pointer (some ⟨X, 0, none⟩), .int .i64 n] w (EyeTo w X 0 L (.int .u64 (v : Nat)) p1 e1) := by
  have := eyeBits_any X 0 L p e n w ha hn h1 h2
  rw [hb] at this
  exact this

def EyTo2 (w : World) (Y X : Nat) (L : List Bool) (r : Nat × Nat × Ey) (en : Ending) (w' : World) : Prop := en = .returned (.tuple #[.int .u64 (r.1 : Nat), .int .i64 (r.2.1 : Nat)]) /\ EyCh w Y X L w' r.2.2

theorem eyValue_no (Y X : Nat) (L : List Bool) (y : Ey) (w : World) (h : EyAt w Y X L y) (hn : L.length < 100000000000) (hb : (eyeBit L y.p y.e).1 = false) :
    Calls Tryz.prog 106 #[.pointer (some ⟨Y, 0, none⟩)] w (EyTo2 w Y X L (valR L y)) := by
  obtain ⟨b, p1, e1, hb1⟩ : ∃ b p e, eyeBit L y.p y.e = (b, p, e) := ⟨_, _, _, rfl⟩
  rw [hb1] at hb
  simp only at hb
  subst hb
  have HV := Lib.hid (show valR L y = (y.v, 0, { y with p := p1, e := e1 }) by unfold valR; rw [hb1]; simp)
  have HB := Lib.hid (fun w ha => eyBit_of hb1 hn (x := 0) rfl X w ha)
  have HH := Lib.hid (EyCh.refl h)
  obtain ⟨R, hR⟩ : ∃ R, R = valR L y := ⟨_, rfl⟩
  rw [<- hR] at HV ⊢
  have c0 : w.cell? ⟨Y, 0, none⟩ = some (.pointer (some ⟨X, 0, none⟩)) := h.yc.cell 0 _ rfl
  clear hb1 h hR
  go_enter Tryz.func106, Tryz.ntmps106
  go_wp2_with fail
  refine (HB.out _ HH.out.at_.eye).mono ?_
  intro e w1 hto
  obtain ⟨rfl, h1⟩ := HH.out.eye hto
  have c2 : w1.cell? ⟨Y, 2, none⟩ = some (.int .u64 (y.v : Nat)) := h1.at_.yc.cell 2 _ rfl
  have H1 := Lib.hid h1
  clear hto h1 c0
  go_wp2_with fail
  go_ret2
  exact ⟨by rw [HV.out]; rfl, by rw [HV.out]; exact H1.out⟩

theorem eyValue_yes (Y X : Nat) (L : List Bool) (y : Ey) (w : World) (h : EyAt w Y X L y) (hn : L.length < 100000000000) (hv : y.v < 18446744073709551616) (hl : y.lead < 64) (hw : y.wide <= 64) (hb : (eyeBit L y.p y.e).1 = true) :
    Calls Tryz.prog 106 #[.pointer (some ⟨Y, 0, none⟩)] w (EyTo2 w Y X L (valR L y)) := by
  obtain ⟨b, p1, e1, hb1⟩ : ∃ b p e, eyeBit L y.p y.e = (b, p, e) := ⟨_, _, _, rfl⟩
  rw [hb1] at hb
  simp only at hb
  subst hb
  obtain ⟨b2, p2, e2, hb2⟩ : ∃ b p e, eyeBit L p1 e1 = (b, p, e) := ⟨_, _, _, rfl⟩
  obtain ⟨ld, p3, e3, hb3⟩ : ∃ v p e, eyeBits L p2 e2 6 = (v, p, e) := ⟨_, _, _, rfl⟩
  obtain ⟨wi, p4, e4, hb4⟩ : ∃ v p e, eyeBits L p3 e3 6 = (v, p, e) := ⟨_, _, _, rfl⟩
  have hld : ld < 64 := by have := eyeBits_le L p2 e2 6 6 rfl; rw [hb3] at this; exact this
  have hwi : wi < 64 := by have := eyeBits_le L p3 e3 6 6 rfl; rw [hb4] at this; exact this
  obtain ⟨y2, hy2⟩ : ∃ y2 : Ey, y2 = if b2 = true then { y with p := p4, e := e4, lead := ld, wide := wi + 1 } else { y with p := p2, e := e2 } := ⟨_, rfl⟩
  have h2l : y2.lead < 64 := by rw [hy2]; split <;> assumption
  have h2w : y2.wide <= 64 := by rw [hy2]; split; exact hwi; exact hw
  have h2v : y2.v = y.v := by rw [hy2]; split <;> rfl
  obtain ⟨f, p5, e5, hb5⟩ : ∃ v p e, eyeBits L y2.p y2.e (y2.wide : Nat) = (v, p, e) := ⟨_, _, _, rfl⟩
  have hf : f < 2 ^ y2.wide := by have := eyeBits_le L y2.p y2.e (y2.wide : Nat) y2.wide (clip_nat _ h2w); rw [hb5] at this; exact this
  have HV := Lib.hid (show valR L y = inR L y2 by
    unfold valR
    rw [hb1]
    simp only
    rw [if_neg (by decide), hb2]
    simp only
    rw [hy2]
    cases b2
    · simp
    · simp only [if_true]
      unfold winR
      rw [hb3]
      simp only
      rw [hb4])
  have HI := Lib.hid (show inR L y2 = if y2.wide = 0 \/ 64 < y2.lead + y2.wide then (0, 3, y2) else (y2.v ^^^ (f * 2 ^ (64 - y2.lead - y2.wide)), 0, { y2 with p := p5, e := e5 }) by unfold inR; rw [hb5])
  have HB1 := Lib.hid (fun w ha => eyBit_of hb1 hn (x := 0) rfl X w ha)
  have HB2 := Lib.hid (fun w ha => eyBit_of hb2 hn (x := 0) rfl X w ha)
  have HB3 := Lib.hid (fun w ha => eyBits_of hb3 hn (by omega) (by omega) X w ha)
  have HB4 := Lib.hid (fun w ha => eyBits_of hb4 hn (by omega) (by omega) X w ha)
  have HB5 := Lib.hid (fun w ha => eyBits_of hb5 hn (by omega) (by omega) X w ha)
  have HH := Lib.hid (EyCh.refl h)
  have HY2 := Lib.hid hy2
  have H2V := Lib.hid h2v
  have HF := Lib.hid hf
  obtain ⟨R, hR⟩ : ∃ R, R = valR L y := ⟨_, rfl⟩
  rw [<- hR] at HV ⊢
  have c0 : w.cell? ⟨Y, 0, none⟩ = some (.pointer (some ⟨X, 0, none⟩)) := h.yc.cell 0 _ rfl
  clear hb1 h hR hb2 hb3 hb4 hb5 hy2 h2v hf
  go_enter Tryz.func106, Tryz.ntmps106
  go_wp2_with fail
  refine (HB1.out _ HH.out.at_.eye).mono ?_
  intro e w1 hto
  obtain ⟨rfl, h1⟩ := HH.out.eye hto
  clear hto c0
  have c0 : w1.cell? ⟨Y, 0, none⟩ = some (.pointer (some ⟨X, 0, none⟩)) := h1.at_.yc.cell 0 _ rfl
  have H1 := Lib.hid h1
  clear h1
  go_wp2_with fail
  refine (HB2.out _ H1.out.at_.eye).mono ?_
  intro e w2 hto
  obtain ⟨rfl, h2⟩ := H1.out.eye hto
  clear hto c0
  have H2 := Lib.hid h2
  clear h2
  go_upto_if 19 with fail
  go_cut [19] (fun _ wx => EyCh w Y X L wx y2)
  case first =>
    cases b2
    · go_wp2_with fail
      go_meet
      rw [HY2.out, if_neg (by decide)]
      exact H2.out
    · have c0 : w2.cell? ⟨Y, 0, none⟩ = some (.pointer (some ⟨X, 0, none⟩)) := H2.out.at_.yc.cell 0 _ rfl
      go_wp2_with fail
      refine (HB3.out _ H2.out.at_.eye).mono ?_
      intro e w3 hto
      obtain ⟨rfl, h3⟩ := H2.out.eye hto
      clear hto c0
      have c0 : w3.cell? ⟨Y, 0, none⟩ = some (.pointer (some ⟨X, 0, none⟩)) := h3.at_.yc.cell 0 _ rfl
      have c4 : w3.cell? ⟨Y, 4, none⟩ = some (.int .i64 (y.lead : Nat)) := h3.at_.yc.cell 4 _ rfl
      have f4 : w3.frozen? ⟨Y, 4, none⟩ = false := h3.at_.yc.free 4 (by omega)
      have h4 : EyCh w Y X L (w3.setCell ⟨Y, 4, none⟩ (.int .i64 (ld : Nat))) { y with p := p3, e := e3, lead := ld } := h3.set 4 (by omega) _ rfl rfl rfl
      have H4 := Lib.hid h4
      clear h3 h4
      go_wp2_with fail
      refine (HB4.out _ H4.out.at_.eye).mono ?_
      intro e w5 hto
      obtain ⟨rfl, h5⟩ := H4.out.eye hto
      clear hto c0 c4 f4
      have c5 : w5.cell? ⟨Y, 5, none⟩ = some (.int .i64 (y.wide : Nat)) := h5.at_.yc.cell 5 _ rfl
      have f5 : w5.frozen? ⟨Y, 5, none⟩ = false := h5.at_.yc.free 5 (by omega)
      have h6 : EyCh w Y X L (w5.setCell ⟨Y, 5, none⟩ (.int .i64 ((wi + 1 : Nat) : Int))) { y with p := p4, e := e4, lead := ld, wide := wi + 1 } := h5.set 5 (by omega) _ rfl rfl rfl
      rw [show ((wi + 1 : Nat) : Int) = (wi : Int) + 1 by omega] at h6
      have H6 := Lib.hid h6
      clear h5 h6
      go_wp2_with fail
      go_meet
      rw [HY2.out]
      simp only [if_true]
      exact H6.out
  case rest =>
  have H3 := Lib.hid hcut
  clear hcut
  obtain ⟨F, hF⟩ : ∃ F, F = decide (y2.wide = 0 \/ 64 < y2.lead + y2.wide) := ⟨_, rfl⟩
  go_upto_region 6 with fail
  go_cut [55] (fun b wx => b = .bool F /\ EyCh w Y X L wx y2)
  case first =>
    have HE := Lib.hid hF
    clear hF
    by_cases k1 : y2.wide = 0
    · have d1 : (((y2.wide : Nat) : Int) == 0) = true := by rw [beq_iff_eq]; omega
      have HF := Lib.hid (show F = true by rw [HE.out]; exact decide_eq_true (.inl k1))
      clear k1
      refine wp_region_known [(3, .int .i64 (y2.wide : Nat))] (by kernel_rfl) 82 (by kernel_rfl) rfl ?_
      repeat (first
        | (refine Chain.step (v := ?_) (a' := ?_) rfl rfl rfl ?_ ?_ ?_; rotate_left 2; (focus (intro w; go_simp; try with_reducible rfl)); focus (simp only [Act.put, pqA, pqS, pqZ]; try rfl))
        | (refine Chain.call (a' := ?_) _ rfl rfl rfl (fun wx hw0 => ?_) ?_ ?_
           rotate_left 1
           focus
             first
             | (have hch := (H3.out.below hw0).at_.yc; have g4 : wx.cell? ⟨Y, 4, none⟩ = some (.int .i64 (y2.lead : Nat)) := hch.cell 4 _ rfl; have g5 : wx.cell? ⟨Y, 5, none⟩ = some (.int .i64 (y2.wide : Nat)) := hch.cell 5 _ rfl; clear hch; go_simp; first | exact ⟨rfl, Below.refl _ _⟩ | exact Below.refl _ _)
           focus (simp only [Act.put, pqA, pqS, pqZ]; try rfl))
        | (refine Chain.skip (a' := ?_) rfl rfl rfl ?_ ?_; rotate_left 1; focus (simp only [Act.put, pqA, pqS, pqZ]; try rfl)))
      refine Chain.end_ (fun wz hwz _ => ?_)
      go_wp2_with fail
      go_meet
      exact ⟨by rw [HF.out], H3.out.below hwz⟩
    · have d1 : (((y2.wide : Nat) : Int) == 0) = false := by rw [beq_eq_false_iff_ne]; omega
      have d2 : IntKind.i64.wrap (((y2.lead : Nat) : Int) + ((y2.wide : Nat) : Int)) = ((y2.lead : Nat) : Int) + ((y2.wide : Nat) : Int) := IntWalk.i64_in _ ⟨by omega, by omega⟩
      by_cases k2 : 64 < y2.lead + y2.wide
      · have d3 : decide ((64 : Int) < ((y2.lead : Nat) : Int) + ((y2.wide : Nat) : Int)) = true := decide_eq_true (by omega)
        have HF := Lib.hid (show F = true by rw [HE.out]; exact decide_eq_true (.inr k2))
        clear k1 k2
        refine wp_region_known [(3, .int .i64 (y2.wide : Nat)), (9, .int .i64 (y2.lead : Nat)), (13, .int .i64 (y2.wide : Nat))] (by kernel_rfl) 82 (by kernel_rfl) rfl ?_
        repeat (first
          | (refine Chain.step (v := ?_) (a' := ?_) rfl rfl rfl ?_ ?_ ?_; rotate_left 2; (focus (intro w; go_simp; try with_reducible rfl)); focus (simp only [Act.put, pqA, pqS, pqZ]; try rfl))
          | (refine Chain.call (a' := ?_) _ rfl rfl rfl (fun wx hw0 => ?_) ?_ ?_
             rotate_left 1
             focus
               first
               | (have hch := (H3.out.below hw0).at_.yc; have g4 : wx.cell? ⟨Y, 4, none⟩ = some (.int .i64 (y2.lead : Nat)) := hch.cell 4 _ rfl; have g5 : wx.cell? ⟨Y, 5, none⟩ = some (.int .i64 (y2.wide : Nat)) := hch.cell 5 _ rfl; clear hch; go_simp; first | exact ⟨rfl, Below.refl _ _⟩ | exact Below.refl _ _)
             focus (simp only [Act.put, pqA, pqS, pqZ]; try rfl))
          | (refine Chain.skip (a' := ?_) rfl rfl rfl ?_ ?_; rotate_left 1; focus (simp only [Act.put, pqA, pqS, pqZ]; try rfl)))
        refine Chain.end_ (fun wz hwz _ => ?_)
        go_wp2_with fail
        go_meet
        exact ⟨by rw [HF.out], H3.out.below hwz⟩
      · have d3 : decide ((64 : Int) < ((y2.lead : Nat) : Int) + ((y2.wide : Nat) : Int)) = false := decide_eq_false (by omega)
        have HF := Lib.hid (show F = false by rw [HE.out]; exact decide_eq_false (fun h => h.elim k1 k2))
        clear k1 k2
        refine wp_region_known [(3, .int .i64 (y2.wide : Nat)), (9, .int .i64 (y2.lead : Nat)), (13, .int .i64 (y2.wide : Nat))] (by kernel_rfl) 82 (by kernel_rfl) rfl ?_
        repeat (first
          | (refine Chain.step (v := ?_) (a' := ?_) rfl rfl rfl ?_ ?_ ?_; rotate_left 2; (focus (intro w; go_simp; try with_reducible rfl)); focus (simp only [Act.put, pqA, pqS, pqZ]; try rfl))
          | (refine Chain.call (a' := ?_) _ rfl rfl rfl (fun wx hw0 => ?_) ?_ ?_
             rotate_left 1
             focus
               first
               | (have hch := (H3.out.below hw0).at_.yc; have g4 : wx.cell? ⟨Y, 4, none⟩ = some (.int .i64 (y2.lead : Nat)) := hch.cell 4 _ rfl; have g5 : wx.cell? ⟨Y, 5, none⟩ = some (.int .i64 (y2.wide : Nat)) := hch.cell 5 _ rfl; clear hch; go_simp; first | exact ⟨rfl, Below.refl _ _⟩ | exact Below.refl _ _)
             focus (simp only [Act.put, pqA, pqS, pqZ]; try rfl))
          | (refine Chain.skip (a' := ?_) rfl rfl rfl ?_ ?_; rotate_left 1; focus (simp only [Act.put, pqA, pqS, pqZ]; try rfl)))
        refine Chain.end_ (fun wz hwz _ => ?_)
        go_wp2_with fail
        go_meet
        exact ⟨by rw [HF.out], H3.out.below hwz⟩
  case rest =>
  obtain ⟨rfl, h3⟩ := hcut
  have H3 := Lib.hid h3
  clear h3
  cases F
  · have hno : ¬ (y2.wide = 0 \/ 64 < y2.lead + y2.wide) := of_decide_eq_false hF.symm
    have HR := Lib.hid (show R = (y2.v ^^^ (f * 2 ^ (64 - y2.lead - y2.wide)), 0, { y2 with p := p5, e := e5 }) by rw [HV.out, HI.out, if_neg hno])
    obtain ⟨SH, hSH⟩ : ∃ SH : Nat, SH = 64 - y2.lead - y2.wide := ⟨_, rfl⟩
    obtain ⟨A, hA⟩ : ∃ A : Nat, A = 64 - y2.lead := ⟨_, rfl⟩
    obtain ⟨g, hg⟩ : ∃ g : Nat, g = f * 2 ^ SH := ⟨_, rfl⟩
    have hgl : g < 18446744073709551616 := by rw [hg, hSH]; exact shl_lt HF.out (by omega)
    obtain ⟨V, hV⟩ : ∃ V : Nat, V = y2.v ^^^ g := ⟨_, rfl⟩
    have HRV := Lib.hid (show R = (V, 0, { y2 with p := p5, e := e5 }) by rw [HR.out, hV, hg, hSH])
    have e64 : IntKind.i64.wrap (64 - ((y2.lead : Nat) : Int)) = (A : Int) := by rw [IntWalk.i64_in _ ⟨by omega, by omega⟩]; omega
    have e65 : IntKind.i64.wrap ((A : Int) - ((y2.wide : Nat) : Int)) = (SH : Int) := by rw [IntWalk.i64_in _ ⟨by omega, by omega⟩]; omega
    have e66 : IntKind.u64.wrap ((f : Int) * 2 ^ SH) = (g : Int) := by
      have e1 : (f : Int) * 2 ^ SH = ((f * 2 ^ SH : Nat) : Int) := by simp
      rw [e1, <- hg, IntKind.wrap_u64]
      omega
    have e67 : bits .xor .u64 ((y2.v : Nat) : Int) (g : Int) = (V : Int) := by rw [u64_xor_nat y2.v g (by rw [H2V.out]; exact hv) hgl, hV]
    have hSH6 : SH <= 64 := by omega
    have E64 := Lib.hid e64
    have E65 := Lib.hid e65
    have E66 := Lib.hid e66
    have E67 := Lib.hid e67
    clear hno hF hSH hA hg hgl hV e64 e65 e66 e67
    have hY2 : ∀ w', YC w' Y X { y2 with p := p5, e := e5 } ↔ YC w' Y X y2 := fun w' => ⟨fun h => ⟨h.cell, h.free⟩, fun h => ⟨h.cell, h.free⟩⟩
    have HYC := Lib.hid hY2
    have hne := H3.out.at_.ne
    clear hY2
    go_upto_region 8 with fail
    have e64 := E64.out
    have e65 := E65.out
    have e66 := E66.out
    have e67 := E67.out
    refine Dn.wp_region_states [(4, .int .u64 (y2.v : Nat)), (8, .pointer (some ⟨X, 0, none⟩)), (12, .int .i64 (y2.wide : Nat)), (13, .int .u64 (f : Nat)), (17, .int .i64 (y2.lead : Nat)), (22, .int .i64 (y2.wide : Nat))]
      (fun D w' => Fr (EyS Y X) w w' /\ Sw 13 (fun w' => EyeAt w' X 0 L y2.p y2.e) (fun w' => EyeAt w' X 0 L p5 e5) D w' /\ YC w' Y X y2) (by kernel_rfl) 82 (by kernel_rfl) rfl
      (fun i D w' hi hx => ⟨hx.1, hx.2.1.same (lookup_ne' rfl hi), hx.2.2⟩)
      ⟨H3.out.fr.then_below (Below.refl _ _).drew, Sw.start (H3.out.at_.eye.below (Below.refl _ _).drew), H3.out.at_.yc.below (Below.refl _ _).drew⟩ ?_
    repeat (first
      | (refine Dn.Chain.step (v := ?_) (a' := ?_) rfl rfl rfl ?_ ?_ ?_; rotate_left 2; (focus (intro w; go_simp; try with_reducible rfl)); focus (simp only [Act.put, pqA, pqS, pqZ]; try rfl))
      | (refine Dn.Chain.call (a' := ?_) _ rfl rfl rfl (fun D wx hx hD hp => ?_) ?_ ?_
         rotate_left 1
         focus
           first
           | (obtain ⟨hf, hs1, hyc⟩ := hx
              have g0 : wx.cell? ⟨Y, 0, none⟩ = some (.pointer (some ⟨X, 0, none⟩)) := hyc.cell 0 _ rfl
              have g2 : wx.cell? ⟨Y, 2, none⟩ = some (.int .u64 (y2.v : Nat)) := hyc.cell 2 _ rfl
              have g4 : wx.cell? ⟨Y, 4, none⟩ = some (.int .i64 (y2.lead : Nat)) := hyc.cell 4 _ rfl
              have g5 : wx.cell? ⟨Y, 5, none⟩ = some (.int .i64 (y2.wide : Nat)) := hyc.cell 5 _ rfl
              go_simp
              (repeat' (with_reducible apply And.intro)) <;> first | exact rfl | exact hf | exact hs1.same (by decide) | exact hyc)
           | (obtain ⟨hf, hs1, hyc⟩ := hx
              have he1 := hs1.1 hD
              go_simp
              (with_reducible refine (HB5.out _ he1).mono ?_)
              intro e w3 hto
              obtain ⟨rfl, ha, hf2⟩ := hto
              have hyk : YC w3 Y X y2 := hyc.keep hf2 (fun i hh => hne hh.1.symm)
              exact ⟨rfl, hf.trans' hf2 (fun k i _ hh => .inl hh.1), Sw.done ha, hyk⟩)
         focus (simp only [Act.put, pqA, pqS, pqZ]; try rfl))
      | (refine Dn.Chain.skip (a' := ?_) rfl rfl rfl ?_ ?_; rotate_left 1; focus (simp only [Act.put, pqA, pqS, pqZ]; try rfl)))
    refine Dn.Chain.end_ (fun D w9 hDD hx => ?_)
    obtain ⟨hf, hs1, hyc⟩ := hx
    have he2 := hs1.2 (hDD 13 (by decide))
    have H9 := Lib.hid (show EyCh w Y X L w9 { y2 with p := p5, e := e5 } from ⟨⟨he2, hyc.pe p5 e5, hne⟩, hf⟩)
    clear hf hs1 hyc he2 hDD
    go_wp2_with fail
    go_ret2
    exact ⟨by rw [HRV.out]; rfl, by rw [HRV.out]; exact H9.out⟩
  · have hyes : y2.wide = 0 \/ 64 < y2.lead + y2.wide := of_decide_eq_true hF.symm
    have HR := Lib.hid (show R = (0, 3, y2) by rw [HV.out, HI.out, if_pos hyes])
    clear hyes hF
    go_wp2_with fail
    go_ret2
    exact ⟨by rw [HR.out]; rfl, by rw [HR.out]; exact H3.out⟩

theorem eyValue_any (Y X : Nat) (L : List Bool) (y : Ey) (w : World) (h : EyAt w Y X L y) (hn : L.length < 100000000000) (hv : y.v < 18446744073709551616) (hl : y.lead < 64) (hw : y.wide <= 64) :
    Calls Tryz.prog 106 #[.pointer (some ⟨Y, 0, none⟩)] w (EyTo2 w Y X L (valR L y)) := by
  rcases hb : (eyeBit L y.p y.e).1 with _ | _
  · exact eyValue_no Y X L y w h hn hb
  · exact eyValue_yes Y X L y w h hn hv hl hw hb

end Go.Proofs.YtgabmfibfikdbaaGreatDoor
