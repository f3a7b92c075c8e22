/-
  Layer 7: the walks of next and of Samples.
-/
import Derived.Test.YtgabmfibfikdbaaGreatDoorZXorC
import Derived.Test.YtgabmfibfikdbaaGreatDoorZBokP
import Derived.Test.YtgabmfibfikdbaaGreatDoorZLib27
import Derived.Test.YtgabmfibfikdbaaGreatDoorZXorB
import Derived.Test.YtgabmfibfikdbaaGreatDoorZIdtA
import Derived.Deep.QuietTactic
import Derived.BigQuiet

set_option maxHeartbeats 32000000
set_option maxRecDepth 10000
namespace Go.Proofs.YtgabmfibfikdbaaGreatDoor
open Go.RowKit Go.Bar Go.Bar.Bit Go.Bar.Leb Go.Bar.Xor

def EyTo3 (w : World) (Y X : Nat) (L : List Bool) (r : Sm × Nat × Ey) (en : Ending) (w' : World) : Prop := en = .returned (.tuple #[.agg #[.int .i64 r.1.1, .int .u64 (r.1.2 : Nat)], .int .i64 (r.2.1 : Nat)]) /\ EyCh w Y X L w' r.2.2

theorem blk2 {w : World} {R : Nat} {T : TypeId} {a b a' b' : Value} (h : Blk w R T #[a, b]) : Blk ((w.setCell ⟨R, 0, none⟩ a').setCell ⟨R, 1, none⟩ b') R T #[a', b'] := by
  have := (h.set 0 a').set 1 b'
  simpa using this

theorem eyNext_first (Y X : Nat) (L : List Bool) (y : Ey) (w : World) (h : EyAt w Y X L y) (hn : L.length < 100000000000) :
    Calls Tryz.prog 83 #[.pointer (some ⟨Y, 0, none⟩), .bool true] w (EyTo3 w Y X L (firstR L y)) := by
  obtain ⟨a, p1, e1, hb1⟩ : ∃ v p e, eyeBits L y.p y.e 41 = (v, p, e) := ⟨_, _, _, rfl⟩
  obtain ⟨b, p2, e2, hb2⟩ : ∃ v p e, eyeBits L p1 e1 64 = (v, p, e) := ⟨_, _, _, rfl⟩
  have ha : a < 2199023255552 := by have := eyeBits_le L y.p y.e 41 41 rfl; rw [hb1] at this; exact this
  have hbl : b < 18446744073709551616 := by have := eyeBits_le L p1 e1 64 64 rfl; rw [hb2] at this; exact this
  have HV := Lib.hid (show firstR L y = (((a : Int), b), e2, { y with p := p2, e := e2 }) by unfold firstR; rw [hb1]; simp only; rw [hb2])
  have HB1 := Lib.hid (fun w ha => eyBits_of hb1 hn (by omega) (by omega) X w ha)
  have HB2 := Lib.hid (fun w ha => eyBits_of hb2 hn (by omega) (by omega) X w ha)
  have HER := Lib.hid (fun w ha => eyeErr_any X 0 L p2 e2 w ha)
  have hba := ba1 w (.cells #[.int .i64 0, .int .u64 0] 41)
  have hR0 := Blk.new w #[.int .i64 0, .int .u64 0] 41
  have hne := h.ne
  have hYl : Y < w.heap.size := World.block_lt_of_cell? _ _ (h.yc.cell 0 _ rfl)
  have hXl : X < w.heap.size := World.block_lt_of_cell? _ _ h.eye.c1
  obtain ⟨R, hR⟩ : ∃ R, R = firstR L y := ⟨_, rfl⟩
  rw [<- hR] at HV ⊢
  obtain ⟨wA, hwA⟩ : ∃ x : World, x = w.alloc (.cells #[.int .i64 0, .int .u64 0] 41) := ⟨_, rfl⟩
  have HA := Lib.hid (show EyCh w Y X L wA y by rw [hwA]; exact (EyCh.refl h).below hba)
  have HR0 : Hid (Blk wA w.heap.size 41 #[.int .i64 0, .int .u64 0]) := by rw [hwA]; exact Lib.hid hR0
  have c0 : (w.alloc (.cells #[.int .i64 0, .int .u64 0] 41)).cell? ⟨Y, 0, none⟩ = some (.pointer (some ⟨X, 0, none⟩)) := by rw [<- hwA]; exact HA.out.at_.yc.cell 0 _ rfl
  have HWA := Lib.hid hwA
  clear hb1 hb2 h hR hba hR0 hwA
  go_enter Tryz.func83, Tryz.ntmps83
  go_wp2_with fail
  rw [<- HWA.out]
  refine (HB1.out _ HA.out.at_.eye).mono ?_
  intro e w1 hto
  obtain ⟨rfl, h1⟩ := HA.out.eye hto
  have hR1 := HR0.out.fr hto.2.2 (fun i hh => by have : w.heap.size = X := hh.1; omega)
  clear hto c0
  have H1 := Lib.hid h1
  have HR1 := Lib.hid hR1
  clear h1 hR1
  go_upto_region 3 with fail
  refine Dn.wp_region_states [(4, .pointer (some ⟨X, 0, none⟩)), (5, .int .u64 (b : Nat)), (10, .pointer (some ⟨X, 0, none⟩)), (11, .int .i64 (e2 : Nat)), (12, undef)]
    (fun D w' => Fr (fun k i => EyS Y X k i \/ k = w.heap.size) w w' /\ Sw 5 (fun w' => EyeAt w' X 0 L p1 e1) (fun w' => EyeAt w' X 0 L p2 e2) D w' /\ Sw 12 (fun w' => Blk w' w.heap.size 41 #[.int .i64 0, .int .u64 0]) (fun w' => Blk w' w.heap.size 41 #[.int .i64 (a : Int), .int .u64 (b : Nat)]) D w' /\ YC w' Y X y) (by kernel_rfl) 61 (by kernel_rfl) rfl
    (fun i D w' hi hx => ⟨hx.1, hx.2.1.same (lookup_ne' rfl hi), hx.2.2.1.same (lookup_ne' rfl hi), hx.2.2.2⟩)
    ⟨(H1.out.fr.mono (fun _ _ _ h => .inl h)).then_below (Below.refl _ _).drew, Sw.start (H1.out.at_.eye.below (Below.refl _ _).drew), Sw.start HR1.out.drew, (H1.out.at_.yc.pe y.p y.e).below (Below.refl _ _).drew⟩ ?_
  repeat (first
    | (refine Dn.Chain.step (v := ?_) (a' := ?_) rfl rfl rfl ?_ ?_ ?_; rotate_left 2; (focus (intro w; go_simp; try with_reducible rfl)); focus (simp only [Act.put, pqA, pqS, pqZ]; try rfl))
    | (refine Dn.Chain.call (a' := ?_) _ rfl rfl rfl (fun D wx hx hD hp => ?_) ?_ ?_
       rotate_left 1
       focus
         first
         | (obtain ⟨hf, hs1, hs2, hyc⟩ := hx
            have g0 : wx.cell? ⟨Y, 0, none⟩ = some (.pointer (some ⟨X, 0, none⟩)) := hyc.cell 0 _ rfl
            go_simp
            (repeat' (with_reducible apply And.intro)) <;> first | exact rfl | exact hf | exact hs1.same (by decide) | exact hs2.same (by decide) | exact hyc)
         | (obtain ⟨hf, hs1, hs2, hyc⟩ := hx
            have he1 := hs1.1 hD
            go_simp
            (with_reducible refine (HB2.out _ he1).mono ?_)
            intro e w3 hto
            obtain ⟨rfl, ha, hf2⟩ := hto
            have hyk : YC w3 Y X y := hyc.keep hf2 (fun i hh => hne hh.1.symm)
            have hno : ∀ i, ¬ EyeS X 0 w.heap.size i := fun i hh => by have : w.heap.size = X := hh.1; omega
            exact ⟨rfl, hf.trans' hf2 (fun k i _ hh => .inl (.inl hh.1)), Sw.done ha, hs2.keep (by decide) (fun h => h.fr hf2 hno) (fun h => h.fr hf2 hno), hyk⟩)
         | (obtain ⟨hf, hs1, hs2, hyc⟩ := hx
            have he2 := hs1.2 (hp 5 (by kernel_rfl))
            go_simp
            (with_reducible refine (HER.out _ he2).mono ?_)
            rintro e w3 ⟨rfl, rfl⟩
            exact ⟨rfl, hf, hs1.same (by decide), hs2.same (by decide), hyc⟩)
         | (obtain ⟨hf, hs1, hs2, hyc⟩ := hx
            have hblk := hs2.1 hD
            have g0 : wx.cell? ⟨w.heap.size, 0, none⟩ = some (.int .i64 0) := hblk.cell (i := 0) rfl
            have g1 : wx.cell? ⟨w.heap.size, 1, none⟩ = some (.int .u64 0) := hblk.cell (i := 1) rfl
            have q0 := hblk.free 0
            have q1 := hblk.free 1
            have hf3 : Fr (fun k i => EyS Y X k i \/ k = w.heap.size) w ((wx.setCell ⟨w.heap.size, 0, none⟩ (.int .i64 (a : Int))).setCell ⟨w.heap.size, 1, none⟩ (.int .u64 (b : Nat))) := (hf.setCell (fun _ => .inr rfl) _).setCell (fun _ => .inr rfl) _
            have hxr : X ≠ w.heap.size := by omega
            have hyr : ∀ i, ¬ ((fun k (_ : Nat) => k = w.heap.size) Y i) := fun i hh => by have : Y = w.heap.size := hh; omega
            have hs3 := hs1.keep (i := 12) (w' := (wx.setCell ⟨w.heap.size, 0, none⟩ (.int .i64 (a : Int))).setCell ⟨w.heap.size, 1, none⟩ (.int .u64 (b : Nat))) (by decide) (fun h => (h.set_other hxr 0 _).set_other hxr 1 _) (fun h => (h.set_other hxr 0 _).set_other hxr 1 _)
            have hy3 : YC ((wx.setCell ⟨w.heap.size, 0, none⟩ (.int .i64 (a : Int))).setCell ⟨w.heap.size, 1, none⟩ (.int .u64 (b : Nat))) Y X y := hyc.keep (Fr.setCell (S := fun k _ => k = w.heap.size) (Fr.setCell (S := fun k _ => k = w.heap.size) (Fr.refl _ _) (fun _ => rfl) _) (fun _ => rfl) _) hyr
            have hb3 : Blk ((wx.setCell ⟨w.heap.size, 0, none⟩ (.int .i64 (a : Int))).setCell ⟨w.heap.size, 1, none⟩ (.int .u64 (b : Nat))) w.heap.size 41 #[.int .i64 (a : Int), .int .u64 (b : Nat)] := blk2 hblk
            go_simp
            (repeat' (with_reducible apply And.intro)) <;> first | exact rfl | exact hf3 | exact hs3 | exact Sw.done hb3 | exact hy3)
       focus (simp only [Act.put, pqA, pqS, pqZ]; try rfl))
    | (refine Dn.Chain.skip (a' := ?_) rfl rfl rfl ?_ ?_; rotate_left 1; focus (simp only [Act.put, pqA, pqS, pqZ]; try rfl)))
  refine Dn.Chain.end_ (fun D w9 hDD hx => ?_)
  obtain ⟨hf, hs1, hs2, hyc⟩ := hx
  have he2 := hs1.2 (hDD 5 (by decide))
  have hr2 := hs2.2 (hDD 12 (by decide))
  have g0 : w9.cell? ⟨w.heap.size, 0, none⟩ = some (.int .i64 (a : Int)) := hr2.cell (i := 0) rfl
  have g1 : w9.cell? ⟨w.heap.size, 1, none⟩ = some (.int .u64 (b : Nat)) := hr2.cell (i := 1) rfl
  have H9 := Lib.hid (show EyCh w Y X L w9 { y with p := p2, e := e2 } from ⟨⟨he2, hyc.pe p2 e2, hne⟩, hf.mono (fun k i hk hh => hh.elim id (fun h => by omega))⟩)
  clear hf hs1 hs2 hyc he2 hDD hr2
  go_wp2_with fail
  refine bodyPost_ret (v := .tuple #[.agg #[.int .i64 (a : Int), .int .u64 (b : Nat)], .int .i64 (e2 : Nat)]) (by simp [results, Tryz.results83, go_sem, g0, g1]) rfl ?_
  exact ⟨by rw [HV.out], by rw [HV.out]; exact H9.out⟩

theorem valR_t (L : List Bool) (y : Ey) : (valR L y).2.2.t = y.t := by
  unfold valR inR winR
  repeat' split
  all_goals rfl
theorem timeR_step (L : List Bool) (y : Ey) : -9223372036854775808 <= (timeR L y).2.step /\ (timeR L y).2.step <= 9223372036854775807 := by
  show -9223372036854775808 <= wrap64 _ /\ wrap64 _ <= 9223372036854775807
  unfold wrap64
  omega
theorem timeR_rg (L : List Bool) (y : Ey) : -9223372036854775808 <= (timeR L y).1 /\ (timeR L y).1 <= 9223372036854775807 := by
  show -9223372036854775808 <= wrap64 _ /\ wrap64 _ <= 9223372036854775807
  unfold wrap64
  omega
theorem valR_step (L : List Bool) (y : Ey) : (valR L y).2.2.step = y.step := by
  unfold valR inR winR
  repeat' split
  all_goals rfl

theorem eyNext_rest (Y X : Nat) (L : List Bool) (y : Ey) (w : World) (h : EyAt w Y X L y) (hW : WidthsAt w) (hX : X ≠ 1) (hY : Y ≠ 1) (hn : L.length < 100000000000) (hok : y.Ok)
    (hs : -9223372036854775808 <= y.step /\ y.step <= 9223372036854775807) (ht : -9223372036854775808 <= y.t /\ y.t <= 9223372036854775807) :
    Calls Tryz.prog 83 #[.pointer (some ⟨Y, 0, none⟩), .bool false] w (EyTo3 w Y X L (restR L y)) := by
  have hok1 := timeR_ok L hok
  obtain ⟨hok2, hv2, her⟩ := valR_ok L hok1
  have hvt := valR_t L (timeR L y).2
  have htr := timeR_rg L y
  obtain ⟨T, hT⟩ : ∃ T, T = (timeR L y).1 := ⟨_, rfl⟩
  obtain ⟨y1, hy1⟩ : ∃ y1, y1 = (timeR L y).2 := ⟨_, rfl⟩
  have hvt2 : (timeR L y).2.t = y.t := rfl
  have HC1 := Lib.hid (fun w (h : EyAt w Y X L y) hW => (show Calls Tryz.prog 105 #[.pointer (some ⟨Y, 0, none⟩)] w (EyTo w Y X L (.int .i64 T) y1) by rw [hT, hy1]; exact eyTime_any Y X L y w h hW hX hY hn hs ht))
  rw [<- hy1] at hok1 hok2 hv2 her hvt hvt2
  rw [<- hT] at htr
  obtain ⟨V, er, y2, hr⟩ : ∃ V er y2, valR L y1 = (V, er, y2) := ⟨_, _, _, rfl⟩
  have HC2 := Lib.hid (fun w (h : EyAt w Y X L y1) => (show Calls Tryz.prog 106 #[.pointer (some ⟨Y, 0, none⟩)] w (EyTo2 w Y X L (V, er, y2)) by rw [<- hr]; exact eyValue_any Y X L y1 w h hn hok1.v hok1.lead hok1.wide))
  have HC3 := Lib.hid (fun w (h : EyeAt w X 0 L y2.p y2.e) => eyeErr_any X 0 L y2.p y2.e w h)
  have HV := Lib.hid (show restR L y = if y2.e ≠ 0 then ((0, 0), y2.e, y2) else ((T, V), if er = 0 /\ T <= y.t then 3 else er, y2) by unfold restR; rw [<- hy1, <- hT, hr])
  rw [hr] at hok2 hv2 her hvt
  simp only at hok2 hv2 her hvt
  have HT2 := Lib.hid (show y2.t = y.t by rw [hvt, hvt2])
  obtain ⟨R, hR⟩ : ∃ R, R = restR L y := ⟨_, rfl⟩
  rw [<- hR] at HV ⊢
  have hba := ba1 w (.cells #[.int .i64 0, .int .u64 0] 41)
  have hR0 := Blk.new w #[.int .i64 0, .int .u64 0] 41
  have hYl : Y < w.heap.size := World.block_lt_of_cell? _ _ (h.yc.cell 0 _ rfl)
  have hXl : X < w.heap.size := World.block_lt_of_cell? _ _ h.eye.c1
  have hno : ∀ i, ¬ EyS Y X w.heap.size i := fun i hh => by
    have hh : w.heap.size = X \/ w.heap.size = Y := hh
    omega
  obtain ⟨wA, hwA⟩ : ∃ x : World, x = w.alloc (.cells #[.int .i64 0, .int .u64 0] 41) := ⟨_, rfl⟩
  have HA := Lib.hid (show EyCh w Y X L wA y by rw [hwA]; exact (EyCh.refl h).below hba)
  have HAR : Hid (EyAt wA Y X L y) := HA.out.at_ |> Lib.hid
  have HWD := Lib.hid (show WidthsAt wA by rw [hwA]; exact hW.below hba)
  have HR0 : Hid (Blk wA w.heap.size 41 #[.int .i64 0, .int .u64 0]) := by rw [hwA]; exact Lib.hid hR0
  have HWA := Lib.hid hwA
  have HNO := Lib.hid hno
  clear h hR hba hR0 hwA hT hy1 hr hvt hvt2 hok1 hno hW
  go_enter Tryz.func83, Tryz.ntmps83
  go_wp2_with fail
  rw [<- HWA.out]
  refine (HC1.out _ HAR.out HWD.out).mono ?_
  intro e w1 hto
  obtain ⟨rfl, h1⟩ := HA.out.step hto
  have hR1 := HR0.out.fr hto.2.fr HNO.out
  clear hto
  have H1 := Lib.hid h1
  have HR1 := Lib.hid hR1
  clear h1 hR1
  go_wp2_with fail
  refine (HC2.out _ H1.out.at_).mono ?_
  intro e w2 hto
  obtain ⟨rfl, h2⟩ := hto
  have hR2 := HR1.out.fr h2.fr HNO.out
  have h3 : EyCh w Y X L w2 y2 := ⟨h2.at_, H1.out.fr.trans h2.fr⟩
  have c0 : w2.cell? ⟨Y, 0, none⟩ = some (.pointer (some ⟨X, 0, none⟩)) := h3.at_.yc.cell 0 _ rfl
  have c1 : w2.cell? ⟨Y, 1, none⟩ = some (.int .i64 y2.t) := h3.at_.yc.cell 1 _ rfl
  rw [HT2.out] at c1
  have g0 : w2.cell? ⟨w.heap.size, 0, none⟩ = some (.int .i64 0) := hR2.cell (i := 0) rfl
  have g1 : w2.cell? ⟨w.heap.size, 1, none⟩ = some (.int .u64 0) := hR2.cell (i := 1) rfl
  have q0 := hR2.free 0
  have q1 := hR2.free 1
  have H3 := Lib.hid h3
  have HR2 := Lib.hid hR2
  have hfin : ∀ (A : Int) (B : Nat), EyCh w Y X L ((w2.setCell ⟨w.heap.size, 0, none⟩ (.int .i64 A)).setCell ⟨w.heap.size, 1, none⟩ (.int .u64 (B : Nat))) y2 := fun A B => by
    have hf : Fr (fun k _ => k = w.heap.size) w2 ((w2.setCell ⟨w.heap.size, 0, none⟩ (.int .i64 A)).setCell ⟨w.heap.size, 1, none⟩ (.int .u64 (B : Nat))) := Fr.setCell (S := fun k _ => k = w.heap.size) (Fr.setCell (S := fun k _ => k = w.heap.size) (Fr.refl _ _) (fun _ => rfl) _) (fun _ => rfl) _
    exact ⟨⟨h3.at_.eye.keep hf (fun i _ _ hh => by have : X = w.heap.size := hh; omega), h3.at_.yc.keep hf (fun i hh => by have : Y = w.heap.size := hh; omega), h3.at_.ne⟩, h3.fr.trans' hf (fun k i hk hh => by have : k = w.heap.size := hh; omega)⟩
  have hres : ∀ (A : Int) (B : Nat), Blk ((w2.setCell ⟨w.heap.size, 0, none⟩ (.int .i64 A)).setCell ⟨w.heap.size, 1, none⟩ (.int .u64 (B : Nat))) w.heap.size 41 #[.int .i64 A, .int .u64 (B : Nat)] := fun A B => blk2 hR2
  have HFIN := Lib.hid hfin
  have HRES := Lib.hid hres
  clear h2 h3 hR2 hfin hres
  go_wp2_with fail
  refine (HC3.out _ H3.out.at_.eye).mono ?_
  rintro e w' ⟨rfl, rfl⟩
  by_cases he : y2.e = 0
  · have hb0 : (((y2.e : Nat) : Int) != 0) = false := by rw [bne_eq_false_iff_eq]; omega
    obtain ⟨E, hE⟩ : ∃ E, E = if er = 0 /\ T <= y.t then 3 else er := ⟨_, rfl⟩
    have HRV := Lib.hid (show R = ((T, V), E, y2) by rw [HV.out, if_neg (fun hh => hh he), hE])
    have z0 : ((w2.setCell ⟨w.heap.size, 0, none⟩ (.int .i64 T)).setCell ⟨w.heap.size, 1, none⟩ (.int .u64 (V : Nat))).cell? ⟨w.heap.size, 0, none⟩ = some (.int .i64 T) := (HRES.out T V).cell (i := 0) rfl
    have z1 : ((w2.setCell ⟨w.heap.size, 0, none⟩ (.int .i64 T)).setCell ⟨w.heap.size, 1, none⟩ (.int .u64 (V : Nat))).cell? ⟨w.heap.size, 1, none⟩ = some (.int .u64 (V : Nat)) := (HRES.out T V).cell (i := 1) rfl
    have Z0 := Lib.hid z0
    have Z1 := Lib.hid z1
    have HE := Lib.hid hE
    clear z0 z1 hE he
    rcases her with rfl | rfl
    · by_cases hle : T <= y.t
      · have hE3 : E = 3 := by rw [HE.out, if_pos ⟨rfl, hle⟩]
        have HE3 := Lib.hid hE3
        have d1 : decide (T <= y.t) = true := decide_eq_true hle
        clear hE3
        go_wp2_with fail
        have z0 := Z0.out
        have z1 := Z1.out
        refine bodyPost_ret (v := .tuple #[.agg #[.int .i64 T, .int .u64 (V : Nat)], .int .i64 3]) (by simp [results, Tryz.results83, go_sem, z0, z1]) rfl ?_
        exact ⟨by rw [HRV.out, HE3.out]; rfl, by rw [HRV.out]; exact HFIN.out T V⟩
      · have hE3 : E = 0 := by rw [HE.out, if_neg (fun h => hle h.2)]
        have HE3 := Lib.hid hE3
        have d1 : decide (T <= y.t) = false := decide_eq_false hle
        clear hE3
        go_wp2_with fail
        have z0 := Z0.out
        have z1 := Z1.out
        refine bodyPost_ret (v := .tuple #[.agg #[.int .i64 T, .int .u64 (V : Nat)], .int .i64 0]) (by simp [results, Tryz.results83, go_sem, z0, z1]) rfl ?_
        exact ⟨by rw [HRV.out, HE3.out]; rfl, by rw [HRV.out]; exact HFIN.out T V⟩
    · have hE3 : E = 3 := by rw [HE.out, if_neg (fun h => absurd h.1 (by omega))]
      have HE3 := Lib.hid hE3
      clear hE3
      go_wp2_with fail
      have z0 := Z0.out
      have z1 := Z1.out
      refine bodyPost_ret (v := .tuple #[.agg #[.int .i64 T, .int .u64 (V : Nat)], .int .i64 3]) (by simp [results, Tryz.results83, go_sem, z0, z1]) rfl ?_
      exact ⟨by rw [HRV.out, HE3.out]; rfl, by rw [HRV.out]; exact HFIN.out T V⟩
  · have hb0 : (((y2.e : Nat) : Int) != 0) = true := by rw [bne_iff_ne]; omega
    have HRV := Lib.hid (show R = ((0, 0), y2.e, y2) by rw [HV.out, if_pos he])
    have Z0 : Hid (((w2.setCell ⟨w.heap.size, 0, none⟩ (.int .i64 0)).setCell ⟨w.heap.size, 1, none⟩ (.int .u64 0)).cell? ⟨w.heap.size, 0, none⟩ = some (.int .i64 0)) := Lib.hid ((HRES.out 0 0).cell (i := 0) rfl)
    have Z1 : Hid (((w2.setCell ⟨w.heap.size, 0, none⟩ (.int .i64 0)).setCell ⟨w.heap.size, 1, none⟩ (.int .u64 0)).cell? ⟨w.heap.size, 1, none⟩ = some (.int .u64 0)) := Lib.hid ((HRES.out 0 0).cell (i := 1) rfl)
    clear he her
    go_wp2_with fail
    have z0 := Z0.out
    have z1 := Z1.out
    refine bodyPost_ret (v := .tuple #[.agg #[.int .i64 0, .int .u64 0], .int .i64 (y2.e : Nat)]) (by simp [results, Tryz.results83, go_sem, z0, z1]) rfl ?_
    exact ⟨by rw [HRV.out]; rfl, by rw [HRV.out]; exact HFIN.out 0 0⟩

theorem eyNext_any (Y X : Nat) (L : List Bool) (y : Ey) (f : Bool) (w : World) (h : EyAt w Y X L y) (hW : WidthsAt w) (hX : X ≠ 1) (hY : Y ≠ 1) (hn : L.length < 100000000000) (hok : y.Ok)
    (hs : -9223372036854775808 <= y.step /\ y.step <= 9223372036854775807) (ht : -9223372036854775808 <= y.t /\ y.t <= 9223372036854775807) :
    Calls Tryz.prog 83 #[.pointer (some ⟨Y, 0, none⟩), .bool f] w (EyTo3 w Y X L (nextR L y f)) := by
  unfold nextR
  cases f
  · rw [if_neg (by decide)]
    exact eyNext_rest Y X L y w h hW hX hY hn hok hs ht
  · rw [if_pos rfl]
    exact eyNext_first Y X L y w h hn
theorem nextR_rg (L : List Bool) (y : Ey) (f : Bool) : -9223372036854775808 <= (nextR L y f).1.1 /\ (nextR L y f).1.1 <= 9223372036854775807 := by
  unfold nextR
  split
  · have := eyeBits_le L y.p y.e 41 41 rfl
    show -9223372036854775808 <= ((eyeBits L y.p y.e 41).1 : Int) /\ ((eyeBits L y.p y.e 41).1 : Int) <= 9223372036854775807
    omega
  · unfold restR
    split
    · show (-9223372036854775808 : Int) <= 0 /\ (0 : Int) <= 9223372036854775807
      exact ⟨by decide, by decide⟩
    · exact timeR_rg L y
theorem nextR_step (L : List Bool) (y : Ey) (f : Bool) (hs : -9223372036854775808 <= y.step /\ y.step <= 9223372036854775807) : -9223372036854775808 <= (nextR L y f).2.2.step /\ (nextR L y f).2.2.step <= 9223372036854775807 := by
  unfold nextR
  split
  · exact hs
  · have h1 := valR_step L (timeR L y).2
    have h2 := timeR_step L y
    unfold restR
    split
    · show -9223372036854775808 <= (valR L (timeR L y).2).2.2.step /\ _
      rw [h1]; exact h2
    · show -9223372036854775808 <= (valR L (timeR L y).2).2.2.step /\ _
      rw [h1]; exact h2

def XRetSm (w : World) (R : List Sm × Nat) (e : Ending) (w' : World) : Prop :=
  ∃ v, e = .returned (.tuple #[v, .int .i64 (R.2 : Nat)]) /\ (R.2 ≠ 0 -> v = .slice none 0 0) /\ (R.2 = 0 -> FBuf w w' 41 2 v R.1.length (smc R.1)) /\ Below w.heap.size w w'
theorem clipTo_le (m k : Nat) (h : m <= k) : clipTo (m : Int) k = m := by unfold clipTo; omega

theorem samples_body (W : List UInt8) (n m : Nat) (rest r1 : List UInt8) (w : World) (hW : WidthsAt w) (hl : W.length <= 100000000) (h1 : takeMost W 120 = (n, r1, 0)) (h2 : takeMost r1 1048576 = (m, rest, 0)) (h3 : rest.length = (m + 7) / 8) :
    Calls Tryz.prog 44 #[.string (bs W)] w (XRetSm w (bodyR W n rest m)) := by
  have hn : n <= 120 := by
    unfold takeMost at h1
    split at h1
    · cases h1
    · next hh =>
      have hp := congrArg (·.1) h1
      have hp2 := congrArg (·.2.2) h1
      simp only at hp hp2
      rw [hp, hp2] at hh
      by_cases hle : n <= 120
      · exact hle
      · exact absurd ⟨rfl, by show 120 < n; omega⟩ hh
  have hm : m <= 1048576 := by
    unfold takeMost at h2
    split at h2
    · cases h2
    · next hh =>
      have hp := congrArg (·.1) h2
      have hp2 := congrArg (·.2.2) h2
      simp only at hp hp2
      rw [hp, hp2] at hh
      by_cases hle : m <= 1048576
      · exact hle
      · exact absurd ⟨rfl, by show 1048576 < m; omega⟩ hh
  have hr1 : r1.length <= W.length := by have := (takeMost_prop W 120 (by omega)).2.1; rw [h1] at this; exact this
  obtain ⟨L, hL⟩ : ∃ L, L = (unpack rest).take m := ⟨_, rfl⟩
  have hLl : L.length < 100000000000 := by rw [hL, List.length_take]; omega
  have T1 := Lib.hid (fun w => takeMost_of (v := n) (r := r1) (e := 0) (bs W) 120 h1 w (by rw [bs_size]; unfold maxLen; omega) (by omega) (by omega))
  have T2 := Lib.hid (fun w => takeMost_of (v := m) (r := rest) (e := 0) (bs r1) 1048576 h2 w (by rw [bs_size]; unfold maxLen; omega) (by omega) (by omega))
  have HOV := Lib.hid (fun w => (show Calls Tryz.prog 82 #[.string (bs rest), .int .i64 (m : Nat)] w fun en w' => en = .returned (.pointer (some ⟨w.heap.size, 0, none⟩)) /\ EyeAt w' w.heap.size 0 L 0 0 /\ Below w.heap.size w w' by
    have := over_any rest (m : Nat) w (by omega) (by omega) (by omega)
    rw [clipTo_le m (8 * rest.length) (by omega), <- hL] at this
    exact this))
  have hq : ((rest.length : Nat) : Int) = ((m : Int) + 7) / 8 := by omega
  have hq2 : (((rest.length : Nat) : Int) != ((m : Int) + 7) / 8) = false := by rw [bne_eq_false_iff_eq]; exact hq
  have HQ2 := Lib.hid hq2
  obtain ⟨R0, hR0⟩ : ∃ R0, R0 = loopR L n 0 Ey.zero [] := ⟨_, rfl⟩
  obtain ⟨RB, hRB⟩ : ∃ RB, RB = bodyR W n rest m := ⟨_, rfl⟩
  have HRB := Lib.hid (show RB = if R0.2 ≠ 0 then ([], R0.2) else if (ofS St.zero R0.1).2 ≠ 0 \/ text (ofS St.zero R0.1).1 ≠ W then ([], 3) else (R0.1, 0) by rw [hRB]; unfold bodyR; rw [<- hL, <- hR0])
  rw [<- hRB]
  have HR0 := Lib.hid hR0
  have hg := hW.lt
  have HWW := Lib.hid hW
  clear h1 h2 h3 hq hq2 hR0 hRB hL hr1 hW
  go_enter Tryz.func44, Tryz.ntmps44
  go_wp2_with fail
  refine (T1.out _).mono ?_
  rintro e w1 ⟨rfl, n1, rfl⟩
  go_wp2_with fail
  refine (T2.out _).mono ?_
  rintro e w2 ⟨rfl, n2, rfl⟩
  have hq2 := HQ2.out
  go_wp2_with fail
  obtain ⟨wd, hwd⟩ : ∃ x, x = w.drewN (n1 + n2) := ⟨_, rfl⟩
  have hbd : Below w.heap.size w wd := by rw [hwd]; exact below_draws w _
  rw [<- hwd]
  clear hwd hq2
  refine (HOV.out wd).mono ?_
  rintro e w3 ⟨rfl, hEy, hb3⟩
  have hXl : wd.heap.size < w3.heap.size := World.block_lt_of_cell? _ _ hEy.c1
  have hba := ba1 w3 (.cells #[.pointer (some ⟨wd.heap.size, 0, none⟩), .int .i64 0, .int .u64 0, .int .i64 0, .int .i64 0, .int .i64 0] 176)
  have hyn := Blk.new w3 #[.pointer (some ⟨wd.heap.size, 0, none⟩), .int .i64 0, .int .u64 0, .int .i64 0, .int .i64 0, .int .i64 0] 176
  have hEA : EyAt (w3.alloc (.cells #[.pointer (some ⟨wd.heap.size, 0, none⟩), .int .i64 0, .int .u64 0, .int .i64 0, .int .i64 0, .int .i64 0] 176)) w3.heap.size wd.heap.size L Ey.zero := by
    refine ⟨hEy.below hba, ⟨fun i u hu => ?_, fun i hi => hyn.free i⟩, by omega⟩
    have hi : i < 6 := (List.getElem?_eq_some_iff.1 hu).1
    refine hyn.cell (i := i) ?_
    rw [<- hu]
    rcases (show i = 0 \/ i = 1 \/ i = 2 \/ i = 3 \/ i = 4 \/ i = 5 by omega) with rfl | rfl | rfl | rfl | rfl | rfl <;> rfl
  have hB4 := below_trans (below_trans hbd hb3) hba
  have hszd := hbd.size
  obtain ⟨X, hXe⟩ : ∃ X, X = wd.heap.size := ⟨_, rfl⟩
  obtain ⟨Y, hYe⟩ : ∃ Y, Y = w3.heap.size := ⟨_, rfl⟩
  rw [<- hXe] at hEA hXl hB4 hszd ⊢
  rw [<- hYe] at hEA hXl
  have HYE := Lib.hid hYe
  clear hXe hYe
  go_upto_region 11 with fail
  rw [<- HYE.out]
  obtain ⟨w4, hw4⟩ : ∃ x : World, x = w3.alloc (.cells #[.pointer (some ⟨X, 0, none⟩), .int .i64 0, .int .u64 0, .int .i64 0, .int .i64 0, .int .i64 0] 176) := ⟨_, rfl⟩
  rw [<- hw4] at hEA hB4 ⊢
  have hY4 : Y < w4.heap.size := by rw [hw4, HYE.out]; simp
  have HEA := Lib.hid hEA
  have HB4 := Lib.hid hB4
  clear HYE hw4 hEA hB4 hba hyn hEy hb3 hbd
  go_wp2_with fail
  go_loopw [9, 45] (fun out i wr => ∃ (k : Nat) (y : Ey) (acc : List Sm), k <= n /\ i = .int .i64 k /\ Hid (EyAt wr Y X L y) /\ Hid y.Ok /\ (-9223372036854775808 <= y.step /\ y.step <= 9223372036854775807) /\ (-9223372036854775808 <= y.t /\ y.t <= 9223372036854775807) /\ Hid (FBuf w4 wr 41 2 out acc.length (smc acc)) /\ Hid (Below w.heap.size w wr) /\ w4.heap.size <= wr.heap.size /\ acc.length = k /\ Hid (∀ x ∈ acc, x.2 < 18446744073709551616) /\ Hid (loopR L (n - k) k y acc = R0)) (fun _ i _ => n - (intOf i).toNat)
  case atStart => exact ⟨0, Ey.zero, [], Nat.zero_le _, rfl, HEA, Lib.hid Ey.zero_ok, by decide, by decide, Lib.hid (FBuf.nil _ _ _ _), HB4, Nat.le_refl _, rfl, Lib.hid (by simp), Lib.hid (by rw [HR0.out, Nat.sub_zero])⟩
  case round =>
    obtain ⟨k, y, acc, hk, rfl, HE, HO, hst, hyt, HF, HB, hsz4, hac, HAX, HL⟩ := hrel
    have HB4w := Lib.hid (HB4.out.size)
    clear HEA HB4
    by_cases hgo : k < n
    · have hnx := nextR_ok L HO.out (k == 0)
      have hrg := nextR_rg L y (k == 0)
      have hsp := nextR_step L y (k == 0) hst
      have hWr : WidthsAt wr := HWW.out.below (HB.out)
      obtain ⟨x, er, y2, hr⟩ : ∃ x er y2, nextR L y (k == 0) = (x, er, y2) := ⟨_, _, _, rfl⟩
      have HL2 := Lib.hid (show R0 = if er ≠ 0 then ([], er) else if 1099511627776 < x.1 \/ x.1 < 0 then ([], 3) else loopR L (n - (k + 1)) (k + 1) { y2 with t := x.1, v := x.2 } (acc ++ [x]) by
        rw [<- HL.out, show n - k = (n - (k + 1)) + 1 by omega, loopR, hr])
      have hcx := fun w' (h : EyAt w' Y X L y) (hW : WidthsAt w') => (show Calls Tryz.prog 83 #[.pointer (some ⟨Y, 0, none⟩), .bool (k == 0)] w' (EyTo3 w' Y X L (x, er, y2)) by rw [<- hr]; exact eyNext_any Y X L y (k == 0) w' h hW (by omega) (by omega) hLl HO.out hst hyt)
      rw [hr] at hnx hrg hsp
      simp only at hnx hrg hsp
      obtain ⟨hok2, hx2, her⟩ := hnx
      have hkb : (((k : Nat) : Int) == 0) = (k == 0) := by rw [Bool.eq_iff_iff, beq_iff_eq, beq_iff_eq]; omega
      have hcx2 : ∀ w' (_ : EyAt w' Y X L y) (_ : WidthsAt w'), Calls Tryz.prog 83 #[.pointer (some ⟨Y, 0, none⟩), .bool (((k : Nat) : Int) == 0)] w' (EyTo3 w' Y X L (x, er, y2)) := by rw [hkb]; exact hcx
      have HCX := Lib.hid hcx2
      have HWR := Lib.hid hWr
      clear hcx hcx2 hr hkb hWr hst hyt HL
      go_wp2_with fail
      refine (HCX.out _ HE.out HWR.out).mono ?_
      intro e w5 hto
      obtain ⟨rfl, h5⟩ := hto
      have hsz5 := h5.fr.size
      have hB5 := HB.out.trans (h5.fr.below (B := w.heap.size) HB.out.size (fun k i hk hS => by
        have hS : k = X \/ k = Y := hS
        omega))
      have hF5 := HF.out.fr h5.fr (fun k i hk hS => by
        have hS : k = X \/ k = Y := hS
        omega)
      have hba := ba1 w5 (.cells #[.int .i64 x.1, .int .u64 (x.2 : Nat)] 41)
      have HX6 := Lib.hid (Blk.new w5 #[.int .i64 x.1, .int .u64 (x.2 : Nat)] 41)
      have HE6 := Lib.hid (h5.at_.below hba)
      have HB6 := Lib.hid (below_trans hB5 hba)
      have HF6 := Lib.hid (hF5.below hba)
      have hsz6 : w5.heap.size < (w5.alloc (.cells #[.int .i64 x.1, .int .u64 (x.2 : Nat)] 41)).heap.size := by simp
      clear h5 hB5 hF5 hba HCX HWR
      have hx0 : (w5.alloc (.cells #[.int .i64 x.1, .int .u64 (x.2 : Nat)] 41)).cell? ⟨w5.heap.size, 0, none⟩ = some (.int .i64 x.1) := HX6.out.cell (i := 0) rfl
      have HX0 := Lib.hid hx0
      clear hx0
      by_cases her0 : er = 0
      · subst her0
        clear her
        by_cases hbig : 1099511627776 < x.1
        · have hr3 : R0 = ([], 3) := by rw [HL2.out, if_neg (fun h => h rfl), if_pos (.inl hbig)]
          have HRV := Lib.hid (show RB = ([], 3) by rw [HRB.out, hr3]; rfl)
          clear hr3
          have d1 : decide (1099511627776 < x.1) = true := decide_eq_true hbig
          go_wp2_with fail
          go_ret2
          exact ⟨_, by rw [HRV.out]; rfl, fun _ => rfl, fun h => (by rw [HRV.out] at h; cases h), HB6.out⟩
        · by_cases hneg : x.1 < 0
          · have hr3 : R0 = ([], 3) := by rw [HL2.out, if_neg (fun h => h rfl), if_pos (.inr hneg)]
            have HRV := Lib.hid (show RB = ([], 3) by rw [HRB.out, hr3]; rfl)
            clear hr3
            have d1 : decide (1099511627776 < x.1) = false := decide_eq_false hbig
            have d2 : decide (x.1 < 0) = true := decide_eq_true hneg
            go_wp2_with fail
            go_ret2
            exact ⟨_, by rw [HRV.out]; rfl, fun _ => rfl, fun h => (by rw [HRV.out] at h; cases h), HB6.out⟩
          · have HL3 := Lib.hid (show loopR L (n - (k + 1)) (k + 1) { y2 with t := x.1, v := x.2 } (acc ++ [x]) = R0 by rw [HL2.out, if_neg (by omega), if_neg (by omega)])
            have d1 : decide (1099511627776 < x.1) = false := decide_eq_false hbig
            have d2 : decide (x.1 < 0) = false := decide_eq_false hneg
            have hc1 : (w5.alloc (.cells #[.int .i64 x.1, .int .u64 (x.2 : Nat)] 41)).cell? ⟨Y, 1, none⟩ = some (.int .i64 y2.t) := HE6.out.yc.cell 1 _ rfl
            have hc2 : (w5.alloc (.cells #[.int .i64 x.1, .int .u64 (x.2 : Nat)] 41)).cell? ⟨Y, 2, none⟩ = some (.int .u64 (y2.v : Nat)) := HE6.out.yc.cell 2 _ rfl
            have hf1 : (w5.alloc (.cells #[.int .i64 x.1, .int .u64 (x.2 : Nat)] 41)).frozen? ⟨Y, 1, none⟩ = false := HE6.out.yc.free 1 (by omega)
            have hf2 : (w5.alloc (.cells #[.int .i64 x.1, .int .u64 (x.2 : Nat)] 41)).frozen? ⟨Y, 2, none⟩ = false := HE6.out.yc.free 2 (by omega)
            go_upto_region 20 with fail
            obtain ⟨w7, hw7⟩ : ∃ z : World, z = ((w5.alloc (.cells #[.int .i64 x.1, .int .u64 (x.2 : Nat)] 41)).setCell ⟨Y, 1, none⟩ (.int .i64 x.1)).setCell ⟨Y, 2, none⟩ (.int .u64 (x.2 : Nat)) := ⟨_, rfl⟩
            have hfr7 : Fr (fun k _ => k = Y) (w5.alloc (.cells #[.int .i64 x.1, .int .u64 (x.2 : Nat)] 41)) w7 := by
              rw [hw7]
              exact Fr.setCell (S := fun k _ => k = Y) (Fr.setCell (S := fun k _ => k = Y) (Fr.refl _ _) (fun _ => rfl) _) (fun _ => rfl) _
            have hE7 : EyAt w7 Y X L { y2 with t := x.1, v := x.2 } := by
              rw [hw7]
              exact ⟨(HE6.out.eye.set_other HE6.out.ne 1 _).set_other HE6.out.ne 2 _, (HE6.out.yc.set (y' := { y2 with t := x.1 }) 1 (by omega) (.int .i64 x.1) rfl).set (y' := { y2 with t := x.1, v := x.2 }) 2 (by omega) (.int .u64 (x.2 : Nat)) rfl, HE6.out.ne⟩
            have hB7 := HB6.out.trans (hfr7.below (B := w.heap.size) HB6.out.size (fun k i hk hS => by have hS : k = Y := hS; omega))
            have hF7 := HF6.out.fr hfr7 (fun k i hk hS => by have hS : k = Y := hS; omega)
            have hX7 : Blk w7 w5.heap.size 41 #[.int .i64 x.1, .int .u64 (x.2 : Nat)] := HX6.out.fr hfr7 (fun i hS => by have hS : w5.heap.size = Y := hS; omega)
            have hsz7 := hfr7.size
            rw [<- hw7]
            have hE7 := Lib.hid hE7
            have hB7 := Lib.hid hB7
            clear hw7 hfr7 hc1 hc2 hf1 hf2 HX6 HE6 HB6 HF6 HX0 d1 d2 HE HF HB
            have hx0 : w7.cell? ⟨w5.heap.size, 0, none⟩ = some (.int .i64 x.1) := hX7.cell (i := 0) rfl
            have hx1 : w7.cell? ⟨w5.heap.size, 1, none⟩ = some (.int .u64 (x.2 : Nat)) := hX7.cell (i := 1) rfl
            obtain ⟨oA, oc, rfl, _⟩ := hF7.buf.shape
            have hlen : acc.length <= 120 := by omega
            have hszz : w4.heap.size <= w7.heap.size := by omega
            go_wp2_with (at_builtin; refine wpList_append_flit rfl (.tmp 70) (.tmp 72) 32 rfl sm_ty rfl hF7.buf rfl (by simp) rfl (by simp [Value.oneCell']) (by simp only [maxLen]; omega) (by omega) ?_; intro v3 w8 hb8 ha8 hg8; have hbl8 := ba1 w7 (.cells #[.int .i64 x.1, .int .u64 (x.2 : Nat)] 41); have hbs8 := (hF7.below hbl8).belowB (Nat.le_trans hszz hbl8.size) ha8; have hF8 := Lib.hid ((hF7.below hbl8).step (Nat.le_trans hszz hbl8.size) hb8 hg8); have hfr8 : Fr (fun k _ => w4.heap.size <= k) (w7.alloc (.cells #[.int .i64 x.1, .int .u64 (x.2 : Nat)] 41)) w8 := Fr.of_ap ha8 (fun k _ hk => hF7.new k hk); clear hb8 ha8 hg8)
            go_roundw
            case rel =>
              have hsm : smc (acc ++ [x]) = smc acc ++ [.int .i64 x.1, .int .u64 (x.2 : Nat)] := by rw [smc_append]; rfl
              refine ⟨k + 1, { y2 with t := x.1, v := x.2 }, acc ++ [x], by omega, by go_num, ?_, Lib.hid ⟨hok2.e, hx2, hok2.lead, hok2.wide⟩, hsp, hrg, ?_, ?_, Nat.le_trans hszz (Nat.le_trans hbl8.size hbs8.size), by rw [List.length_append, hac]; rfl, ?_, HL3⟩
              · have hE8 := EyAt.below hE7.out hbl8
                exact Lib.hid ⟨hE8.eye.keep hfr8 (fun i _ _ hh => by have hh : w4.heap.size <= X := hh; omega), hE8.yc.keep hfr8 (fun i hh => by have hh : w4.heap.size <= Y := hh; omega), hE8.ne⟩
              · rw [hsm, List.length_append]
                exact hF8
              · exact Lib.hid ((below_trans hB7.out hbl8).trans (hbs8.mono (by omega)))
              · refine Lib.hid (fun z hz => ?_)
                rw [List.mem_append, List.mem_singleton] at hz
                rcases hz with hz | rfl
                · exact HAX.out z hz
                · exact hx2
            case measure => simp [intOf]; omega
      · have HRV := Lib.hid (show RB = ([], er) by rw [HRB.out, HL2.out, if_pos her0]; simp [her0])
        have hb0 : (((er : Nat) : Int) != 0) = true := by rw [bne_iff_ne]; omega
        have her0 := Lib.hid her0
        go_wp2_with fail
        go_ret2
        exact ⟨_, by rw [HRV.out]; rfl, fun _ => rfl, fun h => (by rw [HRV.out] at h; exact absurd h her0.out), HB6.out⟩
    · obtain rfl : k = n := by omega
      have hr3 : R0 = (acc, 0) := by rw [<- HL.out, Nat.sub_self, loopR]
      have hof := of_any acc _ wr (HF.out.slice) (HWW.out.below HB.out) HAX.out
      obtain ⟨Q, hQ⟩ : ∃ Q, Q = ofS St.zero acc := ⟨_, rfl⟩
      have HRV := Lib.hid (show RB = if Q.2 ≠ 0 \/ text Q.1 ≠ W then ([], 3) else (acc, 0) by rw [HRB.out, hr3, hQ]; rfl)
      rw [<- hQ] at hof
      obtain ⟨oA, oc, rfl, _⟩ := HF.out.buf.shape
      have hac2 := hac
      obtain ⟨q1, q2⟩ := Q
      simp only at hof HRV
      by_cases hq0 : q2 = 0
      · subst hq0
        rw [ofTx_ok rfl] at hof
        obtain ⟨tx, htx⟩ : ∃ tx, tx = text q1 := ⟨_, rfl⟩
        simp only at hof
        rw [<- htx] at hof HRV
        have HOF := Lib.hid hof
        by_cases htw : tx = W
        · have HR2 := Lib.hid (show RB = (acc, 0) by rw [HRV.out, if_neg (fun h => h.elim (fun h => h rfl) (fun h => h htw))])
          have b1 : (tx == W) = true := by rw [beq_iff_eq]; exact htw
          have b2 : (tx != W) = false := by rw [bne_eq_false_iff_eq]; exact htw
          clear hof htx hQ hr3 htw hac hac2 hgo hk
          go_wp2_with fail
          refine HOF.out.mono ?_
          rintro e w9 ⟨rfl, hb9⟩
          have HB9 := Lib.hid (below_trans HB.out hb9)
          have HF9 := Lib.hid ((HF.out.below hb9).older HB4w.out)
          clear hb9
          go_wp2_with fail
          go_ret2
          exact ⟨_, by rw [HR2.out]; rfl, fun h => absurd (by rw [HR2.out]) h, fun _ => by rw [HR2.out]; exact HF9.out, HB9.out⟩
        · have HR2 := Lib.hid (show RB = ([], 3) by rw [HRV.out, if_pos (.inr htw)])
          have b1 : (tx == W) = false := by rw [beq_eq_false_iff_ne]; exact htw
          have b2 : (tx != W) = true := by rw [bne_iff_ne]; exact htw
          clear hof htx hQ hr3 htw hac hac2 hgo hk
          go_wp2_with fail
          refine HOF.out.mono ?_
          rintro e w9 ⟨rfl, hb9⟩
          have HB9 := Lib.hid (below_trans HB.out hb9)
          clear hb9
          go_wp2_with fail
          go_ret2
          exact ⟨_, by rw [HR2.out]; rfl, fun _ => rfl, fun h => (by rw [HR2.out] at h; cases h), HB9.out⟩
      · rw [ofTx_no hq0] at hof
        have HOF := Lib.hid hof
        have HR2 := Lib.hid (show RB = ([], 3) by rw [HRV.out, if_pos (.inl hq0)])
        have b0 : (((q2 : Nat) : Int) != 0) = true := by rw [bne_iff_ne]; omega
        clear hof hQ hr3 hac hac2 hgo hk hq0
        go_wp2_with fail
        refine HOF.out.mono ?_
        rintro e w9 ⟨rfl, hb9⟩
        have HB9 := Lib.hid (below_trans HB.out hb9)
        clear hb9
        go_wp2_with fail
        go_ret2
        exact ⟨_, by rw [HR2.out]; rfl, fun _ => rfl, fun h => (by rw [HR2.out] at h; cases h), HB9.out⟩

theorem samples_any (W : List UInt8) (w : World) (hW : WidthsAt w) (hl : W.length <= 100000000) :
    Calls Tryz.prog 44 #[.string (bs W)] w (XRetSm w (samplesR W)) := by
  obtain ⟨n, r1, e1, h1⟩ : ∃ n r e, takeMost W 120 = (n, r, e) := ⟨_, _, _, rfl⟩
  obtain ⟨m, rest, e2, h2⟩ : ∃ n r e, takeMost r1 1048576 = (n, r, e) := ⟨_, _, _, rfl⟩
  have hr1 : r1.length <= W.length := by have := (takeMost_prop W 120 (by omega)).2.1; rw [h1] at this; exact this
  have hr2 : rest.length <= r1.length := by have := (takeMost_prop r1 1048576 (by omega)).2.1; rw [h2] at this; exact this
  have hm2 : m <= 9223372036854775807 := by have := (takeMost_prop r1 1048576 (by omega)).1; rw [h2] at this; exact this
  have T1 := Lib.hid (fun w => takeMost_of (v := n) (r := r1) (e := e1) (bs W) 120 h1 w (by rw [bs_size]; unfold maxLen; omega) (by omega) (by omega))
  have T2 := Lib.hid (fun w => takeMost_of (v := m) (r := rest) (e := e2) (bs r1) 1048576 h2 w (by rw [bs_size]; unfold maxLen; omega) (by omega) (by omega))
  have HV := Lib.hid (show samplesR W = if e1 ≠ 0 then ([], e1) else if e2 ≠ 0 then ([], e2) else if rest.length ≠ (m + 7) / 8 then ([], 3) else bodyR W n rest m by unfold samplesR; rw [h1]; simp only; rw [h2])
  by_cases g1 : e1 = 0
  · by_cases g2 : e2 = 0
    · by_cases g3 : rest.length = (m + 7) / 8
      · subst g1; subst g2
        rw [HV.out, if_neg (fun h => h rfl), if_neg (fun h => h rfl), if_neg (fun h => h g3)]
        exact samples_body W n m rest r1 w hW hl h1 h2 g3
      · have hm : m <= 1048576 := by
          unfold takeMost at h2
          split at h2
          · next hh => have := congrArg (·.2.2) h2; simp only at this; omega
          · next hh =>
            have hp := congrArg (·.1) h2
            have hp2 := congrArg (·.2.2) h2
            simp only at hp hp2
            rw [hp, hp2] at hh
            by_cases hle : m <= 1048576
            · exact hle
            · exact absurd ⟨g2, by show 1048576 < m; omega⟩ hh
        rw [HV.out, if_neg (fun h => h g1), if_neg (fun h => h g2), if_pos g3]
        subst g1; subst g2
        have hb : (((rest.length : Nat) : Int) != ((m : Int) + 7) / 8) = true := by rw [bne_iff_ne]; omega
        have HB := Lib.hid hb
        clear h1 h2 hr1 hr2 hb g3 HV hm2
        go_enter Tryz.func44, Tryz.ntmps44
        go_wp2_with fail
        refine (T1.out _).mono ?_
        rintro e w1 ⟨rfl, n1, rfl⟩
        go_wp2_with fail
        refine (T2.out _).mono ?_
        rintro e w2 ⟨rfl, n2, rfl⟩
        have hb := HB.out
        go_wp2_with fail
        go_ret2
        exact ⟨_, rfl, fun _ => rfl, fun h => (by cases h), below_draws w _⟩
    · rw [HV.out, if_neg (fun h => h g1), if_pos g2]
      subst g1
      have hb : (((e2 : Nat) : Int) != 0) = true := by rw [bne_iff_ne]; omega
      have HG := Lib.hid g2
      clear h1 h2 hr1 hr2 g2 HV hm2
      go_enter Tryz.func44, Tryz.ntmps44
      go_wp2_with fail
      refine (T1.out _).mono ?_
      rintro e w1 ⟨rfl, n1, rfl⟩
      go_wp2_with fail
      refine (T2.out _).mono ?_
      rintro e w2 ⟨rfl, n2, rfl⟩
      go_wp2_with fail
      go_ret2
      exact ⟨_, rfl, fun _ => rfl, fun h => absurd h HG.out, below_draws w _⟩
  · rw [HV.out, if_pos g1]
    have hb : (((e1 : Nat) : Int) != 0) = true := by rw [bne_iff_ne]; omega
    have HG := Lib.hid g1
    clear h1 h2 hr1 hr2 g1 HV hm2
    go_enter Tryz.func44, Tryz.ntmps44
    go_wp2_with fail
    refine (T1.out _).mono ?_
    rintro e w1 ⟨rfl, n1, rfl⟩
    go_wp2_with fail
    go_ret2
    exact ⟨_, rfl, fun _ => rfl, fun h => absurd h HG.out, below_draws w _⟩

end Go.Proofs.YtgabmfibfikdbaaGreatDoor

set_option maxHeartbeats 32000000
set_option maxRecDepth 10000
namespace Go.Proofs.YtgabmfibfikdbaaGreatDoor
open Go.RowKit Go.Bar Go.Bar.Leb Go.Bar.Frm Go.Bar.Lab Go.Bar.Xor Go.Bar.Mrg Go.Bar.Met Go.Bar.Bok

theorem recAt16 {w : World} {A : Option Addr} {n c i : Nat} {rs : List Rc} {k : UInt8} {d : List UInt8} (h : SlAt w 2 (.slice A n c) rs.length (frcs rs)) (hi : rs[i]? = some (k, d)) : ∃ b o, A = some ⟨b, o, none⟩ /\ b < w.heap.size /\ w.cell? ⟨b, o + i * 2, none⟩ = some (.int .u8 k.toNat) /\ w.cell? ⟨b, o + i * 2 + 1, none⟩ = some (.string (bs d)) := by
 have hlt : i < rs.length := (List.getElem?_eq_some_iff.1 hi).1
 obtain ⟨A', c', he, _⟩ := h.shape
 injection he with h1 h2 h3
 subst h1; subst h2; subst h3
 obtain ⟨b, o, rfl, hb, hc⟩ := SlAt.cells h (by omega)
 obtain ⟨g1, g2⟩ := flat2 (fun r : Rc => Value.int .u8 r.1.toNat) (fun r : Rc => Value.string (bs r.2)) rs i _ hi
 exact ⟨b, o, rfl, hb, hc _ _ g1, hc _ _ g2⟩
theorem recs_data : ∀ (n : Nat) (l : List UInt8), l.length <= n -> ∀ r ∈ recs l, r.2.length <= 1048576
 | 0, l, h => by
  have : l = [] := List.eq_nil_of_length_eq_zero (by omega)
  subst this
  rw [(recs_stop next_nil).1]
  intro r hr; cases hr
 | n + 1, l, h => by
  by_cases he : (Frm.next l).2.2 = 0
  ·have h1 := next_left l he
   have h2 := (next_one l he).2
   rw [(recs_go he).1]
   intro r hr
   rcases List.mem_cons.1 hr with rfl | hr
   ·exact h2
   ·exact recs_data n (Frm.next l).2.1 (by omega) r hr
  ·rw [(recs_stop he).1]
   intro r hr; cases hr
theorem tSm_at {rs : List Rc} {k : Nat} {r : Rc} {acc : List Sm} (h : rs[k]? = some r) : tSm (rs.drop k) acc = if (samplesR r.2).2 ≠ 0 \/ r.1 ≠ 4 \/ (samplesR r.2).1 = [] \/ late acc (samplesR r.2).1 then none else tSm (rs.drop (k + 1)) (acc ++ (samplesR r.2).1) := by
 obtain ⟨hlt, rfl⟩ := List.getElem?_eq_some_iff.1 h
 rw [List.drop_eq_getElem_cons hlt, tSm]
theorem late_nil (l : List Sm) : ¬ late [] l := fun ⟨a, b, h, _⟩ => by simp at h
theorem late_at {acc l : List Sm} {m : Nat} {x y : Sm} (hl : acc.length = m + 1) (hx : acc[m]? = some x) (hy : l[0]? = some y) : late acc l ↔ y.1 <= x.1 := by
 have e1 : acc.getLast? = some x := by rw [List.getLast?_eq_getElem?, hl]; exact hx
 have e2 : l.head? = some y := by rw [List.head?_eq_getElem?]; exact hy
 unfold late
 rw [e1, e2]
 exact ⟨fun ⟨a, b, h1, h2, h3⟩ => by injection h1 with h1; injection h2 with h2; rw [h1, h2]; exact h3, fun h => ⟨_, _, rfl, rfl, h⟩⟩

def RetSmE (w : World) (R : List Sm × Nat) (e : Ending) (w' : World) : Prop := ∃ v, e = .returned (.tuple #[v, .int .i64 (R.2 : Nat)]) /\ NBuf w w' 41 2 v R.1.length (smc R.1)
theorem RetSmE.no {w w' : World} {e : Nat} (h : Below w.heap.size w w') : RetSmE w ([], e) (.returned (.tuple #[.slice none 0 0, .int .i64 (e : Nat)])) w' := ⟨_, rfl, NBuf.nil h _ _⟩

theorem kchunks_any (s : List UInt8) (w : World) (hW : WidthsAt w) (hs : s.length <= 10000000) :
  Calls Tryz.prog 12 #[.string (bs s)] w (RetSmE w (smpsR s)) := by
 have hall := fun w => all_any s w (by omega)
 have hrd := recs_data s.length s (Nat.le_refl _)
 have hrl := recs_len s.length s (Nat.le_refl _)
 have hll := left_le s
 obtain ⟨R, hR⟩ : ∃ R, R = smpsR s := ⟨_, rfl⟩
 rw [<- hR]
 obtain ⟨rs, hrs⟩ : ∃ rs, rs = recs s := ⟨_, rfl⟩
 rw [<- hrs] at hall hrd hrl
 have HALL := Lib.hid hall
 have HR := Lib.hid hR
 have HRS := Lib.hid hrs
 have HRD := Lib.hid hrd
 have HW := Lib.hid hW
 clear hall hR hrs hrd hW
 by_cases hlf : left s = []
 ·have h0 : (left s).length = 0 := by rw [hlf]; rfl
  rw [h0] at HALL
  have hc0 : ((s.length : Int) - ((0 : Nat) : Int)) = (s.length : Int) := by omega
  have HALL2 : Hid (∀ w, Calls Tryz.prog 43 #[.string (bs s)] w (RetAll w 100 rs (s.length : Int))) := Lib.hid (fun w => by have := HALL.out w; rwa [hc0] at this)
  have hno : tSm rs [] = none -> R = ([], 3) := fun h => by rw [HR.out]; unfold smpsR; rw [if_neg (fun hh => hh hlf), <- HRS.out, h]
  have hyes : ∀ l, tSm rs [] = some l -> R = (l, 0) := fun l h => by rw [HR.out]; unfold smpsR; rw [if_neg (fun hh => hh hlf), <- HRS.out, h]
  have HNO := Lib.hid hno
  have HYES := Lib.hid hyes
  clear hlf h0 hc0 hno hyes HALL HR HRS
  go_enter Tryz.func12, Tryz.ntmps12
  go_wp2_with fail
  refine (HALL2.out _).mono ?_
  rintro e w1 ⟨v, rfl, hb1, hbl1⟩
  obtain ⟨rA, rc, rfl, hrc⟩ := hb1.shape
  have HB1 := Lib.hid (SlAt.of_buf hb1)
  have HBL := Lib.hid hbl1
  obtain ⟨RN, hRN⟩ : ∃ RN, RN = rs.length := ⟨_, rfl⟩
  rw [<- hRN] at hrc hrl ⊢
  have HRN := Lib.hid hRN
  clear hb1 hbl1 HALL2 hRN
  go_wp2_with fail
  go_loopw [23, 6] (fun i d wr => ∃ (k : Nat) (acc : List Sm), k <= RN /\ i = .int .i64 k /\ acc.length <= 120 * k /\ Hid (NBuf w1 wr 41 2 d acc.length (smc acc)) /\ Hid (tSm rs [] = tSm (rs.drop k) acc)) (fun i _ _ => RN - (intOf i).toNat)
  case atStart => exact ⟨0, [], Nat.zero_le _, rfl, Nat.zero_le _, Lib.hid (NBuf.nil (Below.refl _ _) _ _), Lib.hid rfl⟩
  case round =>
   obtain ⟨k, acc, hk, rfl, hal, hnb, HS⟩ := hrel
   have hbw := Lib.hid hnb.out.below
   obtain ⟨fA, fc, rfl, hfc⟩ := hnb.out.buf.shape
   by_cases hgo : k < RN
   ·obtain ⟨⟨kd, d⟩, hpk⟩ : ∃ p, rs[k]? = some p := ⟨_, List.getElem?_eq_getElem (by rw [<- HRN.out]; exact hgo)⟩
    obtain ⟨b, o, rfl, hbb, g1, g2⟩ := recAt16 (HB1.out.below hbw.out) hpk
    have hdl := HRD.out _ (List.mem_of_getElem? hpk)
    have hat := tSm_at (acc := acc) hpk
    have hsm := fun w hW => samples_any d w hW (by dsimp only at hdl; omega)
    have hsl := samplesR_len d
    obtain ⟨sl, se, hsr⟩ : ∃ sl se, samplesR d = (sl, se) := ⟨_, _, rfl⟩
    dsimp only at hat
    rw [hsr] at hat hsm hsl
    dsimp only at hat hsl
    have HAT := Lib.hid hat
    have HSM := Lib.hid hsm
    have hq := Blk.new wr #[.int .u8 (kd.toNat : Nat), .string (bs d)] 100
    have HN1 := Lib.hid (hnb.out.alloc (.cells #[.int .u8 (kd.toNat : Nat), .string (bs d)] 100))
    have HBW1 := Lib.hid (below_trans hbw.out (ba1 wr (.cells #[.int .u8 (kd.toNat : Nat), .string (bs d)] 100)))
    clear hpk hsr hat hsm hnb hdl
    go_wp2_with fail
    refine (HSM.out _ (HW.out.below (below_trans HBL.out HBW1.out))).mono ?_
    rintro e w2 ⟨v2, rfl, hv, hf, hb2⟩
    have HNX0 := Lib.hid (HN1.out.then_below hb2)
    have HBW2 := Lib.hid (below_trans HBW1.out hb2)
    have hq2 := hq.below hb2
    have q0 : w2.cell? ⟨wr.heap.size, 0, none⟩ = some (.int .u8 (kd.toNat : Nat)) := hq2.cell (i := 0) rfl
    dsimp only at hv hf
    clear hq HN1 HBW1
    by_cases hse : se = 0
    ·subst hse
     have hF := hf rfl
     obtain ⟨sA, sc, rfl, hsc⟩ := hF.buf.shape
     have HSX0 := Lib.hid hF.slice
     clear hv hf hF
     by_cases hkd : kd = 4
     ·subst hkd
      have hkz : ((((4 : UInt8).toNat : Nat) : Int) == 4) = true := by decide
      by_cases hsn : sl = []
      ·subst hsn
       have hR := HNO.out (by rw [HS.out, HAT.out, if_pos (.inr (.inr (.inl rfl)))])
       have HRES := Lib.hid hR
       clear hR
       go_wp2_with fail
       go_ret2
       rw [HRES.out]
       exact RetSmE.no (below_trans HBL.out HBW2.out)
      ·have hsl0 : 0 < sl.length := List.length_pos_iff.2 hsn
       have hpz : ((sl.length : Int) == 0) = false := by rw [beq_eq_false_iff_ne]; omega
       obtain ⟨y, hy⟩ : ∃ y, sl[0]? = some y := ⟨_, List.getElem?_eq_getElem hsl0⟩
       obtain ⟨sb, so, rfl, hsb, y0, _⟩ := SmsAt.at_ (l := sl) HSX0.out hy
       rw [Nat.zero_mul, Nat.add_zero] at y0
       have HSN := Lib.hid hsn
       rcases hacc : acc with _ | ⟨x0, xs0⟩
       ·subst hacc
        have HNE := Lib.hid (show ¬ ((0 : Nat) ≠ 0 \/ (4 : UInt8) ≠ 4 \/ sl = [] \/ late [] sl) from by
         rintro (h | h | h | h)
         ·exact h rfl
         ·exact h rfl
         ·exact HSN.out h
         ·exact late_nil _ h)
        clear hsn hy
        rw [List.length_nil] at HNX0 hfc ⊢
        rw [List.length_nil] at hal
        have HT2 := Lib.hid (HS.out.trans (by rw [HAT.out, if_neg HNE.out]))
        have HS3 := Lib.hid (fun q => SlAt.below HSX0.out (below_draws w2 q))
        have HD := Lib.hid (fun q => HNX0.out.drewN q)
        go_wp2_with fail
        go_quiet (fail)
        go_wp2_with (at_builtin; refine wpList_append_el rfl (.tmp 62) (.tmp 63) 32 32 rfl sm_ty rfl (HD.out _).buf rfl ((HS3.out _).src (by omega) (t := 32) Tryz.underlying32 (smc1 sl)) (by simp only [maxLen]; omega) (by omega) ?_; intro v' w' hb ha hg; have HN5 := Lib.hid ((HD.out _).step hb ha hg); clear hb ha hg)
        go_roundw
        case rel => exact ⟨k + 1, [] ++ sl, by omega, by go_num, by rw [List.nil_append]; omega, Lib.hid (by rw [List.length_append, smc_append]; exact HN5.out), HT2⟩
        case measure => simp [intOf]; try omega
       ·rw [<- hacc]
        obtain ⟨m, hm⟩ : ∃ m, acc.length = m + 1 := ⟨xs0.length, by rw [hacc]; rfl⟩
        obtain ⟨x, hx⟩ : ∃ x, acc[m]? = some x := ⟨_, List.getElem?_eq_getElem (by omega)⟩
        have hla := late_at hm hx hy
        obtain ⟨ab, ao, rfl, hab, x0', _⟩ := SmsAt.at_ (l := acc) HNX0.out.slice hx
        have HLA := Lib.hid hla
        have hk0 : (0 : Int) < (acc.length : Int) := by omega
        have hk1 : 0 < acc.length := by omega
        have hk2 : ¬ acc = [] := by rw [hacc]; simp
        have hk3 : decide ((0 : Int) < (acc.length : Int)) = true := decide_eq_true hk0
        have hkw : IntKind.i64.wrap ((acc.length : Int) - 1) = (m : Int) := by rw [IntKind.wrap_i64]; omega
        have hkq : (m : Int) < (acc.length : Int) := by omega
        have hkq0 : (0 : Int) <= (m : Int) := by omega
        clear hla hm hx hy hsn hacc
        by_cases hlt : y.1 <= x.1
        ·have hd : decide (y.1 <= x.1) = true := decide_eq_true hlt
         have hR := HNO.out (by rw [HS.out, HAT.out, if_pos (.inr (.inr (.inr (HLA.out.2 hlt))))])
         have HRES := Lib.hid hR
         clear hR
         go_wp2_with fail
         go_quiet (fail)
         go_wp2_with fail
         go_ret2
         rw [HRES.out]
         exact RetSmE.no (below_trans (below_trans HBL.out HBW2.out) (below_draws _ _))
        ·have hd : decide (y.1 <= x.1) = false := decide_eq_false hlt
         have HNE := Lib.hid (show ¬ ((0 : Nat) ≠ 0 \/ (4 : UInt8) ≠ 4 \/ sl = [] \/ late acc sl) from by
          rintro (h | h | h | h)
          ·exact h rfl
          ·exact h rfl
          ·exact HSN.out h
          ·exact hlt (HLA.out.1 h))
         have HT2 := Lib.hid (HS.out.trans (by rw [HAT.out, if_neg HNE.out]))
         have HS3 := Lib.hid (fun q => SlAt.below HSX0.out (below_draws w2 q))
         have HD := Lib.hid (fun q => HNX0.out.drewN q)
         go_wp2_with fail
         go_quiet (fail)
         go_wp2_with (at_builtin; refine wpList_append_el rfl (.tmp 62) (.tmp 63) 32 32 rfl sm_ty rfl (HD.out _).buf rfl ((HS3.out _).src (by omega) (t := 32) Tryz.underlying32 (smc1 sl)) (by simp only [maxLen]; omega) (by omega) ?_; intro v' w' hb ha hg; have HN5 := Lib.hid ((HD.out _).step hb ha hg); clear hb ha hg)
         go_roundw
         case rel => exact ⟨k + 1, acc ++ sl, by omega, by go_num, by rw [List.length_append]; omega, Lib.hid (by rw [List.length_append, smc_append]; exact HN5.out), HT2⟩
         case measure => simp [intOf]; try omega
     ·have hne : kd.toNat ≠ 4 := fun h => hkd (UInt8.toNat_inj.1 h)
      have hkz : (((kd.toNat : Nat) : Int) == 4) = false := by rw [beq_eq_false_iff_ne]; omega
      have hR := HNO.out (by rw [HS.out, HAT.out, if_pos (.inr (.inl hkd))])
      have HRES := Lib.hid hR
      clear hR
      go_wp2_with fail
      go_ret2
      rw [HRES.out]
      exact RetSmE.no (below_trans HBL.out HBW2.out)
    ·have hez : ((se : Int) == 0) = false := by rw [beq_eq_false_iff_ne]; omega
     obtain rfl := hv hse
     have hR := HNO.out (by rw [HS.out, HAT.out, if_pos (.inl hse)])
     have HRES := Lib.hid hR
     clear hR
     go_wp2_with fail
     go_ret2
     rw [HRES.out]
     exact RetSmE.no (below_trans HBL.out HBW2.out)
   ·obtain rfl : k = RN := by omega
    have hR := HYES.out acc (by rw [HS.out, HRN.out, List.drop_length]; rfl)
    have HRES := Lib.hid hR
    have HNF := Lib.hid (hnb.out.after HBL.out)
    clear hR hnb
    go_wp2_with fail
    go_ret2
    rw [HRES.out]
    exact ⟨_, rfl, HNF.out⟩
 ·have hlt : ((s.length : Int) - ((left s).length : Nat)) < (s.length : Int) := by
   have : 0 < (left s).length := List.length_pos_iff.2 hlf
   omega
  have hres : R = ([], 4) := by rw [HR.out]; unfold smpsR; rw [if_pos hlf]
  have HRES := Lib.hid hres
  obtain ⟨z, hz⟩ : ∃ z : Int, z = (s.length : Int) - ((left s).length : Nat) := ⟨_, rfl⟩
  rw [<- hz] at hlt HALL
  clear hres hz hlf hll HR
  go_enter Tryz.func12, Tryz.ntmps12
  go_wp2_with fail
  refine (HALL.out _).mono ?_
  rintro e w1 ⟨v, rfl, hb1, hbl1⟩
  have HBL := Lib.hid hbl1
  clear hb1 hbl1 HALL
  go_wp2_with fail
  go_ret2
  rw [HRES.out]
  exact RetSmE.no HBL.out
end Go.Proofs.YtgabmfibfikdbaaGreatDoor
