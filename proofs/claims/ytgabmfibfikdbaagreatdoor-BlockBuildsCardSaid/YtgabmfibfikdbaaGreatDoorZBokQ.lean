/-
 Layer 16: the walk of the reference's Build.
-/
import Derived.Test.YtgabmfibfikdbaaGreatDoorZBokHd
import Derived.Test.YtgabmfibfikdbaaGreatDoorZMetR
import Derived.Test.YtgabmfibfikdbaaGreatDoorZMetQ
import Derived.Test.YtgabmfibfikdbaaGreatDoorZXorQ
import Derived.Test.YtgabmfibfikdbaaGreatDoorZBokM
import Derived.Test.YtgabmfibfikdbaaGreatDoorZLib2
import Derived.Test.YtgabmfibfikdbaaGreatDoorZBokJ

set_option maxHeartbeats 32000000
set_option maxRecDepth 10000
namespace Go.Proofs.YtgabmfibfikdbaaGreatDoor
open Go.RowKit Go.Bar Go.Bar.Leb Go.Bar.Frm Go.Bar.Lab Go.Bar.Xor Go.Bar.Mrg Go.Bar.Met Go.Bar.Bok

def RetBr (w : World) (id : List UInt8) (a b lv : Int) (sv : Value) (ss : List (List UInt8)) (R : List Row) (e : Ending) (w' : World) : Prop :=
 (BdOk id a b lv ss R /\ ∃ F fc, e = .returned (.tuple #[.agg #[.string (bs id), .int .i64 a, .int .i64 b, .int .i64 lv, .int .i64 (R.length : Nat), .int .i64 (cntR R : Nat), .slice F 2 fc, sv, .string (bs (bCh R)), .string (bs (idxB (bEn R 0)))], .int .i64 0]) /\ Buf w' 151 3 (.slice F 2 fc) 2 (fcs (bMt id a b lv ss R).fs) /\ Below w.heap.size w w') \/
 (¬ BdOk id a b lv ss R /\ e = .returned (.tuple #[filesZ, .int .i64 1]) /\ Below w.heap.size w w')
def FinBr (w : World) (X : Nat) (fs : List Fl) (v0 v1 v2 v3 v4 v5 v7 v8 v9 : Value) (vs : Nat -> Value) (w' : World) : Prop :=
 ∃ g, vs 14 = .slice (some ⟨g, 0, none⟩) 2 2 /\ Buf w' 151 3 (.slice (some ⟨g, 0, none⟩) 2 2) 2 (fcs fs) /\ Blk w' (X + 1) 72 cF0 /\ Blk w' (X + 2) 72 #[v0, v1, v2, v3, v4, v5, .slice (some ⟨g, 0, none⟩) 2 2, v7, v8, v9] /\ Below w.heap.size w w'
theorem FinBr.of {w wA wx : World} {X g : Nat} {fs : List Fl} {v0 v1 v2 v3 v4 v5 v6 v7 v8 v9 : Value} {vs : Nat -> Value} (q6 : vs 14 = .slice (some ⟨g, 0, none⟩) 2 2) (f6 : FBuf wA wx 151 3 (.slice (some ⟨g, 0, none⟩) 2 2) 2 (fcs fs))
  (hX : Blk wx (X + 1) 72 cF0) (hY : Blk wx (X + 2) 72 #[v0, v1, v2, v3, v4, v5, v6, v7, v8, v9]) (hB : Below w.heap.size w wx) (hXw : w.heap.size <= X + 2) (u : Value) :
  FinBr w X fs v0 v1 v2 v3 v4 v5 v7 v8 v9 (Dv.updV vs 17 u) (wx.setCell ⟨X + 2, 6, none⟩ (.slice (some ⟨g, 0, none⟩) 2 2)) := by
 have hf : Fr (fun k _ => k = X + 2) wx (wx.setCell ⟨X + 2, 6, none⟩ (.slice (some ⟨g, 0, none⟩) 2 2)) := fr1 fr0 6 _
 refine ⟨g, ?_, ?_, hX.fr hf (fun i (e : X + 1 = X + 2) => by omega), by simpa using hY.set 6 (.slice (some ⟨g, 0, none⟩) 2 2), hB.setCell (p := ⟨X + 2, 6, none⟩) hXw _⟩
 ·rw [Dv.updV_ne _ _ (by decide), q6]
 ·exact f6.buf.fr_ne hY (by decide) hf
theorem blk_dif {w : World} {M N : Nat} {T T' : TypeId} {c c' : Array Value} (h : Blk w M T c) (h' : Blk w N T' c') (hne : T ≠ T') : M ≠ N := fun e => hne (by
 subst e
 have e : some (Obj.cells c T) = some (Obj.cells c' T') := h.symm.trans h'
 injection e with e
 injection e)
theorem cntR_take {R : List Row} {k : Nat} {r : Row} (h : R[k]? = some r) : cntR (R.take (k + 1)) = cntR (R.take k) + r.2.length := by
 rw [List.take_add_one, h]
 simp [cntR]

theorem rbuild_any (id : List UInt8) (a b lv : Int) (sv : Value) (ss : List (List UInt8)) (tv : Value) (t : List Rv) (w : World) (hS : SrcAt w sv ss) (hT : TbAt w tv t)
  (hid : id.length <= 1000000) (hsl : ss.length <= 1000 /\ ∀ s ∈ ss, s.length <= 1000000) (htl : t.length <= 1000)
  (hsm : ∀ r ∈ t.map plR, SmOk r.2 /\ r.2.length <= 1000) (hlb : ∀ r ∈ t.map plR, r.1.length <= 1000 /\ ∀ p ∈ r.1, p.1.length <= 1000000 /\ p.2.length <= 1000000)
  (hC : (bCh (t.map plR)).length <= 1048576) (hD : (idxD (bEn (t.map plR) 0)).length <= 1048000) :
  Calls Tryz.prog 24 #[.agg #[.string (bs id), .int .i64 a, .int .i64 b, .int .i64 lv, .int .i64 0, .int .i64 0, .slice none 0 0, sv], tv] w (RetBr w id a b lv sv ss (t.map plR)) := by
 obtain ⟨tA, tc, rfl, htc, htm⟩ := hT.shape
 obtain ⟨sA, sc, rfl, hsc, hscm⟩ := SlAt.shape hS
 obtain ⟨R, hR⟩ : ∃ R, R = t.map plR := ⟨_, rfl⟩
 have hRl : R.length = t.length := by rw [hR, List.length_map]
 have hgs : ∀ x ∈ t, x.ss.length <= 1000000 := fun x hx => by
  have := (hsm (plR x) (List.mem_map_of_mem hx)).2
  have h2 : (plR x).2.length = x.ss.length := rfl
  omega
 rw [<- hR] at hsm hlb hC hD ⊢
 have hcle := bCh_le R
 have HT := Lib.hid hT
 have HS := Lib.hid hS
 have HR := Lib.hid hR
 have HRL := Lib.hid hRl
 have HSM := Lib.hid hsm
 have HLB := Lib.hid hlb
 have HCL := Lib.hid hcle
 have HC := Lib.hid hC
 have HDD := Lib.hid hD
 have HSL := Lib.hid hsl
 obtain ⟨TN, hTN⟩ : ∃ TN, TN = t.length := ⟨_, rfl⟩
 obtain ⟨SN, hSN⟩ : ∃ SN, SN = ss.length := ⟨_, rfl⟩
 rw [<- hTN] at htc htl HT HRL ⊢
 rw [<- hSN] at HS ⊢
 have HTN := Lib.hid hTN
 have HSN := Lib.hid hSN
 have hgood : ∀ w', Below w.heap.size w w' -> Calls Tryz.prog 63 #[.slice tA TN tc] w' (RetBelow w' (.bool (goodB R))) := fun w' hb => by
  have := rgood_any (.slice tA TN tc) t w' (HT.out.below hb) hgs
  rw [<- HR.out] at this
  exact this
 have HGOOD := Lib.hid hgood
 clear hT hS hR hRl hsm hlb hcle hC hD hsl hTN hSN hgood hgs
 have M1 := Blk.new w #[.string (bs id), .int .i64 a, .int .i64 b, .int .i64 lv, .int .i64 0, .int .i64 0, .slice none 0 0, .slice sA SN sc] 70
 have X1 := Blk.new (w.alloc (.cells #[.string (bs id), .int .i64 a, .int .i64 b, .int .i64 lv, .int .i64 0, .int .i64 0, .slice none 0 0, .slice sA SN sc] 70)) cF0 72
 have Y1 := Blk.new ((w.alloc (.cells #[.string (bs id), .int .i64 a, .int .i64 b, .int .i64 lv, .int .i64 0, .int .i64 0, .slice none 0 0, .slice sA SN sc] 70)).alloc (.cells cF0 72)) cF0 72
 have b1 := below_trans (below_trans (below_al w (.cells #[.string (bs id), .int .i64 a, .int .i64 b, .int .i64 lv, .int .i64 0, .int .i64 0, .slice none 0 0, .slice sA SN sc] 70)) (below_al _ (.cells cF0 72))) (below_al _ (.cells cF0 72))
 have M1 := (M1.alloc (.cells cF0 72)).alloc (.cells cF0 72)
 have X1 := X1.alloc (.cells cF0 72)
 rw [show (w.alloc (.cells #[.string (bs id), .int .i64 a, .int .i64 b, .int .i64 lv, .int .i64 0, .int .i64 0, .slice none 0 0, .slice sA SN sc] 70)).heap.size = w.heap.size + 1 by simp] at X1
 rw [show ((w.alloc (.cells #[.string (bs id), .int .i64 a, .int .i64 b, .int .i64 lv, .int .i64 0, .int .i64 0, .slice none 0 0, .slice sA SN sc] 70)).alloc (.cells cF0 72)).heap.size = w.heap.size + 2 by simp] at Y1
 go_enter Tryz.func24, Tryz.ntmps24
 go_upto_region 2 with fail
 obtain ⟨wz, hwz⟩ : ∃ wz, wz = ((w.alloc (.cells #[.string (bs id), .int .i64 a, .int .i64 b, .int .i64 lv, .int .i64 0, .int .i64 0, .slice none 0 0, .slice sA SN sc] 70)).alloc (.cells #[.string { data := #[] }, .int .i64 0, .int .i64 0, .int .i64 0, .int .i64 0, .int .i64 0, .slice none 0 0, .slice none 0 0, .string { data := #[] }, .string { data := #[] }] 72)).alloc (.cells #[.string { data := #[] }, .int .i64 0, .int .i64 0, .int .i64 0, .int .i64 0, .int .i64 0, .slice none 0 0, .slice none 0 0, .string { data := #[] }, .string { data := #[] }] 72) := ⟨_, rfl⟩
 unfold cF0 at X1 Y1 M1 b1
 obtain ⟨X, hX⟩ : ∃ X, X = w.heap.size := ⟨_, rfl⟩
 have hPw : w.heap.size <= X + 1 := by omega
 have hQw : w.heap.size <= X + 2 := by omega
 rw [<- hwz, <- hX] at M1 X1 Y1
 rw [<- hwz] at b1 ⊢
 rw [<- hX]
 clear hwz hX
 by_cases hgd : goodB R = true
 ·rw [hgd] at HGOOD
  have HGD := Lib.hid hgd
  clear hgd
  go_wp2_with fail
  refine (HGOOD.out _ b1).mono ?_
  rintro e w1 ⟨rfl, hb1⟩
  have HM2 := Lib.hid (M1.below hb1)
  have HX2 := Lib.hid (X1.below hb1)
  have HY2 := Lib.hid (Y1.below hb1)
  have HB2 := Lib.hid (below_trans b1 hb1)
  clear M1 X1 Y1 b1 hb1 HGOOD
  go_upto_region 5 with fail
  obtain ⟨w2, hw2⟩ : ∃ w2, w2 = w1.alloc (.cells #[] 114) := ⟨_, rfl⟩
  have hb2 : Below w1.heap.size w1 w2 := by rw [hw2]; exact below_al _ _
  have HD0 : Hid (DEs w w w w2 114 146 (.slice (some ⟨w1.heap.size, 0, none⟩) 0 0) []) := Lib.hid (by
   rw [hw2]
   exact ⟨NBuf.lit0 HB2.out 114 5, Below.refl _ _, fun x hx => by cases hx⟩)
  rw [<- hw2]
  obtain ⟨OB, hOB⟩ : ∃ OB, OB = w1.heap.size := ⟨_, rfl⟩
  rw [<- hOB] at HD0 ⊢
  have HM3 := Lib.hid (HM2.out.below hb2)
  have HX3 := Lib.hid (HX2.out.below hb2)
  have HY3 := Lib.hid (HY2.out.below hb2)
  clear HM2 HX2 HY2 HB2 hb2 hw2 hOB
  go_upto_region 7 with fail
  go_loopw [24, 7, 8] (fun iv ev nv wr => ∃ (k : Nat) (es : List Ev) (cn : Nat), iv = .int .i64 k /\ k <= TN /\ nv = .int .i64 (cn : Nat) /\ cn <= 1000 * k /\ es.length = k /\ Hid (cn = cntR (R.take k)) /\ Hid (DEs w w w wr 114 146 ev es) /\ Hid (es.map plE = bEn (R.take k) 0) /\
   Hid (∀ r ∈ R.take k, RowOk a b r) /\ Hid (Blk wr X 70 #[.string (bs id), .int .i64 a, .int .i64 b, .int .i64 lv, .int .i64 0, .int .i64 0, .slice none 0 0, .slice sA SN sc]) /\ Hid (Blk wr (X + 1) 72 cF0) /\ Hid (Blk wr (X + 2) 72 #[.string { data := #[] }, .int .i64 0, .int .i64 0, .int .i64 0, .int .i64 0, .int .i64 0, .slice none 0 0, .slice none 0 0, .string (bs (bCh (R.take k))), .string { data := #[] }])) (fun iv _ _ _ => TN - (intOf iv).toNat)
  case atStart => exact ⟨0, [], 0, rfl, Nat.zero_le _, rfl, Nat.zero_le _, rfl, Lib.hid rfl, HD0, Lib.hid rfl, Lib.hid (fun r hr => by simp at hr), HM3, HX3, HY3⟩
  case round =>
   obtain ⟨k, es, cn, rfl, hk, rfl, hcn, hel, HCN, HES, HEQ, HRO, HM, HX, HY⟩ := hrel
   clear HM3 HX3 HY3 HD0
   have HBR := Lib.hid HES.out.n.below
   obtain ⟨oA, oc, rfl, hoc⟩ := HES.out.n.buf.shape
   have HEL := Lib.hid hel
   have hesl : es.length <= 1000 := by omega
   have hcl := HCL.out k
   have hCC := HC.out
   obtain ⟨Y, hYd⟩ : ∃ Y, Y = bCh (R.take k) := ⟨_, rfl⟩
   have hYl : Y.length <= 1048576 := by rw [hYd]; omega
   rw [<- hYd] at HY
   have HYD := Lib.hid hYd
   clear hel hcl hCC hYd
   by_cases hgo : k < TN
   ·obtain ⟨⟨ls, sl, la, lc, sa, sc'⟩, hx⟩ : ∃ x, t[k]? = some x := ⟨_, List.getElem?_eq_getElem (by rw [<- HTN.out]; exact hgo)⟩
    obtain ⟨tb, to_, rfl, g0, g1, hrat⟩ := (HT.out.below HBR.out).at_ hx
    have hrk : R[k]? = some (ls, sl) := by rw [HR.out, List.getElem?_map, hx]; rfl
    have hrm := List.mem_of_getElem? hrk
    have htk := take_snoc hrk
    have hck := cntR_take hrk
    obtain ⟨hsmo, hsl1⟩ := HSM.out _ hrm
    obtain ⟨hlb1, hlb2⟩ := HLB.out _ hrm
    dsimp only at g0 g1 hsmo hsl1 hlb1 hlb2 hck
    have HTK := Lib.hid htk
    have HRM := Lib.hid hrm
    have HCK2 := Lib.hid hck
    obtain ⟨wb, hwb⟩ : ∃ wb, wb = wr.alloc (.cells #[.slice la ls.length lc, .slice sa sl.length sc'] 62) := ⟨_, rfl⟩
    have hb2 : Below wr.heap.size wr wb := by rw [hwb]; exact below_al _ _
    have HZ : Hid (Blk wb wr.heap.size 62 #[.slice la ls.length lc, .slice sa sl.length sc']) := Lib.hid (by rw [hwb]; exact Blk.new _ _ _)
    have HPW : Hid (PsAt w (.slice la ls.length lc) ls) := Lib.hid (HT.out.2 _ (List.mem_of_getElem? hx)).1
    have HSW : Hid (SmsAt w (.slice sa sl.length sc') sl) := Lib.hid (HT.out.2 _ (List.mem_of_getElem? hx)).2
    have HES4 := Lib.hid (HES.out.below hb2)
    have HM4 := Lib.hid (HM.out.below hb2)
    have HX4 := Lib.hid (HX.out.below hb2)
    have HY4 := Lib.hid (HY.out.below hb2)
    have HB4 := Lib.hid (below_trans HBR.out hb2)
    have hck := fun w' (hb : Below w.heap.size w w') => rcheck_any6 (.slice la ls.length lc) ls w' (HPW.out.below hb) (fun p hp => by have := (hlb2 p hp).1; omega)
    have hchs := fun w' (hb : Below w.heap.size w w') => xchunks_any (.slice sa sl.length sc') sl w' (SmsAt.below HSW.out hb) hsmo (by omega)
    have HCK := Lib.hid hck
    have HCHS := Lib.hid hchs
    have HSMO := Lib.hid hsmo
    clear hx hrk hrm htk hrat hck hlb2 hsmo hchs HES HM HX HY HBR
    go_upto_region 9 with fail
    rw [<- hwb]
    obtain ⟨Z, hZ⟩ : ∃ Z, Z = wr.heap.size := ⟨_, rfl⟩
    rw [<- hZ] at HZ ⊢
    clear hwb hZ hb2 g0 g1
    obtain ⟨r0, r1⟩ := HZ.out.c2
    have hbad : ¬ RowOk a b (ls, sl) -> ¬ BdOk id a b lv ss R := fun h hok => h (hok.rows _ HRM.out)
    have HBAD := Lib.hid hbad
    clear hbad
    rcases hq0 : sl with _ | ⟨s0, sr0⟩
    ·subst hq0
     have hno : ¬ BdOk id a b lv ss R := HBAD.out (fun h => h.ne rfl)
     have HNO := Lib.hid hno
     obtain ⟨x0, x1, x2, x3, x4, x5, x6, x7, x8, x9⟩ := (HX4.out).c10
     obtain ⟨z0, z1, z2, z3, z4, z5, z6, z7, z8, z9⟩ := Blk.f10 (HX4.out)
     clear hno HX4 HY4 HM4 HES4 HCK HCHS HZ
     go_wp2_with fail
     refine bodyPost_ret (v := .tuple #[filesZ, .int .i64 1]) (by simp [filesZ, results, Tryz.results24, go_sem, x0, x1, x2, x3, x4, x5, x6, x7, x8, x9]; rfl) rfl ?_
     exact .inr ⟨HNO.out, rfl, bel10 HB4.out hPw _ _ _ _ _ _ _ _ _ _⟩
    ·rw [<- hq0]
     obtain ⟨q, hq⟩ : ∃ q, sl.length = q + 1 := ⟨sr0.length, by rw [hq0]; rfl⟩
     obtain ⟨y, hy⟩ : ∃ y, sl[0]? = some y := ⟨_, List.getElem?_eq_getElem (by omega)⟩
     obtain ⟨z, hz⟩ : ∃ z, sl[q]? = some z := ⟨_, List.getElem?_eq_getElem (by omega)⟩
     have hfy := first_at hy
     have hlz := last_at hq hz
     have hsz : ((sl.length : Int) == 0) = false := by rw [beq_eq_false_iff_ne]; omega
     have hqw : IntKind.i64.wrap ((sl.length : Int) - 1) = (q : Int) := by rw [IntKind.wrap_i64]; omega
     have hqn : (q : Int) < (sl.length : Int) := by omega
     have hqn0 : (0 : Int) <= (q : Int) := by omega
     have hsne : sl ≠ [] := by rw [hq0]; simp
     have hps0 : (0 : Int) < (sl.length : Int) := by omega
     have HFY := Lib.hid hfy
     have HLZ := Lib.hid hlz
     have HSNE := Lib.hid hsne
     obtain ⟨sb, so, hsaE, _, _, _⟩ := SmsAt.at_ (l := sl) HSW.out hy
     subst hsaE
     have hcells : ∀ w', Below w.heap.size w w' -> w'.cell? ⟨sb, so, none⟩ = some (.int .i64 y.1) /\ w'.cell? ⟨sb, so + q * 2, none⟩ = some (.int .i64 z.1) := fun w' hb => by
      obtain ⟨b1, o1, e1, _, h1, _⟩ := SmsAt.at_ (l := sl) (SmsAt.below HSW.out hb) hy
      obtain ⟨b2, o2, e2, _, h2, _⟩ := SmsAt.at_ (l := sl) (SmsAt.below HSW.out hb) hz
      injection e1 with e1
      injection e1 with e3 e4 _
      subst e3; subst e4
      injection e2 with e2
      injection e2 with e3 e4 _
      subst e3; subst e4
      exact ⟨by simpa using h1, h2⟩
     have HCELLS := Lib.hid hcells
     clear hcells hy hz hfy hlz hq hq0 hsne
     by_cases hlab : Lab.Ok ls
     ·rw [chk_true hlab] at HCK
      have HLAB := Lib.hid hlab
      clear hlab
      go_wp2_with fail
      refine (HCK.out _ HB4.out).mono ?_
      rintro e w5 ⟨rfl, hb5⟩
      have HX5 := Lib.hid (HX4.out.below hb5)
      have HY5 := Lib.hid (HY4.out.below hb5)
      have HM5 := Lib.hid (HM4.out.below hb5)
      have HB5 := Lib.hid (below_trans HB4.out hb5)
      have HZ5 := Lib.hid (HZ.out.below hb5)
      have HES5 := Lib.hid (HES4.out.below hb5)
      obtain ⟨f0, f1⟩ := HCELLS.out _ HB5.out
      have r0 := HZ5.out.c2.1
      have r1 := HZ5.out.c2.2
      have m1 := HM5.out.cell (i := 1) rfl
      have m2 := HM5.out.cell (i := 2) rfl
      clear HX4 HY4 HM4 HB4 HZ HES4 HCK hb5
      by_cases hfa : y.1 < a
      ·have hfd : decide (y.1 < a) = true := decide_eq_true hfa
       have hno : ¬ BdOk id a b lv ss R := HBAD.out (fun h => by have h1 := h.fr; have h1 : a <= first sl := h1; rw [HFY.out] at h1; omega)
       have HNO := Lib.hid hno
       obtain ⟨x0, x1, x2, x3, x4, x5, x6, x7, x8, x9⟩ := (HX5.out).c10
       obtain ⟨z0, z1, z2, z3, z4, z5, z6, z7, z8, z9⟩ := Blk.f10 (HX5.out)
       clear hno HX5 HY5 HM5 HES5 HZ5
       go_wp2_with fail
       refine bodyPost_ret (v := .tuple #[filesZ, .int .i64 1]) (by simp [filesZ, results, Tryz.results24, go_sem, x0, x1, x2, x3, x4, x5, x6, x7, x8, x9]; rfl) rfl ?_
       exact .inr ⟨HNO.out, rfl, bel10 HB5.out hPw _ _ _ _ _ _ _ _ _ _⟩
      ·have hfd : decide (y.1 < a) = false := decide_eq_false hfa
       by_cases hlb3 : b <= z.1
       ·have hld : decide (b <= z.1) = true := decide_eq_true hlb3
        have hno : ¬ BdOk id a b lv ss R := HBAD.out (fun h => by have h1 := h.to; have h1 : last sl < b := h1; rw [HLZ.out] at h1; omega)
        have HNO := Lib.hid hno
        obtain ⟨x0, x1, x2, x3, x4, x5, x6, x7, x8, x9⟩ := (HX5.out).c10
        obtain ⟨z0, z1, z2, z3, z4, z5, z6, z7, z8, z9⟩ := Blk.f10 (HX5.out)
        clear hno HX5 HY5 HM5 HES5 HZ5
        go_wp2_with fail
        refine bodyPost_ret (v := .tuple #[filesZ, .int .i64 1]) (by simp [filesZ, results, Tryz.results24, go_sem, x0, x1, x2, x3, x4, x5, x6, x7, x8, x9]; rfl) rfl ?_
        exact .inr ⟨HNO.out, rfl, bel10 HB5.out hPw _ _ _ _ _ _ _ _ _ _⟩
       ·have hld : decide (b <= z.1) = false := decide_eq_false hlb3
        have hro : RowOk a b (ls, sl) := ⟨HSNE.out, HLAB.out, by show a <= first sl; rw [HFY.out]; omega, by show last sl < b; rw [HLZ.out]; omega, HSMO.out.tm⟩
        have HRO2 := Lib.hid hro
        clear hro
        go_upto_region 16 with fail
        clear f0 f1 m1 m2 r0 r1 hfd hld hqw hqn hqn0 hsz
        obtain ⟨wo, rfl⟩ : ∃ wo : World, wo = wr := ⟨_, rfl⟩
        go_loopw [67] (fun i wr => ∃ j : Nat, i = .int .i64 j /\ j <= sl.length /\ Hid (Below w5.heap.size w5 wr)) (fun i _ => sl.length - (intOf i).toNat)
        case atStart => exact ⟨0, rfl, Nat.zero_le _, Lib.hid (Below.refl _ _)⟩
        case round =>
         obtain ⟨j, rfl, hj, HBJ⟩ := hrel
         by_cases hgo2 : j < sl.length
         ·obtain ⟨x, hx⟩ : ∃ x, sl[j]? = some x := ⟨_, List.getElem?_eq_getElem hgo2⟩
          obtain ⟨b1, o1, e1, _, s0, s1⟩ := SmsAt.at_ (l := sl) (SmsAt.below HSW.out (below_trans HB5.out HBJ.out)) hx
          injection e1 with e1
          injection e1 with e3 e4 _
          subst e3; subst e4
          obtain ⟨ht0, ht1⟩ := HSMO.out.tm x (List.mem_of_getElem? hx)
          have hd0 : decide (x.1 < 0) = false := decide_eq_false (by omega)
          have hd1 : decide ((1099511627776 : Int) < x.1) = false := decide_eq_false (by omega)
          have HBK := Lib.hid (below_trans HBJ.out (below_al wr (.cells #[.int .i64 x.1, .int .u64 (x.2 : Nat)] 41)))
          clear hx
          go_wp2_with fail
          go_roundw
          case rel => exact ⟨j + 1, by go_num, by omega, HBK⟩
          case measure => simp [intOf]; omega
         ·obtain rfl : j = sl.length := by omega
          have HX6 := Lib.hid (HX5.out.below HBJ.out)
          have HY6 := Lib.hid (HY5.out.below HBJ.out)
          have HM6 := Lib.hid (HM5.out.below HBJ.out)
          have HB6 := Lib.hid (below_trans HB5.out HBJ.out)
          have HZ6 := Lib.hid (HZ5.out.below HBJ.out)
          have HES6 := Lib.hid (HES5.out.below HBJ.out)
          obtain ⟨r0, r1⟩ := HZ6.out.c2
          obtain ⟨C, hC⟩ : ∃ C, C = chB sl := ⟨_, rfl⟩
          have HCC := Lib.hid hC
          have hchs := HCHS.out
          rw [<- hC] at hchs
          have HCH2 := Lib.hid hchs
          have hlen7 := HCL.out (k + 1)
          rw [HTK.out, bCh_snoc, <- HYD.out, List.length_append] at hlen7
          have hlen7 : Y.length + (chB sl).length <= 1048576 := Nat.le_trans hlen7 HC.out
          rw [<- hC] at hlen7
          clear hC hchs HX5 HY5 HM5 HB5 HZ5 HES5 HBJ hgo2 HCHS
          go_wp2_with fail
          refine (HCH2.out _ HB6.out).mono ?_
          rintro e w7 ⟨rfl, hb7⟩
          have HX7 := Lib.hid (HX6.out.below hb7)
          have HY7 := Lib.hid (HY6.out.below hb7)
          have HM7 := Lib.hid (HM6.out.below hb7)
          have HB7 := Lib.hid (below_trans HB6.out hb7)
          have HZ7 := Lib.hid (HZ6.out.below hb7)
          have HES7 := Lib.hid (HES6.out.below hb7)
          clear r0 r1 hb7 HX6 HY6 HM6 HB6 HZ6 HES6 HCH2
          go_upto_region 22 with fail
          obtain ⟨r0, r1⟩ := HZ7.out.c2
          have y8 := HY7.out.cell (i := 8) rfl
          have hnb := HES7.out.n
          have hn1 : ¬ 9223372036854775807 < Y.length + C.length := by omega
          have hcw : IntKind.i64.wrap ((cn : Int) + (sl.length : Int)) = ((cn + sl.length : Nat) : Int) := by rw [IntKind.wrap_i64]; omega
          go_upto_region 23 with (at_builtin; refine wpList_append_nlit rfl (.tmp 84) (.tmp 95) 29 rfl rentry_ty rfl hnb rfl (by simp) rfl (by simp [Value.oneCell']) (by simp only [maxLen]; omega) (by omega) ?_; intro v8 w8 hn8 ha8; have HAP := Lib.hid ha8; have HN8 := Lib.hid hn8; clear ha8 hn8)
          have hlit := below_al w7 (.cells #[.slice la ls.length lc, .int .i64 (Y.length : Nat), .int .i64 (C.length : Nat), .int .i64 y.1, .int .i64 z.1] 114)
          have hk8 := Ke.of_ap (Ts := fun U => U = 114) (HES7.out.n.buf.below hlit) HAP.out rfl
          have HD8 := Lib.hid ((HES7.out.below hlit).snoc (x := ⟨ls, la, lc, Y.length, C.length, y.1, z.1⟩) (.inl HPW.out) HN8.out HAP.out (by decide))
          have HX8 := Lib.hid (hk8.blk (HX7.out.below hlit) (by decide))
          have HY8 := Lib.hid (hk8.blk (HY7.out.below hlit) (by decide))
          have HM8 := Lib.hid (hk8.blk (HM7.out.below hlit) (by decide))
          have HZ8 := Lib.hid (hk8.blk (HZ7.out.below hlit) (by decide))
          clear hk8 hlit hnb y8 r0 r1 HX7 HY7 HM7 HB7 HZ7 HES7 HAP HN8
          obtain ⟨r0, r1⟩ := HZ8.out.c2
          have y8 := HY8.out.cell (i := 8) rfl
          have u8 := HY8.out.free 8
          go_upto_region 24 with fail
          obtain ⟨wE, hwE⟩ : ∃ wE, wE = w8.setCell ⟨X + 2, 8, none⟩ (.string (bs (Y ++ C))) := ⟨_, rfl⟩
          have hf9 : Fr (fun k _ => k = X + 2) w8 wE := by rw [hwE]; exact fr1 fr0 8 _
          have HY9 := Lib.hid (show Blk wE (X + 2) 72 #[.string { data := #[] }, .int .i64 0, .int .i64 0, .int .i64 0, .int .i64 0, .int .i64 0, .slice none 0 0, .slice none 0 0, .string (bs (Y ++ C)), .string { data := #[] }] by rw [hwE]; simpa using HY8.out.set 8 (.string (bs (Y ++ C))))
          have HX9 := Lib.hid (HX8.out.fr hf9 (fun i (e : X + 1 = X + 2) => by omega))
          have HM9 := Lib.hid (HM8.out.fr hf9 (fun i (e : X = X + 2) => by omega))
          have HZ9 := Lib.hid (HZ8.out.fr hf9 (fun i (e : Z = X + 2) => absurd e (blk_dif HZ8.out HY8.out (by decide))))
          have HD9 := Lib.hid (HD8.out.fr_ne hf9 HY8.out (by decide) (by decide) hQw)
          rw [<- hwE]
          clear hwE hf9 HY8 HX8 HM8 HZ8 HD8 y8 u8 r0 r1
          obtain ⟨r0, r1⟩ := HZ9.out.c2
          go_wp2_with fail
          go_roundw
          case rel =>
           refine ⟨k + 1, es ++ [⟨ls, la, lc, Y.length, C.length, y.1, z.1⟩], cn + sl.length, by go_num, by omega, by first | rfl | go_num, by omega, by rw [List.length_append]; simp only [List.length_singleton]; have := HEL.out; omega, Lib.hid ?_, HD9, Lib.hid ?_, Lib.hid ?_, HM9, HX9, Lib.hid ?_⟩
           ·rw [HCK2.out, HCN.out]
           ·rw [List.map_append, HEQ.out, HTK.out, bEn_snoc, <- HYD.out]
            congr 1
            unfold plE rEn
            simp only [List.map_cons, List.map_nil]
            rw [HFY.out, HLZ.out, <- HCC.out]
           ·intro r hr
            rw [HTK.out] at hr
            rcases List.mem_append.1 hr with hr | hr
            ·exact HRO.out r hr
            ·obtain rfl := List.mem_singleton.1 hr
             exact HRO2.out
           ·rw [HTK.out, bCh_snoc, <- HYD.out, <- HCC.out]
            exact HY9.out
          case measure => simp [intOf]; omega
     ·rw [chk_false hlab] at HCK
      have HLAB := Lib.hid hlab
      clear hlab
      go_wp2_with fail
      refine (HCK.out _ HB4.out).mono ?_
      rintro e w5 ⟨rfl, hb5⟩
      have HX5 := Lib.hid (HX4.out.below hb5)
      have HB5 := Lib.hid (below_trans HB4.out hb5)
      clear HX4 HY4 HM4 HB4 HZ HES4 HCK HCHS hb5
      have hno : ¬ BdOk id a b lv ss R := HBAD.out (fun h => HLAB.out h.lab)
      have HNO := Lib.hid hno
      obtain ⟨x0, x1, x2, x3, x4, x5, x6, x7, x8, x9⟩ := (HX5.out).c10
      obtain ⟨z0, z1, z2, z3, z4, z5, z6, z7, z8, z9⟩ := Blk.f10 (HX5.out)
      clear hno HX5
      go_wp2_with fail
      refine bodyPost_ret (v := .tuple #[filesZ, .int .i64 1]) (by simp [filesZ, results, Tryz.results24, go_sem, x0, x1, x2, x3, x4, x5, x6, x7, x8, x9]; rfl) rfl ?_
      exact .inr ⟨HNO.out, rfl, bel10 HB5.out hPw _ _ _ _ _ _ _ _ _ _⟩
   ·obtain rfl : k = TN := by omega
    have htake : R.take k = R := by rw [<- HRL.out, List.take_length]
    rw [htake] at HEQ HRO HYD HCN
    obtain ⟨E, hE⟩ : ∃ E, E = bEn R 0 := ⟨_, rfl⟩
    obtain ⟨IX, hIX⟩ : ∃ IX, IX = idxB E := ⟨_, rfl⟩
    rw [<- hE] at HEQ
    have hixl : IX.length <= 1048576 := by
     have h1 := HDD.out
     rw [<- hE] at h1
     have h2 : IX.length = 5 + (u (idxD E).length).length + (idxD E).length := by rw [hIX]; exact rec_len _
     have h3 := u_len (idxD E).length (by omega)
     omega
    have hidx := fun w' (h : EsAt w' (.slice oA es.length oc) es) => xindex_any (.slice oA es.length oc) es w' h (by rw [HEQ.out, hE]; have := HDD.out; omega) (fun x hx => by
     have h1 : plE x ∈ bEn R 0 := by rw [<- hE, <- HEQ.out]; exact List.mem_map_of_mem hx
     obtain ⟨i, hi⟩ := List.mem_iff_getElem?.1 h1
     have hlt := (List.getElem?_eq_some_iff.1 hi).1
     rw [bEn_len] at hlt
     rw [bEn_at _ (List.getElem?_eq_getElem hlt)] at hi
     injection hi with hi
     have h2 := HLB.out _ (List.getElem_mem hlt)
     have h3 : (plE x).ls = (R[i]).1 := by rw [<- hi]; rfl
     have h3 : x.ls = (R[i]).1 := h3
     rw [h3]
     exact h2) (by omega)
    rw [HEQ.out, <- hIX] at hidx
    have HIDX := Lib.hid hidx
    have HIX := Lib.hid hIX
    have HE := Lib.hid hE
    have hent := HES.out.at_ HES.out.n.below
    have HENT := Lib.hid hent
    clear hidx hIX hE hgo htake hent
    go_wp2_with fail
    refine (HIDX.out _ HENT.out).mono ?_
    rintro e w6 ⟨rfl, hb6⟩
    have HX6 := Lib.hid (HX.out.below hb6)
    have HY6 := Lib.hid (HY.out.below hb6)
    have HM6 := Lib.hid (HM.out.below hb6)
    have HB6 := Lib.hid (below_trans HBR.out hb6)
    have u9 := HY6.out.free 9
    have y9 := HY6.out.cell (i := 9) rfl
    clear hb6 HX HY HM HBR HES HENT HIDX
    go_upto_region 27 with fail
    obtain ⟨w7, hw7⟩ : ∃ w7, w7 = w6.setCell ⟨X + 2, 9, none⟩ (.string (bs IX)) := ⟨_, rfl⟩
    have hf7 : Fr (fun k _ => k = X + 2) w6 w7 := by rw [hw7]; exact fr1 fr0 9 _
    have HY7 := Lib.hid (show Blk w7 (X + 2) 72 #[.string { data := #[] }, .int .i64 0, .int .i64 0, .int .i64 0, .int .i64 0, .int .i64 0, .slice none 0 0, .slice none 0 0, .string (bs Y), .string (bs IX)] by rw [hw7]; simpa using HY6.out.set 9 (.string (bs IX)))
    have HX7 := Lib.hid (HX6.out.fr hf7 (fun i (e : X + 1 = X + 2) => by omega))
    have HM7 := Lib.hid (HM6.out.fr hf7 (fun i (e : X = X + 2) => by omega))
    have HB7 := Lib.hid (show Below w.heap.size w w7 by rw [hw7]; exact HB6.out.setCell (p := ⟨X + 2, 9, none⟩) hQw _)
    rw [<- hw7]
    clear hw7 hf7 HY6 HX6 HM6 HB6 u9 y9
    have e1 : decide ((10000 : Int) < (k : Int)) = false := decide_eq_false (by omega)
    have e2 : decide ((1048576 : Int) < (Y.length : Int)) = false := decide_eq_false (by omega)
    have e3 : decide ((1048576 : Int) < (IX.length : Int)) = false := decide_eq_false (by omega)
    have y8 := HY7.out.cell (i := 8) rfl
    have y9 := HY7.out.cell (i := 9) rfl
    go_upto_region 29 with fail
    clear e1 e2 e3 y8 y9
    obtain ⟨m0, m1, m2, m3, m4, m5, m6, m7⟩ := HM7.out.c8
    have u0 := HY7.out.free 0
    have u1 := HY7.out.free 1
    have u2 := HY7.out.free 2
    have u3 := HY7.out.free 3
    have u4 := HY7.out.free 4
    have u5 := HY7.out.free 5
    have u6 := HY7.out.free 6
    have u7 := HY7.out.free 7
    obtain ⟨k0, k1, k2, k3, k4, k5, k6, k7, k8, k9⟩ := HY7.out.c10
    go_upto_region 30 with fail
    obtain ⟨wA, hwA⟩ : ∃ wA, wA = st8 w7 (X + 2) (.string (bs id)) (.int .i64 a) (.int .i64 b) (.int .i64 lv) (.int .i64 0) (.int .i64 0) (.slice none 0 0) (.slice sA SN sc) := ⟨_, rfl⟩
    have HYA := Lib.hid (show Blk wA (X + 2) 72 #[.string (bs id), .int .i64 a, .int .i64 b, .int .i64 lv, .int .i64 0, .int .i64 0, .slice none 0 0, .slice sA SN sc, .string (bs Y), .string (bs IX)] by rw [hwA]; exact Blk.st8a HY7.out)
    have HXA := Lib.hid (show Blk wA (X + 1) 72 cF0 by rw [hwA]; exact HX7.out.fr fr_st8 (fun i (e : X + 1 = X + 2) => by omega))
    have HBA := Lib.hid (show Below w.heap.size w wA by rw [hwA]; exact Go.Bar.Below.st8 HB7.out hQw)
    unfold st8 at hwA
    rw [<- hwA]
    clear hwA HY7 HX7 HM7 HB7 k0 k1 k2 k3 k4 k5 k6 k7 k8 k9 u0 u1 u2 u3 u4 u5 u6 u7 m0 m1 m2 m3 m4 m5 m6 m7
    have u4 := HYA.out.free 4
    have u5 := HYA.out.free 5
    have k4 := HYA.out.cell (i := 4) rfl
    have k5 := HYA.out.cell (i := 5) rfl
    go_upto_region 32 with fail
    obtain ⟨wC, hwC⟩ : ∃ wC, wC = (wA.setCell ⟨X + 2, 4, none⟩ (.int .i64 (k : Nat))).setCell ⟨X + 2, 5, none⟩ (.int .i64 (cn : Nat)) := ⟨_, rfl⟩
    have HYC := Lib.hid (show Blk wC (X + 2) 72 #[.string (bs id), .int .i64 a, .int .i64 b, .int .i64 lv, .int .i64 (k : Nat), .int .i64 (cn : Nat), .slice none 0 0, .slice sA SN sc, .string (bs Y), .string (bs IX)] by rw [hwC]; simpa using (HYA.out.set 4 (.int .i64 (k : Nat))).set 5 (.int .i64 (cn : Nat)))
    have HXC := Lib.hid (show Blk wC (X + 1) 72 cF0 by rw [hwC]; exact HXA.out.fr (fr1 (fr1 fr0 4 _) 5 _) (fun i (e : X + 1 = X + 2) => by omega))
    have HBC := Lib.hid (show Below w.heap.size w wC by rw [hwC]; exact (HBA.out.setCell (p := ⟨X + 2, 4, none⟩) hQw _).setCell (p := ⟨X + 2, 5, none⟩) hQw _)
    rw [<- hwC]
    clear hwC HYA HXA HBA u4 u5 k4 k5
    have hs1 : ∀ w', Calls Tryz.prog 66 #[.string (bs Y)] w' (RetBelow w' (.int .u32 (Frm.sum Y))) := fun w' => by
     have := refSum_any (bs Y) w' (by rw [bs_size]; omega)
     rwa [bs_data] at this
    have hs2 : ∀ w', Calls Tryz.prog 66 #[.string (bs IX)] w' (RetBelow w' (.int .u32 (Frm.sum IX))) := fun w' => by
     have := refSum_any (bs IX) w' (by rw [bs_size]; omega)
     rwa [bs_data] at this
    have HS1 := Lib.hid hs1
    have HS2 := Lib.hid hs2
    clear hs1 hs2
    have hstT : ∀ k v w w', Below w.heap.size w w' -> Dv.factOf ([(1, ((fun v => v = (.string (bs Y))), noFact, 1)), (4, ((fun v => v = (.string (bs Y))), noFact, 4)), (5, ((fun v => v = (.int .u32 (Frm.sum Y : Nat))), noFact, 5)), (8, ((fun v => v = (.string (bs IX))), noFact, 8)), (11, ((fun v => v = (.string (bs IX))), noFact, 11)), (12, ((fun v => v = (.int .u32 (Frm.sum IX : Nat))), noFact, 12)), (14, ((fun v => ∃ g, v = .slice (some ⟨g, 0, none⟩) 2 2), (fun v w' => FBuf wC w' 151 3 v 2 (fcs [⟨chunksN, Y.length, Frm.sum Y⟩, ⟨indexN, IX.length, Frm.sum IX⟩])), 17)), (17, ((fun _ => True), noFact, 17))] : List (Nat × Dv.Kp)) k v w -> Dv.factOf ([(1, ((fun v => v = (.string (bs Y))), noFact, 1)), (4, ((fun v => v = (.string (bs Y))), noFact, 4)), (5, ((fun v => v = (.int .u32 (Frm.sum Y : Nat))), noFact, 5)), (8, ((fun v => v = (.string (bs IX))), noFact, 8)), (11, ((fun v => v = (.string (bs IX))), noFact, 11)), (12, ((fun v => v = (.int .u32 (Frm.sum IX : Nat))), noFact, 12)), (14, ((fun v => ∃ g, v = .slice (some ⟨g, 0, none⟩) 2 2), (fun v w' => FBuf wC w' 151 3 v 2 (fcs [⟨chunksN, Y.length, Frm.sum Y⟩, ⟨indexN, IX.length, Frm.sum IX⟩])), 17)), (17, ((fun _ => True), noFact, 17))] : List (Nat × Dv.Kp)) k v w' := Dv.fact_st (by
     simp only [List.forall_mem_cons, List.not_mem_nil, false_imp_iff, implies_true, and_true]
     refine ⟨?_, ?_, ?_, ?_, ?_, ?_, ?_, ?_⟩
     ·exact fun _ _ _ _ _ => trivial
     ·exact fun _ _ _ _ _ => trivial
     ·exact fun _ _ _ _ _ => trivial
     ·exact fun _ _ _ _ _ => trivial
     ·exact fun _ _ _ _ _ => trivial
     ·exact fun _ _ _ _ _ => trivial
     ·exact fun _ _ _ hb h => h.below hb
     ·exact fun _ _ _ _ _ => trivial)
    have htrT : ∀ x ∈ ([(1, ((fun v => v = (.string (bs Y))), noFact, 1)), (4, ((fun v => v = (.string (bs Y))), noFact, 4)), (5, ((fun v => v = (.int .u32 (Frm.sum Y : Nat))), noFact, 5)), (8, ((fun v => v = (.string (bs IX))), noFact, 8)), (11, ((fun v => v = (.string (bs IX))), noFact, 11)), (12, ((fun v => v = (.int .u32 (Frm.sum IX : Nat))), noFact, 12)), (14, ((fun v => ∃ g, v = .slice (some ⟨g, 0, none⟩) 2 2), (fun v w' => FBuf wC w' 151 3 v 2 (fcs [⟨chunksN, Y.length, Frm.sum Y⟩, ⟨indexN, IX.length, Frm.sum IX⟩])), 17)), (17, ((fun _ => True), noFact, 17))] : List (Nat × Dv.Kp)), (([(1, ((fun v => v = (.string (bs Y))), noFact, 1)), (4, ((fun v => v = (.string (bs Y))), noFact, 4)), (5, ((fun v => v = (.int .u32 (Frm.sum Y : Nat))), noFact, 5)), (8, ((fun v => v = (.string (bs IX))), noFact, 8)), (11, ((fun v => v = (.string (bs IX))), noFact, 11)), (12, ((fun v => v = (.int .u32 (Frm.sum IX : Nat))), noFact, 12)), (14, ((fun v => ∃ g, v = .slice (some ⟨g, 0, none⟩) 2 2), (fun v w' => FBuf wC w' 151 3 v 2 (fcs [⟨chunksN, Y.length, Frm.sum Y⟩, ⟨indexN, IX.length, Frm.sum IX⟩])), 17)), (17, ((fun _ => True), noFact, 17))] : List (Nat × Dv.Kp)).lookup x.2.2.2).isSome = true := by
     simp only [List.forall_mem_cons, List.not_mem_nil, false_imp_iff, implies_true, and_true]
     exact ⟨by kernel_rfl, by kernel_rfl, by kernel_rfl, by kernel_rfl, by kernel_rfl, by kernel_rfl, by kernel_rfl, by kernel_rfl⟩
    refine Dv.wp_region_two (L := ([(1, ((fun v => v = (.string (bs Y))), noFact, 1)), (4, ((fun v => v = (.string (bs Y))), noFact, 4)), (5, ((fun v => v = (.int .u32 (Frm.sum Y : Nat))), noFact, 5)), (8, ((fun v => v = (.string (bs IX))), noFact, 8)), (11, ((fun v => v = (.string (bs IX))), noFact, 11)), (12, ((fun v => v = (.int .u32 (Frm.sum IX : Nat))), noFact, 12)), (14, ((fun v => ∃ g, v = .slice (some ⟨g, 0, none⟩) 2 2), (fun v w' => FBuf wC w' 151 3 v 2 (fcs [⟨chunksN, Y.length, Frm.sum Y⟩, ⟨indexN, IX.length, Frm.sum IX⟩])), 17)), (17, ((fun _ => True), noFact, 17))] : List (Nat × Dv.Kp))) (m := 17) (Fin := (FinBr w X [⟨chunksN, Y.length, Frm.sum Y⟩, ⟨indexN, IX.length, Frm.sum IX⟩] (.string (bs id)) (.int .i64 a) (.int .i64 b) (.int .i64 lv) (.int .i64 (k : Nat)) (.int .i64 (cn : Nat)) (.slice sA SN sc) (.string (bs Y)) (.string (bs IX)))) (by kernel_rfl) 159 (by kernel_rfl) rfl (by kernel_rfl) ?_ ?_ ?_
    ·simp only [List.forall_mem_cons, List.not_mem_nil, false_imp_iff, implies_true, and_true]
     exact ⟨⟨_, rfl⟩, ⟨_, rfl⟩, ⟨_, rfl⟩, ⟨_, rfl⟩, ⟨_, rfl⟩, ⟨_, rfl⟩, ⟨_, 0, rfl⟩, ⟨undef, trivial⟩⟩
    ·exact (fun vs vs' w' h hf => by unfold FinBr at hf ⊢; rw [<- h 14 (by kernel_rfl) (by decide)]; exact hf)
    repeat (first
     | (refine Dv.Chain.step (v := ?_) (a' := ?_) rfl rfl rfl ?_ ?_ ?_; rotate_left 2; (focus (intro w; go_simp; try with_reducible rfl)); focus (simp only [Act.put, pqA, pqS, pqZ]; try rfl))
     | (refine Dv.XT.call (i := 1) (a' := ?_) _ _ rfl (by decide) hstT rfl rfl (fun wx hw hF => ?_) htrT ?_ ?_; rotate_left 1; (focus (obtain ⟨g0, g1, g2, g3, g4, g5, g6, g7, g8, g9⟩ := Blk.c10 (HYC.out.below hw); go_simp; first | exact ⟨rfl, rB⟩ | exact rB)); focus (simp only [Act.put, pqA, pqS, pqZ]; try rfl))
     | (refine Dv.XT.call (i := 4) (a' := ?_) _ _ rfl (by decide) hstT rfl rfl (fun wx hw hF => ?_) htrT ?_ ?_; rotate_left 1; (focus (obtain ⟨g0, g1, g2, g3, g4, g5, g6, g7, g8, g9⟩ := Blk.c10 (HYC.out.below hw); go_simp; first | exact ⟨rfl, rB⟩ | exact rB)); focus (simp only [Act.put, pqA, pqS, pqZ]; try rfl))
     | (refine Dv.XT.call (i := 5) (a' := ?_) _ _ rfl (by decide) hstT rfl rfl (fun wx hw hF => ?_) htrT ?_ ?_; rotate_left 1; (focus (go_simp; (with_reducible refine (HS1.out _).mono ?_); exact (fun e w' ⟨h1, h2⟩ => by subst h1; exact ⟨rfl, h2⟩))); focus (simp only [Act.put, pqA, pqS, pqZ]; try rfl))
     | (refine Dv.XT.call (i := 8) (a' := ?_) _ _ rfl (by decide) hstT rfl rfl (fun wx hw hF => ?_) htrT ?_ ?_; rotate_left 1; (focus (obtain ⟨g0, g1, g2, g3, g4, g5, g6, g7, g8, g9⟩ := Blk.c10 (HYC.out.below hw); go_simp; first | exact ⟨rfl, rB⟩ | exact rB)); focus (simp only [Act.put, pqA, pqS, pqZ]; try rfl))
     | (refine Dv.XT.call (i := 11) (a' := ?_) _ _ rfl (by decide) hstT rfl rfl (fun wx hw hF => ?_) htrT ?_ ?_; rotate_left 1; (focus (obtain ⟨g0, g1, g2, g3, g4, g5, g6, g7, g8, g9⟩ := Blk.c10 (HYC.out.below hw); go_simp; first | exact ⟨rfl, rB⟩ | exact rB)); focus (simp only [Act.put, pqA, pqS, pqZ]; try rfl))
     | (refine Dv.XT.call (i := 12) (a' := ?_) _ _ rfl (by decide) hstT rfl rfl (fun wx hw hF => ?_) htrT ?_ ?_; rotate_left 1; (focus (go_simp; (with_reducible refine (HS2.out _).mono ?_); exact (fun e w' ⟨h1, h2⟩ => by subst h1; exact ⟨rfl, h2⟩))); focus (simp only [Act.put, pqA, pqS, pqZ]; try rfl))
     | (refine Dv.XT.make (i := 14) _ _ _ rfl (by decide) hstT rfl rfl (fun wx hw hF => ?_) htrT (fun v14 hv14 a' ha => ?_); (focus (go_simp); (exact ⟨ba1 _ _, Buf.lit wx 151 3 2 (fcs [⟨chunksN, Y.length, Frm.sum Y⟩, ⟨indexN, IX.length, Frm.sum IX⟩]) rfl (by decide), fun k hk => by simp [Value.ownBlock] at hk; subst hk; exact hw.size⟩)); obtain ⟨g6, rfl⟩ := hv14; simp only [Act.put, pqA, pqS, pqZ] at ha; subst ha)
     | (refine Dv.XT.last (i := 17) _ _ _ rfl rfl (by kernel_rfl) rfl rfl (fun vs wx hw hF => ?_) (fun v17 hv17 a' ha => ?_); (focus (have f14 : (fun v w' => FBuf wC w' 151 3 v 2 (fcs [⟨chunksN, Y.length, Frm.sum Y⟩, ⟨indexN, IX.length, Frm.sum IX⟩]) : Value -> World -> Prop) _ wx := (hF 14 _ (by kernel_rfl) rfl).1 (by kernel_rfl)); (have q14 := (hF 14 _ (by kernel_rfl) rfl).2); (have hYx := HYC.out.below hw); (have hfin := FinBr.of q14 f14 (HXC.out.below hw) hYx (below_trans HBC.out hw) hQw); (have HFIN := Lib.hid hfin); (obtain ⟨k0, k1, k2, k3, k4, k5, k6, k7, k8, k9⟩ := hYx.c10); (have u6 := hYx.free 6); (clear hYx hfin f14 q14); (go_simp); (exact ⟨undef, HFIN.out undef⟩)); obtain _ := hv17; simp only [Act.put] at ha; subst ha)
     | (refine Dv.Chain.skip' (a' := ?_) rfl rfl rfl ?_ ?_; rotate_left 1; focus (simp only [Act.put, pqA, pqS, pqZ]; try rfl)))
    refine Dv.XT.end_ (by decide) (fun vs wB hv hfin => ?_)
    obtain ⟨g, hg6, hFB, hXB, hYB, hBB⟩ := hfin
    have HFB := Lib.hid hFB
    have HXB := Lib.hid hXB
    have HYB := Lib.hid hYB
    have HBB := Lib.hid hBB
    clear hFB hXB hYB hBB hv hg6 vs HXC HYC HBC HS1 HS2
    obtain ⟨k0, k1, k2, k3, k4, k5, k6, k7, k8, k9⟩ := HYB.out.c10
    have hmm : bMt id a b lv ss R = ⟨id, a, b, lv, k, cn, [⟨chunksN, Y.length, Frm.sum Y⟩, ⟨indexN, IX.length, Frm.sum IX⟩], ss⟩ := by
     unfold bMt
     rw [HRL.out, <- HYD.out, <- HCN.out, <- HE.out, <- HIX.out]
    have hmc : ∀ w', Below wB.heap.size wB w' -> Calls Tryz.prog 67 #[.agg #[.string (bs id), .int .i64 a, .int .i64 b, .int .i64 lv, .int .i64 (k : Nat), .int .i64 (cn : Nat), .slice (some ⟨g, 0, none⟩) 2 2, .slice sA SN sc]] w' (RetBelow w' (.bool (chkB (bMt id a b lv ss R)))) := fun w' hb => by
     rw [hmm]
     exact rcheck_any ⟨id, a, b, lv, k, cn, [⟨chunksN, Y.length, Frm.sum Y⟩, ⟨indexN, IX.length, Frm.sum IX⟩], ss⟩ _ _ w' (SlAt.of_buf (HFB.out.below hb)) (by have := HS.out.below (below_trans HBB.out hb); rw [HSN.out] at this ⊢; exact this) (by show id.length <= _; omega) (fun s hs => by have := HSL.out.2 s hs; omega)
    have HMM := Lib.hid hmm
    clear hmm
    by_cases hmok : Met.Ok (bMt id a b lv ss R)
    ·rw [chkB_ok hmok] at hmc
     have HMC := Lib.hid hmc
     have HMOK := Lib.hid hmok
     clear hmc hmok
     go_wp2_with fail
     refine (HMC.out _ (Below.refl _ _)).mono ?_
     rintro e wD ⟨rfl, hbD⟩
     clear k0 k1 k2 k3 k4 k5 k6 k7 k8 k9
     obtain ⟨k0, k1, k2, k3, k4, k5, k6, k7, k8, k9⟩ := (HYB.out.below hbD).c10
     have HXD := Lib.hid (HXB.out.below hbD)
     obtain ⟨x0, x1, x2, x3, x4, x5, x6, x7, x8, x9⟩ := HXD.out.c10
     obtain ⟨z0, z1, z2, z3, z4, z5, z6, z7, z8, z9⟩ := Blk.f10 HXD.out
     have HBD := Lib.hid (below_trans HBB.out hbD)
     have HFE := Lib.hid (HFB.out.below hbD)
     clear hbD HMC HXB HYB HFB HBB
     go_wp2_with fail
     refine bodyPost_ret (v := .tuple #[.agg #[.string (bs id), .int .i64 a, .int .i64 b, .int .i64 lv, .int .i64 (R.length : Nat), .int .i64 (cntR R : Nat), .slice (some ⟨g, 0, none⟩) 2 2, .slice sA SN sc, .string (bs (bCh R)), .string (bs (idxB (bEn R 0)))], .int .i64 0]) (by rw [HRL.out, <- HCN.out, <- HYD.out, <- HE.out, <- HIX.out]; simp [results, Tryz.results24, go_sem, x0, x1, x2, x3, x4, x5, x6, x7, x8, x9]) rfl ?_
     exact .inl ⟨⟨Classical.byContradiction (fun h => by have h2 := HGD.out; rw [goodB_false h] at h2; exact Bool.noConfusion h2), HRO.out, HMOK.out⟩, _, _, rfl, by rw [HMM.out]; exact HFE.out.fr_ne HXD.out (by decide) (fr10s fr0 _ _ _ _ _ _ _ _ _ _), bel10 HBD.out hPw _ _ _ _ _ _ _ _ _ _⟩
    ·rw [chkB_no hmok] at hmc
     have HMC := Lib.hid hmc
     have HMOK := Lib.hid hmok
     clear hmc hmok
     go_wp2_with fail
     refine (HMC.out _ (Below.refl _ _)).mono ?_
     rintro e wD ⟨rfl, hbD⟩
     clear k0 k1 k2 k3 k4 k5 k6 k7 k8 k9
     have HXD := Lib.hid (HXB.out.below hbD)
     have HBD := Lib.hid (below_trans HBB.out hbD)
     clear hbD HMC HXB HYB HFB HBB
     have hno : ¬ BdOk id a b lv ss R := fun h => HMOK.out h.meta_
     have HNO := Lib.hid hno
     obtain ⟨x0, x1, x2, x3, x4, x5, x6, x7, x8, x9⟩ := (HXD.out).c10
     obtain ⟨z0, z1, z2, z3, z4, z5, z6, z7, z8, z9⟩ := Blk.f10 (HXD.out)
     clear hno HXD
     go_wp2_with fail
     refine bodyPost_ret (v := .tuple #[filesZ, .int .i64 1]) (by simp [filesZ, results, Tryz.results24, go_sem, x0, x1, x2, x3, x4, x5, x6, x7, x8, x9]; rfl) rfl ?_
     exact .inr ⟨HNO.out, rfl, bel10 HBD.out hPw _ _ _ _ _ _ _ _ _ _⟩
 ·have hgf : goodB R = false := by cases h : goodB R; rfl; exact absurd h hgd
  rw [hgf] at HGOOD
  have HGD := Lib.hid hgd
  clear hgf hgd
  go_wp2_with fail
  refine (HGOOD.out _ b1).mono ?_
  rintro e w1 ⟨rfl, hb1⟩
  have X2 := X1.below hb1
  have Y2 := Y1.below hb1
  have hb2 := below_trans b1 hb1
  obtain ⟨y0, y1, y2, y3, y4, y5, y6, y7, y8, y9⟩ := Y2.c10
  have hno : ¬ BdOk id a b lv ss R := fun h => HGD.out (goodB_true h.good)
  have HNO := Lib.hid hno
  obtain ⟨x0, x1, x2, x3, x4, x5, x6, x7, x8, x9⟩ := (X2).c10
  obtain ⟨z0, z1, z2, z3, z4, z5, z6, z7, z8, z9⟩ := Blk.f10 (X2)
  have HBY := Lib.hid hb2
  clear hno M1 X1 Y1 b1 hb1 X2 Y2 hb2 HGOOD
  go_wp2_with fail
  refine bodyPost_ret (v := .tuple #[filesZ, .int .i64 1]) (by simp [filesZ, results, Tryz.results24, go_sem, x0, x1, x2, x3, x4, x5, x6, x7, x8, x9]; rfl) rfl ?_
  exact .inr ⟨HNO.out, rfl, bel10 HBY.out hPw _ _ _ _ _ _ _ _ _ _⟩
end Go.Proofs.YtgabmfibfikdbaaGreatDoor

set_option maxHeartbeats 32000000
set_option maxRecDepth 10000
namespace Go.Proofs.YtgabmfibfikdbaaGreatDoor
open Go.RowKit Go.Bar Go.Bar.Leb Go.Bar.Frm Go.Bar.Idt Go.Bar.Met
open Go.ChangeShapes Go.WideShapes Go.Deep

structure MetaAt (W : World) (m : Mt) (fv sv : Value) : Prop where
 fl : FlsAt W fv m.fs
 sr : SrcAt W sv m.ss
 id : m.id.length <= maxLen
 nm : ∀ f ∈ m.fs, f.name.length <= maxLen /\ f.sum < 4294967296 /\ -9223372036854775808 <= f.size /\ f.size <= 9223372036854775807
 ss : ∀ s ∈ m.ss, s.length <= maxLen
 mn : -9223372036854775808 <= m.mn /\ m.mn <= 9223372036854775807
 mx : -9223372036854775808 <= m.mx /\ m.mx <= 9223372036854775807
 lv : -9223372036854775808 <= m.lv /\ m.lv <= 9223372036854775807
 se : -9223372036854775808 <= m.sr /\ m.sr <= 9223372036854775807
 sm : -9223372036854775808 <= m.sm /\ m.sm <= 9223372036854775807
def mtV (m : Mt) (fv sv : Value) : Value := .agg #[.string (bs m.id), .int .i64 m.mn, .int .i64 m.mx, .int .i64 m.lv, .int .i64 m.sr, .int .i64 m.sm, fv, sv]

section
variable {H : Type} {enc : TypeId × Value -> H} {W : World} {base : Nat} {spare : Nat -> Bool} {held : Bool}
theorem open_files {x : Value} {y : DataW H × List MemPlace} {fuel : Nat} (h : DataW.trod enc Tryz.prog W base spare held fuel 50 [x] = some y) : ∃ fs, FlsAt W x fs /\ ∀ f ∈ fs, f.name.length <= maxLen /\ f.sum < 4294967296 /\ -9223372036854775808 <= f.size /\ f.size <= 9223372036854775807 := by
 obtain ⟨A, n, c, rfl, hnc, hcm, hx⟩ := open_fields_raw Tryz.underlying50 Tryz.underlying86 (by kernel_rfl) (by kernel_rfl) (Nat.zero_lt_succ 2 : 0 < 3) h
 rcases Nat.eq_zero_or_pos n with h0 | h0
 ·subst h0
  exact ⟨[], ⟨rfl, A, c, rfl, hnc, hcm, fun h => absurd h (by simp)⟩, by simp⟩
 ·obtain ⟨b, o, rfl, hb, hf⟩ := hx h0
  obtain ⟨fs, hl, ht⟩ := list_of (fun i (f : Fl) => W.cell? ⟨b, o + i * 3, none⟩ = some (.string (bs f.name)) /\ W.cell? ⟨b, o + (i * 3 + 1), none⟩ = some (.int .i64 f.size) /\ W.cell? ⟨b, o + (i * 3 + 2), none⟩ = some (.int .u32 f.sum) /\ (f.name.length <= maxLen /\ f.sum < 4294967296 /\ -9223372036854775808 <= f.size /\ f.size <= 9223372036854775807)) n (fun i hi => by
   obtain ⟨x0, y0, k0, c0, t0⟩ := hf i hi 0 _ rfl
   obtain ⟨x1, y1, k1, c1, t1⟩ := hf i hi 1 _ rfl
   obtain ⟨x2, y2, k2, c2, t2⟩ := hf i hi 2 _ rfl
   obtain ⟨s0, e0, _, w0⟩ := DataW.trod_string Tryz.underlying9 t0
   obtain ⟨n1, e1, _, w1⟩ := DataW.trod_int Tryz.underlying3 t1
   obtain ⟨n2, e2, _, w2⟩ := DataW.trod_int Tryz.underlying84 t2
   replace e0 : x0 = _ := (List.cons.inj e0).1
   replace e1 : x1 = _ := (List.cons.inj e1).1
   replace e2 : x2 = _ := (List.cons.inj e2).1
   have b1 := bounds_i64 w1
   have b2 := bounds_u32 w2
   subst e0; subst e1; subst e2
   refine ⟨⟨s0.data.toList, n1, n2.toNat⟩, c0, c1, ?_, w0, by simp only; omega, b1⟩
   rw [show ((n2.toNat : Nat) : Int) = n2 by omega]; exact c2)
  refine ⟨fs, ⟨fcs_length fs, some ⟨b, o, none⟩, c, by rw [hl], by rw [hl]; exact hnc, hcm, fun _ => ⟨b, o, rfl, hb, fun j hj => ?_⟩⟩, fun f hf => by obtain ⟨i, hi⟩ := List.mem_iff_getElem?.1 hf; exact (ht i f hi).2.2.2⟩
  have hlt : j / 3 < fs.length := by omega
  have hg := List.getElem?_eq_getElem hlt
  obtain ⟨g0, g1, g2, _⟩ := ht _ _ hg
  obtain ⟨f0, f1, f2⟩ := fcs_at fs (j / 3) _ hg
  rcases (show j % 3 = 0 \/ j % 3 = 1 \/ j % 3 = 2 by omega) with hm | hm | hm
  ·have e : j / 3 * 3 = j := by omega
   rw [e] at g0 f0
   exact g0.trans f0.symm
  ·have e : j / 3 * 3 + 1 = j := by omega
   rw [e] at g1 f1
   exact g1.trans f1.symm
  ·have e : j / 3 * 3 + 2 = j := by omega
   rw [e] at g2 f2
   exact g2.trans f2.symm
theorem open_texts {x : Value} {y : DataW H × List MemPlace} {fuel : Nat} (h : DataW.trod enc Tryz.prog W base spare held fuel 51 [x] = some y) : ∃ ss, SrcAt W x ss /\ ∀ s ∈ ss, s.length <= maxLen := by
 obtain ⟨A, n, c, rfl, hnc, hcm, hx⟩ := open_ones_raw Tryz.underlying51 (by kernel_rfl) h
 rcases Nat.eq_zero_or_pos n with h0 | h0
 ·subst h0
  exact ⟨[], ⟨rfl, A, c, rfl, hnc, hcm, fun h => absurd h (by simp)⟩, by simp⟩
 ·obtain ⟨b, o, rfl, hb, hf⟩ := hx h0
  obtain ⟨ss, hl, ht⟩ := list_of (fun i (s : List UInt8) => W.cell? ⟨b, o + i, none⟩ = some (.string (bs s)) /\ s.length <= maxLen) n (fun i hi => by
   obtain ⟨x0, y0, k0, c0, t0⟩ := hf i hi
   obtain ⟨s0, e0, _, w0⟩ := DataW.trod_string Tryz.underlying9 t0
   replace e0 : x0 = _ := (List.cons.inj e0).1
   subst e0
   exact ⟨s0.data.toList, c0, w0⟩)
  refine ⟨ss, ⟨by rw [scs_length, Nat.mul_one], some ⟨b, o, none⟩, c, by rw [hl], by rw [hl]; exact hnc, hcm, fun _ => ⟨b, o, rfl, hb, fun j hj => ?_⟩⟩, fun s hs => by obtain ⟨i, hi⟩ := List.mem_iff_getElem?.1 hs; exact (ht i s hi).2⟩
  have hlt : j < ss.length := by omega
  have hg := List.getElem?_eq_getElem hlt
  rw [(ht _ _ hg).1]
  unfold scs
  rw [List.getElem?_map, hg]
  rfl

theorem open_meta {b0 : Nat} {r : Reach} {v : Value} {d : DataW H} {p : List MemPlace} (hval : Value.okWide Tryz.prog W r b0 53 v) (h : DataW.Trod enc Tryz.prog W base spare held 53 v d p) : ∃ m fv sv, v = mtV m fv sv /\ MetaAt W m fv sv := by
 obtain ⟨cs, rfl, hsz⟩ := okWide_struct Tryz.underlying53 hval
 have hC : Tryz.prog.cellsOf 53 = 8 := by kernel_rfl
 rw [hC] at hsz
 obtain ⟨fuel, hf⟩ := h
 obtain ⟨ys, k, _, _, _, hyl, hg⟩ := DataW.trod_struct Tryz.underlying53 hf
 have h1 : Tryz.prog.cellsOf 9 = 1 := by kernel_rfl
 have h2 : Tryz.prog.cellsOf 2 = 1 := by kernel_rfl
 have h3 : Tryz.prog.cellsOf 3 = 1 := by kernel_rfl
 have h4 : Tryz.prog.cellsOf 50 = 1 := by kernel_rfl
 have h5 : Tryz.prog.cellsOf 51 = 1 := by kernel_rfl
 obtain ⟨l⟩ := cs
 match l, hsz, ys, hyl with
 | [c0, c1, c2, c3, c4, c5, c6, c7], _, [y0, y1, y2, y3, y4, y5, y6, y7], _ =>
  have g0 : DataW.trod enc Tryz.prog W base spare held k 9 (([c0, c1, c2, c3, c4, c5, c6, c7].drop 0).take (Tryz.prog.cellsOf 9)) = some y0 := hg 0 _ rfl
  have g1 : DataW.trod enc Tryz.prog W base spare held k 2 (([c0, c1, c2, c3, c4, c5, c6, c7].drop 1).take (Tryz.prog.cellsOf 2)) = some y1 := hg 1 _ rfl
  have g2 : DataW.trod enc Tryz.prog W base spare held k 2 (([c0, c1, c2, c3, c4, c5, c6, c7].drop 2).take (Tryz.prog.cellsOf 2)) = some y2 := hg 2 _ rfl
  have g3 : DataW.trod enc Tryz.prog W base spare held k 3 (([c0, c1, c2, c3, c4, c5, c6, c7].drop 3).take (Tryz.prog.cellsOf 3)) = some y3 := hg 3 _ rfl
  have g4 : DataW.trod enc Tryz.prog W base spare held k 3 (([c0, c1, c2, c3, c4, c5, c6, c7].drop 4).take (Tryz.prog.cellsOf 3)) = some y4 := hg 4 _ rfl
  have g5 : DataW.trod enc Tryz.prog W base spare held k 3 (([c0, c1, c2, c3, c4, c5, c6, c7].drop 5).take (Tryz.prog.cellsOf 3)) = some y5 := hg 5 _ rfl
  have g6 : DataW.trod enc Tryz.prog W base spare held k 50 (([c0, c1, c2, c3, c4, c5, c6, c7].drop 6).take (Tryz.prog.cellsOf 50)) = some y6 := hg 6 _ rfl
  have g7 : DataW.trod enc Tryz.prog W base spare held k 51 (([c0, c1, c2, c3, c4, c5, c6, c7].drop 7).take (Tryz.prog.cellsOf 51)) = some y7 := hg 7 _ rfl
  rw [h1] at g0
  rw [h2] at g1 g2
  rw [h3] at g3 g4 g5
  rw [h4] at g6
  rw [h5] at g7
  obtain ⟨s0, e0, _, w0⟩ := DataW.trod_string Tryz.underlying9 g0
  obtain ⟨n1, e1, _, w1⟩ := DataW.trod_int Tryz.underlying2 g1
  obtain ⟨n2, e2, _, w2⟩ := DataW.trod_int Tryz.underlying2 g2
  obtain ⟨n3, e3, _, w3⟩ := DataW.trod_int Tryz.underlying3 g3
  obtain ⟨n4, e4, _, w4⟩ := DataW.trod_int Tryz.underlying3 g4
  obtain ⟨n5, e5, _, w5⟩ := DataW.trod_int Tryz.underlying3 g5
  obtain ⟨fs, hfs, hfb⟩ := open_files (show DataW.trod enc Tryz.prog W base spare held k 50 [c6] = some y6 from g6)
  obtain ⟨ss, hss, hsb⟩ := open_texts (show DataW.trod enc Tryz.prog W base spare held k 51 [c7] = some y7 from g7)
  replace e0 : c0 = _ := (List.cons.inj e0).1
  replace e1 : c1 = _ := (List.cons.inj e1).1
  replace e2 : c2 = _ := (List.cons.inj e2).1
  replace e3 : c3 = _ := (List.cons.inj e3).1
  replace e4 : c4 = _ := (List.cons.inj e4).1
  replace e5 : c5 = _ := (List.cons.inj e5).1
  subst e0; subst e1; subst e2; subst e3; subst e4; subst e5
  exact ⟨⟨s0.data.toList, n1, n2, n3, n4, n5, fs, ss⟩, c6, c7, rfl, hfs, hss, w0, hfb, hsb, bounds_i64 w1, bounds_i64 w2, bounds_i64 w3, bounds_i64 w4, bounds_i64 w5⟩
end

def MetaArg (W : World) (v : Value) (x : Mt × Value × Value) : Prop := v = mtV x.1 x.2.1 x.2.2 /\ MetaAt W x.1 x.2.1 x.2.2
theorem open_metaV {H : Type} {enc : TypeId × Value -> H} {W : World} {base : Nat} {spare : Nat -> Bool} {held : Bool} {b0 : Nat} {r : Reach} {v : Value} {d : DataW H} {p : List MemPlace} (hval : Value.okWide Tryz.prog W r b0 53 v) (h : DataW.Trod enc Tryz.prog W base spare held 53 v d p) : ∃ x, MetaArg W v x := by
 obtain ⟨m, fv, sv, h1, h2⟩ := open_meta hval h
 exact ⟨(m, fv, sv), h1, h2⟩
end Go.Proofs.YtgabmfibfikdbaaGreatDoor
