/-
 Any table is the block that it should be, or is refused, as the document says (block.Build); the block's table is the table. No condition.
-/
import Derived.Test.YtgabmfibfikdbaaGreatDoorZBokJ
import Derived.Test.YtgabmfibfikdbaaGreatDoorZBokHd
import Derived.Test.YtgabmfibfikdbaaGreatDoorZBokQ
import Derived.Test.YtgabmfibfikdbaaGreatDoorZLib30
import Derived.Test.YtgabmfibfikdbaaGreatDoorZMetP
import Derived.Test.YtgabmfibfikdbaaGreatDoorZMetR
import Derived.Test.YtgabmfibfikdbaaGreatDoorTie
import Derived.Test.YtgabmfibfikdbaaGreatDoorCards

set_option maxHeartbeats 32000000
set_option maxRecDepth 10000
namespace Go.Proofs.YtgabmfibfikdbaaGreatDoor
open Go.RowKit Go.Bar Go.Bar.Leb Go.Bar.Frm Go.Bar.Lab Go.Bar.Xor Go.Bar.Mrg Go.Bar.Met Go.Bar.Bok Go.ChangeShapes Go.WideShapes Go.ChangeAt

def mtZ : Mt := ⟨[], 0, 0, 0, 0, 0, [], []⟩
def bdR (id : List UInt8) (a b lv : Int) (ss : List (List UInt8)) (R : List Row) (X : Mt × List UInt8 × List UInt8 × Nat) : Prop :=
 (BdOk id a b lv ss R /\ X = (bMt id a b lv ss R, bCh R, idxB (bEn R 0), 0)) \/ (¬ BdOk id a b lv ss R /\ X = (mtZ, [], [], 1))
theorem bdR_ex (id : List UInt8) (a b lv : Int) (ss : List (List UInt8)) (R : List Row) : ∃ M C I e, bdR id a b lv ss R (M, C, I, e) := by
 by_cases h : BdOk id a b lv ss R
 ·exact ⟨_, _, _, _, .inl ⟨h, rfl⟩⟩
 ·exact ⟨_, _, _, _, .inr ⟨h, rfl⟩⟩
def GB (T : TypeId) (M : Mt) (C I : List UInt8) (e : Nat) (v : Value) (w : World) : Prop :=
 ∃ fv sv, v = .tuple #[.agg #[.string (bs M.id), .int .i64 M.mn, .int .i64 M.mx, .int .i64 M.lv, .int .i64 M.sr, .int .i64 M.sm, fv, sv, .string (bs C), .string (bs I)], .int .i64 (e : Nat)] /\ Buf w T 3 fv M.fs.length (fcs M.fs) /\ Buf w 9 1 sv M.ss.length (scs M.ss)
theorem GB.below {T : TypeId} {M : Mt} {C I : List UInt8} {e : Nat} : ∀ v w w', Below w.heap.size w w' -> GB T M C I e v w -> GB T M C I e v w' := fun _ _ _ hb ⟨fv, sv, h1, h2, h3⟩ => ⟨fv, sv, h1, h2.below hb, h3.below hb⟩
theorem GB.fr {T T' : TypeId} {M : Mt} {C I : List UInt8} {e : Nat} {v : Value} {w w' : World} {B : Nat} {cur : Array Value} (h : GB T M C I e v w) (hb : Blk w B T' cur) (h1 : T ≠ T') (h2 : 9 ≠ T') (hf : Fr (fun k _ => k = B) w w') : GB T M C I e v w' := by
 obtain ⟨fv, sv, e1, e2, e3⟩ := h
 exact ⟨fv, sv, e1, e2.fr_ne hb h1 hf, e3.fr_ne hb h2 hf⟩
theorem GB.of {w w' : World} {id : List UInt8} {a b lv : Int} {ss : List (List UInt8)} {R : List Row} {M : Mt} {C I : List UInt8} {e : Nat} {en : Ending} (hX : bdR id a b lv ss R (M, C, I, e)) (h : RetBd w id a b lv ss R en w') : ∃ v, en = .returned v /\ GB 86 M C I e v w' /\ Below w.heap.size w w' := by
 rcases hX with ⟨ho, hX⟩ | ⟨ho, hX⟩
 ·injection hX with e1 hX
  injection hX with e2 hX
  injection hX with e3 e4
  subst e1; subst e2; subst e3; subst e4
  rcases h with ⟨_, F, fc, S, sc, rfl, hf, hs, hb⟩ | ⟨hn, _⟩
  ·exact ⟨_, rfl, ⟨_, _, rfl, hf, hs⟩, hb⟩
  ·exact absurd ho hn
 ·injection hX with e1 hX
  injection hX with e2 hX
  injection hX with e3 e4
  subst e1; subst e2; subst e3; subst e4
  rcases h with ⟨hn, _⟩ | ⟨_, rfl, hb⟩
  ·exact absurd hn ho
  ·exact ⟨_, rfl, ⟨.slice none 0 0, .slice none 0 0, rfl, Buf.nil _ _ _, Buf.nil _ _ _⟩, hb⟩
def GR (M : Mt) (C I : List UInt8) (e : Nat) (en : Ending) (w w' : World) : Prop :=
 ∃ fv sv, en = .returned (.tuple #[.agg #[.string (bs M.id), .int .i64 M.mn, .int .i64 M.mx, .int .i64 M.lv, .int .i64 M.sr, .int .i64 M.sm, fv, sv, .string (bs C), .string (bs I)], .int .i64 (e : Nat)]) /\ FlsAt w' fv M.fs /\ SrcAt w' sv M.ss /\ Below w.heap.size w w'
theorem GR.of {w w' : World} {id : List UInt8} {a b lv : Int} {sv : Value} {ss : List (List UInt8)} {R : List Row} {M : Mt} {C I : List UInt8} {e : Nat} {en : Ending} (hX : bdR id a b lv ss R (M, C, I, e)) (hs : SrcAt w sv ss) (h : RetBr w id a b lv sv ss R en w') : GR M C I e en w w' := by
 rcases hX with ⟨ho, hX⟩ | ⟨ho, hX⟩
 ·injection hX with e1 hX
  injection hX with e2 hX
  injection hX with e3 e4
  subst e1; subst e2; subst e3; subst e4
  rcases h with ⟨_, F, fc, rfl, hf, hb⟩ | ⟨hn, _⟩
  ·exact ⟨_, _, rfl, SlAt.of_buf hf, hs.below hb, hb⟩
  ·exact absurd ho hn
 ·injection hX with e1 hX
  injection hX with e2 hX
  injection hX with e3 e4
  subst e1; subst e2; subst e3; subst e4
  rcases h with ⟨hn, _⟩ | ⟨_, rfl, hb⟩
  ·exact absurd hn ho
  ·exact ⟨.slice none 0 0, .slice none 0 0, rfl, SlAt.none0 _ 3, SlAt.none0 _ 1, hb⟩
theorem GB.get {T : TypeId} {M : Mt} {C I : List UInt8} {e : Nat} {fv sv : Value} {w : World} (h : GB T M C I e (.tuple #[.agg #[.string (bs M.id), .int .i64 M.mn, .int .i64 M.mx, .int .i64 M.lv, .int .i64 M.sr, .int .i64 M.sm, fv, sv, .string (bs C), .string (bs I)], .int .i64 (e : Nat)]) w) : Buf w T 3 fv M.fs.length (fcs M.fs) /\ Buf w 9 1 sv M.ss.length (scs M.ss) := by
 obtain ⟨fv', sv', he, h1, h2⟩ := h
 obtain ⟨rfl, rfl⟩ : fv = fv' /\ sv = sv' := by simpa using he
 exact ⟨h1, h2⟩
def csOf (v : Value) : Array Value := match v with
 | .tuple ⟨[.agg c, _]⟩ => c
 | _ => #[]
def PreR (R : List Row) (v : Value) (w : World) : Prop := ∃ t, TbAt w v t /\ t.map plR = R
theorem PreR.below {R : List Row} : ∀ v w w', Below w.heap.size w w' -> PreR R v w -> PreR R v w' := fun _ _ _ hb ⟨t, h1, h2⟩ => ⟨t, h1.below hb, h2⟩

theorem blockBuilds_walk0 (v0 : Value) (x : Mt × Value × Value) (v1 : Value) (l : List On3) (tn : Bool) (W : World) (h0 : MetaArg W v0 x) (h1 : O3Arg W v1 l) (hW : WidthsAt W) :
  Calls Tryz.prog 4 #[v0, v1, .bool tn] W (RetBelow W (.bool true)) := by
 obtain ⟨m0, fv0, sv0⟩ := x
 obtain ⟨hv0, hm0⟩ := h0
 dsimp only at hv0 hm0
 subst hv0
 obtain ⟨F0, c0, hF0e, _⟩ := hm0.fl.shape
 obtain ⟨S0, d0, hS0e, _⟩ := hm0.sr.shape
 have FEW := Lib.hid (fun w (hb : Below W.heap.size W w) => few9_any m0 fv0 sv0 w ⟨hm0.fl.below hb, hm0.sr.below hb, hm0.id, hm0.nm, hm0.ss, hm0.mn, hm0.mx, hm0.lv, hm0.se, hm0.sm⟩)
 have hidl : (fewM m0).id.length <= 20 := by show (m0.id.take 20).length <= 20; exact List.length_take_le _ _
 have hssl : (fewM m0).ss.length <= 60 := by show ((m0.ss.take 60).map fun s => s.take 20).length <= 60; rw [List.length_map]; exact List.length_take_le _ _
 have hss2 : ∀ s ∈ (fewM m0).ss, s.length <= 20 := fun s hs => by
  obtain ⟨y, _, rfl⟩ := List.mem_map.1 (show s ∈ (m0.ss.take 60).map fun s => s.take 20 from hs)
  exact List.length_take_le _ _
 obtain ⟨m, hm⟩ : ∃ m, m = fewM m0 := ⟨_, rfl⟩
 rw [<- hm] at FEW hidl hssl hss2
 obtain ⟨id, mn, mx, lv, sr, sm, fs, ss⟩ := m
 try dsimp only at hidl hssl hss2
 have HTB := Lib.hid (fun w (hb : Below W.heap.size W w) => table_any v1 l w (O3At.below h1.1 hb))
 have hsml := Sml.of (tab3_small l (fun z hz => (h1.2 z hz).2.2)) (Int.le_refl _) (by decide)
 obtain ⟨R0, hR0⟩ : ∃ R, R = tab3 l := ⟨_, rfl⟩
 rw [<- hR0] at HTB hsml
 have HSML := Lib.hid hsml
 have HSS2 := Lib.hid hss2
 have AW := Lib.hid (fun w (hb : Below W.heap.size W w) => awake16_any w (hW.below hb))
 have HW := Lib.hid hW
 unfold mtV at FEW ⊢
 rw [hF0e, hS0e] at FEW ⊢
 try dsimp only at FEW ⊢
 obtain ⟨G0, hG0⟩ : ∃ n, n = m0.fs.length := ⟨_, rfl⟩
 obtain ⟨J0, hJ0⟩ : ∃ n, n = m0.ss.length := ⟨_, rfl⟩
 obtain ⟨id0, mn0, mx0, lv0, sr0, sm0, fs0, ss0⟩ := m0
 try dsimp only at hG0 hJ0 FEW ⊢
 rw [<- hG0, <- hJ0] at FEW ⊢
 have X0 := Blk.new W #[.string (bs id0), .int .i64 mn0, .int .i64 mx0, .int .i64 lv0, .int .i64 sr0, .int .i64 sm0, .slice F0 G0 c0, .slice S0 J0 d0] 53
 have b0 := below_al W (.cells #[.string (bs id0), .int .i64 mn0, .int .i64 mx0, .int .i64 lv0, .int .i64 sr0, .int .i64 sm0, .slice F0 G0 c0, .slice S0 J0 d0] 53)
 clear hm0 hm hR0 hsml hss2 hF0e hS0e h1 hW hG0 hJ0
 go_enter Tryz.func4, Tryz.ntmps4
 go_upto_region 1 with fail
 obtain ⟨X, hX⟩ : ∃ X, X = W.heap.size := ⟨_, rfl⟩
 obtain ⟨w0, hw0⟩ : ∃ w0, w0 = W.alloc (.cells #[.string (bs id0), .int .i64 mn0, .int .i64 mx0, .int .i64 lv0, .int .i64 sr0, .int .i64 sm0, .slice F0 G0 c0, .slice S0 J0 d0] 53) := ⟨_, rfl⟩
 have hXw : W.heap.size <= X := by omega
 rw [<- hX, <- hw0] at X0
 rw [<- hw0] at b0
 rw [<- hX, <- hw0]
 have HX0 := Lib.hid X0
 have B0 := Lib.hid b0
 clear X0 b0 hX hw0
 obtain ⟨k0, k1, k2, k3, k4, k5, k6, k7⟩ := HX0.out.c8
 go_wp2_with fail
 refine (FEW.out _ B0.out).mono ?_
 rintro e w1 ⟨fv, sv, rfl, hfb, hsb, hb⟩
 obtain ⟨FA, fc, rfl, _⟩ := hfb.buf.shape
 obtain ⟨SA, sc, rfl, _⟩ := hsb.buf.shape
 dsimp only at hfb hsb ⊢
 have B1 := Lib.hid (below_trans B0.out hb)
 have HX1 := Lib.hid (HX0.out.below hb)
 have SV1 := Lib.hid hsb.buf
 clear hfb hsb hb k0 k1 k2 k3 k4 k5 k6 k7 HX0 B0 FEW
 obtain ⟨k0, k1, k2, k3, k4, k5, k6, k7⟩ := HX1.out.c8
 have u0 := HX1.out.free 0
 have u1 := HX1.out.free 1
 have u2 := HX1.out.free 2
 have u3 := HX1.out.free 3
 have u4 := HX1.out.free 4
 have u5 := HX1.out.free 5
 have u6 := HX1.out.free 6
 have u7 := HX1.out.free 7
 go_upto_region 2 with fail
 obtain ⟨FN, hFN⟩ : ∃ n, n = fs.length := ⟨_, rfl⟩
 obtain ⟨SN, hSN⟩ : ∃ n, n = ss.length := ⟨_, rfl⟩
 rw [<- hFN, <- hSN]
 obtain ⟨w2, hw2⟩ : ∃ wA, wA = st8 w1 X (.string (bs id)) (.int .i64 mn) (.int .i64 mx) (.int .i64 lv) (.int .i64 sr) (.int .i64 sm) (.slice FA FN fc) (.slice SA SN sc) := ⟨_, rfl⟩
 have HX2 := Lib.hid (show Blk w2 X 53 #[.string (bs id), .int .i64 mn, .int .i64 mx, .int .i64 lv, .int .i64 sr, .int .i64 sm, .slice FA FN fc, .slice SA SN sc] by rw [hw2]; exact Blk.st8 HX1.out)
 have SV2 := Lib.hid (show Buf w2 9 1 (.slice SA SN sc) ss.length (scs ss) by rw [hw2, hSN]; exact SV1.out.fr_ne HX1.out (by decide) fr_st8)
 have B2 := Lib.hid (show Below W.heap.size W w2 by rw [hw2]; exact Go.Bar.Below.st8 B1.out hXw)
 unfold st8 at hw2
 rw [<- hw2]
 have HSN := Lib.hid hSN
 clear hw2 HX1 SV1 B1 k0 k1 k2 k3 k4 k5 k6 k7 u0 u1 u2 u3 u4 u5 u6 u7 hFN hSN
 go_wp2_with fail
 refine (HTB.out _ B2.out).mono ?_
 rintro e w3 ⟨v3, u3, t3, s3, rfl, d3, x3, m3, n3⟩
 obtain ⟨TA, tc, rfl, htc⟩ := x3.n.buf.shape
 obtain ⟨N, hN⟩ : ∃ n, n = s3.length := ⟨_, rfl⟩
 have hNl : N <= 40 := by have h1 := HSML.out.n; rw [<- n3, List.length_map] at h1; omega
 rw [<- hN] at htc x3 ⊢
 have TS3 : Hid (TbS w2 X #[.string (bs id), .int .i64 mn, .int .i64 mx, .int .i64 lv, .int .i64 sr, .int .i64 sm, .slice FA FN fc, .slice SA SN sc] (.slice SA SN sc) ss (.slice TA N tc) N s3 w3) := Lib.hid
  ⟨hN.symm, x3, by rw [n3]; exact HSML.out, HX2.out.below d3.n.below, SV2.out.below d3.n.below⟩
 clear d3 x3 m3 n3 HTB HX2 SV2 hN HSML
 -- two rows turned round
 obtain ⟨B, hB⟩ : ∃ B, B = (tn && decide (1 < N)) := ⟨_, rfl⟩
 go_upto_region 3 with fail
 go_cut [27] (fun s wx => s = .bool B /\ w3 = wx)
 case first =>
  rcases tn with _ | _
  ·have hf : B = false := hB
   subst hf
   clear hB
   go_wp2_with fail
   go_meet
   case rel => exact ⟨rfl, rfl⟩
  ·by_cases h2 : 1 < N
   ·have hf : B = true := by rw [hB, decide_eq_true h2]; rfl
    subst hf
    have hd : decide ((1 : Int) < (N : Int)) = true := decide_eq_true (by omega)
    clear hB
    go_wp2_with fail
    go_meet
    case rel => exact ⟨rfl, rfl⟩
   ·have hf : B = false := by rw [hB, decide_eq_false h2]; rfl
    subst hf
    have hd : decide ((1 : Int) < (N : Int)) = false := decide_eq_false (by omega)
    clear hB
    go_wp2_with fail
    go_meet
    case rel => exact ⟨rfl, rfl⟩
 case rest =>
 obtain ⟨rfl, rfl⟩ := hcut
 have hBl : B = true -> 1 < N := fun h => by
  rw [hB] at h
  exact of_decide_eq_true (by rw [Bool.and_eq_true] at h; exact h.2)
 clear hB
 go_upto_if 27 with fail
 go_cut [8] (fun s wx => ∃ t, s = .slice TA N tc /\ TbS w2 X #[.string (bs id), .int .i64 mn, .int .i64 mx, .int .i64 lv, .int .i64 sr, .int .i64 sm, .slice FA FN fc, .slice SA SN sc] (.slice SA SN sc) ss (.slice TA N tc) N t wx)
 case first =>
  rcases B with _ | _
  ·go_wp2_with fail
   go_meet
   case rel => exact ⟨s3, rfl, TS3.out⟩
  ·have hl1 := hBl rfl
   clear hBl
   rcases s3 with _ | ⟨p, _ | ⟨q, r⟩⟩
   ·exact absurd TS3.out.len (by simp; omega)
   ·exact absurd TS3.out.len (by simp; omega)
   ·have hT := (TS3.out.tb.rtb (Below.refl _ _)).tb
    have hT2 : SlAt w3 2 (.slice TA N tc) N (rcs (p :: q :: r)) := by have := hT.1; rw [TS3.out.len] at this; exact this
    obtain ⟨b, o, rfl, _⟩ := hT.at_ (i := 0) rfl
    obtain ⟨x0, x1, _⟩ := hT.at2 (i := 0) rfl
    obtain ⟨y0, y1, _⟩ := hT.at2 (i := 1) rfl
    rw [Nat.zero_mul, Nat.add_zero] at x0 x1
    rw [Nat.one_mul] at y0 y1
    have hnd := TS3.out.tb.n.buf
    rw [TS3.out.len] at hnd
    have f0 := (hnd.cellN (j := 0) (by omega)).2
    have f1 := (hnd.cellN (j := 1) (by omega)).2
    have f2 := (hnd.cellN (j := 2) (by omega)).2
    have f3 := (hnd.cellN (j := 3) (by omega)).2
    rw [Nat.add_zero] at f0
    have HSW := Lib.hid TS3.out.swap
    have hc0 : (0 : Int) < (N : Int) := by omega
    have hc1 : (1 : Int) < (N : Int) := by omega
    rw [show o + 2 + 1 = o + 3 by omega] at y1
    clear hT hT2 hnd TS3
    go_upto_region 4 with fail
    go_region
    all_goals
     go_wp2_with fail
     go_meet
     case rel => exact ⟨_, rfl, HSW.out.below (Below.refl _ _).drew⟩
 case rest =>
 obtain ⟨t5, rfl, ts5⟩ := hcut
 obtain ⟨w5, rfl⟩ : ∃ w5 : World, w5 = wc := ⟨_, rfl⟩
 have TS5 := Lib.hid ts5
 clear ts5 TS3 hBl
 -- a row without samples
 have hcell5 := TS5.out.mt.cell (i := 5) rfl
 go_upto_region 5 with fail
 go_cut [46] (fun s wx => ∃ B : Bool, s = .bool B /\ (B = true -> 0 < N) /\ w5 = wx)
 case first =>
  rcases hz : (sm.tmod 5 == 1) with _ | _
  ·go_wp2_with fail
   go_meet
   case rel => exact ⟨false, rfl, fun h => (by cases h), rfl⟩
  ·by_cases hn : 0 < N
   ·have hd : decide ((0 : Int) < (N : Int)) = true := decide_eq_true (by omega)
    go_wp2_with fail
    go_meet
    case rel => exact ⟨true, rfl, fun _ => hn, rfl⟩
   ·have hd : decide ((0 : Int) < (N : Int)) = false := decide_eq_false (by omega)
    go_wp2_with fail
    go_meet
    case rel => exact ⟨false, rfl, fun h => (by cases h), rfl⟩
 case rest =>
 obtain ⟨B, rfl, hB0, rfl⟩ := hcut
 clear hcell5
 go_upto_if 46 with fail
 go_cut [8] (fun s wx => ∃ t, s = .slice TA N tc /\ TbS w2 X #[.string (bs id), .int .i64 mn, .int .i64 mx, .int .i64 lv, .int .i64 sr, .int .i64 sm, .slice FA FN fc, .slice SA SN sc] (.slice SA SN sc) ss (.slice TA N tc) N t wx)
 case first =>
  rcases B with _ | _
  ·go_wp2_with fail
   go_meet
   case rel => exact ⟨t5, rfl, TS5.out⟩
  ·have hl1 := hB0 rfl
   clear hB0
   rcases t5 with _ | ⟨p, r⟩
   ·exact absurd TS5.out.len (by simp; omega)
   ·obtain ⟨b, o, rfl, _⟩ := TS5.out.at_.at_ (i := 0) rfl
    have hnd := TS5.out.tb.n.buf
    rw [TS5.out.len] at hnd
    obtain ⟨g1, f1⟩ := hnd.cellN (j := 1) (by omega)
    have g1 : w5.cell? ⟨b, o + 1, none⟩ = some (.slice p.sa p.ss.length p.sc) := g1
    have HNO := Lib.hid TS5.out.none_
    have hc0 : (0 : Int) < (N : Int) := by omega
    clear hnd TS5
    go_wp2_with fail
    go_meet
    case rel => exact ⟨_, rfl, HNO.out⟩
 case rest =>
 obtain ⟨t7, rfl, ts7⟩ := hcut
 obtain ⟨w7, rfl⟩ : ∃ w7 : World, w7 = wc := ⟨_, rfl⟩
 have TS7 := Lib.hid ts7
 clear ts7 TS5 hB0
 -- the block
 have hsm := TS7.out.sm
 have hch := hsm.ch
 have hix := hsm.idx
 have hct := hsm.cnt
 have htl : t7.length <= 40 := by rw [TS7.out.len]; exact hNl
 obtain ⟨R, hR⟩ : ∃ R, R = t7.map plR := ⟨_, rfl⟩
 rw [<- hR] at hsm hch hix hct
 obtain ⟨M, C, I, e, hX⟩ := bdR_ex id mn mx lv ss R
 have hrows := fun w' (hb : Below w7.heap.size w7 w') => rows14_any w' (.slice TA N tc) t7 w' (by have h := (TS7.out.below hb).at_; exact h) (by omega) (fun x hx => by
  have h1 := hsm.labs (plR x) (by rw [hR]; exact List.mem_map_of_mem hx)
  have h2 := hsm.len (plR x) (by rw [hR]; exact List.mem_map_of_mem hx)
  have h3 : x.ls.length <= 1000 := h1.1
  have h4 : x.ss.length <= 400 := h2
  omega)
 rw [<- hR] at hrows
 have hW7 : Below W.heap.size W w7 := below_trans B2.out TS7.out.bel
 have hbld : ∀ v t w', Below w7.heap.size w7 w' -> TbAt w' v t -> t.map plR = R -> Calls Tryz.prog 22 #[.string (bs id), .int .i64 mn, .int .i64 mx, .int .i64 lv, .slice SA SN sc, v] w' (fun en w'' => ∃ v, en = .returned v /\ GB 86 M C I e v w'' /\ Below w'.heap.size w' w'') := fun v t w' hb ht he => by
  have htl2 : t.length <= 40 := by have h := congrArg List.length he; rw [List.length_map, hR, List.length_map] at h; omega
  have h := kbuild_any id mn mx lv (.slice SA SN sc) ss v t w' (HW.out.below (below_trans hW7 hb)) (by rw [HSN.out]; have h2 := SlAt.of_buf ((TS7.out.below hb).sr); rw [HSN.out] at h2; exact h2) ht (by omega) ⟨by omega, fun s hs => by have := HSS2.out s hs; omega⟩ (by omega) (by rw [he]; exact fun r hr => ⟨hsm.sm r hr, by have := hsm.len r hr; omega⟩) (by rw [he]; exact hsm.labs) (by rw [he]; omega) (by rw [he]; omega) (by rw [he]; omega)
  rw [he] at h
  exact h.mono fun en w'' hr => GB.of hX hr
 have hrbl : ∀ w', Below w7.heap.size w7 w' -> Calls Tryz.prog 24 #[.agg #[.string (bs id), .int .i64 mn, .int .i64 mx, .int .i64 lv, .int .i64 0, .int .i64 0, .slice none 0 0, .slice SA SN sc], .slice TA N tc] w' (fun en w'' => GR M C I e en w' w'') := fun w' hb => by
  have hs : SrcAt w' (.slice SA SN sc) ss := by rw [HSN.out]; have h2 := SlAt.of_buf ((TS7.out.below hb).sr); rw [HSN.out] at h2; exact h2
  have h := rbuild_any id mn mx lv (.slice SA SN sc) ss (.slice TA N tc) t7 w' hs ((TS7.out.below hb).at_) (by omega) ⟨by omega, fun s hs => by have := HSS2.out s hs; omega⟩ (by omega) (by rw [<- hR]; exact fun r hr => ⟨hsm.sm r hr, by have := hsm.len r hr; omega⟩) (by rw [<- hR]; exact hsm.labs) (by rw [<- hR]; omega) (by rw [<- hR]; omega)
  rw [<- hR] at h
  exact h.mono fun en w'' hr => GR.of hX hs hr
 have hee : e = 0 \/ e = 1 := by
  rcases hX with ⟨_, h⟩ | ⟨_, h⟩
  ·injection h with _ h; injection h with _ h; injection h with _ h; exact .inl h
  ·injection h with _ h; injection h with _ h; injection h with _ h; exact .inr h
 have hkt : e = 0 -> ∀ fv sv w', WidthsAt w' -> FlsAt w' fv M.fs -> Calls Tryz.prog 27 #[.agg #[.string (bs M.id), .int .i64 M.mn, .int .i64 M.mx, .int .i64 M.lv, .int .i64 M.sr, .int .i64 M.sm, fv, sv, .string (bs C), .string (bs I)]] w' (RetT0 w' R) := fun he fv sv w' hw hf => by
  rcases hX with ⟨ho, h⟩ | ⟨_, h⟩
  ·injection h with e1 h
   injection h with e2 h
   injection h with e3 _
   subst e1; subst e2; subst e3
   have htr := tableR_of ho (fun r hr => (hsm.sm r hr).v) (by have := hsm.n; omega) (by omega) (by omega)
   have hil : (idxB (bEn R 0)).length <= 2097152 := by
    have h2 : (idxB (bEn R 0)).length = 5 + (u (idxD (bEn R 0)).length).length + (idxD (bEn R 0)).length := rec_len _
    have h3 := u_len (idxD (bEn R 0)).length (by omega)
    omega
   have hk := ktable_ok (bMt id mn mx lv ss R) ⟨chunksN, (bCh R).length, Frm.sum (bCh R)⟩ ⟨indexN, (idxB (bEn R 0)).length, Frm.sum (idxB (bEn R 0))⟩ rfl fv sv (bCh R) (idxB (bEn R 0)) w' hw hf (by omega) hil (by rw [htr])
   rw [htr] at hk
   exact hk
  ·injection h with _ h; injection h with _ h; injection h with _ h; omega
 have htd : ∀ fv sv w', FlsAt w' fv M.fs -> SrcAt w' sv M.ss -> Calls Tryz.prog 26 #[.agg #[.string (bs M.id), .int .i64 M.mn, .int .i64 M.mx, .int .i64 M.lv, .int .i64 M.sr, .int .i64 M.sm, fv, sv]] w' (fun en w'' => ∃ fv', en = .returned (.agg #[.string (bs M.id), .int .i64 M.mn, .int .i64 M.mx, .int .i64 M.lv, .int .i64 M.sr, .int .i64 M.sm, fv', sv]) /\ FlsAt w'' fv' M.fs /\ Below w'.heap.size w' w'') := fun fv sv w' hf hs =>
  (told_any M fv sv w' hf hs (by
   rcases hX with ⟨_, h⟩ | ⟨_, h⟩
   ·injection h with e1 _; rw [e1]; show 2 <= 1000; decide
   ·injection h with e1 _; rw [e1]; exact Nat.zero_le _)).mono (by
   rintro en w'' ⟨fv', rfl, hfb, hb⟩
   exact ⟨fv', rfl, SlAt.of_buf hfb.buf, hb⟩)
 have ROWS := Lib.hid hrows
 have BLD := Lib.hid hbld
 have RBL := Lib.hid hrbl
 have KT := Lib.hid hkt
 have TD := Lib.hid htd
 have SAME := Lib.hid (fun fv sv fv' sv' w' (h1 : FlsAt w' fv M.fs) (h2 : SrcAt w' sv M.ss) (h3 : FlsAt w' fv' M.fs) (h4 : SrcAt w' sv' M.ss) => metaSame_any M fv sv fv' sv' w' h1 h2 h3 h4)
 have HR := Lib.hid hR
 have HSMR := Lib.hid hsm
 have HW7 := Lib.hid hW7
 clear hrows hbld hrbl hkt htd hX hR hsm hch hix hct htl hW7
 go_upto_region 7 with fail
 refine Dv.wp_region_chain (fun kQ => List.lookup kQ [(1, fun v => v = .string (bs id)), (3, fun v => v = .int .i64 mn), (5, fun v => v = .int .i64 mx), (7, fun v => v = .int .i64 lv), (9, fun v => v = .slice SA SN sc), (11, fun _ => True), (12, fun v => ∃ F fc S sc, v = .tuple #[.agg #[.string (bs M.id), .int .i64 M.mn, .int .i64 M.mx, .int .i64 M.lv, .int .i64 M.sr, .int .i64 M.sm, .slice F M.fs.length fc, .slice S M.ss.length sc, .string (bs C), .string (bs I)], .int .i64 (e : Nat)]), (16, fun v => ∃ B, v = .pointer (some ⟨B, 0, none⟩)), (17, fun _ => True)]) (XC w7.drew 64 cF0 (PreR R) (GB 86 M C I e) csOf) (by kernel_rfl) 127 (by kernel_rfl) rfl ?_ (XC.congr) ?_ (XC.start _ _ _ _ _ _ _) ?_
 ·apply Dk.lookup_all (p := fun _ (g : Value -> Prop) => ∃ v, g v)
  simp only [List.forall_mem_cons, List.not_mem_nil, false_imp_iff, implies_true, and_true]
  exact ⟨⟨_, rfl⟩, ⟨_, rfl⟩, ⟨_, rfl⟩, ⟨_, rfl⟩, ⟨_, rfl⟩, ⟨undef, trivial⟩, ⟨_, none, 0, none, 0, rfl⟩, ⟨_, 0, rfl⟩, ⟨undef, trivial⟩⟩
 ·(intro i vs D w v hi hX; refine hX.low PreR.below GB.below ⟨fun h => ?_, fun h => ?_, fun h => ?_, fun h => ?_⟩ (Below.refl _ _) v; all_goals (rw [h] at hi; exact (Option.some_ne_none _ hi).elim))
 repeat (first
  | (refine Dv.Chain.step (v := ?_) (a' := ?_) rfl rfl rfl ?_ ?_ ?_; rotate_left 2; (focus (intro w; go_simp; try with_reducible rfl)); focus (simp only [Act.put, pqA, pqS, pqZ]; try rfl))
  | (refine Dv.Chain.make (i := 1) _ rfl rfl rfl (fun vs D wx hx hD hp hv => ?_) (fun v1 hv1 a' ha => ?_); (focus (obtain ⟨g0, g1, g2, g3, g4, g5, g6, g7⟩ := (TS7.out.mt.drew.below hx.bel).c8); (go_simp); (first | exact ⟨rfl, hx.low PreR.below GB.below (i := 1) ⟨by decide, by decide, by decide, by decide⟩ (Below.refl _ _) _⟩ | exact hx.low PreR.below GB.below (i := 1) ⟨by decide, by decide, by decide, by decide⟩ (Below.refl _ _) _)); obtain rfl := hv1; simp only [Act.put, pqA, pqS, pqZ] at ha; subst ha)
  | (refine Dv.Chain.make (i := 3) _ rfl rfl rfl (fun vs D wx hx hD hp hv => ?_) (fun v3 hv3 a' ha => ?_); (focus (obtain ⟨g0, g1, g2, g3, g4, g5, g6, g7⟩ := (TS7.out.mt.drew.below hx.bel).c8); (go_simp); (first | exact ⟨rfl, hx.low PreR.below GB.below (i := 3) ⟨by decide, by decide, by decide, by decide⟩ (Below.refl _ _) _⟩ | exact hx.low PreR.below GB.below (i := 3) ⟨by decide, by decide, by decide, by decide⟩ (Below.refl _ _) _)); obtain rfl := hv3; simp only [Act.put, pqA, pqS, pqZ] at ha; subst ha)
  | (refine Dv.Chain.make (i := 5) _ rfl rfl rfl (fun vs D wx hx hD hp hv => ?_) (fun v5 hv5 a' ha => ?_); (focus (obtain ⟨g0, g1, g2, g3, g4, g5, g6, g7⟩ := (TS7.out.mt.drew.below hx.bel).c8); (go_simp); (first | exact ⟨rfl, hx.low PreR.below GB.below (i := 5) ⟨by decide, by decide, by decide, by decide⟩ (Below.refl _ _) _⟩ | exact hx.low PreR.below GB.below (i := 5) ⟨by decide, by decide, by decide, by decide⟩ (Below.refl _ _) _)); obtain rfl := hv5; simp only [Act.put, pqA, pqS, pqZ] at ha; subst ha)
  | (refine Dv.Chain.make (i := 7) _ rfl rfl rfl (fun vs D wx hx hD hp hv => ?_) (fun v7 hv7 a' ha => ?_); (focus (obtain ⟨g0, g1, g2, g3, g4, g5, g6, g7⟩ := (TS7.out.mt.drew.below hx.bel).c8); (go_simp); (first | exact ⟨rfl, hx.low PreR.below GB.below (i := 7) ⟨by decide, by decide, by decide, by decide⟩ (Below.refl _ _) _⟩ | exact hx.low PreR.below GB.below (i := 7) ⟨by decide, by decide, by decide, by decide⟩ (Below.refl _ _) _)); obtain rfl := hv7; simp only [Act.put, pqA, pqS, pqZ] at ha; subst ha)
  | (refine Dv.Chain.make (i := 9) _ rfl rfl rfl (fun vs D wx hx hD hp hv => ?_) (fun v9 hv9 a' ha => ?_); (focus (obtain ⟨g0, g1, g2, g3, g4, g5, g6, g7⟩ := (TS7.out.mt.drew.below hx.bel).c8); (go_simp); (first | exact ⟨rfl, hx.low PreR.below GB.below (i := 9) ⟨by decide, by decide, by decide, by decide⟩ (Below.refl _ _) _⟩ | exact hx.low PreR.below GB.below (i := 9) ⟨by decide, by decide, by decide, by decide⟩ (Below.refl _ _) _)); obtain rfl := hv9; simp only [Act.put, pqA, pqS, pqZ] at ha; subst ha)
  | (refine Dv.Chain.make (i := 11) _ rfl rfl rfl (fun vs D wx hx hD hp hv => ?_) (fun v11 hv11 a' ha => ?_); (focus (go_simp); (with_reducible refine (ROWS.out _ (below_trans (Below.refl _ _).drew hx.bel)).mono ?_); (rintro en w' ⟨v, t', rfl, d', m'⟩); (have hk := hx.k11 GB.below d'.n.below (v := v) ⟨t', (d'.rtb (Below.refl _ _)).tb, m'⟩); (first | exact ⟨trivial, hk⟩ | exact hk | exact ⟨_, rfl, trivial, hk⟩)); obtain _h11 := hv11; simp only [Act.put, pqA, pqS, pqZ] at ha; subst ha)
  | (refine Dv.Chain.make (i := 12) _ rfl rfl rfl (fun vs D wx hx hD hp hv => ?_) (fun v12 hv12 a' ha => ?_); (focus (obtain ⟨t', ht', hm'⟩ := hx.pre (hp 11 (by kernel_rfl)) hD); (rw [hv 11 _ (by kernel_rfl) rfl] at ht'); (go_simp); (with_reducible refine (BLD.out _ t' _ (below_trans (Below.refl _ _).drew hx.bel) ht' hm').mono ?_); (rintro en w' ⟨v, rfl, ⟨fv2, sv2, rfl, g1, g2⟩, hb⟩); (have hk := hx.k12 hD hb ⟨fv2, sv2, rfl, g1, g2⟩); (obtain ⟨F2, fc2, rfl, _⟩ := g1.shape); (obtain ⟨S2, sc2, rfl, _⟩ := g2.shape); (first | exact ⟨⟨_, _, _, _, rfl⟩, hk⟩ | exact ⟨_, rfl, ⟨_, _, _, _, rfl⟩, hk⟩)); obtain ⟨F2, fc2, S2, sc2, rfl⟩ := hv12; simp only [Act.put, pqA, pqS, pqZ] at ha; subst ha)
  | (refine Dv.Chain.make (i := 16) _ rfl rfl rfl (fun vs D wx hx hD hp hv => ?_) (fun v16 hv16 a' ha => ?_); (focus (go_simp); (first | exact ⟨⟨_, rfl⟩, hx.k16 PreR.below GB.below hD⟩ | exact ⟨_, hx.k16 PreR.below GB.below hD⟩ | exact hx.k16 PreR.below GB.below hD)); obtain ⟨P16, rfl⟩ := hv16; simp only [Act.put, pqA, pqS, pqZ] at ha; subst ha)
  | (refine Dv.Chain.make (i := 17) _ rfl rfl rfl (fun vs D wx hx hD hp hv => ?_) (fun v17 hv17 a' ha => ?_); (focus (have h16 := hp 16 (by kernel_rfl)); (have h12 := hp 12 (by kernel_rfl)); (have hv16 := hv 16 _ (by kernel_rfl) rfl); (have hv12 := hv 12 _ (by kernel_rfl) rfl); (obtain ⟨hN, hz, _⟩ := hx.box _ h16 hv16); (have hz := hz hD); (have hgb := hx.res h12); (obtain ⟨g0, g1, g2, g3, g4, g5, g6, g7, g8, g9⟩ := hz.c10); (have f0 := hz.free 0); (have f1 := hz.free 1); (have f2 := hz.free 2); (have f3 := hz.free 3); (have f4 := hz.free 4); (have f5 := hz.free 5); (have f6 := hz.free 6); (have f7 := hz.free 7); (have f8 := hz.free 8); (have f9 := hz.free 9); (go_simp); (first | exact ⟨trivial, hx.k17 h16 h12 hv16 (frT10 _ _ _ _ _ _ _ _ _ _ _ _) (by rw [hv12]; exact blkT10 hz) (hgb.fr hz (by decide) (by decide) (frT10 _ _ _ _ _ _ _ _ _ _ _ _)) _⟩ | exact ⟨undef, hx.k17 h16 h12 hv16 (frT10 _ _ _ _ _ _ _ _ _ _ _ _) (by rw [hv12]; exact blkT10 hz) (hgb.fr hz (by decide) (by decide) (frT10 _ _ _ _ _ _ _ _ _ _ _ _)) _⟩ | exact hx.k17 h16 h12 hv16 (frT10 _ _ _ _ _ _ _ _ _ _ _ _) (by rw [hv12]; exact blkT10 hz) (hgb.fr hz (by decide) (by decide) (frT10 _ _ _ _ _ _ _ _ _ _ _ _)) _)); simp only [Act.put] at ha; subst ha))
 refine Dv.Chain.end_ (fun vs D w8 hD hx hv => ?_)
 obtain ⟨_, _, hbox⟩ := hx.box _ (hD 16 (by decide)) (hv 16 _ rfl)
 have hbox := hbox (hD 17 (by decide))
 rw [hv 12 _ rfl] at hbox
 have hbox : Blk w8 P16 64 #[.string (bs M.id), .int .i64 M.mn, .int .i64 M.mx, .int .i64 M.lv, .int .i64 M.sr, .int .i64 M.sm, (.slice F2 M.fs.length fc2), (.slice S2 M.ss.length sc2), .string (bs C), .string (bs I)] := hbox
 have hgb := hx.res (hD 12 (by decide))
 rw [hv 12 _ rfl] at hgb
 obtain ⟨hfl, hsr⟩ := hgb.get
 have hb8 : Below w7.heap.size w7 w8 := below_trans (Below.refl _ _).drew hx.bel
 have HB8 := Lib.hid hb8
 have FX8 := Lib.hid hbox
 have FL8 := Lib.hid (show FlsAt w8 (.slice F2 M.fs.length fc2) M.fs from SlAt.of_buf hfl)
 have SR8 := Lib.hid (show SrcAt w8 (.slice S2 M.ss.length sc2) M.ss from SlAt.of_buf hsr)
 have TS8 := Lib.hid (TS7.out.below hb8)
 clear hbox hgb hfl hsr hb8 hx hv hD TS7 ROWS BLD
 obtain ⟨k0, k1, k2, k3, k4, k5, k6, k7⟩ := TS8.out.mt.c8
 go_wp2_with fail
 refine (RBL.out _ HB8.out).mono ?_
 rintro en w9 ⟨fv6, sv6, rfl, fl6, sr6, b9⟩
 obtain ⟨F6, fc6, rfl, _⟩ := fl6.shape
 obtain ⟨S6, sc6, rfl, _⟩ := sr6.shape
 clear k0 k1 k2 k3 k4 k5 k6 k7
 go_upto_region 9 with fail
 obtain ⟨wA, hwA⟩ : ∃ wA, wA = w9.alloc (.cells #[.string (bs M.id), .int .i64 M.mn, .int .i64 M.mx, .int .i64 M.lv, .int .i64 M.sr, .int .i64 M.sm, (.slice F6 M.fs.length fc6), (.slice S6 M.ss.length sc6), .string (bs C), .string (bs I)] 72) := ⟨_, rfl⟩
 obtain ⟨Q, hQ⟩ : ∃ Q, Q = w9.heap.size := ⟨_, rfl⟩
 have hbA : Below w9.heap.size w9 wA := by rw [hwA]; exact below_al _ _
 have RX := Lib.hid (show Blk wA Q 72 #[.string (bs M.id), .int .i64 M.mn, .int .i64 M.mx, .int .i64 M.lv, .int .i64 M.sr, .int .i64 M.sm, (.slice F6 M.fs.length fc6), (.slice S6 M.ss.length sc6), .string (bs C), .string (bs I)] by rw [hwA, hQ]; exact Blk.new _ _ _)
 rw [<- hwA, <- hQ]
 have b8A := below_trans b9 hbA
 have FXA := Lib.hid (FX8.out.below b8A)
 have FLA := Lib.hid (FL8.out.below b8A)
 have SRA := Lib.hid (SR8.out.below b8A)
 have TSA := Lib.hid (TS8.out.below b8A)
 have FL6 := Lib.hid (fl6.below hbA)
 have SR6 := Lib.hid (sr6.below hbA)
 have BA := Lib.hid (below_trans HW7.out (below_trans HB8.out b8A))
 clear hwA hQ hbA b8A b9 fl6 sr6 FX8 FL8 SR8 TS8 HB8 HW7 RBL
 refine wp_region_facts [(0, (isV (.bool true), noFact)), (9, (isV (.string (bs C)), noFact)), (11, (isV (.string (bs C)), noFact)), (16, (isV (.string (bs I)), noFact)), (18, (isV (.string (bs I)), noFact)), (23, (isV (.agg #[.string (bs M.id), .int .i64 M.mn, .int .i64 M.mx, .int .i64 M.lv, .int .i64 M.sr, .int .i64 M.sm, (.slice F2 M.fs.length fc2), (.slice S2 M.ss.length sc2)]), noFact)), (24, ((fun v => ∃ fv', v = .agg #[.string (bs M.id), .int .i64 M.mn, .int .i64 M.mx, .int .i64 M.lv, .int .i64 M.sr, .int .i64 M.sm, fv', (.slice S2 M.ss.length sc2)]), (fun v w' => ∃ fv', v = .agg #[.string (bs M.id), .int .i64 M.mn, .int .i64 M.mx, .int .i64 M.lv, .int .i64 M.sr, .int .i64 M.sm, fv', (.slice S2 M.ss.length sc2)] /\ FlsAt w' fv' M.fs))), (26, (isV (.agg #[.string (bs M.id), .int .i64 M.mn, .int .i64 M.mx, .int .i64 M.lv, .int .i64 M.sr, .int .i64 M.sm, (.slice F6 M.fs.length fc6), (.slice S6 M.ss.length sc6)]), noFact)), (27, (isV (.bool true), noFact))] (by kernel_rfl) 127 (by kernel_rfl) rfl ?_ ?_ ?_
 ·apply lookup_ne
  simp only [List.forall_mem_cons, List.not_mem_nil, false_imp_iff, implies_true, and_true]
  exact ⟨⟨_, rfl⟩, ⟨_, rfl⟩, ⟨_, rfl⟩, ⟨_, rfl⟩, ⟨_, rfl⟩, ⟨_, rfl⟩, ⟨_, .slice none 0 0, rfl⟩, ⟨_, rfl⟩, ⟨_, rfl⟩⟩
 ·apply lookup_st
  simp only [List.forall_mem_cons, List.not_mem_nil, false_imp_iff, implies_true, and_true]
  refine ⟨?_, ?_, ?_, ?_, ?_, ?_, ?_, ?_, ?_⟩
  ·exact fun _ _ _ _ _ => trivial
  ·exact fun _ _ _ _ _ => trivial
  ·exact fun _ _ _ _ _ => trivial
  ·exact fun _ _ _ _ _ => trivial
  ·exact fun _ _ _ _ _ => trivial
  ·exact fun _ _ _ _ _ => trivial
  ·exact fun _ _ _ hb ⟨fv', h1, h2⟩ => ⟨fv', h1, h2.below hb⟩
  ·exact fun _ _ _ _ _ => trivial
  ·exact fun _ _ _ _ _ => trivial
 repeat (first
  | (refine Chain.step (v := ?_) (a' := ?_) rfl rfl rfl ?_ ?_ ?_; rotate_left 2; (focus (intro w; go_simp; try with_reducible rfl)); focus (simp only [Act.put, pqA, pqS, pqZ]; try rfl))
  | (refine Chain.call' (i := 0) (a' := ?_) _ rfl rfl rfl rfl (fun wx hw hF => ?_) ?_ ?_; rotate_left 1; (focus (go_simp; (with_reducible refine (AW.out _ (below_trans BA.out hw)).mono ?_); exact (fun e w' ⟨h1, h2⟩ => by subst h1; exact ⟨rfl, h2⟩))); focus (simp only [Act.put, pqA, pqS, pqZ]; try rfl))
  | (refine Chain.call' (i := 9) (a' := ?_) _ rfl rfl rfl rfl (fun wx hw hF => ?_) ?_ ?_; rotate_left 1; (focus (obtain ⟨g0, g1, g2, g3, g4, g5, g6, g7, g8, g9⟩ := Blk.c10 (FXA.out.below hw); go_simp; first | exact ⟨rfl, rB⟩ | exact rB)); focus (simp only [Act.put, pqA, pqS, pqZ]; try rfl))
  | (refine Chain.call' (i := 11) (a' := ?_) _ rfl rfl rfl rfl (fun wx hw hF => ?_) ?_ ?_; rotate_left 1; (focus (obtain ⟨g0, g1, g2, g3, g4, g5, g6, g7, g8, g9⟩ := Blk.c10 (RX.out.below hw); go_simp; first | exact ⟨rfl, rB⟩ | exact rB)); focus (simp only [Act.put, pqA, pqS, pqZ]; try rfl))
  | (refine Chain.call' (i := 16) (a' := ?_) _ rfl rfl rfl rfl (fun wx hw hF => ?_) ?_ ?_; rotate_left 1; (focus (obtain ⟨g0, g1, g2, g3, g4, g5, g6, g7, g8, g9⟩ := Blk.c10 (FXA.out.below hw); go_simp; first | exact ⟨rfl, rB⟩ | exact rB)); focus (simp only [Act.put, pqA, pqS, pqZ]; try rfl))
  | (refine Chain.call' (i := 18) (a' := ?_) _ rfl rfl rfl rfl (fun wx hw hF => ?_) ?_ ?_; rotate_left 1; (focus (obtain ⟨g0, g1, g2, g3, g4, g5, g6, g7, g8, g9⟩ := Blk.c10 (RX.out.below hw); go_simp; first | exact ⟨rfl, rB⟩ | exact rB)); focus (simp only [Act.put, pqA, pqS, pqZ]; try rfl))
  | (refine Chain.call' (i := 23) (a' := ?_) _ rfl rfl rfl rfl (fun wx hw hF => ?_) ?_ ?_; rotate_left 1; (focus (obtain ⟨g0, g1, g2, g3, g4, g5, g6, g7, g8, g9⟩ := Blk.c10 (FXA.out.below hw); go_simp; first | exact ⟨rfl, rB⟩ | exact rB)); focus (simp only [Act.put, pqA, pqS, pqZ]; try rfl))
  | (refine Chain.make (i := 24) _ _ rfl rfl rfl (fun wx hw hF => ?_) (fun v24 hv24 a' ha => ?_); (focus (go_simp); (with_reducible refine (TD.out _ _ _ (FLA.out.below hw) (SRA.out.below hw)).mono ?_); (rintro en w' ⟨fv', rfl, hf', hb'⟩); (first | exact ⟨hb', ⟨fv', rfl⟩, fv', rfl, hf'⟩ | exact ⟨_, rfl, hb', ⟨fv', rfl⟩, fv', rfl, hf'⟩)); obtain ⟨fv5, rfl⟩ := hv24; simp only [Act.put, pqA, pqS, pqZ] at ha; subst ha)
  | (refine Chain.call' (i := 26) (a' := ?_) _ rfl rfl rfl rfl (fun wx hw hF => ?_) ?_ ?_; rotate_left 1; (focus (obtain ⟨g0, g1, g2, g3, g4, g5, g6, g7, g8, g9⟩ := Blk.c10 (RX.out.below hw); go_simp; first | exact ⟨rfl, rB⟩ | exact rB)); focus (simp only [Act.put, pqA, pqS, pqZ]; try rfl))
  | (refine Chain.call' (i := 27) (a' := ?_) _ rfl rfl rfl rfl (fun wx hw hF => ?_) ?_ ?_; rotate_left 1; (focus (obtain ⟨fv', he', hf'⟩ : ∃ fv', (.agg #[.string (bs M.id), .int .i64 M.mn, .int .i64 M.mx, .int .i64 M.lv, .int .i64 M.sr, .int .i64 M.sm, fv5, (.slice S2 M.ss.length sc2)] : Value) = .agg #[.string (bs M.id), .int .i64 M.mn, .int .i64 M.mx, .int .i64 M.lv, .int .i64 M.sr, .int .i64 M.sm, fv', (.slice S2 M.ss.length sc2)] /\ FlsAt wx fv' M.fs := hF 24 (by kernel_rfl)); (obtain rfl : fv5 = fv' := by simpa using he'); (go_simp); (with_reducible refine (SAME.out _ _ _ _ _ hf' (SRA.out.below hw) (FL6.out.below hw) (SR6.out.below hw)).mono ?_); (rintro en w' ⟨rfl, hb'⟩); (first | exact ⟨rfl, hb'⟩ | exact hb')); focus (simp only [Act.put, pqA, pqS, pqZ]; try rfl))
  | (refine Chain.skip (a' := ?_) rfl rfl rfl ?_ ?_; rotate_left 1; focus (simp only [Act.put, pqA, pqS, pqZ]; try rfl)))
 refine Chain.end_ (fun wy hwy _ => ?_)
 have FXY := Lib.hid (FXA.out.below hwy)
 have FLY := Lib.hid (FLA.out.below hwy)
 have TSY := Lib.hid (TSA.out.below hwy)
 have BY := Lib.hid (below_trans BA.out hwy)
 clear hwy FXA FLA SRA TSA FL6 SR6 BA RX AW TD SAME
 rcases hee with he | he
 rotate_left 1
 ·subst he
  go_wp2_with fail
  go_ret
  exact ⟨rfl, BY.out⟩
 ·subst he
  have KT2 := Lib.hid (KT.out rfl)
  clear KT
  obtain ⟨k0, k1, k2, k3, k4, k5, k6, k7, k8, k9⟩ := FXY.out.c10
  go_wp2_with fail
  refine (KT2.out _ _ _ (HW.out.below BY.out) FLY.out).mono ?_
  rintro en w10 ⟨vt, tt, rfl, rt, mt⟩
  have B10 := Lib.hid (below_trans BY.out rt.1.below)
  have TS10 := Lib.hid (TSY.out.below rt.1.below)
  have TT := Lib.hid rt.tb
  have MT := Lib.hid mt
  obtain ⟨vA, vc, rfl, _⟩ := TT.out.shape
  clear rt mt BY TSY FXY FLY k0 k1 k2 k3 k4 k5 k6 k7 k8 k9 KT2
  have TL := Lib.hid (told14_any _ tt w10 TT.out (by have h := congrArg List.length MT.out; rw [List.length_map] at h; have := HSMR.out.n; omega) (fun x hx => by
   have h1 := HSMR.out.labs (plR x) (by rw [<- MT.out]; exact List.mem_map_of_mem hx)
   have h2 : x.ls.length <= 1000 := h1.1
   omega))
  go_wp2_with fail
  refine TL.out.mono ?_
  rintro en w11 ⟨vu, tu, rfl, du, mu⟩
  have B11 := Lib.hid (below_trans B10.out du.n.below)
  have SA := Lib.hid (rsame_any _ _ tu t7 w11 (du.rtb (Below.refl _ _)).tb ((TS10.out.below du.n.below).at_) (by rw [mu, MT.out, HR.out]))
  obtain ⟨uA, uc, rfl, _⟩ := du.n.buf.shape
  clear du mu B10 TS10 TT TL
  go_wp2_with fail
  refine SA.out.mono ?_
  rintro en w12 ⟨rfl, b12⟩
  have B12 := Lib.hid (below_trans B11.out b12)
  clear b12 B11 SA
  go_wp2_with fail
  go_ret
  exact ⟨rfl, B12.out⟩

set_option maxRecDepth 100000 in
theorem blockBuilds_lifted (os : Os) (started : os.Started) (H : Type) (enc : TypeId × Value -> H) :
  ReturnsInHanded {} Tryz.checked os 4 .any (fun w args => (Rows.blockBuildsSpec.pre enc Tryz.prog Tryz.f4 [] false w args /\ laidMetH Tryz.prog [("barograph/xor.widths", Rows.laid_barograph_xor_widths), ("unicode/utf8.acceptRanges", Rows.laid_unicode_utf8_acceptRanges), ("unicode/utf8.first", Rows.laid_unicode_utf8_first)] w) /\ sizedMet enc Tryz.prog Tryz.f4 (OpenSpec.ofChange Rows.blockBuildsSpec) false w args)
   (Rows.blockBuildsSpec.post enc Tryz.prog Tryz.f4 false true false false) := by
 refine returnsInHanded_of_change_and (C := Tryz.checked) (X := fun w _ => laidMetH Tryz.prog [("barograph/xor.widths", Rows.laid_barograph_xor_widths), ("unicode/utf8.acceptRanges", Rows.laid_unicode_utf8_acceptRanges), ("unicode/utf8.first", Rows.laid_unicode_utf8_first)] w) (fun _ _ _ hh h => h.of_heap hh) law_own started (by kernel_rfl) Tryz.func4
  (ChangeSpec.witness_shaped (enc := enc) (C := Tryz.checked) (os := os) (X := fun w _ => laidMetH Tryz.prog [("barograph/xor.widths", Rows.laid_barograph_xor_widths), ("unicode/utf8.acceptRanges", Rows.laid_unicode_utf8_acceptRanges), ("unicode/utf8.first", Rows.laid_unicode_utf8_first)] w) false (World.laidAll Tryz.prog os [("barograph/xor.widths", Rows.laid_barograph_xor_widths), ("unicode/utf8.acceptRanges", Rows.laid_unicode_utf8_acceptRanges), ("unicode/utf8.first", Rows.laid_unicode_utf8_first)]) #[.agg #[.string ByteArray.empty, .int .i64 0, .int .i64 0, .int .i64 0, .int .i64 0, .int .i64 0, .slice none 0 0, .slice none 0 0], .slice none 0 0, .bool false] 8 (World.laidAll_os _ _ _)
   (World.shaped_of_ZipB (by kernel_rfl) (by kernel_rfl)) (by kernel_rfl) (by kernel_rfl) (by kernel_rfl) (door_met os _)) ?_
 intro W base args ds gs before hval0 hW _ _ hL _
 have hval : ∀ (j : Nat) t v, Tryz.f4.params[j]? = some t -> args[j]? = some v -> Value.okWide Tryz.prog W .any base t v := hval0
 have hW' := hW
 obtain ⟨p, q, hA0, hV, rfl, _, _⟩ := hW
 have hA : DataW.TrodAll enc Tryz.prog W 0 (fun _ => true) true Tryz.f4.params.toList args.toList ds p := hA0
 rw [Tryz.params4] at hA hval
 obtain ⟨v0, vs0, d0, ds0, p0, q0, hargs, rfl, rfl, h0, r0⟩ := trodAll_cons hA
 obtain ⟨v1, vs1, d1, ds1, p1, q1, rfl, rfl, rfl, h1, r1⟩ := trodAll_cons r0
 obtain ⟨v2, vs2, d2, ds2, p2, q2, rfl, rfl, rfl, h2, r2⟩ := trodAll_cons r1
 obtain ⟨rfl, rfl, rfl⟩ := trodAll_nil r2
 obtain rfl : args = #[v0, v1, v2] := by cases args; simp_all
 obtain ⟨rfl, rfl⟩ := trodVars_none hV
 obtain ⟨a2, rfl, rfl, rfl⟩ := open_bool Tryz.underlying4 (hval 2 4 v2 rfl rfl) h2
 obtain ⟨ts0, hts0⟩ := open_metaV (hval 0 53 v0 rfl rfl) h0
 obtain ⟨ts1, hts1⟩ := open_arg14 (hval 1 54 v1 rfl rfl) h1
 refine (blockBuilds_walk0 v0 ts0 v1 ts1 a2 W hts0 hts1 (of_laid hL)).mono fun e W' ⟨he, hb⟩ => ?_
 subst he
 exact ⟨_, rfl, law_post law_laid (by intro t ht; rw [Tryz.params4] at ht; simp only [List.mem_cons, List.not_mem_nil, or_false] at ht; rcases ht with rfl | rfl | rfl <;> exact ⟨by kernel_rfl, of_decide_eq_true (by kernel_rfl)⟩) rfl Tryz.underlying4 rfl rfl hW' hb⟩

theorem blockBuilds_holds : Rows.BlockBuildsSaid :=
 OpenClaim.holds_of_wide 4 Tryz.f4 rfl rfl rfl rfl rfl rfl rfl ⟨rfl, rfl, rfl, rfl, rfl⟩ rfl rfl rfl rfl rfl (by kernel_rfl) Tryz.func4 (by kernel_rfl)
  (of_decide_eq_true (by kernel_rfl)) (by unfold Func.isWrapper; first | (rw [if_pos (by decide +kernel)]; kernel_rfl) | (rw [if_neg (by decide +kernel)]; exact ⟨rfl, rfl⟩))
  (fun os started H enc _ => blockBuilds_lifted os started H enc)

theorem blockBuilds_card : Rows.BlockBuildsCardSaid :=
 Claim7.holds_tied_plain_at .later [] [.data, .data, .pinned] true (true, "10e313c21d0b0161e13f8cfea311ebe3f966d34302896ab44c490f8946b68ccf") false
  blockBuilds_holds (fun _ h => by cases h) (by kernel_rfl) (fun _ h => by cases h) blockBuilds_row_tie rfl ⟨rfl, rfl⟩ (by kernel_rfl) rfl
  (fun f fn hf hfn => by
   obtain rfl : f = 4 := Option.some.inj ((show Tryz.prog.funcNamed "barograph/barographlaw16.BlockBuilds" = some 4 by kernel_rfl).symm.trans hf) |>.symm
   obtain rfl : fn = Tryz.f4 := (Option.some.inj (Tryz.func4.symm.trans hfn)).symm
   exact ⟨by kernel_rfl, fun j t ht => by
    rw [Tryz.params4] at ht
    rcases j with _ | j
    ·obtain rfl : t = 53 := by simpa using ht.symm
     exact (show Tryz.prog.wantsStandIn 53 = false by kernel_rfl)
    rcases j with _ | j
    ·obtain rfl : t = 54 := by simpa using ht.symm
     exact (show Tryz.prog.wantsStandIn 54 = false by kernel_rfl)
    rcases j with _ | j
    ·obtain rfl : t = 4 := by simpa using ht.symm
     exact (show Tryz.prog.wantsStandIn 4 = false by kernel_rfl)
    simp at ht⟩)
  (by kernel_rfl)

end Go.Proofs.YtgabmfibfikdbaaGreatDoor
