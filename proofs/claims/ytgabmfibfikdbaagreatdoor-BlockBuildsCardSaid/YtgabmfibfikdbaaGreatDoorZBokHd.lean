/-
 Layer 16: what Build leaves.
-/
import Derived.Test.YtgabmfibfikdbaaGreatDoorZLabT
import Derived.Test.YtgabmfibfikdbaaGreatDoorZBokP
import Derived.Test.YtgabmfibfikdbaaGreatDoorZBokF
import Derived.Test.YtgabmfibfikdbaaGreatDoorZLabB
import Derived.Test.YtgabmfibfikdbaaGreatDoorZLib12
import Derived.Test.YtgabmfibfikdbaaGreatDoorZLib24
import Derived.Deep.RegionLaw

namespace Go.Proofs.YtgabmfibfikdbaaGreatDoor
open Go.RowKit Go.Bar Go.Bar.Leb Go.Bar.Frm Go.Bar.Lab Go.Bar.Xor Go.Bar.Mrg Go.Bar.Met Go.Bar.Bok

def filesV (m : Mt) (F : Option Addr) (fc : Nat) (S : Option Addr) (sc : Nat) (C I : List UInt8) : Value :=
 .agg #[.string (bs m.id), .int .i64 m.mn, .int .i64 m.mx, .int .i64 m.lv, .int .i64 m.sr, .int .i64 m.sm, .slice F m.fs.length fc, .slice S m.ss.length sc, .string (bs C), .string (bs I)]
def filesZ : Value := .agg #[.string (bs []), .int .i64 0, .int .i64 0, .int .i64 0, .int .i64 0, .int .i64 0, .slice none 0 0, .slice none 0 0, .string (bs []), .string (bs [])]
abbrev cF0 : Array Value := #[.string { data := #[] }, .int .i64 0, .int .i64 0, .int .i64 0, .int .i64 0, .int .i64 0, .slice none 0 0, .slice none 0 0, .string { data := #[] }, .string { data := #[] }]
def RetBd (w : World) (id : List UInt8) (a b lv : Int) (ss : List (List UInt8)) (R : List Row) (e : Ending) (w' : World) : Prop :=
 (BdOk id a b lv ss R /\ ∃ F fc S sc, e = .returned (.tuple #[filesV (bMt id a b lv ss R) F fc S sc (bCh R) (idxB (bEn R 0)), .int .i64 0]) /\ Buf w' 86 3 (.slice F 2 fc) 2 (fcs (bMt id a b lv ss R).fs) /\ Buf w' 9 1 (.slice S ss.length sc) ss.length (scs ss) /\ Below w.heap.size w w') \/
 (¬ BdOk id a b lv ss R /\ e = .returned (.tuple #[filesZ, .int .i64 1]) /\ Below w.heap.size w w')
theorem first_at {l : List Sm} {y : Sm} (h : l[0]? = some y) : first l = y.1 := by
 cases l with
 | nil => simp at h
 | cons x r => injection h with h; rw [<- h]; rfl
theorem last_at {l : List Sm} {q : Nat} {z : Sm} (hl : l.length = q + 1) (h : l[q]? = some z) : last l = z.1 := by
 unfold last
 rw [List.getLastD_eq_getLast?, List.getLast?_eq_getElem?, hl]
 show ((l[q]?).getD (0, 0)).1 = z.1
 rw [h]; rfl
theorem bCh_le (R : List Row) (k : Nat) : (bCh (R.take k)).length <= (bCh R).length := by
 conv => rhs; rw [<- List.take_append_drop k R, bCh_append, List.length_append]
 omega
theorem take_snoc {R : List Row} {k : Nat} {r : Row} (h : R[k]? = some r) : R.take (k + 1) = R.take k ++ [r] := by rw [List.take_add_one, h]; rfl
def FinBd (w : World) (X : Nat) (bv : Value) (ys : List UInt8) (L : List En) (vs : Nat -> Value) (w' : World) : Prop :=
 ∃ es, DEs w w w w' 45 128 (vs 23) es /\ es.map plE = L /\ NBuf w w' 5 1 bv ys.length (bcs ys) /\ Blk w' X 64 cF0 /\ Blk w' (X + 1) 64 cF0
theorem fin_of {w w6 wx w' : World} {X : Nat} {bv ov v' : Value} {ys : List UInt8} {L : List En} {es : List Ev} {ls : List Pr} {A3 : Option Addr} {c3 : Nat} {fr n mn mx : Int} (hE : DEs w w w wx 45 128 ov es) (hN : NBuf w wx 5 1 bv ys.length (bcs ys)) (hX : Blk wx X 64 cF0) (hY : Blk wx (X + 1) 64 cF0)
  (hb0 : Below w.heap.size w wx) (f3 : FBuf w6 wx 128 2 (.slice A3 ls.length c3) ls.length (pcs ls)) (hs : w.heap.size <= w6.heap.size) (hb : Buf w' 45 5 v' (es.length + 1) (ecs es ++ encE ⟨ls, A3, c3, fr, n, mn, mx⟩)) (ha : Ap wx w' 5 ov) (hg : Grew wx ov v') (hL : (es ++ [(⟨ls, A3, c3, fr, n, mn, mx⟩ : Ev)]).map plE = L) :
  ∃ es, DEs w w w w' 45 128 v' es /\ es.map plE = L /\ NBuf w w' 5 1 bv ys.length (bcs ys) /\ Blk w' X 64 cF0 /\ Blk w' (X + 1) 64 cF0 :=
 ⟨es ++ [⟨ls, A3, c3, fr, n, mn, mx⟩], hE.snoc (.inr ⟨f3.buf, hb0, fun k hk => Nat.le_trans hs (f3.new k hk)⟩) (hE.n.step hb ha hg) ha (by decide), hL, hN.keep hE.n ha (by decide), hX.ap hE.n.buf ha (by decide), hY.ap hE.n.buf ha (by decide)⟩
theorem DEs.fr_ne {B W0 W w w' : World} {T Tp T' : TypeId} {v : Value} {l : List Ev} {X : Nat} {cur : Array Value} (h : DEs B W0 W w T Tp v l) (hf : Fr (fun k _ => k = X) w w') (hb : Blk w X T' cur) (hne : Tp ≠ T') (hne2 : T ≠ T') (hX : W.heap.size <= X) : DEs B W0 W w' T Tp v l :=
 ⟨h.n.fr_ne hb hne2 hX hf, h.b, fun x hx => (h.d x hx).imp id fun h' => h'.fr_ne hb hne (Nat.le_trans h.b.size hX) hf⟩
theorem encE_oneC (x : Ev) : ∀ u ∈ encE x, u.oneCell' = true := fun u hu => by
 simp [encE] at hu
 rcases hu with rfl | rfl | rfl | rfl | rfl <;> simp [Value.oneCell']

theorem Blk.st8a {w : World} {B : Nat} {T : TypeId} {v0 v1 v2 v3 v4 v5 v6 v7 a0 a1 a2 a3 a4 a5 a6 a7 a8 a9 : Value} (h : Blk w B T #[a0, a1, a2, a3, a4, a5, a6, a7, a8, a9]) : Blk (st8 w B v0 v1 v2 v3 v4 v5 v6 v7) B T #[v0, v1, v2, v3, v4, v5, v6, v7, a8, a9] := by
 have := ((((((((h.set 0 v0).set 1 v1).set 2 v2).set 3 v3).set 4 v4).set 5 v5).set 6 v6).set 7 v7)
 unfold Go.Bar.st8
 simpa using this
theorem fr0 {w : World} {B : Nat} : Fr (fun k _ => k = B) w w := Fr.of_below (Below.refl _ _)
theorem fr1 {w w' : World} {B : Nat} (h : Fr (fun k _ => k = B) w w') (i : Nat) (u : Value) : Fr (fun k _ => k = B) w (w'.setCell ⟨B, i, none⟩ u) := h.setCell (k := B) (i := i) (fun _ => rfl) u
theorem fr_st8 {w : World} {B : Nat} {v0 v1 v2 v3 v4 v5 v6 v7 : Value} : Fr (fun k _ => k = B) w (st8 w B v0 v1 v2 v3 v4 v5 v6 v7) := by
 unfold Go.Bar.st8
 exact fr1 (fr1 (fr1 (fr1 (fr1 (fr1 (fr1 (fr1 fr0 0 _) 1 _) 2 _) 3 _) 4 _) 5 _) 6 _) 7 _
def FinBm (w : World) (X : Nat) (fs : List Fl) (S : Value) (ss : List (List UInt8)) (v0 v1 v2 v3 v4 v5 v7 v8 v9 : Value) (vs : Nat -> Value) (w' : World) : Prop :=
 ∃ g, vs 6 = .slice (some ⟨g, 0, none⟩) 2 2 /\ Buf w' 86 3 (.slice (some ⟨g, 0, none⟩) 2 2) 2 (fcs fs) /\ Buf w' 9 1 S ss.length (scs ss) /\ Blk w' X 64 cF0 /\ Blk w' (X + 1) 64 #[v0, v1, v2, v3, v4, v5, .slice (some ⟨g, 0, none⟩) 2 2, v7, v8, v9] /\ Below w.heap.size w w'
theorem FinBm.of {w wA wx : World} {X g : Nat} {fs : List Fl} {S : Value} {ss : List (List UInt8)} {v0 v1 v2 v3 v4 v5 v6 v7 v8 v9 : Value} {vs : Nat -> Value} (q6 : vs 6 = .slice (some ⟨g, 0, none⟩) 2 2) (f6 : FBuf wA wx 86 3 (.slice (some ⟨g, 0, none⟩) 2 2) 2 (fcs fs)) (hS : Buf wx 9 1 S ss.length (scs ss))
  (hX : Blk wx X 64 cF0) (hY : Blk wx (X + 1) 64 #[v0, v1, v2, v3, v4, v5, v6, v7, v8, v9]) (hB : Below w.heap.size w wx) (hXw : w.heap.size <= X + 1) (u : Value) :
  FinBm w X fs S ss v0 v1 v2 v3 v4 v5 v7 v8 v9 (Dv.updV vs 9 u) (wx.setCell ⟨X + 1, 6, none⟩ (.slice (some ⟨g, 0, none⟩) 2 2)) := by
 have hf : Fr (fun k _ => k = X + 1) wx (wx.setCell ⟨X + 1, 6, none⟩ (.slice (some ⟨g, 0, none⟩) 2 2)) := fr1 fr0 6 _
 refine ⟨g, ?_, ?_, ?_, hX.fr hf (fun i (e : X = X + 1) => by omega), by simpa using hY.set 6 (.slice (some ⟨g, 0, none⟩) 2 2), hB.setCell (p := ⟨X + 1, 6, none⟩) hXw _⟩
 ·rw [Dv.updV_ne _ _ (by decide), q6]
 ·exact f6.buf.fr_ne hY (by decide) hf
 ·exact hS.fr_ne hY (by decide) hf

theorem bel10 {w w' : World} {X : Nat} (hB : Below w.heap.size w w') (hX : w.heap.size <= X) (v0 v1 v2 v3 v4 v5 v6 v7 v8 v9 : Value) : Below w.heap.size w ((((((((((w'.setCell ⟨X, 0, none⟩ v0).setCell ⟨X, 1, none⟩ v1).setCell ⟨X, 2, none⟩ v2).setCell ⟨X, 3, none⟩ v3).setCell ⟨X, 4, none⟩ v4).setCell ⟨X, 5, none⟩ v5).setCell ⟨X, 6, none⟩ v6).setCell ⟨X, 7, none⟩ v7).setCell ⟨X, 8, none⟩ v8).setCell ⟨X, 9, none⟩ v9) :=
 ((((((((((hB.setCell (p := ⟨X, 0, none⟩) hX v0).setCell (p := ⟨X, 1, none⟩) hX v1).setCell (p := ⟨X, 2, none⟩) hX v2).setCell (p := ⟨X, 3, none⟩) hX v3).setCell (p := ⟨X, 4, none⟩) hX v4).setCell (p := ⟨X, 5, none⟩) hX v5).setCell (p := ⟨X, 6, none⟩) hX v6).setCell (p := ⟨X, 7, none⟩) hX v7).setCell (p := ⟨X, 8, none⟩) hX v8).setCell (p := ⟨X, 9, none⟩) hX v9)
theorem Blk.f10 {w : World} {M : Nat} {T : TypeId} {cur : Array Value} (h : Blk w M T cur) : w.frozen? ⟨M, 0, none⟩ = false /\ w.frozen? ⟨M, 1, none⟩ = false /\ w.frozen? ⟨M, 2, none⟩ = false /\ w.frozen? ⟨M, 3, none⟩ = false /\ w.frozen? ⟨M, 4, none⟩ = false /\ w.frozen? ⟨M, 5, none⟩ = false /\ w.frozen? ⟨M, 6, none⟩ = false /\ w.frozen? ⟨M, 7, none⟩ = false /\ w.frozen? ⟨M, 8, none⟩ = false /\ w.frozen? ⟨M, 9, none⟩ = false :=
 ⟨h.free 0, h.free 1, h.free 2, h.free 3, h.free 4, h.free 5, h.free 6, h.free 7, h.free 8, h.free 9⟩
theorem fr10s {w w' : World} {B : Nat} (h : Fr (fun k _ => k = B) w w') (v0 v1 v2 v3 v4 v5 v6 v7 v8 v9 : Value) : Fr (fun k _ => k = B) w ((((((((((w'.setCell ⟨B, 0, none⟩ v0).setCell ⟨B, 1, none⟩ v1).setCell ⟨B, 2, none⟩ v2).setCell ⟨B, 3, none⟩ v3).setCell ⟨B, 4, none⟩ v4).setCell ⟨B, 5, none⟩ v5).setCell ⟨B, 6, none⟩ v6).setCell ⟨B, 7, none⟩ v7).setCell ⟨B, 8, none⟩ v8).setCell ⟨B, 9, none⟩ v9) :=
 (fr1 (fr1 (fr1 (fr1 (fr1 (fr1 (fr1 (fr1 (fr1 (fr1 h 0 v0) 1 v1) 2 v2) 3 v3) 4 v4) 5 v5) 6 v6) 7 v7) 8 v8) 9 v9)

end Go.Proofs.YtgabmfibfikdbaaGreatDoor

set_option maxHeartbeats 32000000
set_option maxRecDepth 10000
namespace Go.Proofs.YtgabmfibfikdbaaGreatDoor
open Go.RowKit Go.Bar Go.Bar.Leb Go.Bar.Frm Go.Bar.Lab Go.Bar.Xor Go.Bar.Mrg Go.Bar.Met Go.Bar.Bok

theorem kbuild_any (id : List UInt8) (a b lv : Int) (sv : Value) (ss : List (List UInt8)) (tv : Value) (t : List Rv) (w : World) (hW : WidthsAt w) (hS : SrcAt w sv ss) (hT : TbAt w tv t)
    (hid : id.length <= 1000000) (hsl : ss.length <= 1000 /\ ∀ s ∈ ss, s.length <= 1000000) (htl : t.length <= 1000)
    (hsm : ∀ r ∈ t.map plR, SmOk r.2 /\ r.2.length <= 1000) (hlb : ∀ r ∈ t.map plR, r.1.length <= 1000 /\ ∀ p ∈ r.1, p.1.length <= 1000000 /\ p.2.length <= 1000000)
    (hC : (bCh (t.map plR)).length <= 1048576) (hD : (idxD (bEn (t.map plR) 0)).length <= 1048000) (hcn : cntR (t.map plR) <= 1000000000) :
    Calls Tryz.prog 22 #[.string (bs id), .int .i64 a, .int .i64 b, .int .i64 lv, sv, tv] w (RetBd w id a b lv ss (t.map plR)) := by
  obtain ⟨tA, tc, rfl, htc, htm⟩ := hT.shape
  obtain ⟨sA, sc, rfl, hsc, hscm⟩ := SlAt.shape hS
  obtain ⟨R, hR⟩ : ∃ R, R = t.map plR := ⟨_, rfl⟩
  have hRl : R.length = t.length := by rw [hR, List.length_map]
  rw [<- hR] at hsm hlb hC hD hcn ⊢
  have hcle := bCh_le R
  have HT := Lib.hid hT
  have HS := Lib.hid hS
  have HW := Lib.hid hW
  have HR := Lib.hid hR
  have HRL := Lib.hid hRl
  have HSM := Lib.hid hsm
  have HLB := Lib.hid hlb
  have HCL := Lib.hid hcle
  have HC := Lib.hid hC
  have HDD := Lib.hid hD
  have HSL := Lib.hid hsl
  have HCN := Lib.hid hcn
  obtain ⟨TN, hTN⟩ : ∃ TN, TN = t.length := ⟨_, rfl⟩
  obtain ⟨SN, hSN⟩ : ∃ SN, SN = ss.length := ⟨_, rfl⟩
  rw [<- hTN] at htc htl HT HRL ⊢
  rw [<- hSN] at HS ⊢
  have HTN := Lib.hid hTN
  have HSN := Lib.hid hSN
  have hgood : ∀ w', Below w.heap.size w w' -> Calls Tryz.prog 57 #[.slice tA TN tc] w' (RetBelow w' (.bool (goodB R))) := fun w' hb => by
    have := mgood_any (.slice tA TN tc) t w' (HT.out.below hb)
    rw [<- HR.out] at this
    exact this
  have HGOOD := Lib.hid hgood
  clear hT hS hW hR hRl hsm hlb hcle hC hD hsl hTN hSN hgood hcn
  have X1 := Blk.new w cF0 64
  have Y1 := Blk.new (w.alloc (.cells cF0 64)) cF0 64
  have b1 := below_trans (below_al w (.cells cF0 64)) (below_al _ (.cells cF0 64))
  have X1 := X1.alloc (.cells cF0 64)
  rw [show (w.alloc (.cells cF0 64)).heap.size = w.heap.size + 1 by simp] at Y1
  go_enter Tryz.func22, Tryz.ntmps22
  go_upto_region 4 with fail
  obtain ⟨wz, hwz⟩ : ∃ wz, wz = (w.alloc (.cells #[.string { data := #[] }, .int .i64 0, .int .i64 0, .int .i64 0, .int .i64 0, .int .i64 0, .slice none 0 0, .slice none 0 0, .string { data := #[] }, .string { data := #[] }] 64)).alloc (.cells #[.string { data := #[] }, .int .i64 0, .int .i64 0, .int .i64 0, .int .i64 0, .int .i64 0, .slice none 0 0, .slice none 0 0, .string { data := #[] }, .string { data := #[] }] 64) := ⟨_, rfl⟩
  unfold cF0 at X1 Y1 b1
  obtain ⟨X, hX⟩ : ∃ X, X = w.heap.size := ⟨_, rfl⟩
  have hXw : w.heap.size <= X := by omega
  have hYw : w.heap.size <= X + 1 := by omega
  rw [<- hwz, <- hX] at X1 Y1
  rw [<- hwz] at b1 ⊢
  rw [<- hX]
  clear hwz hX
  by_cases hgd : goodB R = true
  · rw [hgd] at HGOOD
    have HGD := Lib.hid hgd
    clear hgd
    go_wp2_with fail
    refine (HGOOD.out _ b1).mono ?_
    rintro e w1 ⟨rfl, hb1⟩
    have HX2 := Lib.hid (X1.below hb1)
    have HY2 := Lib.hid (Y1.below hb1)
    have HB2 := Lib.hid (below_trans b1 hb1)
    clear X1 Y1 b1 hb1 HGOOD
    go_upto_region 7 with fail
    go_loopw [28, 15, 16] (fun iv bv lv' wr => ∃ (k : Nat) (es : List Ev), iv = .int .i64 k /\ k <= TN /\ Hid (NBuf w wr 5 1 bv (bCh (R.take k)).length (bcs (bCh (R.take k)))) /\ Hid (DEs w w w wr 45 128 lv' es) /\ Hid (es.map plE = bEn (R.take k) 0) /\
      Hid (∀ r ∈ R.take k, RowOk a b r) /\ Hid (Blk wr X 64 cF0) /\ Hid (Blk wr (X + 1) 64 cF0)) (fun iv _ _ _ => TN - (intOf iv).toNat)
    case atStart => exact ⟨0, [], rfl, Nat.zero_le _, Lib.hid (NBuf.nil HB2.out _ _), Lib.hid (DEs.nil HB2.out (Below.refl _ _) _ _), Lib.hid rfl, Lib.hid (fun r hr => by simp at hr), HX2, HY2⟩
    case round =>
      obtain ⟨k, es, rfl, hk, HNB, HES, HEQ, HRO, HX3, HY3⟩ := hrel
      clear HX2 HY2 HB2
      have hbr := HNB.out.below
      have HBR := Lib.hid hbr
      obtain ⟨bA, bc, rfl, hbc⟩ := HNB.out.buf.shape
      obtain ⟨oA, oc, rfl, hoc⟩ := HES.out.n.buf.shape
      have hcl := HCL.out k
      have hCC := HC.out
      obtain ⟨Y, hY⟩ : ∃ Y, Y = bCh (R.take k) := ⟨_, rfl⟩
      have hYl : Y.length <= 1048576 := by rw [hY]; omega
      rw [<- hY] at HNB hbc ⊢
      have hY0 := hY
      have HY := Lib.hid hY
      have hesl : es.length = k \/ TN < k := by
        have := congrArg List.length HEQ.out
        rw [List.length_map, bEn_len, List.length_take, HRL.out] at this
        omega
      have hesl : es.length = k := by omega
      have HESL := Lib.hid hesl
      clear hesl
      by_cases hgo : k < TN
      · obtain ⟨⟨ls, sl, la, lc, sa, sc'⟩, hx⟩ : ∃ x, t[k]? = some x := ⟨_, List.getElem?_eq_getElem (by rw [<- HTN.out]; exact hgo)⟩
        obtain ⟨tb, to_, rfl, g0, g1, hrat⟩ := (HT.out.below hbr).at_ hx
        have hrk : R[k]? = some (ls, sl) := by rw [HR.out, List.getElem?_map, hx]; rfl
        have hrm := List.mem_of_getElem? hrk
        have htk := take_snoc hrk
        obtain ⟨hsmo, hsl1⟩ := HSM.out _ hrm
        obtain ⟨hlb1, hlb2⟩ := HLB.out _ hrm
        dsimp only at g0 g1 hsmo hsl1 hlb1 hlb2
        have hxt := Lib.hid hx
        have HTK := Lib.hid htk
        have HRM := Lib.hid hrm
        obtain ⟨wb, hwb⟩ : ∃ wb, wb = wr.alloc (.cells #[.slice la ls.length lc, .slice sa sl.length sc'] 94) := ⟨_, rfl⟩
        have hb2 : Below wr.heap.size wr wb := by rw [hwb]; exact below_al _ _
        have HZ : Hid (Blk wb wr.heap.size 94 #[.slice la ls.length lc, .slice sa sl.length sc']) := Lib.hid (by rw [hwb]; exact Blk.new _ _ _)
        have HSS0 : Hid (SmsAt w (.slice sa sl.length sc') sl) := Lib.hid (HT.out.2 _ (List.mem_of_getElem? hx)).2
        have hps : PsAt wr (.slice la ls.length lc) ls := hrat.1
        have hss : SmsAt wr (.slice sa sl.length sc') sl := hrat.2
        have HPS := Lib.hid (hps.below hb2)
        have HSS := Lib.hid (hss.below hb2)
        have HNB4 := Lib.hid (HNB.out.then_below hb2)
        have HES4 := Lib.hid (HES.out.below hb2)
        have HX4 := Lib.hid (HX3.out.below hb2)
        have HY4 := Lib.hid (HY3.out.below hb2)
        have HB4 := Lib.hid (below_trans hbr hb2)
        have hck := fun w' (hb : Below wb.heap.size wb w') => lcheck_any (.slice la ls.length lc) ls w' (HPS.out.below hb) (fun p hp => by have := (hlb2 p hp).1; omega)
        have HCK := Lib.hid hck
        have HLB2 := Lib.hid hlb2
        have HSMO := Lib.hid hsmo
        clear hx hrk hrm htk hrat hps hss hck hlb2 hsmo hbr HNB HES HX3 HY3 hY hY0
        go_upto_region 9 with fail
        rw [<- hwb]
        obtain ⟨Q, hQ⟩ : ∃ Q, Q = wr.heap.size := ⟨_, rfl⟩
        rw [<- hQ] at HZ ⊢
        clear hwb hQ hb2 g0 g1
        obtain ⟨r0, r1⟩ := HZ.out.c2
        have hbad : ¬ RowOk a b (ls, sl) -> ¬ BdOk id a b lv ss R := fun h hok => h (hok.rows _ HRM.out)
        have HBAD := Lib.hid hbad
        clear hbad
        rcases hq0 : sl with _ | ⟨s0, sr0⟩
        · subst hq0
          have hno : ¬ BdOk id a b lv ss R := HBAD.out (fun h => h.ne rfl)
          have HNO := Lib.hid hno
          obtain ⟨x0, x1, x2, x3, x4, x5, x6, x7, x8, x9⟩ := (HX4.out).c10
          obtain ⟨z0, z1, z2, z3, z4, z5, z6, z7, z8, z9⟩ := Blk.f10 (HX4.out)
          clear hno HX4 HY4 HNB4 HES4 HCK HSS HPS HZ
          go_wp2_with fail
          refine bodyPost_ret (v := .tuple #[filesZ, .int .i64 1]) (by simp [filesZ, results, Tryz.results22, go_sem, x0, x1, x2, x3, x4, x5, x6, x7, x8, x9]; rfl) rfl ?_
          exact .inr ⟨HNO.out, rfl, bel10 HB4.out hXw _ _ _ _ _ _ _ _ _ _⟩
        · rw [<- hq0]
          obtain ⟨q, hq⟩ : ∃ q, sl.length = q + 1 := ⟨sr0.length, by rw [hq0]; rfl⟩
          obtain ⟨y, hy⟩ : ∃ y, sl[0]? = some y := ⟨_, List.getElem?_eq_getElem (by omega)⟩
          obtain ⟨z, hz⟩ : ∃ z, sl[q]? = some z := ⟨_, List.getElem?_eq_getElem (by omega)⟩
          have hfy := first_at hy
          have hlz := last_at hq hz
          have hsz : ((sl.length : Int) == 0) = false := by rw [beq_eq_false_iff_ne]; omega
          have hqw : IntKind.i64.wrap ((sl.length : Int) - 1) = (q : Int) := by rw [IntKind.wrap_i64]; omega
          have hqn : (q : Int) < (sl.length : Int) := by omega
          have hqn0 : (0 : Int) <= (q : Int) := by omega
          have hsne : sl ≠ [] := by rw [hq0]; simp
          have hps0 : (0 : Int) < (sl.length : Int) := by omega
          have HFY := Lib.hid hfy
          have HLZ := Lib.hid hlz
          have HSNE := Lib.hid hsne
          have hcells : ∀ w', Below wb.heap.size wb w' -> ∃ sb so, sa = some ⟨sb, so, none⟩ /\ w'.cell? ⟨sb, so, none⟩ = some (.int .i64 y.1) /\ w'.cell? ⟨sb, so + q * 2, none⟩ = some (.int .i64 z.1) := fun w' hb => by
            obtain ⟨sb, so, e1, _, h1, _⟩ := SmsAt.at_ (l := sl) (HSS.out.below hb) hy
            obtain ⟨sb2, so2, e2, _, h2, _⟩ := SmsAt.at_ (l := sl) (HSS.out.below hb) hz
            rw [e1] at e2
            injection e2 with e2
            injection e2 with e3 e4 _
            subst e3; subst e4
            exact ⟨sb, so, e1, by simpa using h1, h2⟩
          obtain ⟨sb, so, hsaE, _, _⟩ := hcells wb (Below.refl _ _)
          subst hsaE
          have hcells2 : ∀ w', Below wb.heap.size wb w' -> w'.cell? ⟨sb, so, none⟩ = some (.int .i64 y.1) /\ w'.cell? ⟨sb, so + q * 2, none⟩ = some (.int .i64 z.1) := fun w' hb => by
            obtain ⟨sb2, so2, e2, h1, h2⟩ := hcells w' hb
            injection e2 with e2
            injection e2 with e3 e4 _
            subst e3; subst e4
            exact ⟨h1, h2⟩
          have HCELLS := Lib.hid hcells2
          have HC0 : Hid (∀ w', Below w.heap.size w w' -> w'.cell? ⟨sb, so, none⟩ = some (.int .i64 y.1) /\ w'.cell? ⟨sb, so + q * 2, none⟩ = some (.int .i64 z.1)) := Lib.hid (fun w' hb => by
            obtain ⟨b1, o1, e1, _, h1, _⟩ := SmsAt.at_ (l := sl) (SmsAt.below HSS0.out hb) hy
            obtain ⟨b2, o2, e2, _, h2, _⟩ := SmsAt.at_ (l := sl) (SmsAt.below HSS0.out hb) hz
            injection e1 with e1
            injection e1 with e3 e4 _
            subst e3; subst e4
            injection e2 with e2
            injection e2 with e3 e4 _
            subst e3; subst e4
            exact ⟨by simpa using h1, h2⟩)
          clear hcells hcells2 hy hz hfy hlz hq hq0 hsne
          by_cases hlab : Lab.Ok ls
          · rw [errL_ok hlab] at HCK
            have HLAB := Lib.hid hlab
            clear hlab
            go_wp2_with fail
            refine (HCK.out _ (Below.refl _ _)).mono ?_
            rintro e w5 ⟨rfl, hb5⟩
            obtain ⟨f0, f1⟩ := HCELLS.out _ hb5
            have HX5 := Lib.hid (HX4.out.below hb5)
            have HY5 := Lib.hid (HY4.out.below hb5)
            have HB5 := Lib.hid (below_trans HB4.out hb5)
            have HZ5 := Lib.hid (HZ.out.below hb5)
            have HNB5 := Lib.hid (HNB4.out.then_below hb5)
            have HES5 := Lib.hid (HES4.out.below hb5)
            have HPS5 := Lib.hid (HPS.out.below hb5)
            have HSS5 := Lib.hid (SmsAt.below HSS.out hb5)
            have HC5 := Lib.hid (fun w' (hb : Below w5.heap.size w5 w') => HCELLS.out w' (below_trans hb5 hb))
            have r0 := HZ5.out.c2.1
            have r1 := HZ5.out.c2.2
            clear HX4 HY4 HB4 HZ HNB4 HES4 HPS HSS HCELLS HCK hb5
            by_cases hfa : y.1 < a
            · have hfd : decide (y.1 < a) = true := decide_eq_true hfa
              have hno : ¬ BdOk id a b lv ss R := HBAD.out (fun h => by have h1 := h.fr; have h1 : a <= first sl := h1; rw [HFY.out] at h1; omega)
              have HNO := Lib.hid hno
              obtain ⟨x0, x1, x2, x3, x4, x5, x6, x7, x8, x9⟩ := (HX5.out).c10
              obtain ⟨z0, z1, z2, z3, z4, z5, z6, z7, z8, z9⟩ := Blk.f10 (HX5.out)
              clear hno HX5 HY5 HNB5 HES5 HSS5 HPS5 HZ5 HC5
              go_wp2_with fail
              refine bodyPost_ret (v := .tuple #[filesZ, .int .i64 1]) (by simp [filesZ, results, Tryz.results22, go_sem, x0, x1, x2, x3, x4, x5, x6, x7, x8, x9]; rfl) rfl ?_
              exact .inr ⟨HNO.out, rfl, bel10 HB5.out hXw _ _ _ _ _ _ _ _ _ _⟩
            · have hfd : decide (y.1 < a) = false := decide_eq_false hfa
              by_cases hlb3 : b <= z.1
              · have hld : decide (b <= z.1) = true := decide_eq_true hlb3
                have hno : ¬ BdOk id a b lv ss R := HBAD.out (fun h => by have h1 := h.to; have h1 : last sl < b := h1; rw [HLZ.out] at h1; omega)
                have HNO := Lib.hid hno
                obtain ⟨x0, x1, x2, x3, x4, x5, x6, x7, x8, x9⟩ := (HX5.out).c10
                obtain ⟨z0, z1, z2, z3, z4, z5, z6, z7, z8, z9⟩ := Blk.f10 (HX5.out)
                clear hno HX5 HY5 HNB5 HES5 HSS5 HPS5 HZ5 HC5
                go_wp2_with fail
                refine bodyPost_ret (v := .tuple #[filesZ, .int .i64 1]) (by simp [filesZ, results, Tryz.results22, go_sem, x0, x1, x2, x3, x4, x5, x6, x7, x8, x9]; rfl) rfl ?_
                exact .inr ⟨HNO.out, rfl, bel10 HB5.out hXw _ _ _ _ _ _ _ _ _ _⟩
              · have hld : decide (b <= z.1) = false := decide_eq_false hlb3
                have hro : RowOk a b (ls, sl) := ⟨HSNE.out, HLAB.out, by show a <= first sl; rw [HFY.out]; omega, by show last sl < b; rw [HLZ.out]; omega, HSMO.out.tm⟩
                have HRO2 := Lib.hid hro
                clear hro
                go_upto_region 14 with fail
                have hlen7 := HCL.out (k + 1)
                rw [HTK.out, bCh_snoc, <- HY.out, List.length_append] at hlen7
                have hlen7 : Y.length + (chB sl).length <= 1048576 := Nat.le_trans hlen7 HC.out
                have hchk := kchunk_any w (.slice bA Y.length bc) Y sl (some ⟨sb, so, none⟩) sc' w5 HW.out HSS0.out HSMO.out (by omega) (by omega) HNB5.out
                obtain ⟨Y2, hY2⟩ : ∃ Y2, Y2 = Y ++ chB sl := ⟨_, rfl⟩
                obtain ⟨CL, hCL⟩ : ∃ CL, CL = (chB sl).length := ⟨_, rfl⟩
                have hY2l : Y2.length = Y.length + CL := by rw [hY2, List.length_append, hCL]
                rw [<- hY2] at hchk
                have HCHK := Lib.hid hchk
                have HY2 := Lib.hid hY2
                have HCLL := Lib.hid hCL
                have hwl : IntKind.i64.wrap ((Y2.length : Int) - (Y.length : Int)) = (CL : Int) := by rw [IntKind.wrap_i64]; omega
                have hY2b : Y2.length <= 1048576 := by omega
                have HY2L := Lib.hid hY2l
                clear hchk hY2 hCL hlen7 hY2l
                go_wp2_with fail
                refine HCHK.out.mono ?_
                rintro e w6 ⟨v6, rfl, hn6, hk6⟩
                have HX6 := Lib.hid (hk6.blk HX5.out (by decide))
                have HYY6 := Lib.hid (hk6.blk HY5.out (by decide))
                have HZ6 := Lib.hid (hk6.blk HZ5.out (by decide))
                have HES6 := Lib.hid (HES5.out.ke hk6 hn6.below (by decide) (by decide))
                have HB6 := Lib.hid hn6.below
                obtain ⟨gA, gc, rfl, hgc⟩ := hn6.buf.shape
                have HNB6 := Lib.hid hn6
                have HSS6 := Lib.hid (SmsAt.below HSS0.out hn6.below)
                have hps6 := (HT.out.2 _ (List.mem_of_getElem? hxt.out)).1.below hn6.below
                have HPS6 := Lib.hid hps6
                have hc6 : ∀ w', Below w6.heap.size w6 w' -> w'.cell? ⟨sb, so, none⟩ = some (.int .i64 y.1) /\ w'.cell? ⟨sb, so + q * 2, none⟩ = some (.int .i64 z.1) := fun w' hb => HC0.out w' (below_trans HB6.out hb)
                have HC6 := Lib.hid hc6
                have hcl9 := fun w' (hb : Below w6.heap.size w6 w') => cloneSet16_any _ ls w' (HPS6.out.below hb) (by omega)
                have HCL9 := Lib.hid hcl9
                have hesl2 : es.length <= 1000 := by rw [HESL.out]; omega
                clear hn6 hk6 HCHK HNB5 HES5 HX5 HY5 HZ5 HPS5 HSS5 HC5 HB5 r0 r1 f0 f1 hps6 hc6 hcl9
                have hsn1 : 0 < sl.length := by omega
                have hsn2 : ¬ sl = [] := HSNE.out
                go_upto_region 17 with fail
                have hstT : ∀ k v w w', Below w.heap.size w w' -> Dv.factOf ([(2, ((fun v => v = (.slice la ls.length lc)), noFact, 2)), (3, ((fun v => ∃ A c, v = .slice A ls.length c), (fun v w' => FBuf w6 w' 128 2 v ls.length (pcs ls)), 23)), (10, ((fun v => v = (.slice (some ⟨sb, so, none⟩) sl.length sc')), noFact, 10)), (13, ((fun v => v = (.int .i64 y.1)), noFact, 13)), (15, ((fun v => v = (.slice (some ⟨sb, so, none⟩) sl.length sc')), noFact, 15)), (20, ((fun v => v = (.int .i64 z.1)), noFact, 20)), (22, ((fun v => ∃ g, v = .slice (some ⟨g, 0, none⟩) 1 1), (fun v w' => ∃ A c, FBuf w6 w' 45 5 v 1 (encE ⟨ls, A, c, Y.length, CL, y.1, z.1⟩) /\ FBuf w6 w' 128 2 (.slice A ls.length c) ls.length (pcs ls)), 23)), (23, ((isSl (es.length + 1)), noFact, 23))] : List (Nat × Dv.Kp)) k v w -> Dv.factOf ([(2, ((fun v => v = (.slice la ls.length lc)), noFact, 2)), (3, ((fun v => ∃ A c, v = .slice A ls.length c), (fun v w' => FBuf w6 w' 128 2 v ls.length (pcs ls)), 23)), (10, ((fun v => v = (.slice (some ⟨sb, so, none⟩) sl.length sc')), noFact, 10)), (13, ((fun v => v = (.int .i64 y.1)), noFact, 13)), (15, ((fun v => v = (.slice (some ⟨sb, so, none⟩) sl.length sc')), noFact, 15)), (20, ((fun v => v = (.int .i64 z.1)), noFact, 20)), (22, ((fun v => ∃ g, v = .slice (some ⟨g, 0, none⟩) 1 1), (fun v w' => ∃ A c, FBuf w6 w' 45 5 v 1 (encE ⟨ls, A, c, Y.length, CL, y.1, z.1⟩) /\ FBuf w6 w' 128 2 (.slice A ls.length c) ls.length (pcs ls)), 23)), (23, ((isSl (es.length + 1)), noFact, 23))] : List (Nat × Dv.Kp)) k v w' := Dv.fact_st (by
                  simp only [List.forall_mem_cons, List.not_mem_nil, false_imp_iff, implies_true, and_true]
                  refine ⟨?_, ?_, ?_, ?_, ?_, ?_, ?_, ?_⟩
                  · exact fun _ _ _ _ _ => trivial
                  · exact fun _ _ _ hb h => h.below hb
                  · exact fun _ _ _ _ _ => trivial
                  · exact fun _ _ _ _ _ => trivial
                  · exact fun _ _ _ _ _ => trivial
                  · exact fun _ _ _ _ _ => trivial
                  · exact fun _ _ _ hb ⟨A, c, h1, h2⟩ => ⟨A, c, h1.below hb, h2.below hb⟩
                  · exact fun _ _ _ _ _ => trivial)
                have htrT : ∀ x ∈ ([(2, ((fun v => v = (.slice la ls.length lc)), noFact, 2)), (3, ((fun v => ∃ A c, v = .slice A ls.length c), (fun v w' => FBuf w6 w' 128 2 v ls.length (pcs ls)), 23)), (10, ((fun v => v = (.slice (some ⟨sb, so, none⟩) sl.length sc')), noFact, 10)), (13, ((fun v => v = (.int .i64 y.1)), noFact, 13)), (15, ((fun v => v = (.slice (some ⟨sb, so, none⟩) sl.length sc')), noFact, 15)), (20, ((fun v => v = (.int .i64 z.1)), noFact, 20)), (22, ((fun v => ∃ g, v = .slice (some ⟨g, 0, none⟩) 1 1), (fun v w' => ∃ A c, FBuf w6 w' 45 5 v 1 (encE ⟨ls, A, c, Y.length, CL, y.1, z.1⟩) /\ FBuf w6 w' 128 2 (.slice A ls.length c) ls.length (pcs ls)), 23)), (23, ((isSl (es.length + 1)), noFact, 23))] : List (Nat × Dv.Kp)), (([(2, ((fun v => v = (.slice la ls.length lc)), noFact, 2)), (3, ((fun v => ∃ A c, v = .slice A ls.length c), (fun v w' => FBuf w6 w' 128 2 v ls.length (pcs ls)), 23)), (10, ((fun v => v = (.slice (some ⟨sb, so, none⟩) sl.length sc')), noFact, 10)), (13, ((fun v => v = (.int .i64 y.1)), noFact, 13)), (15, ((fun v => v = (.slice (some ⟨sb, so, none⟩) sl.length sc')), noFact, 15)), (20, ((fun v => v = (.int .i64 z.1)), noFact, 20)), (22, ((fun v => ∃ g, v = .slice (some ⟨g, 0, none⟩) 1 1), (fun v w' => ∃ A c, FBuf w6 w' 45 5 v 1 (encE ⟨ls, A, c, Y.length, CL, y.1, z.1⟩) /\ FBuf w6 w' 128 2 (.slice A ls.length c) ls.length (pcs ls)), 23)), (23, ((isSl (es.length + 1)), noFact, 23))] : List (Nat × Dv.Kp)).lookup x.2.2.2).isSome = true := by
                  simp only [List.forall_mem_cons, List.not_mem_nil, false_imp_iff, implies_true, and_true]
                  exact ⟨by kernel_rfl, by kernel_rfl, by kernel_rfl, by kernel_rfl, by kernel_rfl, by kernel_rfl, by kernel_rfl, by kernel_rfl⟩
                refine Dv.wp_region_two (L := ([(2, ((fun v => v = (.slice la ls.length lc)), noFact, 2)), (3, ((fun v => ∃ A c, v = .slice A ls.length c), (fun v w' => FBuf w6 w' 128 2 v ls.length (pcs ls)), 23)), (10, ((fun v => v = (.slice (some ⟨sb, so, none⟩) sl.length sc')), noFact, 10)), (13, ((fun v => v = (.int .i64 y.1)), noFact, 13)), (15, ((fun v => v = (.slice (some ⟨sb, so, none⟩) sl.length sc')), noFact, 15)), (20, ((fun v => v = (.int .i64 z.1)), noFact, 20)), (22, ((fun v => ∃ g, v = .slice (some ⟨g, 0, none⟩) 1 1), (fun v w' => ∃ A c, FBuf w6 w' 45 5 v 1 (encE ⟨ls, A, c, Y.length, CL, y.1, z.1⟩) /\ FBuf w6 w' 128 2 (.slice A ls.length c) ls.length (pcs ls)), 23)), (23, ((isSl (es.length + 1)), noFact, 23))] : List (Nat × Dv.Kp))) (m := 23) (Fin := (FinBd w X (.slice gA Y2.length gc) Y2 (bEn (R.take (k + 1)) 0))) (by kernel_rfl) 151 (by kernel_rfl) rfl (by kernel_rfl) ?_ ?_ ?_
                · simp only [List.forall_mem_cons, List.not_mem_nil, false_imp_iff, implies_true, and_true]
                  exact ⟨⟨_, rfl⟩, ⟨_, none, 0, rfl⟩, ⟨_, rfl⟩, ⟨_, rfl⟩, ⟨_, rfl⟩, ⟨_, rfl⟩, ⟨_, 0, rfl⟩, isSl_some _⟩
                · exact (fun vs vs' w' h hf => by unfold FinBd at hf ⊢; rw [<- h 23 (by kernel_rfl) (by decide)]; exact hf)
                repeat (first
                  | (refine Dv.Chain.step (v := ?_) (a' := ?_) rfl rfl rfl ?_ ?_ ?_; rotate_left 2; (focus (intro w; go_simp; try with_reducible rfl)); focus (simp only [Act.put, pqA, pqS, pqZ]; try rfl))
                  | (refine Dv.XT.call (i := 2) (a' := ?_) _ _ rfl (by decide) hstT rfl rfl (fun wx hw hF => ?_) htrT ?_ ?_; rotate_left 1; (focus (obtain ⟨g0, g1⟩ := Blk.c2 (HZ6.out.below hw); go_simp; first | exact ⟨rfl, rB⟩ | exact rB)); focus (simp only [Act.put, pqA, pqS, pqZ]; try rfl))
                  | (refine Dv.XT.make (i := 3) _ _ _ rfl (by decide) hstT rfl rfl (fun wx hw hF => ?_) htrT (fun v3 hv3 a' ha => ?_); (focus (go_simp); (with_reducible refine (HCL9.out _ hw).mono ?_); (rintro e w' ⟨v, rfl, hnb⟩); (obtain ⟨A, c, rfl, _⟩ := hnb.buf.shape); (exact ⟨⟨A, c, rfl⟩, hnb.below, hnb.buf, fun k hk => Nat.le_trans hw.size (hnb.new k hk)⟩)); obtain ⟨A3, c3, rfl⟩ := hv3; simp only [Act.put, pqA, pqS, pqZ] at ha; subst ha)
                  | (refine Dv.XT.call (i := 10) (a' := ?_) _ _ rfl (by decide) hstT rfl rfl (fun wx hw hF => ?_) htrT ?_ ?_; rotate_left 1; (focus (obtain ⟨g0, g1⟩ := Blk.c2 (HZ6.out.below hw); go_simp; first | exact ⟨rfl, rB⟩ | exact rB)); focus (simp only [Act.put, pqA, pqS, pqZ]; try rfl))
                  | (refine Dv.XT.call (i := 13) (a' := ?_) _ _ rfl (by decide) hstT rfl rfl (fun wx hw hF => ?_) htrT ?_ ?_; rotate_left 1; (focus (obtain ⟨g0, g1⟩ := HC6.out _ hw); (go_simp); (first | exact ⟨rfl, rB⟩ | exact rB)); focus (simp only [Act.put, pqA, pqS, pqZ]; try rfl))
                  | (refine Dv.XT.call (i := 15) (a' := ?_) _ _ rfl (by decide) hstT rfl rfl (fun wx hw hF => ?_) htrT ?_ ?_; rotate_left 1; (focus (obtain ⟨g0, g1⟩ := Blk.c2 (HZ6.out.below hw); go_simp; first | exact ⟨rfl, rB⟩ | exact rB)); focus (simp only [Act.put, pqA, pqS, pqZ]; try rfl))
                  | (refine Dv.XT.call (i := 20) (a' := ?_) _ _ rfl (by decide) hstT rfl rfl (fun wx hw hF => ?_) htrT ?_ ?_; rotate_left 1; (focus (obtain ⟨g0, g1⟩ := HC6.out _ hw); (go_simp); (first | exact ⟨rfl, rB⟩ | exact rB)); focus (simp only [Act.put, pqA, pqS, pqZ]; try rfl))
                  | (refine Dv.XT.make (i := 22) _ _ _ rfl (by decide) hstT rfl rfl (fun wx hw hF => ?_) htrT (fun v22 hv22 a' ha => ?_); (focus (have f3 : (fun v w' => FBuf w6 w' 128 2 v ls.length (pcs ls) : Value -> World -> Prop) _ wx := hF 3 _ (by kernel_rfl) rfl (by kernel_rfl)); (go_simp); (refine ⟨ba1 _ _, A3, c3, ⟨?_, fun k hk => by simp [Value.ownBlock] at hk; subst hk; exact hw.size⟩, f3.below (ba1 _ _)⟩); (exact Buf.lit wx 45 5 1 [.slice A3 ls.length c3, .int .i64 (Y.length : Nat), .int .i64 (CL : Nat), .int .i64 y.1, .int .i64 z.1] rfl (by decide))); obtain ⟨g7, rfl⟩ := hv22; simp only [Act.put, pqA, pqS, pqZ] at ha; subst ha)
                  | (refine Dv.XT.last (i := 23) _ _ _ rfl rfl (by kernel_rfl) rfl rfl (fun vs wx hw hF => ?_) (fun v23 hv23 a' ha => ?_); (focus (have f22 : (fun v w' => ∃ A c, FBuf w6 w' 45 5 v 1 (encE ⟨ls, A, c, Y.length, CL, y.1, z.1⟩) /\ FBuf w6 w' 128 2 (.slice A ls.length c) ls.length (pcs ls) : Value -> World -> Prop) _ wx := (hF 22 _ (by kernel_rfl) rfl).1 (by kernel_rfl)); (have q22 := (hF 22 _ (by kernel_rfl) rfl).2); (obtain ⟨A4, c4, f22, f3⟩ := f22); (have hE := HES6.out.below hw); (refine oper_append_buf (.tmp 77) (.tmp 99) 25 rfl entry_ty rfl hE.n.buf rfl (f22.buf.src Tryz.underlying25 (encE_oneC _)) (by simp only [maxLen]; omega) (by omega) ?_); (intro v' w' hb ha hg); (refine ⟨v', rfl, hb.shape, ?_⟩); (unfold FinBd); (rw [Dv.updV_self]); (exact fin_of hE (HNB6.out.then_below hw) (HX6.out.below hw) (HYY6.out.below hw) (below_trans HB6.out hw) f3 HB6.out.size hb ha hg (by rw [List.map_append, HEQ.out, HTK.out, bEn_snoc, <- HY.out]; congr 1; unfold plE rEn; simp only; rw [HFY.out, HLZ.out, <- HCLL.out]; rfl))); obtain ⟨A8, c8, rfl, hc8⟩ := hv23; simp only [Act.put, pqA, pqS, pqZ] at ha; subst ha)
                  | (refine Dv.Chain.skip' (a' := ?_) rfl rfl rfl ?_ ?_; rotate_left 1; focus (simp only [Act.put, pqA, pqS, pqZ]; try rfl)))
                refine Dv.XT.end_ (by decide) (fun vs w10 hv hfin => ?_)
                unfold FinBd at hfin
                rw [hv 23 _ rfl] at hfin
                obtain ⟨es2, he1, he2, he3, he4, he5⟩ := hfin
                have HE1 := Lib.hid he1
                have HE2 := Lib.hid he2
                have HE3 := Lib.hid (show NBuf w w10 5 1 (.slice gA Y2.length gc) (bCh (R.take (k + 1))).length (bcs (bCh (R.take (k + 1)))) by rw [HTK.out, bCh_snoc, <- HY.out, <- HY2.out]; exact he3)
                have HE4 := Lib.hid he4
                have HE5 := Lib.hid he5
                clear he1 he2 he3 he4 he5 hv HX6 HYY6 HZ6 HES6 HNB6 HSS6 HPS6 HC6 HCL9
                go_wp2_with fail
                go_roundw
                case rel => exact ⟨k + 1, es2, by go_num, by omega, HE3, HE1, HE2, Lib.hid (fun r hr => by
                  rw [HTK.out] at hr
                  rcases List.mem_append.1 hr with hr | hr
                  · exact HRO.out r hr
                  · obtain rfl := List.mem_singleton.1 hr
                    exact HRO2.out), HE4, HE5⟩
                case measure => simp [intOf]; omega
          · rw [errL_no hlab] at HCK
            have HLAB := Lib.hid hlab
            clear hlab
            go_wp2_with fail
            refine (HCK.out _ (Below.refl _ _)).mono ?_
            rintro e w5 ⟨rfl, hb5⟩
            have HX5 := Lib.hid (HX4.out.below hb5)
            have HB5 := Lib.hid (below_trans HB4.out hb5)
            clear HX4 HY4 HB4 HZ HNB4 HES4 HPS HSS HCELLS HCK hb5
            have hno : ¬ BdOk id a b lv ss R := HBAD.out (fun h => HLAB.out h.lab)
            have HNO := Lib.hid hno
            obtain ⟨x0, x1, x2, x3, x4, x5, x6, x7, x8, x9⟩ := (HX5.out).c10
            obtain ⟨z0, z1, z2, z3, z4, z5, z6, z7, z8, z9⟩ := Blk.f10 (HX5.out)
            clear hno HX5
            go_wp2_with fail
            refine bodyPost_ret (v := .tuple #[filesZ, .int .i64 1]) (by simp [filesZ, results, Tryz.results22, go_sem, x0, x1, x2, x3, x4, x5, x6, x7, x8, x9]; rfl) rfl ?_
            exact .inr ⟨HNO.out, rfl, bel10 HB5.out hXw _ _ _ _ _ _ _ _ _ _⟩
      · obtain rfl : k = TN := by omega
        have htake : R.take k = R := by rw [<- HRL.out, List.take_length]
        rw [htake] at HEQ HRO hY0
        have HYR := Lib.hid hY0
        clear hcl hCC hY hY0
        obtain ⟨E, hE⟩ : ∃ E, E = bEn R 0 := ⟨_, rfl⟩
        obtain ⟨IX, hIX⟩ : ∃ IX, IX = idxB E := ⟨_, rfl⟩
        rw [<- hE] at HEQ
        have hixl : IX.length <= 1048576 := by
          have h1 := HDD.out
          rw [<- hE] at h1
          have h2 : IX.length = 5 + (u (idxD E).length).length + (idxD E).length := by rw [hIX]; exact rec_len _
          have h3 := u_len (idxD E).length (by omega)
          omega
        have hidx := fun w' (h : EsAt w' (.slice oA es.length oc) es) => kindex_any (.slice oA es.length oc) es w' h (by rw [HEQ.out, hE]; have := HDD.out; omega) (fun x hx => by
          have h1 : plE x ∈ bEn R 0 := by rw [<- hE, <- HEQ.out]; exact List.mem_map_of_mem hx
          obtain ⟨i, hi⟩ := List.mem_iff_getElem?.1 h1
          have hlt := (List.getElem?_eq_some_iff.1 hi).1
          rw [bEn_len] at hlt
          rw [bEn_at _ (List.getElem?_eq_getElem hlt)] at hi
          injection hi with hi
          have h2 := HLB.out _ (List.getElem_mem hlt)
          have h3 : (plE x).ls = (R[i]).1 := by rw [<- hi]; rfl
          have h3 : x.ls = (R[i]).1 := h3
          rw [h3]
          exact h2) (by rw [HESL.out]; omega)
        rw [HEQ.out, <- hIX] at hidx
        have HIDX := Lib.hid hidx
        have HIX := Lib.hid hIX
        have HE := Lib.hid hE
        have hcnt := fun w' (hb : Below w.heap.size w w') => mcount_any (.slice tA k tc) t w' (HT.out.below hb) (by rw [<- HR.out]; exact HCN.out)
        rw [<- HR.out] at hcnt
        obtain ⟨CN, hCN⟩ : ∃ CN, CN = cntR R := ⟨_, rfl⟩
        rw [<- hCN] at hcnt
        have HCNT := Lib.hid hcnt
        have HCNE := Lib.hid hCN
        have hcls := fun w' (hb : Below w.heap.size w w') => cloneStr_any (.slice sA SN sc) ss w' (by have := SlAt.below HS.out hb; rw [HSN.out] at this ⊢; exact this) (by have := HSL.out.1; omega)
        have HCLS := Lib.hid hcls
        clear hidx hIX hE hcnt hCN hcls hgo htake
        go_upto_region 19 with fail
        refine Dn.wp_region_states [(1, .string (bs Y)), (3, .string (bs IX)), (5, undef), (7, undef)]
          (fun D w' => Fr (fun k _ => k = X + 1) wr w' /\ Sv (X + 1) 64 [(5, 8, .string (bs Y)), (7, 9, .string (bs IX))] cF0 D w') (by kernel_rfl) 151 (by kernel_rfl) rfl
          (fun i D w' hi hx => ⟨hx.1, hx.2.same (by
            simp only [List.forall_mem_cons, List.not_mem_nil, false_imp_iff, implies_true, and_true]
            exact ⟨lookup_ne' rfl hi, lookup_ne' rfl hi⟩)⟩)
          ⟨Fr.of_below (Below.refl _ _).drew, Sv.start HY3.out.drew⟩ ?_
        repeat (first
          | (refine Dn.Chain.step (v := ?_) (a' := ?_) rfl rfl rfl ?_ ?_ ?_; rotate_left 2; (focus (intro w; go_simp; try with_reducible rfl)); focus (simp only [Act.put, pqA, pqS, pqZ]; try rfl))
          | (refine Dn.Chain.call (a' := ?_) _ rfl rfl rfl (fun D wx hx hD hp => ?_) ?_ ?_
             rotate_left 1
             focus
               first
               | (obtain ⟨hf, hb⟩ := hx
                  have hN := NBuf.fr_ne HNB.out HY3.out (by decide) hYw hf
                  have hc := BBuf.string bytes_ty hN.buf 9 Tryz.underlying9
                  clear hN
                  go_simp
                  (repeat' (with_reducible apply And.intro)) <;> first | exact rfl | exact hf | exact hb.same (by simp))
               | (obtain ⟨hf, hb⟩ := hx
                  have hE := (HES.out.fr_ne hf HY3.out (by decide) (by decide) hYw).at_ (HES.out.fr_ne hf HY3.out (by decide) (by decide) hYw).n.below
                  go_simp
                  with_reducible refine (HIDX.out _ hE).mono ?_
                  rintro e w' ⟨rfl, hb'⟩
                  exact ⟨rfl, hf.then_below hb', (hb.below hb').same (by simp)⟩)
               | (obtain ⟨hf, hb⟩ := hx
                  obtain ⟨u1, l1⟩ := hb.some_ (i := 8) (by simp)
                  have f1 := hb.free 8
                  go_simp
                  (repeat' (with_reducible apply And.intro)) <;> first | exact rfl | exact hf.setCell (fun _ => rfl) _ | exact hb.set (m := 5) (j := 8) (by simp) (by simp) (by simp))
               | (obtain ⟨hf, hb⟩ := hx
                  obtain ⟨u1, l1⟩ := hb.some_ (i := 9) (by simp)
                  have f1 := hb.free 9
                  go_simp
                  (repeat' (with_reducible apply And.intro)) <;> first | exact rfl | exact hf.setCell (fun _ => rfl) _ | exact hb.set (m := 7) (j := 9) (by simp) (by simp) (by simp))
             focus (simp only [Act.put, pqA, pqS, pqZ]; try rfl))
          | (refine Dn.Chain.skip (a' := ?_) rfl rfl rfl ?_ ?_; rotate_left 1; focus (simp only [Act.put, pqA, pqS, pqZ]; try rfl)))
        refine Dn.Chain.end_ (fun D w7 hDD hx => ?_)
        obtain ⟨hf7, hb7⟩ := hx
        have HYY7 := Lib.hid (hb7.end_ (by
          simp only [List.forall_mem_cons, List.not_mem_nil, false_imp_iff, implies_true, and_true]
          exact ⟨hDD 5 (by decide), hDD 7 (by decide)⟩) #[.string { data := #[] }, .int .i64 0, .int .i64 0, .int .i64 0, .int .i64 0, .int .i64 0, .slice none 0 0, .slice none 0 0, .string (bs Y), .string (bs IX)] rfl (fun i hi => by
          match i, hi with
          | 0, _ => rfl
          | 1, _ => rfl
          | 2, _ => rfl
          | 3, _ => rfl
          | 4, _ => rfl
          | 5, _ => rfl
          | 6, _ => rfl
          | 7, _ => rfl
          | 8, _ => rfl
          | 9, _ => rfl
          | i + 10, hi => exact absurd hi (by simp)))
        have HX7 := Lib.hid (HX3.out.fr hf7 (fun i (e : X = X + 1) => by omega))
        have HB7 := Lib.hid (NBuf.fr_ne HNB.out HY3.out (by decide) hYw hf7).below
        clear hf7 hb7 hDD HNB HES HX3 HY3 HBR HIDX
        go_upto_region 20 with fail
        go_wp2_with fail
        refine (HCNT.out _ HB7.out).mono ?_
        rintro e w8 ⟨rfl, hb8⟩
        have HYY8 := Lib.hid (HYY7.out.below hb8)
        have HX8 := Lib.hid (HX7.out.below hb8)
        have HB8 := Lib.hid (below_trans HB7.out hb8)
        clear HYY7 HX7 HB7 hb8 HCNT
        go_wp2_with fail
        refine (HCLS.out _ HB8.out).mono ?_
        rintro e w9 ⟨v9, rfl, hn9⟩
        obtain ⟨S9, c9, rfl, hc9⟩ := hn9.buf.shape
        have HYY9 := Lib.hid (HYY8.out.below hn9.below)
        have HX9 := Lib.hid (HX8.out.below hn9.below)
        have HB9 := Lib.hid (below_trans HB8.out hn9.below)
        have HS9 := Lib.hid hn9.buf
        obtain ⟨k0, k1, k2, k3, k4, k5, k6, k7, k8, k9⟩ := HYY9.out.c10
        have u0 := HYY9.out.free 0
        have u1 := HYY9.out.free 1
        have u2 := HYY9.out.free 2
        have u3 := HYY9.out.free 3
        have u4 := HYY9.out.free 4
        have u5 := HYY9.out.free 5
        have u6 := HYY9.out.free 6
        have u7 := HYY9.out.free 7
        clear HYY8 HX8 HB8 hn9 HCLS
        go_upto_region 21 with fail
        obtain ⟨wA, hwA⟩ : ∃ wA, wA = st8 w9 (X + 1) (.string (bs id)) (.int .i64 a) (.int .i64 b) (.int .i64 lv) (.int .i64 (k : Nat)) (.int .i64 (CN : Nat)) (.slice none 0 0) (.slice S9 ss.length c9) := ⟨_, rfl⟩
        have HYA := Lib.hid (show Blk wA (X + 1) 64 #[.string (bs id), .int .i64 a, .int .i64 b, .int .i64 lv, .int .i64 (k : Nat), .int .i64 (CN : Nat), .slice none 0 0, .slice S9 ss.length c9, .string (bs Y), .string (bs IX)] by rw [hwA]; exact Blk.st8a HYY9.out)
        have HXA := Lib.hid (show Blk wA X 64 cF0 by rw [hwA]; exact HX9.out.fr fr_st8 (fun i (e : X = X + 1) => by omega))
        have HSA := Lib.hid (show Buf wA 9 1 (.slice S9 ss.length c9) ss.length (scs ss) by rw [hwA]; exact HS9.out.fr_ne HYY9.out (by decide) fr_st8)
        have HBA := Lib.hid (show Below w.heap.size w wA by rw [hwA]; exact Go.Bar.Below.st8 HB9.out hYw)
        unfold st8 at hwA
        rw [<- hwA]
        clear hwA HYY9 HX9 HS9 HB9 k0 k1 k2 k3 k4 k5 k6 k7 k8 k9 u0 u1 u2 u3 u4 u5 u6 u7
        have hof1 : ∀ w', Calls Tryz.prog 31 #[.string { data := #[99, 104, 117, 110, 107, 115] }, .string (bs Y)] w' (RetBelow w' (.agg #[.string (bs chunksN), .int .i64 (Y.length : Nat), .int .u32 (Frm.sum Y)])) := fun w' => mof_any chunksN Y w' (by omega)
        have hof2 : ∀ w', Calls Tryz.prog 31 #[.string { data := #[105, 110, 100, 101, 120] }, .string (bs IX)] w' (RetBelow w' (.agg #[.string (bs indexN), .int .i64 (IX.length : Nat), .int .u32 (Frm.sum IX)])) := fun w' => mof_any indexN IX w' (by omega)
        have HOF1 := Lib.hid hof1
        have HOF2 := Lib.hid hof2
        clear hof1 hof2
        have hstT : ∀ k v w w', Below w.heap.size w w' -> Dv.factOf ([(1, ((fun v => v = (.string (bs Y))), noFact, 1)), (2, ((fun v => v = (.agg #[.string (bs chunksN), .int .i64 (Y.length : Nat), .int .u32 (Frm.sum Y)])), noFact, 2)), (4, ((fun v => v = (.string (bs IX))), noFact, 4)), (5, ((fun v => v = (.agg #[.string (bs indexN), .int .i64 (IX.length : Nat), .int .u32 (Frm.sum IX)])), noFact, 5)), (6, ((fun v => ∃ g, v = .slice (some ⟨g, 0, none⟩) 2 2), (fun v w' => FBuf wA w' 86 3 v 2 (fcs [⟨chunksN, Y.length, Frm.sum Y⟩, ⟨indexN, IX.length, Frm.sum IX⟩])), 9)), (9, ((fun _ => True), noFact, 9))] : List (Nat × Dv.Kp)) k v w -> Dv.factOf ([(1, ((fun v => v = (.string (bs Y))), noFact, 1)), (2, ((fun v => v = (.agg #[.string (bs chunksN), .int .i64 (Y.length : Nat), .int .u32 (Frm.sum Y)])), noFact, 2)), (4, ((fun v => v = (.string (bs IX))), noFact, 4)), (5, ((fun v => v = (.agg #[.string (bs indexN), .int .i64 (IX.length : Nat), .int .u32 (Frm.sum IX)])), noFact, 5)), (6, ((fun v => ∃ g, v = .slice (some ⟨g, 0, none⟩) 2 2), (fun v w' => FBuf wA w' 86 3 v 2 (fcs [⟨chunksN, Y.length, Frm.sum Y⟩, ⟨indexN, IX.length, Frm.sum IX⟩])), 9)), (9, ((fun _ => True), noFact, 9))] : List (Nat × Dv.Kp)) k v w' := Dv.fact_st (by
          simp only [List.forall_mem_cons, List.not_mem_nil, false_imp_iff, implies_true, and_true]
          refine ⟨?_, ?_, ?_, ?_, ?_, ?_⟩
          · exact fun _ _ _ _ _ => trivial
          · exact fun _ _ _ _ _ => trivial
          · exact fun _ _ _ _ _ => trivial
          · exact fun _ _ _ _ _ => trivial
          · exact fun _ _ _ hb h => h.below hb
          · exact fun _ _ _ _ _ => trivial)
        have htrT : ∀ x ∈ ([(1, ((fun v => v = (.string (bs Y))), noFact, 1)), (2, ((fun v => v = (.agg #[.string (bs chunksN), .int .i64 (Y.length : Nat), .int .u32 (Frm.sum Y)])), noFact, 2)), (4, ((fun v => v = (.string (bs IX))), noFact, 4)), (5, ((fun v => v = (.agg #[.string (bs indexN), .int .i64 (IX.length : Nat), .int .u32 (Frm.sum IX)])), noFact, 5)), (6, ((fun v => ∃ g, v = .slice (some ⟨g, 0, none⟩) 2 2), (fun v w' => FBuf wA w' 86 3 v 2 (fcs [⟨chunksN, Y.length, Frm.sum Y⟩, ⟨indexN, IX.length, Frm.sum IX⟩])), 9)), (9, ((fun _ => True), noFact, 9))] : List (Nat × Dv.Kp)), (([(1, ((fun v => v = (.string (bs Y))), noFact, 1)), (2, ((fun v => v = (.agg #[.string (bs chunksN), .int .i64 (Y.length : Nat), .int .u32 (Frm.sum Y)])), noFact, 2)), (4, ((fun v => v = (.string (bs IX))), noFact, 4)), (5, ((fun v => v = (.agg #[.string (bs indexN), .int .i64 (IX.length : Nat), .int .u32 (Frm.sum IX)])), noFact, 5)), (6, ((fun v => ∃ g, v = .slice (some ⟨g, 0, none⟩) 2 2), (fun v w' => FBuf wA w' 86 3 v 2 (fcs [⟨chunksN, Y.length, Frm.sum Y⟩, ⟨indexN, IX.length, Frm.sum IX⟩])), 9)), (9, ((fun _ => True), noFact, 9))] : List (Nat × Dv.Kp)).lookup x.2.2.2).isSome = true := by
          simp only [List.forall_mem_cons, List.not_mem_nil, false_imp_iff, implies_true, and_true]
          exact ⟨by kernel_rfl, by kernel_rfl, by kernel_rfl, by kernel_rfl, by kernel_rfl, by kernel_rfl⟩
        refine Dv.wp_region_two (L := ([(1, ((fun v => v = (.string (bs Y))), noFact, 1)), (2, ((fun v => v = (.agg #[.string (bs chunksN), .int .i64 (Y.length : Nat), .int .u32 (Frm.sum Y)])), noFact, 2)), (4, ((fun v => v = (.string (bs IX))), noFact, 4)), (5, ((fun v => v = (.agg #[.string (bs indexN), .int .i64 (IX.length : Nat), .int .u32 (Frm.sum IX)])), noFact, 5)), (6, ((fun v => ∃ g, v = .slice (some ⟨g, 0, none⟩) 2 2), (fun v w' => FBuf wA w' 86 3 v 2 (fcs [⟨chunksN, Y.length, Frm.sum Y⟩, ⟨indexN, IX.length, Frm.sum IX⟩])), 9)), (9, ((fun _ => True), noFact, 9))] : List (Nat × Dv.Kp))) (m := 9) (Fin := (FinBm w X [⟨chunksN, Y.length, Frm.sum Y⟩, ⟨indexN, IX.length, Frm.sum IX⟩] (.slice S9 ss.length c9) ss (.string (bs id)) (.int .i64 a) (.int .i64 b) (.int .i64 lv) (.int .i64 (k : Nat)) (.int .i64 (CN : Nat)) (.slice S9 ss.length c9) (.string (bs Y)) (.string (bs IX)))) (by kernel_rfl) 151 (by kernel_rfl) rfl (by kernel_rfl) ?_ ?_ ?_
        · simp only [List.forall_mem_cons, List.not_mem_nil, false_imp_iff, implies_true, and_true]
          exact ⟨⟨_, rfl⟩, ⟨_, rfl⟩, ⟨_, rfl⟩, ⟨_, rfl⟩, ⟨_, 0, rfl⟩, ⟨undef, trivial⟩⟩
        · exact (fun vs vs' w' h hf => by unfold FinBm at hf ⊢; rw [<- h 6 (by kernel_rfl) (by decide)]; exact hf)
        repeat (first
          | (refine Dv.Chain.step (v := ?_) (a' := ?_) rfl rfl rfl ?_ ?_ ?_; rotate_left 2; (focus (intro w; go_simp; try with_reducible rfl)); focus (simp only [Act.put, pqA, pqS, pqZ]; try rfl))
          | (refine Dv.XT.call (i := 1) (a' := ?_) _ _ rfl (by decide) hstT rfl rfl (fun wx hw hF => ?_) htrT ?_ ?_; rotate_left 1; (focus (obtain ⟨g0, g1, g2, g3, g4, g5, g6, g7, g8, g9⟩ := Blk.c10 (HYA.out.below hw); go_simp; first | exact ⟨rfl, rB⟩ | exact rB)); focus (simp only [Act.put, pqA, pqS, pqZ]; try rfl))
          | (refine Dv.XT.call (i := 2) (a' := ?_) _ _ rfl (by decide) hstT rfl rfl (fun wx hw hF => ?_) htrT ?_ ?_; rotate_left 1; (focus (go_simp; (with_reducible refine (HOF1.out _).mono ?_); exact (fun e w' ⟨h1, h2⟩ => by subst h1; exact ⟨rfl, h2⟩))); focus (simp only [Act.put, pqA, pqS, pqZ]; try rfl))
          | (refine Dv.XT.call (i := 4) (a' := ?_) _ _ rfl (by decide) hstT rfl rfl (fun wx hw hF => ?_) htrT ?_ ?_; rotate_left 1; (focus (obtain ⟨g0, g1, g2, g3, g4, g5, g6, g7, g8, g9⟩ := Blk.c10 (HYA.out.below hw); go_simp; first | exact ⟨rfl, rB⟩ | exact rB)); focus (simp only [Act.put, pqA, pqS, pqZ]; try rfl))
          | (refine Dv.XT.call (i := 5) (a' := ?_) _ _ rfl (by decide) hstT rfl rfl (fun wx hw hF => ?_) htrT ?_ ?_; rotate_left 1; (focus (go_simp; (with_reducible refine (HOF2.out _).mono ?_); exact (fun e w' ⟨h1, h2⟩ => by subst h1; exact ⟨rfl, h2⟩))); focus (simp only [Act.put, pqA, pqS, pqZ]; try rfl))
          | (refine Dv.XT.make (i := 6) _ _ _ rfl (by decide) hstT rfl rfl (fun wx hw hF => ?_) htrT (fun v6 hv6 a' ha => ?_); (focus (go_simp); (exact ⟨ba1 _ _, Buf.lit wx 86 3 2 (fcs [⟨chunksN, Y.length, Frm.sum Y⟩, ⟨indexN, IX.length, Frm.sum IX⟩]) rfl (by decide), fun k hk => by simp [Value.ownBlock] at hk; subst hk; exact hw.size⟩)); obtain ⟨g6, rfl⟩ := hv6; simp only [Act.put, pqA, pqS, pqZ] at ha; subst ha)
          | (refine Dv.XT.last (i := 9) _ _ _ rfl rfl (by kernel_rfl) rfl rfl (fun vs wx hw hF => ?_) (fun v9 hv9 a' ha => ?_); (focus (have f6 : (fun v w' => FBuf wA w' 86 3 v 2 (fcs [⟨chunksN, Y.length, Frm.sum Y⟩, ⟨indexN, IX.length, Frm.sum IX⟩]) : Value -> World -> Prop) _ wx := (hF 6 _ (by kernel_rfl) rfl).1 (by kernel_rfl)); (have q6 := (hF 6 _ (by kernel_rfl) rfl).2); (have hYx := HYA.out.below hw); (have hfin := FinBm.of q6 f6 (HSA.out.below hw) (HXA.out.below hw) hYx (below_trans HBA.out hw) hYw); (have HFIN := Lib.hid hfin); (obtain ⟨k0, k1, k2, k3, k4, k5, k6, k7, k8, k9⟩ := hYx.c10); (have u6 := hYx.free 6); (clear hYx hfin f6 q6); (go_simp); (exact ⟨undef, HFIN.out undef⟩)); obtain _ := hv9; simp only [Act.put] at ha; subst ha)
          | (refine Dv.Chain.skip' (a' := ?_) rfl rfl rfl ?_ ?_; rotate_left 1; focus (simp only [Act.put, pqA, pqS, pqZ]; try rfl)))
        refine Dv.XT.end_ (by decide) (fun vs wB hv hfin => ?_)
        obtain ⟨g, hg6, hFB, hSB, hXB, hYB, hBB⟩ := hfin
        have HFB := Lib.hid hFB
        have HSB := Lib.hid hSB
        have HXB := Lib.hid hXB
        have HYB := Lib.hid hYB
        have HBB := Lib.hid hBB
        clear hFB hSB hXB hYB hBB hv hg6 vs HSA HXA HYA HBA HOF1 HOF2
        obtain ⟨k0, k1, k2, k3, k4, k5, k6, k7, k8, k9⟩ := HYB.out.c10
        have e1 : decide ((10000 : Int) < (k : Int)) = false := decide_eq_false (by omega)
        have e2 : decide ((1048576 : Int) < (Y.length : Int)) = false := decide_eq_false (by omega)
        have e3 : decide ((1048576 : Int) < (IX.length : Int)) = false := decide_eq_false (by omega)
        go_upto_region 24 with fail
        have hmm : bMt id a b lv ss R = ⟨id, a, b, lv, k, CN, [⟨chunksN, Y.length, Frm.sum Y⟩, ⟨indexN, IX.length, Frm.sum IX⟩], ss⟩ := by
          unfold bMt
          rw [HRL.out, <- HYR.out, <- HCNE.out, <- HE.out, <- HIX.out]
        have hmc : ∀ w', Below wB.heap.size wB w' -> Calls Tryz.prog 32 #[.agg #[.string (bs id), .int .i64 a, .int .i64 b, .int .i64 lv, .int .i64 (k : Nat), .int .i64 (CN : Nat), .slice (some ⟨g, 0, none⟩) 2 2, .slice S9 ss.length c9]] w' (RetBelow w' (.int .i64 (chk (bMt id a b lv ss R)))) := fun w' hb => by
          rw [hmm]
          exact mcheck_any ⟨id, a, b, lv, k, CN, [⟨chunksN, Y.length, Frm.sum Y⟩, ⟨indexN, IX.length, Frm.sum IX⟩], ss⟩ _ _ w' (SlAt.of_buf (HFB.out.below hb)) (SlAt.of_buf (HSB.out.below hb)) (by show id.length <= _; omega) (fun s hs => by have := HSL.out.2 s hs; omega)
        have HMM := Lib.hid hmm
        clear hmm e1 e2 e3
        by_cases hmok : Met.Ok (bMt id a b lv ss R)
        · rw [chk_ok hmok] at hmc
          have HMC := Lib.hid hmc
          have HMOK := Lib.hid hmok
          clear hmc hmok
          go_wp2_with fail
          refine (HMC.out _ (Below.refl _ _)).mono ?_
          rintro e wC ⟨rfl, hbC⟩
          clear k0 k1 k2 k3 k4 k5 k6 k7 k8 k9
          obtain ⟨k0, k1, k2, k3, k4, k5, k6, k7, k8, k9⟩ := (HYB.out.below hbC).c10
          obtain ⟨x0, x1, x2, x3, x4, x5, x6, x7, x8, x9⟩ := (HXB.out.below hbC).c10
          obtain ⟨z0, z1, z2, z3, z4, z5, z6, z7, z8, z9⟩ := Blk.f10 (HXB.out.below hbC)
          have HBC := Lib.hid (below_trans HBB.out hbC)
          have HXC := Lib.hid (HXB.out.below hbC)
          have HFC := Lib.hid (HFB.out.below hbC)
          have HSC := Lib.hid (HSB.out.below hbC)
          clear hbC HMC HXB HYB HFB HSB HBB
          go_wp2_with fail
          refine bodyPost_ret (v := .tuple #[filesV (bMt id a b lv ss R) (some ⟨g, 0, none⟩) 2 S9 c9 (bCh R) (idxB (bEn R 0)), .int .i64 0]) (by rw [HMM.out, <- HYR.out, <- HE.out, <- HIX.out]; simp [filesV, results, Tryz.results22, go_sem, x0, x1, x2, x3, x4, x5, x6, x7, x8, x9]) rfl ?_
          exact .inl ⟨⟨Classical.byContradiction (fun h => by have h2 := HGD.out; rw [goodB_false h] at h2; exact Bool.noConfusion h2), HRO.out, HMOK.out⟩, _, _, _, _, rfl, by rw [HMM.out]; exact HFC.out.fr_ne HXC.out (by decide) (fr10s fr0 _ _ _ _ _ _ _ _ _ _), HSC.out.fr_ne HXC.out (by decide) (fr10s fr0 _ _ _ _ _ _ _ _ _ _), bel10 HBC.out hXw _ _ _ _ _ _ _ _ _ _⟩
        · rw [chk_no hmok] at hmc
          have HMC := Lib.hid hmc
          have HMOK := Lib.hid hmok
          clear hmc hmok
          go_wp2_with fail
          refine (HMC.out _ (Below.refl _ _)).mono ?_
          rintro e wC ⟨rfl, hbC⟩
          clear k0 k1 k2 k3 k4 k5 k6 k7 k8 k9
          have HXC := Lib.hid (HXB.out.below hbC)
          have HBC := Lib.hid (below_trans HBB.out hbC)
          clear hbC HMC HXB HYB HFB HSB HBB
          have hno : ¬ BdOk id a b lv ss R := fun h => HMOK.out h.meta_
          have HNO := Lib.hid hno
          obtain ⟨x0, x1, x2, x3, x4, x5, x6, x7, x8, x9⟩ := (HXC.out).c10
          obtain ⟨z0, z1, z2, z3, z4, z5, z6, z7, z8, z9⟩ := Blk.f10 (HXC.out)
          clear hno HXC
          go_wp2_with fail
          refine bodyPost_ret (v := .tuple #[filesZ, .int .i64 1]) (by simp [filesZ, results, Tryz.results22, go_sem, x0, x1, x2, x3, x4, x5, x6, x7, x8, x9]; rfl) rfl ?_
          exact .inr ⟨HNO.out, rfl, bel10 HBC.out hXw _ _ _ _ _ _ _ _ _ _⟩
  · have hgf : goodB R = false := by cases h : goodB R; rfl; exact absurd h hgd
    rw [hgf] at HGOOD
    have HGD := Lib.hid hgd
    clear hgf hgd
    go_wp2_with fail
    refine (HGOOD.out _ b1).mono ?_
    rintro e w1 ⟨rfl, hb1⟩
    have X2 := X1.below hb1
    have Y2 := Y1.below hb1
    have hb2 := below_trans b1 hb1
    obtain ⟨y0, y1, y2, y3, y4, y5, y6, y7, y8, y9⟩ := Y2.c10
    have hno : ¬ BdOk id a b lv ss R := fun h => HGD.out (goodB_true h.good)
    have HNO := Lib.hid hno
    obtain ⟨x0, x1, x2, x3, x4, x5, x6, x7, x8, x9⟩ := (X2).c10
    obtain ⟨z0, z1, z2, z3, z4, z5, z6, z7, z8, z9⟩ := Blk.f10 (X2)
    have HBZ := Lib.hid hb2
    clear hno X1 Y1 b1 hb1 X2 Y2 hb2 HGOOD
    go_wp2_with fail
    refine bodyPost_ret (v := .tuple #[filesZ, .int .i64 1]) (by simp [filesZ, results, Tryz.results22, go_sem, x0, x1, x2, x3, x4, x5, x6, x7, x8, x9]; rfl) rfl ?_
    exact .inr ⟨HNO.out, rfl, bel10 HBZ.out hXw _ _ _ _ _ _ _ _ _ _⟩
end Go.Proofs.YtgabmfibfikdbaaGreatDoor

namespace Go.Proofs.YtgabmfibfikdbaaGreatDoor
open Go.RowKit Go.Bar Go.Bar.Leb Go.Bar.Frm Go.Bar.Lab Go.Bar.Xor Go.Bar.Mrg Go.Bar.Met Go.Bar.Bok

theorem kbuild_ok (id : List UInt8) (a b lv : Int) (sv : Value) (ss : List (List UInt8)) (tv : Value) (t : List Rv) (w : World) (hW : WidthsAt w) (hS : SrcAt w sv ss) (hT : TbAt w tv t)
  (hid : id.length <= 1000000) (hsl : ss.length <= 1000 /\ ∀ s ∈ ss, s.length <= 1000000) (htl : t.length <= 1000)
  (hsm : ∀ r ∈ t.map plR, SmOk r.2 /\ r.2.length <= 1000) (hlb : ∀ r ∈ t.map plR, r.1.length <= 1000 /\ ∀ p ∈ r.1, p.1.length <= 1000000 /\ p.2.length <= 1000000)
  (hC : (bCh (t.map plR)).length <= 1048576) (hD : (idxD (bEn (t.map plR) 0)).length <= 1048000) (hcn : cntR (t.map plR) <= 1000000000) (_ : BdOk id a b lv ss (t.map plR)) :
  Calls Tryz.prog 22 #[.string (bs id), .int .i64 a, .int .i64 b, .int .i64 lv, sv, tv] w (RetBd w id a b lv ss (t.map plR)) := kbuild_any id a b lv sv ss tv t w hW hS hT hid hsl htl hsm hlb hC hD hcn

end Go.Proofs.YtgabmfibfikdbaaGreatDoor
