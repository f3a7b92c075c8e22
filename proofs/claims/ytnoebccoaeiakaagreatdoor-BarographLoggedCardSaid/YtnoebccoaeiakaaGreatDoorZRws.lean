/-
  Layer 14: rows of labels and samples in memory, tables of them.
-/
import Derived.Test.YtnoebccoaeiakaaGreatDoorZMrgS
import Derived.Test.YtnoebccoaeiakaaGreatDoorZHdA
import Derived.Test.YtnoebccoaeiakaaGreatDoorZLib18
import Derived.Test.YtnoebccoaeiakaaGreatDoorZLib25
import Derived.Test.YtnoebccoaeiakaaGreatDoorZHdE
import Derived.Test.YtnoebccoaeiakaaGreatDoorZFrmM
import Derived.Test.YtnoebccoaeiakaaGreatDoorZLib5

namespace Go.Proofs.YtnoebccoaeiakaaGreatDoor
open Go.RowKit Go.Bar Go.Bar.Leb Go.Bar.Lab Go.Bar.Xor Go.Bar.Mrg

structure Rv where
  ls : List Pr
  ss : List Sm
  la : Option Addr
  lc : Nat
  sa : Option Addr
  sc : Nat
def encR (x : Rv) : List Value := [.slice x.la x.ls.length x.lc, .slice x.sa x.ss.length x.sc]
def RAt (w : World) (x : Rv) : Prop := PsAt w (.slice x.la x.ls.length x.lc) x.ls ∧ SmsAt w (.slice x.sa x.ss.length x.sc) x.ss
theorem RAt.below {w w' : World} {x : Rv} (h : RAt w x) (hb : Below w.heap.size w w') : RAt w' x := ⟨h.1.below hb, h.2.below hb⟩

def rcs (l : List Rv) : List Value := l.flatMap encR
theorem encR_two (x : Rv) : (encR x).length = 2 := rfl
theorem rcs_app (l m : List Rv) : rcs (l ++ m) = rcs l ++ rcs m := List.flatMap_append
def plR (x : Rv) : Row := (x.ls, x.ss)
def TbAt (w : World) (v : Value) (t : List Rv) : Prop := SlAt w 2 v t.length (rcs t) ∧ ∀ x ∈ t, RAt w x
section
variable {w w' : World} {v : Value} {t : List Rv}
theorem TbAt.below (h : TbAt w v t) (hb : Below w.heap.size w w') : TbAt w' v t := ⟨h.1.below hb, fun x hx => (h.2 x hx).below hb⟩
theorem TbAt.at_ {A : Option Addr} {n c i : Nat} {x : Rv} (h : TbAt w (.slice A n c) t) (hi : t[i]? = some x) : ∃ b o, A = some ⟨b, o, none⟩ ∧ w.cell? ⟨b, o + i * 2, none⟩ = some (.slice x.la x.ls.length x.lc) ∧ w.cell? ⟨b, o + i * 2 + 1, none⟩ = some (.slice x.sa x.ss.length x.sc) ∧ RAt w x := by
  have hlt : i < t.length := (List.getElem?_eq_some_iff.1 hi).1
  obtain ⟨A', c', he, _⟩ := h.1.shape
  injection he with e1 e2 e3
  subst e1; subst e2; subst e3
  obtain ⟨b, o, rfl, hb, hc⟩ := SlAt.cells h.1 (by omega)
  have g := flat_get encR 2 encR_two t i x hi
  have g0 := hc _ _ (g 0 (by omega))
  have g1 := hc _ _ (g 1 (by omega))
  exact ⟨b, o, rfl, g0, (by rw [Nat.add_assoc]; exact g1), h.2 x (List.mem_of_getElem? hi)⟩
end
theorem TbAt.at2 {w : World} {t : List Rv} {b o n c i : Nat} {x : Rv} (h : TbAt w (.slice (some ⟨b, o, none⟩) n c) t) (hi : t[i]? = some x) : w.cell? ⟨b, o + i * 2, none⟩ = some (.slice x.la x.ls.length x.lc) ∧ w.cell? ⟨b, o + i * 2 + 1, none⟩ = some (.slice x.sa x.ss.length x.sc) ∧ RAt w x := by
  obtain ⟨b', o', he, h1, h2, h3⟩ := h.at_ hi
  injection he with he
  injection he with e1 e2 _
  subst e1; subst e2
  exact ⟨h1, h2, h3⟩

theorem mrow_ty : ElemTy Tryz.prog 54 124 (.agg #[.slice none 0 0, .slice none 0 0]) 2 48 :=
  ⟨Tryz.underlying54, info_parts (show (Tryz.prog.info? 124).map (fun i => (i.zero, i.size, i.bytes)) = some (some (.agg #[.slice none 0 0, .slice none 0 0]), 2, 48) by kernel_rfl), rfl⟩

theorem rrow_ty : ElemTy Tryz.prog 37 62 (.agg #[.slice none 0 0, .slice none 0 0]) 2 48 :=
  ⟨Tryz.underlying37, info_parts (show (Tryz.prog.info? 62).map (fun i => (i.zero, i.size, i.bytes)) = some (some (.agg #[.slice none 0 0, .slice none 0 0]), 2, 48) by kernel_rfl), rfl⟩

def RTb (W w : World) (T : TypeId) (v : Value) (t : List Rv) : Prop := NBuf W w T 2 v t.length (rcs t) ∧ ∀ x ∈ t, RAt w x
section
variable {W w w' : World} {T : TypeId} {v : Value} {t : List Rv}
theorem RTb.tb (h : RTb W w T v t) : TbAt w v t := ⟨h.1.slice, h.2⟩
theorem RTb.below (h : RTb W w T v t) (hb : Below w.heap.size w w') : RTb W w' T v t := ⟨h.1.then_below hb, fun x hx => (h.2 x hx).below hb⟩
theorem RTb.after {W0 : World} (h : RTb W w T v t) (hb : Below W0.heap.size W0 W) : RTb W0 w T v t := ⟨h.1.after hb, h.2⟩
theorem TbAt.shape {w : World} {v : Value} {t : List Rv} (h : TbAt w v t) : ∃ A c, v = .slice A t.length c ∧ t.length ≤ c ∧ c ≤ maxLen := h.1.shape
end

end Go.Proofs.YtnoebccoaeiakaaGreatDoor

namespace Go.Proofs.YtnoebccoaeiakaaGreatDoor
open Go.RowKit Go.Bar Go.Bar.Leb Go.Bar.Lab Go.Bar.Xor Go.Bar.Mrg

structure Pv where
  ls : List Pr
  la : Option Addr
  lc : Nat
  s : Sm
def encPt (p : Pv) : List Value := [.slice p.la p.ls.length p.lc, .int .i64 p.s.1, .int .u64 (p.s.2 : Nat)]
theorem encPt_three (p : Pv) : (encPt p).length = 3 := rfl
def pts3 (l : List Pv) : List Value := l.flatMap encPt
theorem pts3_app (l m : List Pv) : pts3 (l ++ m) = pts3 l ++ pts3 m := List.flatMap_append
theorem pts3_snoc (l : List Pv) (p : Pv) : pts3 (l ++ [p]) = pts3 l ++ encPt p := by rw [pts3_app]; exact congrArg _ (List.append_nil _)
def plP (p : Pv) : Pt := (p.ls, p.s)
def LAt (w : World) (p : Pv) : Prop := PsAt w (.slice p.la p.ls.length p.lc) p.ls
theorem LAt.below {w w' : World} {p : Pv} (h : LAt w p) (hb : Below w.heap.size w w') : LAt w' p := PsAt.below h hb
def PtAt (w : World) (v : Value) (l : List Pv) : Prop := SlAt w 3 v l.length (pts3 l) ∧ ∀ p ∈ l, LAt w p
section
variable {w w' : World} {v : Value} {l : List Pv}
theorem PtAt.below (h : PtAt w v l) (hb : Below w.heap.size w w') : PtAt w' v l := ⟨h.1.below hb, fun p hp => (h.2 p hp).below hb⟩
theorem PtAt.shape (h : PtAt w v l) : ∃ A c, v = .slice A l.length c ∧ l.length ≤ c ∧ c ≤ maxLen := h.1.shape
theorem PtAt.at_ {A : Option Addr} {n c i : Nat} {p : Pv} (h : PtAt w (.slice A n c) l) (hi : l[i]? = some p) : ∃ b o, A = some ⟨b, o, none⟩ ∧ w.cell? ⟨b, o + i * 3, none⟩ = some (.slice p.la p.ls.length p.lc) ∧ w.cell? ⟨b, o + i * 3 + 1, none⟩ = some (.int .i64 p.s.1) ∧ w.cell? ⟨b, o + i * 3 + 2, none⟩ = some (.int .u64 (p.s.2 : Nat)) ∧ LAt w p := by
  have hlt : i < l.length := (List.getElem?_eq_some_iff.1 hi).1
  obtain ⟨A', c', he, _⟩ := h.1.shape
  injection he with e1 e2 e3
  subst e1; subst e2; subst e3
  obtain ⟨b, o, rfl, hb, hc⟩ := SlAt.cells h.1 (by omega)
  have g := flat_get encPt 3 encPt_three l i p hi
  have g0 := hc _ _ (g 0 (by omega))
  have g1 := hc _ _ (g 1 (by omega))
  have g2 := hc _ _ (g 2 (by omega))
  exact ⟨b, o, rfl, g0, (by rw [Nat.add_assoc]; exact g1), (by rw [Nat.add_assoc]; exact g2), h.2 p (List.mem_of_getElem? hi)⟩
theorem PtAt.at2 {b o n c i : Nat} {p : Pv} (h : PtAt w (.slice (some ⟨b, o, none⟩) n c) l) (hi : l[i]? = some p) : w.cell? ⟨b, o + i * 3, none⟩ = some (.slice p.la p.ls.length p.lc) ∧ w.cell? ⟨b, o + i * 3 + 1, none⟩ = some (.int .i64 p.s.1) ∧ w.cell? ⟨b, o + i * 3 + 2, none⟩ = some (.int .u64 (p.s.2 : Nat)) ∧ LAt w p := by
  obtain ⟨b', o', he, h1, h2, h3, h4⟩ := h.at_ hi
  injection he with he
  injection he with e1 e2 _
  subst e1; subst e2
  exact ⟨h1, h2, h3, h4⟩
end
def DpP (B W0 w : World) (Tp : TypeId) (p : Pv) : Prop := PsAt B (.slice p.la p.ls.length p.lc) p.ls ∨ NBuf W0 w Tp 2 (.slice p.la p.ls.length p.lc) p.ls.length (pcs p.ls)
structure DPt (B W0 W w : World) (T Tp : TypeId) (v : Value) (l : List Pv) : Prop where
  n : NBuf W w T 3 v l.length (pts3 l)
  b : Below W0.heap.size W0 W
  d : ∀ p ∈ l, DpP B W0 w Tp p
section
variable {B W0 W w w' : World} {T Tp : TypeId} {v : Value} {l : List Pv} {p : Pv}
theorem DpP.ke {Ts : TypeId → Prop} (h : DpP B W0 w Tp p) (hk : Ke Ts w w') (hb : Below W0.heap.size W0 w') (h1 : ¬ Ts Tp) : DpP B W0 w' Tp p := h.imp id fun h => ⟨hk.buf h.buf h1, hb, h.new⟩
theorem DpP.below (h : DpP B W0 w Tp p) (hb : Below w.heap.size w w') : DpP B W0 w' Tp p := h.imp id fun h => h.then_below hb
theorem DpP.lat (h : DpP B W0 w Tp p) (hb : Below B.heap.size B w) : LAt w p := h.elim (fun h => h.below hb) fun h => h.slice
theorem DPt.below (h : DPt B W0 W w T Tp v l) (hb : Below w.heap.size w w') : DPt B W0 W w' T Tp v l := ⟨h.n.then_below hb, h.b, fun p hp => (h.d p hp).below hb⟩
theorem DPt.at_ (h : DPt B W0 W w T Tp v l) (hb : Below B.heap.size B W) : PtAt w v l := ⟨h.n.slice, fun p hp => (h.d p hp).lat (below_trans hb h.n.below)⟩
theorem DPt.nil (hb : Below W.heap.size W w) (h0 : Below W0.heap.size W0 W) (T Tp : TypeId) : DPt B W0 W w T Tp (.slice none 0 0) [] := ⟨NBuf.nil hb _ _, h0, fun p hp => by cases hp⟩
theorem DPt.snoc {wa w2 : World} {v2 : Value} (h : DPt B W0 W wa T Tp v l) (hx : DpP B W0 wa Tp p) (hn : NBuf W w2 T 3 v2 (l.length + 1) (pts3 l ++ encPt p)) (ha : Ap wa w2 3 v) (h1 : Tp ≠ T) : DPt B W0 W w2 T Tp v2 (l ++ [p]) := by
  have hk : Ke (fun U => U = T) wa w2 := Ke.of_ap h.n.buf ha rfl
  have hb := below_trans h.b hn.below
  refine ⟨?_, h.b, fun q hq => ?_⟩
  · rw [List.length_append, pts3_snoc]
    exact hn
  · rcases List.mem_append.1 hq with hq | hq
    · exact (h.d q hq).ke hk hb h1
    · obtain rfl := List.mem_singleton.1 hq
      exact hx.ke hk hb h1
end
end Go.Proofs.YtnoebccoaeiakaaGreatDoor

namespace Go.Bar.Hd
open Go.RowKit Go.Bar Go.Bar.Leb Go.Bar.Frm Go.Bar.Lab Go.Bar.Xor Go.Bar.Mrg
theorem oksM_take {h : List Row} {ps : List Pnt} (hk : OksM h ps) (j : Nat) : OksM h (ps.take j) := by
  induction ps generalizing h j with
  | nil => simp [OksM]
  | cons p ps ih =>
    rcases j with _ | j
    · trivial
    · exact ⟨hk.1, ih hk.2 j⟩
theorem oksM_at {h : List Row} {ps : List Pnt} (hk : OksM h ps) {j : Nat} {p : Pnt} (hp : ps[j]? = some p) : OkP (addMs h (ps.take j)) p := by
  have h1 := oksM_take hk (j + 1)
  rw [List.take_add_one, hp, Option.toList_some] at h1
  exact (oksM_snoc.1 h1).2
theorem addMs_at (h : List Row) {ps : List Pnt} {j : Nat} {p : Pnt} (hp : ps[j]? = some p) : addMs h (ps.take (j + 1)) = addM (addMs h (ps.take j)) p.1 p.2 := by
  rw [List.take_add_one, hp, Option.toList_some, addMs_snoc]
theorem addM_rows {N : Nat} {h : List Row} (hh : ∀ r ∈ h, r.2.length ≤ N) (L : List Pr) (s : Sm) : ∀ r ∈ addM h L s, r.2.length ≤ N + 1 := fun r hr => by
  rcases addM_mem hr with h1 | ⟨_, ss, h2, h3⟩
  · exact Nat.le_succ_of_le (hh r h1)
  · rw [h2, List.length_append, List.length_singleton]
    rcases h3 with rfl | h3
    · simp
    · have := hh _ h3
      simp only at this
      omega
theorem addMs_rows : ∀ (ps : List Pnt) {N : Nat} {h : List Row}, (∀ r ∈ h, r.2.length ≤ N) → ∀ r ∈ addMs h ps, r.2.length ≤ N + ps.length
  | [], N, h, hh => hh
  | p :: ps, N, h, hh => fun r hr => by
    have := addMs_rows ps (addM_rows hh p.1 p.2) r hr
    rw [List.length_cons]
    omega
theorem gd_take {h : List Row} {ps : List Pnt} (g : Gd h) (hk : OksM h ps) (j : Nat) : Gd (addMs h (ps.take j)) := Gd.adds g (oksM_take hk j)
theorem addMs_len_take (ps : List Pnt) (h : List Row) (j : Nat) : (addMs h (ps.take j)).length ≤ h.length + j := by
  have h1 := addMs_len (ps.take j) h
  have h2 := List.length_take_le j ps
  omega
end Go.Bar.Hd
namespace Go.Proofs.YtnoebccoaeiakaaGreatDoor
open Go.RowKit Go.Bar Go.Bar.Leb Go.Bar.Lab Go.Bar.Xor Go.Bar.Mrg Go.Bar.Hd
attribute [local go_sem] Oper.semAt_some
structure PtB (w : World) (v : Value) (l : List Pv) : Prop where
  n : Buf w 100 3 v l.length (pts3 l)
  d : ∀ p ∈ l, Buf w 155 2 (.slice p.la p.ls.length p.lc) p.ls.length (pcs p.ls)
section
variable {w w' : World} {v : Value} {l : List Pv}
theorem PtB.at_ (h : PtB w v l) : PtAt w v l := ⟨SlAt.of_buf h.n, fun p hp => ps_of (h.d p hp)⟩
theorem PtB.kx {Ts : TypeId → Prop} {Ms : Nat → Prop} (h : PtB w v l) (k : Kx Ts Ms w w') (h1 : ¬ Ts 100) (h2 : ¬ Ts 155) : PtB w' v l := ⟨k.buf h.n h1, fun p hp => k.buf (h.d p hp) h2⟩
theorem PtB.below (h : PtB w v l) (hb : Below w.heap.size w w') : PtB w' v l := h.kx (Ts := fun _ => False) (Ms := fun _ => False) (Kx.of_below hb) id id
theorem PtB.take {A : Option Addr} {c : Nat} (h : PtB w (.slice A l.length c) l) (k : Nat) (hk : k ≤ l.length) : PtB w (.slice A k c) (l.take k) := by
  refine ⟨?_, fun p hp => h.d p (List.mem_of_mem_take hp)⟩
  have h1 := h.n.prefix_ k hk
  rw [show (pts3 l).take (k * 3) = pts3 (l.take k) from flat_take encPt 3 encPt_three l k] at h1
  rw [List.length_take, Nat.min_eq_left hk]
  exact h1
end
def RetAdds (w : World) (p H : Nat) (c : Cfg) (h : List Row) (g : Hg) (ps : List Pnt) (e : Ending) (w' : World) : Prop :=
  ∃ g', e = .returned (.tuple #[]) ∧ HdAt Tryz.prog hty 3 w' p H c (addMs h ps) g' ∧ HXs g.Z H w w' ∧ g'.Z = g.Z ∧ g'.n = g.n + ps.length ∧ g'.nx = (addMs h ps).length + 1

set_option maxHeartbeats 2000000 in
set_option maxRecDepth 10000 in
theorem hadds_any (p H : Nat) (c : Cfg) (h : List Row) (g : Hg) (l : List Pv) (v : Value) (w : World) (k : HdAt Tryz.prog hty 3 w p H c h g) (hl : PtB w v l) (hok : OksM h (l.map plP)) (hg : Gd h)
    (hnx : g.nx = h.length + 1) (hH : H ≤ w.heap.size) (hb1 : h.length + l.length ≤ 100000) (hb2 : g.n + l.length ≤ 1000000) (hb3 : ∀ r ∈ h, r.2.length ≤ 1000000 - l.length) :
    Calls Tryz.prog 13 #[.pointer (some ⟨p, 0, none⟩), v] w (RetAdds w p H c h g (l.map plP)) := by
  obtain ⟨A, cp, rfl, hlc, hcm⟩ := hl.at_.shape
  unfold maxLen at hcm
  have HL := Lib.hid hl
  have HOK := Lib.hid hok
  have HG := Lib.hid hg
  have HB3 := Lib.hid hb3
  have HK : Hid (HdAt Tryz.prog hty 3 w p H c (addMs h ((l.map plP).take 0)) g) := Lib.hid k
  have HX0 := Lib.hid (show HXs g.Z H w w from HXs.of_below (Below.refl _ w) hH)
  clear hl hok hg hb3 k
  go_enter Tryz.func13, Tryz.ntmps13
  go_wp2_with fail
  go_loopw [8] (fun i wr => ∃ (j : Nat) (gj : Hg), i = .int .i64 j ∧ j ≤ l.length ∧ Hid (HdAt Tryz.prog hty 3 wr p H c (addMs h ((l.map plP).take j)) gj) ∧ Hid (HXs g.Z H w wr) ∧ Hid (gj.Z = g.Z) ∧ gj.n = g.n + j ∧ Hid (gj.nx = (addMs h ((l.map plP).take j)).length + 1)) (fun i _ => l.length - (intOf i).toNat)
  case atStart => exact ⟨0, g, rfl, Nat.zero_le _, HK, HX0, Lib.hid rfl, by simp, Lib.hid hnx⟩
  case round =>
    clear HK HX0
    obtain ⟨j, gj, rfl, hj, HK, HX, HZJ, hgn, HNX⟩ := hrel
    by_cases hgo : j < l.length
    · obtain ⟨⟨L, la, lc, s⟩, hpk⟩ : ∃ p, l[j]? = some p := ⟨_, List.getElem?_eq_getElem hgo⟩
      obtain ⟨b, o, rfl, c0, c1, c2, _⟩ := (HL.out.kx HX.out.kx nh_point nh_pair).at_.at_ hpk
      have hlb := HL.out.d _ (List.mem_of_getElem? hpk)
      dsimp only at c0 c1 c2 hlb
      have hpk2 : (l.map plP)[j]? = some (L, s) := by rw [List.getElem?_map, hpk]; rfl
      have hop := oksM_at HOK.out hpk2
      have hlen := addMs_len_take (l.map plP) h j
      have hgd := gd_take HG.out HOK.out j
      have hal := addM_len (addMs h ((l.map plP).take j)) L s
      have hca := fun wx (hb : Below wr.heap.size wr wx) => hadd_any p H c (addMs h ((l.map plP).take j)) gj L s (.slice la L.length lc) wx (HK.out.below hb) ((HX.out.kx.buf hlb nh_pair).below hb) hop.lab hop.tm hgd.lb (fun _ => HNX.out)
        (Nat.le_trans (HX.out.size hH) hb.size) (by omega) (by omega) (fun r hr => by
          have h1 := addMs_rows ((l.map plP).take j) HB3.out r hr
          have h2 := List.length_take_le j (l.map plP)
          omega) (by rw [HNX.out]; omega)
      have HCA := Lib.hid hca
      have HPK := Lib.hid hpk2
      have HAL := Lib.hid hal
      have hHr := HX.out.size hH
      obtain ⟨T, V⟩ := s
      dsimp only at c1 c2
      have hci : (0 : Int) ≤ (j : Int) := by omega
      have hci2 : (j : Int) < l.length := by omega
      clear hca hpk hpk2 hop hgd hal hlb hlen HK
      go_upto_region 3 with fail
      have hba := below_alloc1 wr (.cells #[.slice la L.length lc, .int .i64 T, .int .u64 (V : Nat)] 100)
      have hca := HCA.out _ hba
      have HXA := Lib.hid (HX.out.trans (HXs.of_below hba hHr))
      have HC := Lib.hid hca
      clear hca hba HCA
      go_wp2_with fail
      refine HC.out.mono ?_
      rintro e w2 ⟨r, g', rfl, hk', hx', hz', hn', hnx'⟩
      have HZ2 : Hid (g'.Z = g.Z) := Lib.hid (hz'.trans HZJ.out)
      rw [HZJ.out] at hx'
      have HK2 : Hid (HdAt Tryz.prog hty 3 w2 p H c (addMs h ((l.map plP).take (j + 1))) g') := Lib.hid (by rw [addMs_at h HPK.out]; exact hk')
      have HX2 := Lib.hid (HXA.out.trans hx')
      have HNX2 : Hid (g'.nx = (addMs h ((l.map plP).take (j + 1))).length + 1) := Lib.hid (by
        rw [addMs_at h HPK.out, hnx', HNX.out]
        have := HAL.out
        simp only at this ⊢
        rw [this]
        split <;> rfl)
      clear hk' hx' hz' hnx' HC HX HXA HZJ
      go_wp2_with fail
      go_roundw
      case rel => exact ⟨j + 1, g', by go_num, by omega, HK2, HX2, HZ2, by omega, HNX2⟩
      case measure => simp [intOf]; omega
    · obtain rfl : j = l.length := by omega
      have hk : HdAt Tryz.prog hty 3 wr p H c (addMs h (l.map plP)) gj := by
        have := HK.out
        rwa [List.take_of_length_le (by simp)] at this
      have hnx2 : gj.nx = (addMs h (l.map plP)).length + 1 := by
        have := HNX.out
        rwa [List.take_of_length_le (by simp)] at this
      have H1 := Lib.hid hk
      have H2 := Lib.hid hnx2
      clear hk hnx2 HK HNX
      go_wp2_with fail
      go_end0
      exact ⟨gj, rfl, H1.out, HX.out, HZJ.out, by rw [List.length_map]; exact hgn, H2.out⟩
end Go.Proofs.YtnoebccoaeiakaaGreatDoor

namespace Go.Proofs.YtnoebccoaeiakaaGreatDoor
open Go.RowKit Go.Bar Go.Bar.Leb Go.Bar.Lab

def errL (l : List Pr) : Int := if chk l = true then 0 else 12
theorem errL_ok {l : List Pr} (h : Ok l) : errL l = 0 := by unfold errL; rw [if_pos (chk_true h)]
theorem errL_no {l : List Pr} (h : ¬ Ok l) : errL l = 12 := by unfold errL; rw [if_neg (by rw [chk_false h]; simp)]
theorem errL_bad {l : List Pr} {k : Nat} (hk : k < l.length) (h : ¬ good l k) : errL l = 12 := errL_no fun h' => h (((ok_iff l).1 h').2.2 k hk)
theorem good_at {l : List Pr} {k : Nat} {p : Pr} (h : l[k]? = some p) : good l k ↔ okP p = true ∧ (0 < k → (l.getD (k - 1) ([], [])).1 < p.1) := by
  unfold good
  rw [show l.getD k ([], []) = p by rw [List.getD_eq_getElem?_getD, h]; rfl]
theorem okP_iff (p : Pr) : okP p = true ↔ nameB p.1 = true ∧ p.2 ≠ [] ∧ p.2.length ≤ 40 := by
  unfold okP
  simp only [Bool.and_eq_true, decide_eq_true_eq, Bool.not_eq_true', List.isEmpty_eq_false_iff]
  constructor
  · rintro ⟨⟨a, b⟩, c⟩; exact ⟨a, b, c⟩
  · rintro ⟨a, b, c⟩; exact ⟨⟨a, b⟩, c⟩

set_option maxHeartbeats 8000000 in
set_option maxRecDepth 10000 in
theorem lcheck_any (v : Value) (l : List Pr) (w : World) (h : PsAt w v l) (hp : ∀ p ∈ l, p.1.length ≤ 1000000000000) :
    Calls Tryz.prog 35 #[v] w (RetBelow w (.int .i64 (errL l))) := by
  obtain ⟨A, c, rfl, hlc, hcm⟩ := h.shape
  unfold maxLen at hcm
  obtain ⟨Z, hZ⟩ : ∃ Z, Z = errL l := ⟨_, rfl⟩
  rw [← hZ]
  have HB := Lib.hid (fun k (hk : k < l.length) (h : ¬ good l k) => hZ.trans (errL_bad hk h))
  have HN := Lib.hid (fun (h : ¬ Ok l) => hZ.trans (errL_no h))
  have HY := Lib.hid (fun (h : Ok l) => hZ.trans (errL_ok h))
  clear hZ
  by_cases h0 : l.length = 0
  · have hz := HN.out (fun h => by have := h.1; omega)
    have hb : ((l.length : Int) == 0) = true := by rw [beq_iff_eq]; omega
    subst hz
    clear h0 HB HN HY
    go_enter Tryz.func35, Tryz.ntmps35
    go_wp2_with fail
    go_ret
    exact ⟨rfl, Below.refl _ _⟩
  · have hb : ((l.length : Int) == 0) = false := by rw [beq_eq_false_iff_ne]; omega
    have h0 : 0 < l.length := by omega
    by_cases h8 : 8 < l.length
    · have hz := HN.out (fun h => by have := h.2.1; omega)
      subst hz
      clear HB HN HY
      go_enter Tryz.func35, Tryz.ntmps35
      go_wp2_with fail
      go_ret
      exact ⟨rfl, Below.refl _ _⟩
    · have h8 : decide (8 < (l.length : Int)) = false := decide_eq_false (by omega)
      go_enter Tryz.func35, Tryz.ntmps35
      go_wp2_with fail
      go_loopw [15] (fun i wr => ∃ k : Nat, k ≤ l.length ∧ i = .int .i64 k ∧ Below w.heap.size w wr ∧ Hid (∀ j, j < k → good l j)) (fun i _ => l.length - (intOf i).toNat)
      case atStart => exact ⟨0, Nat.zero_le _, rfl, Below.refl _ _, Lib.hid (fun j hj => absurd hj (Nat.not_lt_zero j))⟩
      case round =>
        obtain ⟨k, hk, rfl, hbl, hgd⟩ := hrel
        by_cases hgo : k < l.length
        · obtain ⟨p, hpk⟩ : ∃ p, l[k]? = some p := ⟨_, List.getElem?_eq_getElem hgo⟩
          obtain ⟨b, o, rfl, hbb, g1, g2⟩ := (h.below hbl).at_ hpk
          have hpl := hp p (List.mem_of_getElem? hpk)
          have HG := Lib.hid (good_at hpk)
          have hck := (Blk.new wr #[.string (bs p.1), .string (bs p.2)] 155)
          have hgn := goodName_any p.1
          have hbl2 := (below_trans hbl (below_alloc1 wr (.cells #[.string (bs p.1), .string (bs p.2)] 155)))
          rcases hn : nameB p.1 with _ | _
          · have hz := HB.out k hgo (fun h => by have := (okP_iff p).1 (HG.out.1 h).1; rw [hn] at this; exact absurd this.1 (by simp))
            rw [hn] at hgn
            have HGN := Lib.hid hgn
            have HZ := Lib.hid hz
            clear hgn hn hz hpk
            go_wp2_with fail
            refine wp_region_known [(1, .string (bs p.1)), (2, .bool false)] (by kernel_rfl) 51 (by kernel_rfl) rfl ?_
            repeat (first
              | (refine Chain.step (v := ?_) (a' := ?_) rfl rfl rfl ?_ ?_ ?_; rotate_left 2; (focus (intro w; go_simp; try with_reducible rfl)); focus (simp only [Act.put, pqA, pqS, pqZ]; try rfl))
              | (refine Chain.call (a' := ?_) _ rfl rfl rfl (fun wx hw => ?_) ?_ ?_
                 rotate_left 1
                 focus
                   first
                   | (have y0 := (hck.below hw).cell (i := 0) rfl; have y1 := (hck.below hw).cell (i := 1) rfl; go_simp; first | exact ⟨rfl, Below.refl _ _⟩ | exact Below.refl _ _)
                   | (go_simp; ((with_reducible refine (HGN.out _ hpl).mono ?_); rintro e w2 ⟨rfl, h2⟩; exact ⟨rfl, h2⟩))
                 focus (simp only [Act.put, pqA, pqS, pqZ]; try rfl))
              | (refine Chain.skip (a' := ?_) rfl rfl rfl ?_ ?_; rotate_left 1; focus (simp only [Act.put, pqA, pqS, pqZ]; try rfl)))
            refine Chain.end_ (fun wz hwz _ => ?_)
            go_wp2_with fail
            go_ret
            exact ⟨by rw [HZ.out]; rfl, below_trans hbl2 hwz⟩
          · have HN2 := Lib.hid hn
            rw [hn] at hgn
            have HGN := Lib.hid hgn
            by_cases he : p.2 = []
            · have hz := HB.out k hgo (fun h => ((okP_iff p).1 (HG.out.1 h).1).2.1 he)
              have HZ := Lib.hid hz
              have hb1 : (p.2 == []) = true := by rw [beq_iff_eq]; exact he
              have hb2 : p.2.isEmpty = true := by rw [he]; rfl
              clear hgn hn hz hpk he
              go_wp2_with fail
              refine wp_region_known [(1, .string (bs p.1)), (2, .bool true), (6, .string (bs p.2))] (by kernel_rfl) 51 (by kernel_rfl) rfl ?_
              repeat (first
                | (refine Chain.step (v := ?_) (a' := ?_) rfl rfl rfl ?_ ?_ ?_; rotate_left 2; (focus (intro w; go_simp; try with_reducible rfl)); focus (simp only [Act.put, pqA, pqS, pqZ]; try rfl))
                | (refine Chain.call (a' := ?_) _ rfl rfl rfl (fun wx hw => ?_) ?_ ?_
                   rotate_left 1
                   focus
                     first
                     | (have y0 := (hck.below hw).cell (i := 0) rfl; have y1 := (hck.below hw).cell (i := 1) rfl; go_simp; first | exact ⟨rfl, Below.refl _ _⟩ | exact Below.refl _ _)
                     | (go_simp; ((with_reducible refine (HGN.out _ hpl).mono ?_); rintro e w2 ⟨rfl, h2⟩; exact ⟨rfl, h2⟩))
                   focus (simp only [Act.put, pqA, pqS, pqZ]; try rfl))
                | (refine Chain.skip (a' := ?_) rfl rfl rfl ?_ ?_; rotate_left 1; focus (simp only [Act.put, pqA, pqS, pqZ]; try rfl)))
              refine Chain.end_ (fun wz hwz _ => ?_)
              go_wp2_with fail
              go_ret
              exact ⟨by rw [HZ.out]; rfl, below_trans hbl2 hwz⟩
            · have hb1 : (p.2 == []) = false := by rw [beq_eq_false_iff_ne]; exact he
              have hb2 : p.2.isEmpty = false := by rw [List.isEmpty_eq_false_iff]; exact he
              by_cases hl4 : p.2.length ≤ 40
              · have hd4 : decide (40 < (p.2.length : Int)) = false := decide_eq_false (by omega)
                have HOK := Lib.hid ((okP_iff p).2 ⟨hn, he, hl4⟩)
                clear hgn hn he
                rcases k with _ | j
                · have HGD := Lib.hid (show ∀ j, j < 0 + 1 → good l j from fun j hj => by
                    obtain rfl : j = 0 := by omega
                    exact HG.out.2 ⟨HOK.out, fun h => absurd h (Nat.lt_irrefl _)⟩)
                  clear hpk hgd hl4
                  simp only [Nat.zero_mul, Nat.add_zero] at g1 g2
                  go_wp2_with fail
                  refine wp_region_known [(1, .string (bs p.1)), (2, .bool true), (6, .string (bs p.2)), (11, .string (bs p.2))] (by kernel_rfl) 51 (by kernel_rfl) rfl ?_
                  repeat (first
                    | (refine Chain.step (v := ?_) (a' := ?_) rfl rfl rfl ?_ ?_ ?_; rotate_left 2; (focus (intro w; go_simp; try with_reducible rfl)); focus (simp only [Act.put, pqA, pqS, pqZ]; try rfl))
                    | (refine Chain.call (a' := ?_) _ rfl rfl rfl (fun wx hw => ?_) ?_ ?_
                       rotate_left 1
                       focus
                         first
                         | (have y0 := (hck.below hw).cell (i := 0) rfl; have y1 := (hck.below hw).cell (i := 1) rfl; go_simp; first | exact ⟨rfl, Below.refl _ _⟩ | exact Below.refl _ _)
                         | (go_simp; ((with_reducible refine (HGN.out _ hpl).mono ?_); rintro e w2 ⟨rfl, h2⟩; exact ⟨rfl, h2⟩))
                       focus (simp only [Act.put, pqA, pqS, pqZ]; try rfl))
                    | (refine Chain.skip (a' := ?_) rfl rfl rfl ?_ ?_; rotate_left 1; focus (simp only [Act.put, pqA, pqS, pqZ]; try rfl)))
                  refine Chain.end_ (fun wz hwz _ => ?_)
                  go_wp2_with fail
                  go_roundw
                  case rel => exact ⟨0 + 1, by omega, by go_num, below_trans hbl2 hwz, HGD⟩
                  case measure => simp [intOf]; omega
                · obtain ⟨q, hqk⟩ : ∃ q, l[j]? = some q := ⟨_, List.getElem?_eq_getElem (by omega)⟩
                  obtain ⟨b', o', hA, _, q1, _⟩ := (h.below hbl2).at_ hqk
                  injection hA with hA
                  injection hA with hA1 hA2 _
                  subst hA1; subst hA2
                  have HQ := Lib.hid q1
                  have hgq : (l.getD (j + 1 - 1) ([], [])).1 = q.1 := by rw [Nat.add_sub_cancel, List.getD_eq_getElem?_getD, hqk]; rfl
                  have hjw : IntKind.i64.wrap (j : Int) = (j : Int) := IntWalk.i64_in _ ⟨by omega, by omega⟩
                  have hjl : (j : Int) < (l.length : Int) := by omega
                  have hj0 : decide (0 < ((j : Int) + 1)) = true := decide_eq_true (by omega)
                  clear q1 hqk hpk
                  by_cases hlt : q.1 < p.1
                  · have hls : Op.bytesLess q.1 p.1 = true := by rw [less_eq]; exact decide_eq_true hlt
                    have HGD := Lib.hid (show ∀ i, i < j + 1 + 1 → good l i from fun i hi => by
                      by_cases hij : i < j + 1
                      · exact hgd.out i hij
                      · obtain rfl : i = j + 1 := by omega
                        exact HG.out.2 ⟨HOK.out, fun _ => by rw [hgq]; exact hlt⟩)
                    clear hgd hgq hlt hl4
                    go_wp2_with fail
                    refine wp_region_known [(1, .string (bs p.1)), (2, .bool true), (6, .string (bs p.2)), (11, .string (bs p.2)), (24, .string (bs q.1)), (26, .string (bs p.1))] (by kernel_rfl) 51 (by kernel_rfl) rfl ?_
                    repeat (first
                      | (refine Chain.step (v := ?_) (a' := ?_) rfl rfl rfl ?_ ?_ ?_; rotate_left 2; (focus (intro w; go_simp; try with_reducible rfl)); focus (simp only [Act.put, pqA, pqS, pqZ]; try rfl))
                      | (refine Chain.call (a' := ?_) _ rfl rfl rfl (fun wx hw => ?_) ?_ ?_
                         rotate_left 1
                         focus
                           first
                           | (have y0 := (hck.below hw).cell (i := 0) rfl; have y1 := (hck.below hw).cell (i := 1) rfl; have y2 := (hw.cell (p := ⟨b, o + j * 2, none⟩) (World.block_lt_of_cell? _ _ HQ.out)).trans HQ.out; go_simp; first | exact ⟨rfl, Below.refl _ _⟩ | exact Below.refl _ _)
                           | (go_simp; ((with_reducible refine (HGN.out _ hpl).mono ?_); rintro e w2 ⟨rfl, h2⟩; exact ⟨rfl, h2⟩))
                         focus (simp only [Act.put, pqA, pqS, pqZ]; try rfl))
                      | (refine Chain.skip (a' := ?_) rfl rfl rfl ?_ ?_; rotate_left 1; focus (simp only [Act.put, pqA, pqS, pqZ]; try rfl)))
                    refine Chain.end_ (fun wz hwz _ => ?_)
                    go_wp2_with fail
                    go_roundw
                    case rel => exact ⟨j + 1 + 1, by omega, by go_num, below_trans hbl2 hwz, HGD⟩
                    case measure => simp [intOf]; omega
                  · have hls : Op.bytesLess q.1 p.1 = false := by rw [less_eq]; exact decide_eq_false hlt
                    have HZ := Lib.hid (HB.out (j + 1) hgo (fun h => hlt (by have := (HG.out.1 h).2 (by omega); rwa [hgq] at this)))
                    clear hgd hgq hlt hl4
                    go_wp2_with fail
                    refine wp_region_known [(1, .string (bs p.1)), (2, .bool true), (6, .string (bs p.2)), (11, .string (bs p.2)), (24, .string (bs q.1)), (26, .string (bs p.1))] (by kernel_rfl) 51 (by kernel_rfl) rfl ?_
                    repeat (first
                      | (refine Chain.step (v := ?_) (a' := ?_) rfl rfl rfl ?_ ?_ ?_; rotate_left 2; (focus (intro w; go_simp; try with_reducible rfl)); focus (simp only [Act.put, pqA, pqS, pqZ]; try rfl))
                      | (refine Chain.call (a' := ?_) _ rfl rfl rfl (fun wx hw => ?_) ?_ ?_
                         rotate_left 1
                         focus
                           first
                           | (have y0 := (hck.below hw).cell (i := 0) rfl; have y1 := (hck.below hw).cell (i := 1) rfl; have y2 := (hw.cell (p := ⟨b, o + j * 2, none⟩) (World.block_lt_of_cell? _ _ HQ.out)).trans HQ.out; go_simp; first | exact ⟨rfl, Below.refl _ _⟩ | exact Below.refl _ _)
                           | (go_simp; ((with_reducible refine (HGN.out _ hpl).mono ?_); rintro e w2 ⟨rfl, h2⟩; exact ⟨rfl, h2⟩))
                         focus (simp only [Act.put, pqA, pqS, pqZ]; try rfl))
                      | (refine Chain.skip (a' := ?_) rfl rfl rfl ?_ ?_; rotate_left 1; focus (simp only [Act.put, pqA, pqS, pqZ]; try rfl)))
                    refine Chain.end_ (fun wz hwz _ => ?_)
                    go_wp2_with fail
                    go_ret
                    exact ⟨by rw [HZ.out]; rfl, below_trans hbl2 hwz⟩
              · have hd4 : decide (40 < (p.2.length : Int)) = true := decide_eq_true (by omega)
                have HZ := Lib.hid (HB.out k hgo (fun h => hl4 ((okP_iff p).1 (HG.out.1 h).1).2.2))
                clear hgn hn hpk he hl4
                go_wp2_with fail
                refine wp_region_known [(1, .string (bs p.1)), (2, .bool true), (6, .string (bs p.2)), (11, .string (bs p.2))] (by kernel_rfl) 51 (by kernel_rfl) rfl ?_
                repeat (first
                  | (refine Chain.step (v := ?_) (a' := ?_) rfl rfl rfl ?_ ?_ ?_; rotate_left 2; (focus (intro w; go_simp; try with_reducible rfl)); focus (simp only [Act.put, pqA, pqS, pqZ]; try rfl))
                  | (refine Chain.call (a' := ?_) _ rfl rfl rfl (fun wx hw => ?_) ?_ ?_
                     rotate_left 1
                     focus
                       first
                       | (have y0 := (hck.below hw).cell (i := 0) rfl; have y1 := (hck.below hw).cell (i := 1) rfl; go_simp; first | exact ⟨rfl, Below.refl _ _⟩ | exact Below.refl _ _)
                       | (go_simp; ((with_reducible refine (HGN.out _ hpl).mono ?_); rintro e w2 ⟨rfl, h2⟩; exact ⟨rfl, h2⟩))
                     focus (simp only [Act.put, pqA, pqS, pqZ]; try rfl))
                  | (refine Chain.skip (a' := ?_) rfl rfl rfl ?_ ?_; rotate_left 1; focus (simp only [Act.put, pqA, pqS, pqZ]; try rfl)))
                refine Chain.end_ (fun wz hwz _ => ?_)
                go_wp2_with fail
                go_ret
                exact ⟨by rw [HZ.out]; rfl, below_trans hbl2 hwz⟩
        · obtain rfl : k = l.length := by omega
          have HZ := Lib.hid (HY.out ((ok_iff l).2 ⟨h0, by have := of_decide_eq_false h8; omega, hgd.out⟩))
          go_wp2_with fail
          go_ret
          exact ⟨by rw [HZ.out]; rfl, hbl⟩

end Go.Proofs.YtnoebccoaeiakaaGreatDoor
