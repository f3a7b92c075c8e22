/-
  Layer 15 (head): a head in memory: its maps, its series, its index. Plain lemmas over any program; no condition.
-/
import Derived.Test.YtnoebccoaeiakaaGreatDoorZHdA
import Derived.Test.YtnoebccoaeiakaaGreatDoorZMrgS
import Derived.Test.YtnoebccoaeiakaaGreatDoorZLib16
import Derived.Lib.BufferMore
import Derived.Lib.LazyBuf
import Derived.Test.YtnoebccoaeiakaaGreatDoorZLib5
import Derived.Test.YtnoebccoaeiakaaGreatDoorZLib24
import Derived.Test.YtnoebccoaeiakaaGreatDoorZLib26
import Derived.Test.YtnoebccoaeiakaaGreatDoorZLib36
import Derived.Deep.RegionWith
import Derived.Deep.Cut
import Derived.Deep.CutBlock
import Derived.BigQuiet

namespace Go.Bar.Hd
open Go.RowKit Go.Bar Go.Bar.Leb Go.Bar.Lab Go.Bar.Xor Go.Bar.Mrg Go.Proofs.YtnoebccoaeiakaaGreatDoor

structure Hg where
  R : Nat
  O : Nat
  I : Nat
  Q : Nat → Nat
  lv : Nat → Value
  sv : Nat → Value
  n : Int
  tp : Int
  nx : Nat
  G : IxG
  Z : Nat → Prop
structure Cfg where
  s : Int
  m : Int
  w : Int
def hdC (c : Cfg) (g : Hg) : Array Value := #[.int .i64 c.s, .int .i64 c.m, .int .i64 c.w, .map (some g.R), .map (some g.O), .pointer (some ⟨g.I, 0, none⟩), .int .i64 (g.nx : Nat), .int .i64 g.n, .int .i64 0, .int .i64 g.tp]
structure SrAt (T : HTy) (w : World) (Q H : Nat) (lv sv : Value) (r : Row) : Prop where
  blk : Blk w Q T.sr #[lv, sv, .int .i64 (lastT r.2)]
  hQ : H ≤ Q
  lab : Buf w T.pr 2 lv r.1.length (pcs r.1)
  sms : Buf w T.sm 2 sv r.2.length (smc r.2)
  own : ∀ b, sv.ownBlock = some b → H ≤ b ∧ b < w.heap.size
structure HdAt (P : Program) (T : HTy) (ti : TypeId) (w : World) (p H : Nat) (c : Cfg) (h : List Row) (g : Hg) : Prop where
  hd : Blk w p T.hd (hdC c g)
  hp : H ≤ p
  rf : MfAt P T.st kyS elZ 0 w g.R h.length (refF h)
  of_ : MfAt P ti kyZ elP none w g.O h.length (ofF h.length g.Q)
  hR : H ≤ g.R
  hO : H ≤ g.O ∧ g.R ≠ g.O
  hZ : ¬ g.Z g.R ∧ ¬ g.Z g.O
  sr : ∀ i r, h[i]? = some r → SrAt T w (g.Q i) H (g.lv i) (g.sv i) r
  qi : ∀ i j, i < h.length → j < h.length → g.Q i = g.Q j → i = j
  si : ∀ i j b, i < h.length → j < h.length → (g.sv i).ownBlock = some b → (g.sv j).ownBlock = some b → i = j
  ix : IxAt P T w g.I H (fun b => b = g.R ∨ b = g.O ∨ g.Z b) h.length (fun _ => (h.length : Int)) g.G
  nn : 0 ≤ g.n
  gn : g.G.N ≤ 16 * h.length
section
variable {P : Program} {T : HTy} {ti : TypeId} {w w' : World} {p H : Nat} {c : Cfg} {h : List Row} {g : Hg}
theorem SrAt.keep {Q : Nat} {lv sv : Value} {r : Row} (k : SrAt T w Q H lv sv r) {Ts : TypeId → Prop} {Ms : Nat → Prop} (x : Kx Ts Ms w w') (h1 : ¬ Ts T.sr) (h2 : ¬ Ts T.pr) (h3 : ¬ Ts T.sm) : SrAt T w' Q H lv sv r :=
  ⟨x.blk k.blk h1, k.hQ, x.buf k.lab h2, x.buf k.sms h3, fun b hb => ⟨(k.own b hb).1, Nat.lt_of_lt_of_le (k.own b hb).2 x.kc.size⟩⟩
theorem HdAt.keep (k : HdAt P T ti w p H c h g) {Ts : TypeId → Prop} {Ms : Nat → Prop} (x : Kx Ts Ms w w') (h0 : ∀ t ∈ [T.hd, T.sr, T.ix, T.sm, T.pr, T.it], ¬ Ts t) (h3 : ∀ b, H ≤ b → ¬ Ms b) : HdAt P T ti w' p H c h g := by
  simp only [List.mem_cons, List.not_mem_nil, or_false, forall_eq_or_imp, forall_eq] at h0
  obtain ⟨a1, a2, a3, a4, a5, a6⟩ := h0
  exact ⟨x.blk k.hd a1, k.hp, x.map k.rf (h3 _ k.hR), x.map k.of_ (h3 _ k.hO.1), k.hR, k.hO, k.hZ, fun i r hi => (k.sr i r hi).keep x a2 a5 a4, k.qi, k.si, k.ix.keep x a3 a6 (fun b hb _ => h3 b hb), k.nn, k.gn⟩
theorem HdAt.below (k : HdAt P T ti w p H c h g) (hb : Below w.heap.size w w') : HdAt P T ti w' p H c h g := k.keep (Ts := fun _ => False) (Ms := fun _ => False) (Kx.of_below hb) (fun _ _ => id) (fun _ _ => id)
theorem HTy.un (T : HTy) : T.hd ≠ T.sr ∧ T.hd ≠ T.ix ∧ T.hd ≠ T.sm ∧ T.hd ≠ T.pr ∧ T.hd ≠ T.it ∧ T.sr ≠ T.ix ∧ T.sr ≠ T.sm ∧ T.sr ≠ T.pr ∧ T.sr ≠ T.it ∧ T.ix ≠ T.sm ∧ T.ix ≠ T.pr ∧ T.ix ≠ T.it ∧ T.sm ≠ T.pr ∧ T.sm ≠ T.it ∧ T.pr ≠ T.it := by
  have := T.ne
  simp only [List.nodup_cons, List.mem_cons, List.not_mem_nil, or_false, not_or, List.nodup_nil, and_true, not_false_eq_true] at this
  obtain ⟨⟨a1, a2, a3, a4, a5⟩, ⟨b1, b2, b3, b4⟩, ⟨c1, c2, c3⟩, ⟨d1, d2⟩, e1⟩ := this
  exact ⟨a1, a2, a3, a4, a5, b1, b2, b3, b4, c1, c2, c3, d1, d2, e1⟩
theorem blk_types {M N : Nat} {S S' : TypeId} {cur cur' : Array Value} (h1 : Blk w M S cur) (h2 : Blk w N S' cur') (hne : S ≠ S') : M ≠ N := fun e => by
  subst e
  unfold Blk at h1 h2
  rw [h1] at h2
  injection h2 with h2
  injection h2 with _ h2 _
  exact hne h2
theorem HdAt.more (k : HdAt P T ti w p H c h g) (hH : H ≤ w.heap.size) {i : Nat} {L : List Pr} {ss : List Sm} {s : Sm} (hi : h[i]? = some (L, ss)) {w1 : World} {v1 : Value} {tp : Int}
    (happ : App w (g.sv i) T.sm 2 ss.length (smc ss) w1 v1 1 [.int .i64 s.1, .int .u64 (s.2 : Nat)]) :
    HdAt P T ti ((((w1.setCell ⟨g.Q i, 1, none⟩ v1).setCell ⟨g.Q i, 2, none⟩ (.int .i64 s.1)).setCell ⟨p, 9, none⟩ (.int .i64 tp)).setCell ⟨p, 7, none⟩ (.int .i64 (g.n + 1))) p H c (h.set i (L, ss ++ [s]))
      { g with sv := fun j => if j = i then v1 else g.sv j, n := g.n + 1, tp := tp } := by
  obtain ⟨u1, u2, u3, u4, u5, u6, u7, u8, u9, u10, u11, u12, u13, u14, u15⟩ := T.un
  have hlt : i < h.length := (List.getElem?_eq_some_iff.1 hi).1
  have hsr := k.sr i _ hi
  have x1 : Kx (· = T.sm) (fun _ => False) w w1 := Kx.of_ap happ.start happ.ap rfl
  have hQ1 : Blk w1 (g.Q i) T.sr #[g.lv i, g.sv i, .int .i64 (lastT ss)] := x1.blk hsr.blk u7
  have hQ2 := hQ1.set 1 v1
  have hQ3 := hQ2.set 2 (.int .i64 s.1)
  have hp1 : Blk w1 p T.hd (hdC c g) := x1.blk k.hd u3
  have hpQ : p ≠ g.Q i := blk_types hp1 hQ1 u1
  have hp3 : Blk ((w1.setCell ⟨g.Q i, 1, none⟩ v1).setCell ⟨g.Q i, 2, none⟩ (.int .i64 s.1)) p T.hd (hdC c g) := (hp1.other hpQ 1 v1).other hpQ 2 (.int .i64 s.1)
  have hp4 := hp3.set 9 (.int .i64 tp)
  have hp5 := hp4.set 7 (.int .i64 (g.n + 1))
  have x2 : Kx (· = T.sr) (fun _ => False) w1 ((w1.setCell ⟨g.Q i, 1, none⟩ v1).setCell ⟨g.Q i, 2, none⟩ (.int .i64 s.1)) := (Kx.of_set (Ts := (· = T.sr)) hQ1 rfl 1 v1).trans (Kx.of_set (Ts := (· = T.sr)) hQ2 rfl 2 (.int .i64 s.1))
  have x3 : Kx (· = T.hd) (fun _ => False) ((w1.setCell ⟨g.Q i, 1, none⟩ v1).setCell ⟨g.Q i, 2, none⟩ (.int .i64 s.1)) ((((w1.setCell ⟨g.Q i, 1, none⟩ v1).setCell ⟨g.Q i, 2, none⟩ (.int .i64 s.1)).setCell ⟨p, 9, none⟩ (.int .i64 tp)).setCell ⟨p, 7, none⟩ (.int .i64 (g.n + 1))) := (Kx.of_set (Ts := (· = T.hd)) hp3 rfl 9 (.int .i64 tp)).trans (Kx.of_set (Ts := (· = T.hd)) hp4 rfl 7 (.int .i64 (g.n + 1)))
  have hm : ∀ {κ α : Type} {K : Kyk κ} {E : Elk α} {z : α} {kt : TypeId} {b n : Nat} {f : κ → Option α}, MfAt P kt K E z w b n f → MfAt P kt K E z ((((w1.setCell ⟨g.Q i, 1, none⟩ v1).setCell ⟨g.Q i, 2, none⟩ (.int .i64 s.1)).setCell ⟨p, 9, none⟩ (.int .i64 tp)).setCell ⟨p, 7, none⟩ (.int .i64 (g.n + 1))) b n f :=
    fun h0 => x3.map (x2.map (x1.map h0 id) id) id
  have hls : (h.set i (L, ss ++ [s])).length = h.length := List.length_set
  have hq3 := (hQ3.other (Ne.symm hpQ) 9 (.int .i64 tp)).other (Ne.symm hpQ) 7 (.int .i64 (g.n + 1))
  have hnew : ∀ r, v1.ownBlock = some r → (g.sv i).ownBlock = some r ∨ w.heap.size ≤ r := fun r hr => by
    rcases happ.grew with ⟨A, n1, n2, c, e1, e2, _⟩ | ⟨g', n', c', e1, e2⟩
    · left
      rw [e1]
      rw [e2] at hr
      cases A with
      | none => cases hr
      | some A => exact hr
    · right
      rw [e1] at hr
      have hr : some g' = some r := hr
      injection hr with hr
      omega
  have hsize : w1.heap.size ≤ ((((w1.setCell ⟨g.Q i, 1, none⟩ v1).setCell ⟨g.Q i, 2, none⟩ (.int .i64 s.1)).setCell ⟨p, 9, none⟩ (.int .i64 tp)).setCell ⟨p, 7, none⟩ (.int .i64 (g.n + 1))).heap.size := Nat.le_trans x2.kc.size x3.kc.size
  refine ⟨hp5, k.hp, ?_, ?_, k.hR, k.hO, k.hZ, fun j r hj => ?_, fun a b ha hb => k.qi a b (hls ▸ ha) (hls ▸ hb), fun a b r ha hb h1 h2 => ?_, ?_, by have := k.nn; show 0 ≤ g.n + 1; omega, by rw [hls]; exact k.gn⟩
  · rw [hls]
    have e : refF (h.set i (L, ss ++ [s])) = refF h := by
      funext y
      unfold refF
      rw [ixK_labs (g := h) ?_]
      rw [List.map_set]
      refine List.ext_getElem? fun j => ?_
      rw [List.getElem?_set]
      split
      · rename_i e
        subst e
        rw [List.getElem?_map, hi]
        simp [hlt]
      · rfl
    rw [e]
    exact hm k.rf
  · rw [hls]
    exact hm k.of_
  · rw [List.getElem?_set] at hj
    by_cases hji : i = j
    · subst hji
      rw [if_pos rfl] at hj
      simp only [hlt, if_true] at hj
      injection hj with hj
      subst hj
      show SrAt T _ (g.Q i) H (g.lv i) (if i = i then v1 else g.sv i) (L, ss ++ [s])
      rw [if_pos rfl]
      refine ⟨?_, hsr.hQ, ?_, ?_, fun r hr => ⟨?_, Nat.lt_of_lt_of_le (happ.buf.lt (Nat.succ_pos _) r hr) hsize⟩⟩
      · show Blk _ (g.Q i) T.sr #[g.lv i, v1, .int .i64 (lastT (ss ++ [s]))]
        rw [lastT_snoc]
        exact hq3
      · exact x3.buf (x2.buf (x1.buf hsr.lab (Ne.symm u13)) (Ne.symm u8)) (Ne.symm u4)
      · show Buf _ T.sm 2 v1 (ss ++ [s]).length (smc (ss ++ [s]))
        rw [smc_snoc, List.length_append]
        exact x3.buf (x2.buf happ.buf (Ne.symm u7)) (Ne.symm u3)
      · rcases hnew r hr with h1 | h1
        · exact (hsr.own r h1).1
        · omega
    · rw [if_neg hji] at hj
      have hjr := k.sr j r hj
      have hjl : j < h.length := (List.getElem?_eq_some_iff.1 hj).1
      show SrAt T _ (g.Q j) H (g.lv j) (if j = i then v1 else g.sv j) r
      rw [if_neg (Ne.symm hji)]
      have hQne : g.Q j ≠ g.Q i := fun e => hji (k.qi j i hjl hlt e).symm
      have b1 : Blk w1 (g.Q j) T.sr #[g.lv j, g.sv j, .int .i64 (lastT r.2)] := x1.blk hjr.blk u7
      have b3 := (b1.other hQne 1 v1).other hQne 2 (.int .i64 s.1)
      refine ⟨x3.blk b3 (Ne.symm u1), hjr.hQ, x3.buf (x2.buf (x1.buf hjr.lab (Ne.symm u13)) (Ne.symm u8)) (Ne.symm u4), ?_, fun b hb => ⟨(hjr.own b hb).1, Nat.lt_of_lt_of_le (hjr.own b hb).2 (Nat.le_trans x1.kc.size hsize)⟩⟩
      have hs1 : Buf w1 T.sm 2 (g.sv j) r.2.length (smc r.2) := hjr.sms.grown happ.ap.grownBy fun b hb e => hji (k.si i j b hlt hjl e hb)
      exact x3.buf (x2.buf hs1 (Ne.symm u7)) (Ne.symm u3)
  · have h1 : (if a = i then v1 else g.sv a).ownBlock = some r := h1
    have h2 : (if b = i then v1 else g.sv b).ownBlock = some r := h2
    rw [hls] at ha hb
    have hold : ∀ j, j < h.length → j ≠ i → (g.sv j).ownBlock = some r → v1.ownBlock ≠ some r := fun j hj hne h3 h4 => by
      rcases hnew r h4 with h5 | h5
      · exact hne (k.si j i r hj hlt h3 h5)
      · have := ((k.sr j _ (List.getElem?_eq_getElem hj)).own r h3).2
        omega
    by_cases hai : a = i
    · by_cases hbi : b = i
      · rw [hai, hbi]
      · rw [if_pos hai] at h1
        rw [if_neg hbi] at h2
        exact absurd h1 (hold b hb hbi h2)
    · rw [if_neg hai] at h1
      by_cases hbi : b = i
      · rw [if_pos hbi] at h2
        exact absurd h2 (hold a ha hai h1)
      · rw [if_neg hbi] at h2
        exact k.si a b r ha hb h1 h2
  · rw [hls]
    exact ((k.ix.keep x1 u10 (Ne.symm u14) (fun _ _ _ => id)).keep x2 (Ne.symm u6) (Ne.symm u9) (fun _ _ _ => id)).keep x3 (Ne.symm u2) (Ne.symm u5) (fun _ _ _ => id)
section
variable {w2 w4 w5 w6 : World} {Q : Nat} {lv : Value} {G' : IxG} {L : List Pr}
theorem series_x (k : HdAt P T ti w p H c h g)
    (hg2 : (w.setCell ⟨p, 6, none⟩ (.int .i64 ((g.nx + 1 : Nat) : Int))).grownBy w2 (some g.R)) (b4 : Below w2.heap.size w2 w4) (hg5 : w4.grownBy w5 (some g.O)) :
    Kx (· = T.hd) (· = g.R) w w2 ∧ Kx (· = T.hd) (fun b => b = g.R ∨ b = g.O) w w5 ∧ Kx (fun _ => False) (· = g.O) w2 w5 ∧ Blk w2 p T.hd (hdC c { g with nx := g.nx + 1 }) ∧ Blk w5 p T.hd (hdC c { g with nx := g.nx + 1 }) := by
  have hb := k.hd.set 6 (.int .i64 ((g.nx + 1 : Nat) : Int))
  have x1 : Kx (· = T.hd) (· = g.R) w (w.setCell ⟨p, 6, none⟩ (.int .i64 ((g.nx + 1 : Nat) : Int))) := Kx.of_set (Ts := (· = T.hd)) k.hd rfl 6 _
  have hm1 := (k.rf.set p 6 (.int .i64 ((g.nx + 1 : Nat) : Int))).is_map
  have x2 : Kx (fun _ => False) (· = g.R) (w.setCell ⟨p, 6, none⟩ (.int .i64 ((g.nx + 1 : Nat) : Int))) w2 := Kx.of_map hm1 hg2 rfl
  have x12 : Kx (· = T.hd) (· = g.R) w w2 := x1.trans (x2.wide (fun _ h => h.elim) (fun _ h => h))
  have hO2 : MfAt P ti kyZ elP none w2 g.O h.length (ofF h.length g.Q) := x12.map k.of_ k.hO.2.symm
  have hO4 := (hO2.below b4).is_map
  have x5 : Kx (fun _ => False) (· = g.O) w4 w5 := Kx.of_map hO4 hg5 rfl
  have x25 : Kx (fun _ => False) (· = g.O) w2 w5 := (Kx.of_below b4).trans x5
  have hb2 : Blk w2 p T.hd (hdC c { g with nx := g.nx + 1 }) := x2.blk hb id
  exact ⟨x12, (x12.wide (fun _ h => h) (fun _ h => .inl h)).trans (x25.wide (fun _ h => h.elim) (fun _ h => .inr h)), x25, hb2, x25.blk hb2 id⟩
theorem HdAt.series (k : HdAt P T ti w p H c h g) (hH : H ≤ w.heap.size) (hn : ixM h L = none) (hL : LbOk L) (hok : ∀ r ∈ h, LbOk r.1)
    (hg2 : (w.setCell ⟨p, 6, none⟩ (.int .i64 ((g.nx + 1 : Nat) : Int))).grownBy w2 (some g.R)) (m2 : MfAt P T.st kyS elZ 0 w2 g.R (h.length + 1) (updF (refF h) (key L) ((h.length : Int) + 1)))
    (b4 : Below w2.heap.size w2 w4) (sr4 : Blk w4 Q T.sr #[lv, .slice none 0 0, .int .i64 (-1)]) (lab4 : Buf w4 T.pr 2 lv L.length (pcs L)) (hQ : w2.heap.size ≤ Q)
    (hg5 : w4.grownBy w5 (some g.O)) (m5 : MfAt P ti kyZ elP none w5 g.O (h.length + 1) (updF (ofF h.length g.Q) ((h.length : Int) + 1) (some Q)))
    (x6 : Kx (fun t => t = T.ix ∨ t = T.it) (fun b => H ≤ b ∧ ¬ (b = g.R ∨ b = g.O ∨ g.Z b)) w5 w6) (ix6 : IxAt P T w6 g.I H (fun b => b = g.R ∨ b = g.O ∨ g.Z b) (h.length + 1) (fun _ => ((h.length + 1 : Nat) : Int)) G') (hgn : G'.N ≤ 16 * (h.length + 1)) :
    HdAt P T ti w6 p H c (h ++ [(L, [])]) { g with Q := updQ g.Q h.length Q, lv := fun j => if j = h.length then lv else g.lv j, sv := fun j => if j = h.length then .slice none 0 0 else g.sv j, nx := g.nx + 1, G := G' } := by
  obtain ⟨u1, u2, u3, u4, u5, u6, u7, u8, u9, u10, u11, u12, u13, u14, u15⟩ := T.un
  obtain ⟨x12, x15, x25, hb2, hb5⟩ := series_x k hg2 b4 hg5
  have hlen : (h ++ [(L, ([] : List Sm))]).length = h.length + 1 := by rw [List.length_append]; rfl
  have hsz2 : w.heap.size ≤ w2.heap.size := x12.kc.size
  have hm4 := ((x12.map k.of_ k.hO.2.symm).below b4).is_map
  have x45 : Kx (fun _ => False) (· = g.O) w4 w5 := Kx.of_map hm4 hg5 rfl
  have hQold : ∀ j, j < h.length → g.Q j < w.heap.size := fun j hj => (k.sr j _ (List.getElem?_eq_getElem hj)).blk.lt
  refine ⟨x6.blk hb5 (fun e => e.elim u2 u5), k.hp, ?_, ?_, k.hR, k.hO, k.hZ, fun j r hj => ?_, fun a b ha hb e => ?_, fun a b r ha hb h1 h2 => ?_, ?_, k.nn, by rw [hlen]; exact hgn⟩
  · rw [hlen]
    have e : refF (h ++ [(L, [])]) = updF (refF h) (key L) ((h.length : Int) + 1) := by
      rw [refF_new (s := (0, 0)) hok hL hn]
      funext y
      unfold refF
      rw [ixK_labs (g := addM h L (0, 0)) (by rw [addM_new _ hn, List.map_append, List.map_append]; rfl)]
    rw [e]
    exact x6.map (x25.map m2 k.hO.2) (fun e => e.2 (.inl rfl))
  · rw [hlen]
    show MfAt P ti kyZ elP none w6 g.O (h.length + 1) (ofF (h.length + 1) (updQ g.Q h.length Q))
    rw [← ofF_new]
    exact x6.map m5 (fun e => e.2 (.inr (.inl rfl)))
  · by_cases hjl : j < h.length
    · rw [List.getElem?_append_left hjl] at hj
      show SrAt T w6 (updQ g.Q h.length Q j) H (if j = h.length then lv else g.lv j) (if j = h.length then .slice none 0 0 else g.sv j) r
      rw [if_neg (by omega), if_neg (by omega), updQ_ne _ _ (by omega)]
      exact ((k.sr j r hj).keep x15 (Ne.symm u1) (Ne.symm u4) (Ne.symm u3)).keep x6 (fun e => e.elim u6 u9) (fun e => e.elim (Ne.symm u11) u15) (fun e => e.elim (Ne.symm u10) u14)
    · have hj0 : j = h.length := by
        have := (List.getElem?_eq_some_iff.1 hj).1
        rw [hlen] at this
        omega
      subst hj0
      rw [List.getElem?_append_right (Nat.le_refl _), Nat.sub_self] at hj
      injection hj with hj
      subst hj
      show SrAt T w6 (updQ g.Q h.length Q h.length) H (if h.length = h.length then lv else g.lv h.length) (if h.length = h.length then .slice none 0 0 else g.sv h.length) (L, [])
      rw [if_pos rfl, if_pos rfl, updQ_same]
      have s4 : SrAt T w4 Q H lv (.slice none 0 0) (L, []) := ⟨sr4, Nat.le_trans hH (Nat.le_trans hsz2 hQ), lab4, Buf.nil w4 T.sm 2, fun b e => (by cases e)⟩
      exact (s4.keep x45 id id id).keep x6 (fun e => e.elim u6 u9) (fun e => e.elim (Ne.symm u11) u15) (fun e => e.elim (Ne.symm u10) u14)
  · rw [hlen] at ha hb
    have e : updQ g.Q h.length Q a = updQ g.Q h.length Q b := e
    by_cases ha' : a = h.length
    · by_cases hb' : b = h.length
      · omega
      · rw [ha', updQ_same, updQ_ne _ _ hb'] at e
        have := hQold b (by omega)
        omega
    · by_cases hb' : b = h.length
      · rw [hb', updQ_same, updQ_ne _ _ ha'] at e
        have := hQold a (by omega)
        omega
      · rw [updQ_ne _ _ ha', updQ_ne _ _ hb'] at e
        exact k.qi a b (by omega) (by omega) e
  · rw [hlen] at ha hb
    have h1 : (if a = h.length then Value.slice none 0 0 else g.sv a).ownBlock = some r := h1
    have h2 : (if b = h.length then Value.slice none 0 0 else g.sv b).ownBlock = some r := h2
    by_cases ha' : a = h.length
    · rw [if_pos ha'] at h1; cases h1
    · by_cases hb' : b = h.length
      · rw [if_pos hb'] at h2; cases h2
      · rw [if_neg ha'] at h1
        rw [if_neg hb'] at h2
        exact k.si a b r (by omega) (by omega) h1 h2
  · rw [hlen]
    exact ix6
theorem HdAt.series_ix (k : HdAt P T ti w p H c h g)
    (hg2 : (w.setCell ⟨p, 6, none⟩ (.int .i64 ((g.nx + 1 : Nat) : Int))).grownBy w2 (some g.R)) (b4 : Below w2.heap.size w2 w4) (hg5 : w4.grownBy w5 (some g.O)) : IxAt P T w5 g.I H (fun b => b = g.R ∨ b = g.O ∨ g.Z b) h.length (fun _ => (h.length : Int)) g.G := by
  obtain ⟨u1, u2, u3, u4, u5, u6, u7, u8, u9, u10, u11, u12, u13, u14, u15⟩ := T.un
  obtain ⟨_, x15, _⟩ := series_x k hg2 b4 hg5
  exact k.ix.keep x15 (Ne.symm u2) (Ne.symm u5) fun b _ hb e => hb (e.elim .inl fun e => .inr (.inl e))
end
theorem HdAt.new {R O I : Nat} (hd : Blk w p T.hd (hdC c ⟨R, O, I, fun _ => 0, fun _ => .slice none 0 0, fun _ => .slice none 0 0, 0, -1, 1, ⟨0, .slice none 0 0, fun _ => none, fun _ _ => none, 0⟩, fun _ => False⟩)) (hp : H ≤ p)
    (rf : MfAt P T.st kyS elZ 0 w R 0 (fun _ => none)) (of_ : MfAt P ti kyZ elP none w O 0 (fun _ => none)) (hR : H ≤ R) (hO : H ≤ O ∧ R ≠ O) {M : Nat} (hI : Blk w I T.ix #[.map (some M), .slice none 0 0]) (hm : MfAt P T.st kyS elM none w M 0 (fun _ => none)) (hHI : H ≤ I) (hM : H ≤ M ∧ M ≠ R ∧ M ≠ O) :
    HdAt P T ti w p H c [] ⟨R, O, I, fun _ => 0, fun _ => .slice none 0 0, fun _ => .slice none 0 0, 0, -1, 1, ⟨M, .slice none 0 0, fun _ => none, fun _ _ => none, 0⟩, fun _ => False⟩ :=
  ⟨hd, hp, by rw [refF_nil]; exact rf, by show MfAt P ti kyZ elP none w O 0 (ofF 0 _); rw [ofF_zero]; exact of_, hR, hO, ⟨id, id⟩, fun i r e => (by cases e), fun i j hi => absurd hi (Nat.not_lt_zero _), fun i j b hi => absurd hi (Nat.not_lt_zero _), IxAt.new hI hm hHI ⟨hM.1, fun e => e.elim hM.2.1 fun e => e.elim hM.2.2 id⟩ (fun b hb => hb.elim (fun e => by rw [e]; exact rf.lt) (fun hb => hb.elim (fun e => by rw [e]; exact of_.lt) False.elim)) _, Int.le_refl _, Nat.le_refl _⟩
theorem HdAt.next (k : HdAt P T ti w p H c h g) (n : Nat) : HdAt P T ti (w.setCell ⟨p, 6, none⟩ (.int .i64 (n : Nat))) p H c h { g with nx := n } := by
  obtain ⟨u1, u2, u3, u4, u5, u6, u7, u8, u9, u10, u11, u12, u13, u14, u15⟩ := T.un
  have x : Kx (· = T.hd) (fun _ => False) w (w.setCell ⟨p, 6, none⟩ (.int .i64 (n : Nat))) := Kx.of_set (Ts := (· = T.hd)) k.hd rfl 6 _
  exact ⟨k.hd.set 6 (.int .i64 (n : Nat)), k.hp, x.map k.rf id, x.map k.of_ id, k.hR, k.hO, k.hZ, fun i r hi => (k.sr i r hi).keep x (Ne.symm u1) (Ne.symm u4) (Ne.symm u3), k.qi, k.si, k.ix.keep x (Ne.symm u2) (Ne.symm u5) (fun _ _ _ => id), k.nn, k.gn⟩
theorem HdAt.reserve (k : HdAt P T ti w p H c h g) (b : Nat) (hb : w.heap.size ≤ b) (hw : Below w.heap.size w w') (hb' : b < w'.heap.size) : HdAt P T ti w' p H c h { g with Z := fun x => g.Z x ∨ x = b } := by
  have k' := k.below hw
  refine ⟨k'.hd, k.hp, k'.rf, k'.of_, k.hR, k.hO, ⟨fun e => e.elim k.hZ.1 fun e => ?_, fun e => e.elim k.hZ.2 fun e => ?_⟩, k'.sr, k.qi, k.si, ?_, k.nn, k.gn⟩
  · have := k.rf.lt
    (try simp only at e)
    omega
  · have := k.of_.lt
    (try simp only at e)
    omega
  · obtain ⟨x1, x2, x3, x4, x5, x6, x7, x8, x9, x10, x11, x12, x13, x14, x15⟩ := k'.ix
    refine ⟨x1, x2, ⟨x3.1, fun e => ?_⟩, fun y hy => ?_, x5, x6, x7, fun a q ha => ?_, x9, x10, x11, x12, x13, x14, x15⟩
    · have h1 := k.ix.mp.lt
      rcases e with e | e | e | e
      · exact x3.2 (.inl e)
      · exact x3.2 (.inr (.inl e))
      · exact x3.2 (.inr (.inr e))
      · have e : g.G.M = b := e
        omega
    · rcases hy with hy | hy | hy | hy
      · exact x4 y (.inl hy)
      · exact x4 y (.inr (.inl hy))
      · exact x4 y (.inr (.inr hy))
      · (try simp only at hy); omega
    · obtain ⟨z, e, hz, hm⟩ := x8 a q ha
      refine ⟨z, e, ⟨hz.1, fun e' => ?_⟩, hm⟩
      obtain ⟨z', e2, _, hm2⟩ := k.ix.inn a q ha
      rw [e] at e2
      injection e2 with e2
      have h1 := hm2.lt
      rcases e' with e' | e' | e' | e'
      · exact hz.2 (.inl e')
      · exact hz.2 (.inr (.inl e'))
      · exact hz.2 (.inr (.inr e'))
      · have e' : z' = b := by rw [← e2]; exact e'
        omega
end
end Go.Bar.Hd

namespace Go.Proofs.YtnoebccoaeiakaaGreatDoor
open Go.RowKit Go.Bar Go.Bar.Leb Go.Bar.Lab Go.Bar.Xor Go.Bar.Mrg Go.Bar.Hd
attribute [local go_sem] Oper.semAt_some

def hty : HTy := ⟨91, 109, 151, 98, 155, 3, 9, by decide⟩

theorem mtyR : Mty Tryz.prog 86 9 3 kyS elZ 0 := ⟨Tryz.underlying86, Maps.string_keyed Tryz.underlying9, key_S Tryz.underlying9, fun w => by go_simp; rfl⟩

theorem mtyL : Mty Tryz.prog 104 9 2 kyS elZ 0 := ⟨Tryz.underlying104, Maps.string_keyed Tryz.underlying9, key_S Tryz.underlying9, fun w => by go_simp; rfl⟩

theorem mtyO : Mty Tryz.prog 87 3 110 kyZ elP none := ⟨Tryz.underlying87, Maps.int_keyed Tryz.underlying3, key_Z Tryz.underlying3, fun w => by go_simp; rfl⟩

theorem mtyS : Mty Tryz.prog 133 3 93 kyZ elS nilS := ⟨Tryz.underlying133, Maps.int_keyed Tryz.underlying3, key_Z Tryz.underlying3, fun w => by go_simp; rfl⟩

theorem mtyI : Mty Tryz.prog 149 9 207 kyS elM none := ⟨Tryz.underlying149, Maps.string_keyed Tryz.underlying9, key_S Tryz.underlying9, fun w => by go_simp; rfl⟩

theorem mtyJ : Mty Tryz.prog 207 9 71 kyS elS nilS := ⟨Tryz.underlying207, Maps.string_keyed Tryz.underlying9, key_S Tryz.underlying9, fun w => by go_simp; rfl⟩

end Go.Proofs.YtnoebccoaeiakaaGreatDoor

namespace Go.Proofs.YtnoebccoaeiakaaGreatDoor
open Go.RowKit Go.Bar Go.Bar.Leb Go.Bar.Lab Go.Bar.Xor Go.Bar.Mrg Go.Bar.Hd

theorem zs_len (xs : List Int) : (zs xs).length = xs.length := List.length_map ..
theorem zs_at {xs : List Int} {i : Nat} {x : Int} (h : xs[i]? = some x) : (zs xs)[i]? = some (.int .i64 x) := by unfold zs; rw [List.getElem?_map, h]; rfl

theorem cNaN_any (x : Int) (w : World) : Calls Tryz.prog 178 #[.int .i64 x] w fun e w' => e = .returned (.bool false) ∧ w = w' := by
  go_enter Tryz.func178, Tryz.ntmps178
  go_wp2_with fail
  go_ret
  exact ⟨by simp, rfl⟩

theorem cLess_any (a b : Int) (w : World) : Calls Tryz.prog 134 #[.int .i64 a, .int .i64 b] w fun e w' => e = .returned (.bool (decide (a < b))) ∧ w = w' := by
  have h1 := Lib.hid (cNaN_any a w)
  go_enter Tryz.func134, Tryz.ntmps134
  go_wp2_with fail
  refine h1.out.mono ?_
  rintro e w' ⟨rfl, rfl⟩
  go_wp2_with fail
  go_ret
  exact ⟨rfl, rfl⟩

set_option maxHeartbeats 2000000 in
set_option maxRecDepth 10000 in
theorem pbsearch_any (v : Value) (k : Nat) (xs : List Int) (n : Int) (w : World) (h : Buf w 3 1 v k (zs xs)) (hx : ∀ x ∈ xs, x < n) (hk : k ≤ 1000000000) :
    Calls Tryz.prog 144 #[v, .int .i64 n] w fun e w' => e = .returned (.tuple #[.int .i64 k, .bool false]) ∧ w = w' := by
  have hl : xs.length = k := by have := h.len; rw [zs_len] at this; omega
  obtain ⟨A, c, rfl, hkc⟩ := h.shape
  have HB := Lib.hid h
  have HX := Lib.hid hx
  have HL := Lib.hid hl
  clear h hx hl
  go_enter Tryz.func144, Tryz.ntmps144
  go_wp2_with fail
  go_loopw [7, 8, 9] (fun iv jv _ wr => ∃ i : Nat, iv = .int .i64 i ∧ jv = .int .i64 k ∧ i ≤ k ∧ w = wr) (fun iv _ _ _ => k - (intOf iv).toNat)
  case atStart => exact ⟨0, rfl, rfl, Nat.zero_le _, rfl⟩
  case round =>
    obtain ⟨i, rfl, rfl, hik, rfl⟩ := hrel
    by_cases hgo : i < k
    · obtain ⟨q, hq⟩ : ∃ q, q = (i + k) / 2 := ⟨_, rfl⟩
      have hq1 : i ≤ q := by omega
      have hq2 : q < k := by omega
      have u1 : IntKind.i64.wrap ((i : Int) + (k : Int)) = (i : Int) + (k : Int) := by rw [IntKind.wrap_i64]; omega
      have hgz : (i : Int) < (k : Int) := by omega
      have hqz : ((i : Int) + (k : Int)) / 2 = (q : Int) := by omega
      have hqn2 : (q : Int) < (k : Int) := by omega
      have hqn3 : (0 : Int) ≤ (q : Int) := by omega
      obtain ⟨x, hx⟩ : ∃ x, xs[q]? = some x := ⟨_, List.getElem?_eq_getElem (by rw [HL.out]; exact hq2)⟩
      obtain ⟨b, o, rfl, hlt, hc⟩ := HB.out.cell (by omega)
      have c0 := (hc q (by omega)).trans (zs_at hx)
      have hxn := HX.out x (List.mem_of_getElem? hx)
      have hd := cLess_any x n w
      rw [decide_eq_true hxn] at hd
      have HD := Lib.hid hd
      clear hd hx hc hxn hq
      go_wp2_with fail
      refine HD.out.mono ?_
      rintro e w' ⟨rfl, rfl⟩
      go_wp2_with fail
      go_roundw
      case rel => exact ⟨q + 1, by go_num, (by first | rfl | trivial), by omega, (by first | rfl | trivial)⟩
      case measure => simp [intOf]; omega
    · obtain rfl : i = k := by omega
      go_wp2_with fail
      go_ret2
      exact ⟨rfl, rfl⟩

theorem plist_ty : ElemTy Tryz.prog 71 3 (.int .i64 0) 1 8 :=
  ⟨Tryz.underlying71, info_parts (show (Tryz.prog.info? 3).map (fun i => (i.zero, i.size, i.bytes)) = some (some (.int .i64 0), 1, 8) by kernel_rfl), rfl⟩

set_option maxHeartbeats 2000000 in
set_option maxRecDepth 10000 in
theorem pins_any (v : Value) (k : Nat) (xs : List Int) (n : Int) (H : Nat) (w0 w : World) (h : Buf w0 3 1 v k (zs xs)) (hw : w = w0.alloc (.cells #[.int .i64 n] 3)) (hH : H = w0.heap.size) (hk : k ≤ 1000000000) :
    Calls Tryz.prog 145 #[v, .int .i64 k, .slice (some ⟨H, 0, none⟩) 1 1] w fun e w' => ∃ v', e = .returned v' ∧ App w0 v 3 1 k (zs xs) w' v' 1 [.int .i64 n] := by
  obtain ⟨A, c, rfl, hkc⟩ := h.shape
  have hc2 : c ≤ 9223372036854775807 := by obtain ⟨_, A', c', e, _, hm, _⟩ := h; injection e with _ _ e3; subst e3; exact hm
  subst hH
  have hlit := (Buf.lit w0 3 1 1 [.int .i64 n] rfl (by decide)).src (P := Tryz.prog) (t := 23) Tryz.underlying23 (fun u hu => by rw [List.mem_singleton.1 hu]; rfl)
  rw [show w0.alloc (.cells [Value.int .i64 n].toArray 3) = w from hw.symm] at hlit
  have hb : Below w0.heap.size w0 w := by rw [hw]; exact (Below.refl _ _).alloc (Nat.le_refl _) _
  have HLIT := Lib.hid hlit
  have HB := Lib.hid (App.start' h |>.below hb)
  obtain ⟨i, hi0, _, hi2, _⟩ := plist_ty.info
  have hsl := fun w => run_slice_f (P := Tryz.prog) (a := A) (n := k) (c := c) (t := 71) Tryz.underlying71 hi0 hi2 k (Nat.le_refl _) hkc w
  clear hw h hlit hb
  go_enter Tryz.func145, Tryz.ntmps145
  go_wp2_with (at_builtin; refine wpList_append_el rfl (.tmp 23) (.tmp 24) 71 23 rfl plist_ty rfl HB.out.buf rfl HLIT.out (by simp only [maxLen]; omega) (by omega) ?_; intro v5 w5 hb5 ha5 hg5; have hn5 := Lib.hid (HB.out.step hb5 ha5 hg5); clear hb5 ha5 hg5)
  go_ret
  exact ⟨_, rfl, hn5.out⟩

set_option maxHeartbeats 2000000 in
set_option maxRecDepth 10000 in
theorem pinsert_any (v : Value) (k : Nat) (xs : List Int) (n : Int) (w : World) (h : Buf w 3 1 v k (zs xs)) (hx : ∀ x ∈ xs, x < n) (hk : k ≤ 1000000000) :
    Calls Tryz.prog 103 #[v, .int .i64 n] w fun e w' => ∃ v', e = .returned v' ∧ App w v 3 1 k (zs xs) w' v' 1 [.int .i64 n] := by
  have h1 := Lib.hid (pbsearch_any v k xs n w h hx hk)
  have h2 := Lib.hid (pins_any v k xs n w.heap.size w _ h rfl rfl hk)
  obtain ⟨A, c, rfl, hkc⟩ := h.shape
  clear h hx
  go_enter Tryz.func103, Tryz.ntmps103
  go_wp2_with fail
  refine h1.out.mono ?_
  rintro e w' ⟨rfl, rfl⟩
  go_wp2_with fail
  refine h2.out.mono ?_
  rintro e w' ⟨v', rfl, ha⟩
  have HA := Lib.hid ha
  clear ha
  go_wp2_with fail
  go_ret
  exact ⟨_, rfl, HA.out⟩

set_option maxHeartbeats 2000000 in
set_option maxRecDepth 10000 in
theorem piclone_any (v : Value) (n : Nat) (xs : List Value) (w : World) (h : SlAt w 1 v n xs) (hl : n ≤ 1000000) (h1 : ∀ u ∈ xs, u.oneCell' = true) :
    Calls Tryz.prog 51 #[v] w fun e w' => ∃ v', e = .returned v' ∧ NBuf w w' 3 1 v' n xs := by
  obtain ⟨A, c, rfl, hlc, hcm⟩ := h.shape
  have hnil := fun w => run_eql_slice_nil (P := Tryz.prog) w 71 3 A n c Tryz.underlying71
  rcases A with _ | A
  · have h0 : n = 0 := by
      rcases Nat.eq_zero_or_pos n with h0 | h0
      · exact h0
      · obtain ⟨b, o, hA, _⟩ := h.cells (by omega)
        cases hA
    subst h0
    obtain rfl : xs = [] := List.eq_nil_of_length_eq_zero (by have := h.len; omega)
    clear hnil
    have hnil := fun w => run_eql_slice_nil (P := Tryz.prog) w 71 3 none 0 c Tryz.underlying71
    go_enter Tryz.func51, Tryz.ntmps51
    go_wp2_with fail
    go_ret
    exact ⟨_, rfl, NBuf.nil (Below.refl _ _) _ _⟩
  · have hs := fun o => SlAt.src (P := Tryz.prog) (h.below (below_alloc1 w o)) (by omega) (t := 71) Tryz.underlying71 h1
    have HS := Lib.hid hs
    have hnb := NBuf.lit0 (Below.refl w.heap.size w) 3 1
    clear hs
    go_enter Tryz.func51, Tryz.ntmps51
    go_wp2_with (at_builtin; refine wpList_append_el rfl (.tmp 5) (.tmp 6) 71 71 rfl plist_ty rfl hnb.buf rfl (HS.out _) (by simp only [maxLen]; omega) (by omega) ?_; intro v' w' hb ha hg; have hn2 := hnb.step hb ha hg; clear hb ha hg)
    go_ret
    rw [Nat.zero_add, List.nil_append] at hn2
    exact ⟨_, rfl, hn2⟩

theorem ints_one (m : Nat) : ∀ u ∈ ints m, u.oneCell' = true := by
  intro u hu
  unfold ints at hu
  obtain ⟨x, _, rfl⟩ := List.mem_map.1 hu
  rfl

set_option maxRecDepth 10000 in
theorem pall_any (I H m : Nat) (O : Nat → Prop) (le : List UInt8 → Int) (G : IxG) (w : World) (h : IxAt Tryz.prog hty w I H O m le G) (hm : m ≤ 1000000) :
    Calls Tryz.prog 72 #[.pointer (some ⟨I, 0, none⟩)] w fun e w' => ∃ v', e = .returned v' ∧ NBuf w w' 3 1 v' m (ints m) := by
  have hc := Lib.hid (piclone_any G.al m (ints m) w (SlAt.of_buf h.all) hm (ints_one m))
  have h1 : w.cell? ⟨I, 1, none⟩ = some G.al := h.blk.cell (i := 1) rfl
  obtain ⟨A, c, hA, _⟩ := h.all.shape
  rw [hA] at h1 hc
  clear h hA
  go_enter Tryz.func72, Tryz.ntmps72
  go_wp2_with fail
  refine hc.out.mono ?_
  rintro e w' ⟨v', rfl, hn⟩
  have HN := Lib.hid hn
  clear hn
  go_wp2_with fail
  go_ret
  exact ⟨_, rfl, HN.out⟩

theorem pnew_any (w : World) : Calls Tryz.prog 32 #[] w fun e w' => ∃ I M, e = .returned (.pointer (some ⟨I, 0, none⟩)) ∧ Below w.heap.size w w' ∧ w.heap.size ≤ I ∧ w.heap.size ≤ M ∧ Blk w' I 151 #[.map (some M), .slice none 0 0] ∧ MfAt Tryz.prog 9 kyS elM none w' M 0 (fun _ => none) := by
  have hmm := @run_makeMap Tryz.prog
  go_enter Tryz.func32, Tryz.ntmps32
  go_wp2_with fail
  go_ret
  refine ⟨w.heap.size + 1, w.heap.size, by simp, (((Below.refl _ w).alloc (Nat.le_refl _) _).alloc (by simp) _), by omega, Nat.le_refl _, ?_, ?_⟩
  · have := Blk.new (w.alloc (.map #[] 0)) #[.map (some w.heap.size), .slice none 0 0] 151
    simpa using this
  · exact (MfAt.made w _ _ _ _ _).below (below_alloc1 _ _)

end Go.Proofs.YtnoebccoaeiakaaGreatDoor

namespace Go.Bar.Hd
open Go.RowKit Go.Bar
section
variable {P : Program} {T : HTy} {w w1 w2 : World} {I H m : Nat} {O : Nat → Prop} {le : List UInt8 → Int} {G : IxG}
theorem encS_of {e : TypeId} {sz n : Nat} {v : Value} {xs : List Value} (h : Buf w e sz v n xs) (hn : 0 < n) : ∃ s, v = elS.enc s := by
  obtain ⟨_, A, c, rfl, hnc, _, hv⟩ := h
  obtain ⟨b, o, _, _, rfl, _⟩ := hv (by omega)
  exact ⟨(some (b, o), n, c), rfl⟩
theorem IxAt.cur (h : IxAt P T w I H O m le G) {a v : List UInt8} {b : Nat} (ha : G.fo a = some (some b)) : ∃ k xs, Buf w T.it 1 (elS.enc ((G.fi a v).getD nilS)) k (zs xs) ∧ (∀ x ∈ xs, x ≤ le a) ∧ k ≤ G.N ∧ (elS.enc ((G.fi a v).getD nilS)).ownBlock ≠ some b ∧ (∀ r, (elS.enc ((G.fi a v).getD nilS)).ownBlock = some r → H ≤ r) := by
  cases hv : G.fi a v with
  | none => exact ⟨0, [], Buf.nil w T.it 1, fun x hx => (by cases hx), Nat.zero_le _, fun e => (by cases e), fun r e => (by cases e)⟩
  | some s =>
    obtain ⟨k, xs, hb, hx, hk, hk0, ho⟩ := h.lst a _ v s ha hv
    obtain ⟨b', e, _, hm⟩ := h.inn a _ ha
    injection e with e
    subst e
    exact ⟨k, xs, hb, hx, hk, map_ne hm.is_map hb hk0, ho⟩
theorem IxAt.vals (h : IxAt P T w I H O m le G) {a : List UInt8} {b : Nat} (ha : G.fo a = some (some b)) : H ≤ b ∧ ¬ O b ∧ MfAt P T.st kyS elS nilS w b G.N (G.fi a) := by
  obtain ⟨b', e, hb, hm⟩ := h.inn a _ ha
  injection e with e
  subst e
  exact ⟨Nat.le_trans h.hM.1 (Nat.le_of_lt hb.1), hb.2, hm⟩
theorem below_grown {b : Nat} (hg : w.grownBy w2 (some b)) (hb : H ≤ b) (hH : H ≤ w.heap.size) : Below H w w2 :=
  ⟨hg.os, hg.tape, hg.output, hg.size, fun k hk => hg.block k (Nat.lt_of_lt_of_le hk hH) (fun e => by injection e with e; omega)⟩
structure IxX (T : HTy) (H : Nat) (O : Nat → Prop) (w w' : World) : Prop where
  kx : Kx (fun t => t = T.ix ∨ t = T.it) (fun b => H ≤ b ∧ ¬ O b) w w'
  bel : Below H w w'
theorem IxX.trans {a b c : World} (h : IxX T H O a b) (k : IxX T H O b c) : IxX T H O a c := ⟨h.kx.trans k.kx, h.bel.trans k.bel⟩
theorem IxX.of_below (h : Below w.heap.size w w1) (hH : H ≤ w.heap.size) : IxX T H O w w1 := ⟨Kx.of_below h, h.mono hH⟩
theorem IxX.size (h : IxX T H O w w1) (hH : H ≤ w.heap.size) : H ≤ w1.heap.size := Nat.le_trans hH h.kx.kc.size
theorem IxAt.more_x (h : IxAt P T w I H O m le G) {v1 : Value} (happ : App w G.al T.it 1 m (ints m) w1 v1 1 [.int .i64 ((m : Int) + 1)]) (hH : H ≤ w.heap.size) : IxX T H O w (w1.setCell ⟨I, 1, none⟩ v1) := by
  have x1 : Kx (fun t => t = T.ix ∨ t = T.it) (fun b => H ≤ b ∧ ¬ O b) w w1 := Kx.of_ap happ.start happ.ap (.inr rfl)
  have b1 : Blk w1 I T.ix #[.map (some G.M), G.al] := by
    have x1' : Kx (fun t => t = T.it) (fun b => H ≤ b ∧ ¬ O b) w w1 := Kx.of_ap happ.start happ.ap rfl
    exact x1'.blk h.blk T.ixit
  exact ⟨x1.trans (Kx.of_set b1 (.inl rfl) 1 v1), (happ.ap.below hH h.alo).setCell h.hI v1⟩
theorem IxAt.put_x (h : IxAt P T w I H O m le G) {a v : List UInt8} {b k : Nat} {s1 : Slp} {xs : List Int} {n : Int} (ha : G.fo a = some (some b)) (happ : App w (elS.enc ((G.fi a v).getD nilS)) T.it 1 k (zs xs) w1 (elS.enc s1) 1 [.int .i64 n]) (hH : H ≤ w.heap.size) :
    MfAt P T.st kyS elS nilS w1 b G.N (G.fi a) ∧ ∀ w2, w1.grownBy w2 (some b) → IxX T H O w w2 := by
  obtain ⟨hHb, hO, hm⟩ := h.vals ha
  obtain ⟨_, _, _, _, _, hne, ho⟩ := h.cur (v := v) ha
  have hm1 := hm.grownF happ.ap.grownBy hne
  refine ⟨hm1, fun w2 hg => ⟨(Kx.of_ap happ.start happ.ap (.inr rfl)).trans (Kx.of_map hm1.is_map hg ⟨hHb, hO⟩), (happ.ap.below hH ho).trans (below_grown hg hHb (Nat.le_trans hH happ.ap.size))⟩⟩
theorem IxAt.name_x (h : IxAt P T w I H O m le G) (hg : (w.alloc (.map #[] 0)).grownBy w2 (some G.M)) (hH : H ≤ w.heap.size) : IxX T H O w w2 := by
  have h0 := h.below ((Below.refl _ w).alloc (Nat.le_refl _) (.map #[] 0))
  have hb0 := (Below.refl _ w).alloc (Nat.le_refl w.heap.size) (.map #[] 0)
  exact (IxX.of_below hb0 hH).trans ⟨Kx.of_map h0.mp.is_map hg ⟨h.hM.1, h.hM.2⟩, below_grown hg h.hM.1 (Nat.le_trans hH hb0.size)⟩
end
end Go.Bar.Hd
namespace Go.Proofs.YtnoebccoaeiakaaGreatDoor
open Go.RowKit Go.Bar Go.Bar.Leb Go.Bar.Lab Go.Bar.Xor Go.Bar.Mrg Go.Bar.Hd
attribute [local go_sem] Oper.semAt_some
theorem okN {L : List Pr} (h : Ok L) : (L.map (·.1)).Nodup := rise_unlike h.2.2.2
theorem okL {L : List Pr} (h : Ok L) {p : Pr} (hp : p ∈ L) : p.1.length ≤ 40 ∧ p.2.length ≤ 40 := by have := okP_len (h.2.2.1 p hp); exact ⟨this.1, this.2.1⟩

def FinName (I H m : Nat) (O : Nat → Prop) (le : List UInt8 → Int) (w0 : World) (p : List UInt8) (B N : Nat) (_ : Nat → Value) (wy : World) : Prop := ∃ G', IxAt Tryz.prog hty wy I H O m le G' ∧ IxX hty H O w0 wy ∧ G'.fo p = some (some B) ∧ G'.N = N

def MidPut (w0 : World) (sv : Value) (k : Nat) (xs : List Int) (n : Int) (vs : Nat → Value) (wy : World) : Prop := ∃ s1 wx, vs 8 = elS.enc s1 ∧ Below w0.heap.size w0 wx ∧ App wx sv 3 1 k (zs xs) wy (elS.enc s1) 1 [.int .i64 n]
def FinPut (I H m : Nat) (O : Nat → Prop) (le : List UInt8 → Int) (w0 : World) (N : Nat) (_ : Nat → Value) (wy : World) : Prop := ∃ G', IxAt Tryz.prog hty wy I H O m le G' ∧ IxX hty H O w0 wy ∧ G'.N = N

set_option maxHeartbeats 4000000 in
set_option maxRecDepth 10000 in
theorem ixAdd_any (I H m : Nat) (O : Nat → Prop) (G : IxG) (L : List Pr) (v : Value) (w : World) (h : IxAt Tryz.prog hty w I H O m (fun _ => (m : Int)) G) (hl : Buf w 155 2 v L.length (pcs L)) (hok : Ok L) (hm : m ≤ 1000000) (hN : G.N ≤ 16 * m) (hH : H ≤ w.heap.size) :
    Calls Tryz.prog 67 #[.pointer (some ⟨I, 0, none⟩), .int .i64 ((m : Int) + 1), v] w fun e w' => e = .returned (.tuple #[]) ∧
      ∃ G', IxAt Tryz.prog hty w' I H O (m + 1) (fun _ => ((m + 1 : Nat) : Int)) G' ∧ IxX hty H O w w' ∧ G'.N ≤ 16 * (m + 1) := by
  obtain ⟨A, c, rfl, hlc⟩ := hl.shape
  have hL8 : L.length ≤ 8 := hok.2.1
  have hins := Lib.hid (pinsert_any G.al m ((List.range' 1 m).map fun i : Nat => (i : Int)) ((m : Int) + 1) w (by
    have : zs ((List.range' 1 m).map fun i : Nat => (i : Int)) = ints m := by unfold zs ints; rw [List.map_map]; rfl
    rw [this]; exact h.all) (fun x hx => by
      obtain ⟨y, hy, rfl⟩ := List.mem_map.1 hx
      have := List.mem_range'_1.1 hy
      omega) (by omega))
  have hzi : zs ((List.range' 1 m).map fun i : Nat => (i : Int)) = ints m := by unfold zs ints; rw [List.map_map]; rfl
  rw [hzi] at hins
  have h1 : w.cell? ⟨I, 1, none⟩ = some G.al := h.blk.cell (i := 1) rfl
  obtain ⟨gA, gc, hgA, _⟩ := h.all.shape
  have HI := Lib.hid h
  have HL := Lib.hid hl
  have HOK := Lib.hid hok
  have HGA := Lib.hid hgA
  rw [hgA] at h1 hins
  clear hl hok hgA h hzi
  go_enter Tryz.func67, Tryz.ntmps67
  go_upto_region 1 with (go_at_call 103; refine hins.out.mono ?_; rintro e w1 ⟨v1, rfl, ha1⟩; obtain ⟨vA, vc, rfl, _⟩ := ha1.buf.shape; have b1 := (show Kx (fun t => t = hty.it) (fun b => H ≤ b ∧ ¬ O b) w w1 from Kx.of_ap ha1.start ha1.ap rfl).blk HI.out.blk hty.ixit; have f1 := b1.free 1; have q1 := b1.cell (i := 1) rfl; have HA1 := Lib.hid ha1; clear ha1)
  have X0 : Hid (IxAt Tryz.prog hty (w1.setCell ⟨I, 1, none⟩ (.slice vA (m + 1) vc)) I H O (m + 1) (leJ L 0 m) { G with al := .slice vA (m + 1) vc }) := Lib.hid (by
    rw [leJ_zero]
    have ha := HA1.out
    rw [← HGA.out] at ha
    exact HI.out.more ha hH)
  have F0 : Hid (IxX hty H O w (w1.setCell ⟨I, 1, none⟩ (.slice vA (m + 1) vc))) := Lib.hid (by
    have ha := HA1.out
    rw [← HGA.out] at ha
    exact HI.out.more_x ha hH)
  obtain ⟨w2, hw2⟩ : ∃ w2, w2 = w1.setCell ⟨I, 1, none⟩ (.slice vA (m + 1) vc) := ⟨_, rfl⟩
  rw [← hw2] at X0 F0 ⊢
  clear hw2 b1 f1 q1 HA1 hins h1
  go_wp2_with fail
  go_loopw [20, 7, 8] (fun i _ _ wr => ∃ (j : Nat) (Gj : IxG), i = .int .i64 j ∧ j ≤ L.length ∧ Hid (IxAt Tryz.prog hty wr I H O (m + 1) (leJ L j m) Gj) ∧ Hid (IxX hty H O w wr) ∧ Gj.N ≤ 16 * m + 2 * j) (fun i _ _ _ => L.length - (intOf i).toNat)
  case atStart => exact ⟨0, _, rfl, Nat.zero_le _, X0, F0, by show G.N ≤ _; omega⟩
  case round =>
    clear X0 F0
    obtain ⟨j, Gj, rfl, hj, HX, HF, hNj⟩ := hrel
    have hHr := HF.out.size hH
    by_cases hgo : j < L.length
    · obtain ⟨⟨p1, p2⟩, hpk⟩ : ∃ p, L[j]? = some p := ⟨_, List.getElem?_eq_getElem hgo⟩
      have hls := HF.out.kx.buf HL.out (by decide)
      obtain ⟨b, o, rfl, hbb, c0, c1⟩ := (show PsAt wr (.slice A L.length c) L from SlAt.of_buf hls).at_ hpk
      obtain ⟨hp1, hp2⟩ := okL HOK.out (List.mem_of_getElem? hpk)
      have HP := Lib.hid hpk
      have hci : (0 : Int) ≤ (j : Int) := by omega
      have hci2 : (j : Int) < L.length := by omega
      have hk1 : p1.length ≤ maxLen := by unfold maxLen; simp only at hp1; omega
      have hk2 : p2.length ≤ maxLen := by unfold maxLen; simp only at hp2; omega
      dsimp only at c0 c1
      clear hpk hls
      go_upto_region 4 with fail
      have hba : Below wr.heap.size wr (wr.alloc (.cells #[.string (bs p1), .string (bs p2)] 155)) := (Below.refl _ _).alloc (Nat.le_refl _) _
      have BP := Blk.new wr #[.string (bs p1), .string (bs p2)] 155
      obtain ⟨wa, hwa⟩ : ∃ wa, wa = wr.alloc (.cells #[.string (bs p1), .string (bs p2)] 155) := ⟨_, rfl⟩
      obtain ⟨K, hK⟩ : ∃ K, K = wr.heap.size := ⟨_, rfl⟩
      rw [← hwa] at hba BP ⊢
      rw [← hK] at BP ⊢
      have HXa := Lib.hid (HX.out.below hba)
      have HFa := Lib.hid (HF.out.trans (IxX.of_below hba hHr))
      clear hba hwa c0 c1 HX HF hK
      rcases hfo : Gj.fo p1 with _ | q0
      case' none =>
        have hlk := fun wx (hw : Below wa.heap.size wa wx) => (HXa.out.mp.below hw).look mtyI p1 hk1
        rw [hfo] at hlk
        have HLK := Lib.hid hlk
        have HFO := Lib.hid hfo
        clear hlk hfo
        refine wp_region_known [(3, .map (some Gj.M)), (5, .string (bs p1)), (6, .map none)] (by kernel_rfl) 51 (by kernel_rfl) rfl ?_
        repeat (first
          | (refine Chain.step (v := ?_) (a' := ?_) rfl rfl rfl ?_ ?_ ?_; rotate_left 2; (focus (intro w; go_simp; try with_reducible rfl)); focus (simp only [Act.put, pqA, pqS, pqZ]; try rfl))
          | (refine Chain.call (i := 3) (a' := ?_) _ rfl rfl rfl (fun wx hw => ?_) ?_ ?_; rotate_left 1; (focus ((have y0 := (HXa.out.blk.below hw).cell (i := 0) rfl; go_simp; first | exact ⟨rfl, rB⟩ | exact rB))); focus (simp only [Act.put, pqA, pqS, pqZ]; try rfl))
          | (refine Chain.call (i := 5) (a' := ?_) _ rfl rfl rfl (fun wx hw => ?_) ?_ ?_; rotate_left 1; (focus ((have y0 := (BP.below hw).cell (i := 0) rfl; go_simp; first | exact ⟨rfl, rB⟩ | exact rB))); focus (simp only [Act.put, pqA, pqS, pqZ]; try rfl))
          | (refine Chain.call (i := 6) (a' := ?_) _ rfl rfl rfl (fun wx hw => ?_) ?_ ?_; rotate_left 1; (focus ((have y0 : (Instr.lookup 149 (.map (some Gj.M)) (.string (bs p1)) false).run Tryz.prog wx = .ok (.map none) wx := HLK.out wx hw; go_simp; first | exact ⟨rfl, rB⟩ | exact rB))); focus (simp only [Act.put, pqA, pqS, pqZ]; try rfl))
          | (refine Chain.skip (a' := ?_) rfl rfl rfl ?_ ?_; rotate_left 1; focus (simp only [Act.put, pqA, pqS, pqZ]; try rfl)))
        refine Chain.end_ (fun wz hwz _ => ?_)
        have hmm := @run_makeMap Tryz.prog
        have hnl := fun w => eql_map_nil (P := Tryz.prog) w none Tryz.underlying207
        go_upto_region 7 with fail
        clear hmm hnl
        have HXz := Lib.hid (HXa.out.below hwz)
        have HFz := Lib.hid (HFa.out.trans (IxX.of_below hwz (HFa.out.size hH)))
        have BPz := BP.below hwz
        have hHz := HFz.out.size hH
        have FN : Hid (∀ vs wx w5, Below (wz.alloc (.map #[] 0)).heap.size (wz.alloc (.map #[] 0)) wx → MfAt Tryz.prog 9 kyS elM none w5 Gj.M (Gj.N + 1) (updF Gj.fo p1 (some wz.heap.size)) → wx.grownBy w5 (some Gj.M) → FinName I H (m + 1) O (leJ L j m) wz p1 wz.heap.size (Gj.N + 1) vs w5) := Lib.hid (fun _ wx w5 hb hm5 hg5 => ⟨_, HXz.out.name HFO.out (grown_after hb hg5) hm5, HXz.out.name_x (grown_after hb hg5) hHz, updF_same _ _ _, rfl⟩)
        have hb0 : Below wz.heap.size wz (wz.alloc (.map #[] 0)) := (Below.refl _ _).alloc (Nat.le_refl _) _
        have MB := Lib.hid (HXz.out.below hb0)
        have BPb := BPz.below hb0
        obtain ⟨B, hB⟩ : ∃ B, B = wz.heap.size := ⟨_, rfl⟩
        obtain ⟨wb, hwb⟩ : ∃ wb, wb = wz.alloc (.map #[] 0) := ⟨_, rfl⟩
        rw [← hwb] at FN MB BPb ⊢
        rw [← hB] at FN ⊢
        clear hwb hB hb0 HXa HFa BP HLK hwz
        have hNm : Gj.N < maxLen := by unfold maxLen; omega
        have hstT : ∀ k v w w', Below w.heap.size w w' → Dv.factOf ([(3, ((fun v => v = (.map (some Gj.M))), noFact, 3)), (5, ((fun v => v = (.string (bs p1))), noFact, 5)), (7, ((fun _ => True), noFact, 7))] : List (Nat × Dv.Kp)) k v w → Dv.factOf ([(3, ((fun v => v = (.map (some Gj.M))), noFact, 3)), (5, ((fun v => v = (.string (bs p1))), noFact, 5)), (7, ((fun _ => True), noFact, 7))] : List (Nat × Dv.Kp)) k v w' := Dv.fact_st (by
          simp only [List.forall_mem_cons, List.not_mem_nil, false_imp_iff, implies_true, and_true]
          refine ⟨?_, ?_, ?_⟩
          · exact fun _ _ _ _ _ => trivial
          · exact fun _ _ _ _ _ => trivial
          · exact fun _ _ _ _ _ => trivial)
        have htrT : ∀ x ∈ ([(3, ((fun v => v = (.map (some Gj.M))), noFact, 3)), (5, ((fun v => v = (.string (bs p1))), noFact, 5)), (7, ((fun _ => True), noFact, 7))] : List (Nat × Dv.Kp)), (([(3, ((fun v => v = (.map (some Gj.M))), noFact, 3)), (5, ((fun v => v = (.string (bs p1))), noFact, 5)), (7, ((fun _ => True), noFact, 7))] : List (Nat × Dv.Kp)).lookup x.2.2.2).isSome = true := by
          simp only [List.forall_mem_cons, List.not_mem_nil, false_imp_iff, implies_true, and_true]
          exact ⟨by kernel_rfl, by kernel_rfl, by kernel_rfl⟩
        refine Dv.wp_region_two (L := ([(3, ((fun v => v = (.map (some Gj.M))), noFact, 3)), (5, ((fun v => v = (.string (bs p1))), noFact, 5)), (7, ((fun _ => True), noFact, 7))] : List (Nat × Dv.Kp))) (m := 7) (Fin := (FinName I H (m + 1) O (leJ L j m) wz p1 B (Gj.N + 1))) (by kernel_rfl) 51 (by kernel_rfl) rfl (by kernel_rfl) ?_ ?_ ?_
        · simp only [List.forall_mem_cons, List.not_mem_nil, false_imp_iff, implies_true, and_true]
          exact ⟨⟨_, rfl⟩, ⟨_, rfl⟩, ⟨.bool true, trivial⟩⟩
        · exact (fun _ _ _ _ h => h)
        repeat (first
          | (refine Dv.Chain.step (v := ?_) (a' := ?_) rfl rfl rfl ?_ ?_ ?_; rotate_left 2; (focus (intro w; go_simp; try with_reducible rfl)); focus (simp only [Act.put, pqA, pqS, pqZ]; try rfl))
          | (refine Dv.XT.call (i := 3) (a' := ?_) _ _ rfl (by decide) hstT rfl rfl (fun wx hw hF => ?_) htrT ?_ ?_; rotate_left 1; (focus ((have y0 := (MB.out.blk.below hw).cell (i := 0) rfl; go_simp; first | exact ⟨rfl, rB⟩ | exact rB))); focus (simp only [Act.put, pqA, pqS, pqZ]; try rfl))
          | (refine Dv.XT.call (i := 5) (a' := ?_) _ _ rfl (by decide) hstT rfl rfl (fun wx hw hF => ?_) htrT ?_ ?_; rotate_left 1; (focus ((have y0 := (BPb.below hw).cell (i := 0) rfl; go_simp; first | exact ⟨rfl, rB⟩ | exact rB))); focus (simp only [Act.put, pqA, pqS, pqZ]; try rfl))
          | (refine Dv.XT.last (i := 7) _ _ _ rfl rfl (by kernel_rfl) rfl rfl (fun vs wx hw hF => ?_) (fun v7 hv7 a' ha => ?_); (focus ((refine oper_update_mf _ _ _ 149 rfl mtyI rfl (MB.out.mp.below hw) hNm p1 rfl hk1 (some B) rfl ?_; intro w5 hm5 hg5; exact ⟨_, rfl, trivial, FN.out _ _ _ hw hm5 hg5⟩))); obtain _ := hv7; simp only [Act.put] at ha; subst ha)
          | (refine Dv.Chain.skip' (a' := ?_) rfl rfl rfl ?_ ?_; rotate_left 1; focus (simp only [Act.put, pqA, pqS, pqZ]; try rfl)))
        refine Dv.XT.end_ (by decide) (fun vs w8 hv hfin => ?_)
        obtain ⟨G8, X8, F8, hfo8, hN8⟩ := hfin
        have BP8 := F8.kx.blk BPz (by decide)
        have H8 := Lib.hid (HFz.out.trans F8)
        have hN8' : G8.N ≤ 16 * m + 2 * j + 1 := by omega
        have HF8 := Lib.hid hfo8
        have HX8 := Lib.hid X8
        obtain ⟨q, hq⟩ : ∃ q, q = B := ⟨_, rfl⟩
        rw [← hq] at HF8 ⊢
        go_upto_region 8 with fail
        clear hq hN8 hfo8 X8 F8 hv FN MB BPb BPz HXz HFz hNm hHz HFO
      case' some =>
        obtain ⟨q', hq', _⟩ := HXa.out.inn p1 q0 hfo
        subst hq'
        have hlk := fun wx (hw : Below wa.heap.size wa wx) => (HXa.out.mp.below hw).look mtyI p1 hk1
        rw [hfo] at hlk
        have HLK := Lib.hid hlk
        have HF8 := Lib.hid hfo
        clear hlk hfo
        refine wp_region_known [(3, .map (some Gj.M)), (5, .string (bs p1)), (6, .map (some q'))] (by kernel_rfl) 51 (by kernel_rfl) rfl ?_
        repeat (first
          | (refine Chain.step (v := ?_) (a' := ?_) rfl rfl rfl ?_ ?_ ?_; rotate_left 2; (focus (intro w; go_simp; try with_reducible rfl)); focus (simp only [Act.put, pqA, pqS, pqZ]; try rfl))
          | (refine Chain.call (i := 3) (a' := ?_) _ rfl rfl rfl (fun wx hw => ?_) ?_ ?_; rotate_left 1; (focus ((have y0 := (HXa.out.blk.below hw).cell (i := 0) rfl; go_simp; first | exact ⟨rfl, rB⟩ | exact rB))); focus (simp only [Act.put, pqA, pqS, pqZ]; try rfl))
          | (refine Chain.call (i := 5) (a' := ?_) _ rfl rfl rfl (fun wx hw => ?_) ?_ ?_; rotate_left 1; (focus ((have y0 := (BP.below hw).cell (i := 0) rfl; go_simp; first | exact ⟨rfl, rB⟩ | exact rB))); focus (simp only [Act.put, pqA, pqS, pqZ]; try rfl))
          | (refine Chain.call (i := 6) (a' := ?_) _ rfl rfl rfl (fun wx hw => ?_) ?_ ?_; rotate_left 1; (focus ((have y0 : (Instr.lookup 149 (.map (some Gj.M)) (.string (bs p1)) false).run Tryz.prog wx = .ok (.map (some q')) wx := HLK.out wx hw; go_simp; first | exact ⟨rfl, rB⟩ | exact rB))); focus (simp only [Act.put, pqA, pqS, pqZ]; try rfl))
          | (refine Chain.skip (a' := ?_) rfl rfl rfl ?_ ?_; rotate_left 1; focus (simp only [Act.put, pqA, pqS, pqZ]; try rfl)))
        refine Chain.end_ (fun w8 hwz _ => ?_)
        have hnl := fun w => eql_map_nil (P := Tryz.prog) w (some q') Tryz.underlying207
        go_upto_region 8 with fail
        clear hnl HLK
        have HX8 := Lib.hid (HXa.out.below hwz)
        have H8 := Lib.hid (HFa.out.trans (IxX.of_below hwz (HFa.out.size hH)))
        have BP8 := BP.below hwz
        have hN8' : Gj.N ≤ 16 * m + 2 * j + 1 := by omega
        clear HXa HFa BP hwz
        obtain ⟨q, rfl⟩ : ∃ q, q = q' := ⟨_, rfl⟩
        obtain ⟨G8, rfl⟩ : ∃ G8, G8 = Gj := ⟨_, rfl⟩
      all_goals
        obtain ⟨hHq, hOq, hMq⟩ := HX8.out.vals HF8.out
        obtain ⟨k, xs, hb, hxs, hkN, hne, hown⟩ := HX8.out.cur (v := p2) HF8.out
        rw [leJ_cur HP.out (okN HOK.out)] at hxs
        have hk6 : k ≤ 1000000 * 16 + 100 := by omega
        have hlk := fun wx (hw : Below w8.heap.size w8 wx) => (hMq.below hw).look mtyJ p2 hk2
        obtain ⟨s, hs⟩ : ∃ s, s = (G8.fi p1 p2).getD nilS := ⟨_, rfl⟩
        have hins := fun wx (hw : Below w8.heap.size w8 wx) => pinsert_any _ k xs ((m : Int) + 1) wx (hb.below hw) (fun x hx => by have := hxs x hx; omega) (by omega)
        have hm9 := fun wx w9 s1 (hw : Below w8.heap.size w8 wx) (ha : App wx (elS.enc ((G8.fi p1 p2).getD nilS)) 3 1 k (zs xs) w9 (elS.enc s1) 1 [.int .i64 ((m : Int) + 1)]) => ((HX8.out.below hw).put_x HF8.out ha (Nat.le_trans (H8.out.size hH) hw.size)).1
        have hfin := fun wx w9 s1 w10 (hw : Below w8.heap.size w8 wx) (ha : App wx (elS.enc ((G8.fi p1 p2).getD nilS)) 3 1 k (zs xs) w9 (elS.enc s1) 1 [.int .i64 ((m : Int) + 1)]) (hg : w9.grownBy w10 (some q)) (hm : MfAt Tryz.prog 9 kyS elS nilS w10 q (G8.N + 1) (updF (G8.fi p1) p2 s1)) (vs : Nat → Value) =>
          (show FinPut I H (m + 1) O (leJ L (j + 1) m) w8 (G8.N + 1) vs w10 from ⟨_, by
            have h1 := (HX8.out.below hw).put HF8.out rfl hkN ha (fun x hx => by have := hxs x hx; omega) (by rw [leJ_cur HP.out (okN HOK.out)]; omega) (Nat.le_trans (H8.out.size hH) hw.size) hg hm
            rw [leJ_step HP.out] at h1
            exact h1, (IxX.of_below hw (H8.out.size hH)).trans (((HX8.out.below hw).put_x HF8.out ha (Nat.le_trans (H8.out.size hH) hw.size)).2 w10 hg), rfl⟩)
        rw [← hs] at hlk hins hm9 hfin hb
        obtain ⟨sp, sn, sc⟩ := s
        obtain ⟨_, _, hse, _⟩ := hb.shape
        injection hse with _ hse _
        dsimp only at hse
        subst hse
        obtain ⟨sA, hsA⟩ : ∃ sA : Option Addr, sA = sp.map fun q => ⟨q.1, q.2, none⟩ := ⟨_, rfl⟩
        replace hlk : ∀ wx, Below w8.heap.size w8 wx → (Instr.lookup 207 (.map (some q)) (.string (bs p2)) false).run Tryz.prog wx = .ok (.slice sA sn sc) wx := fun wx hw => by rw [hsA]; exact hlk wx hw
        have hsv : elS.enc (sp, sn, sc) = .slice sA sn sc := by rw [hsA]; rfl
        rw [hsv] at hins hm9 hfin
        have HLK := Lib.hid hlk
        have HINS := Lib.hid hins
        have HM9 := Lib.hid hm9
        have HFIN := Lib.hid hfin
        have hNm : G8.N < maxLen := by unfold maxLen; omega
        clear hlk hins hm9 hfin hs hsA hsv hb hxs hne hown hMq
        have hstT : ∀ k v w w', Below w.heap.size w w' → Dv.factQ ([(2, ((fun v => v = (.string (bs p2))), noFact)), (5, ((fun v => v = (.string (bs p2))), noFact)), (6, ((fun v => v = (.slice sA sn sc)), noFact)), (8, ((fun v => ∃ A c, v = .slice A (sn + 1) c), noFact)), (9, ((fun _ => True), noFact))] : List (Nat × Dv.Kq)) k v w → Dv.factQ ([(2, ((fun v => v = (.string (bs p2))), noFact)), (5, ((fun v => v = (.string (bs p2))), noFact)), (6, ((fun v => v = (.slice sA sn sc)), noFact)), (8, ((fun v => ∃ A c, v = .slice A (sn + 1) c), noFact)), (9, ((fun _ => True), noFact))] : List (Nat × Dv.Kq)) k v w' := Dv.factQ_st (by
          simp only [List.forall_mem_cons, List.not_mem_nil, false_imp_iff, implies_true, and_true]
          exact ⟨fun _ _ _ _ _ => trivial, fun _ _ _ _ _ => trivial, fun _ _ _ _ _ => trivial, fun _ _ _ _ _ => trivial, fun _ _ _ _ _ => trivial⟩)
        refine Dv.wp_region_piv (L := ([(2, ((fun v => v = (.string (bs p2))), noFact)), (5, ((fun v => v = (.string (bs p2))), noFact)), (6, ((fun v => v = (.slice sA sn sc)), noFact)), (8, ((fun v => ∃ A c, v = .slice A (sn + 1) c), noFact)), (9, ((fun _ => True), noFact))] : List (Nat × Dv.Kq))) (p := 8) (m := 9) (Mid := (MidPut w8 (.slice sA sn sc) sn xs ((m : Int) + 1))) (Fin := (FinPut I H (m + 1) O (leJ L (j + 1) m) w8 (G8.N + 1))) (by kernel_rfl) 51 (by kernel_rfl) rfl (by kernel_rfl) (by kernel_rfl) ?_ ?_ ?_ ?_
        · simp only [List.forall_mem_cons, List.not_mem_nil, false_imp_iff, implies_true, and_true]
          exact ⟨⟨_, rfl⟩, ⟨_, rfl⟩, ⟨_, rfl⟩, ⟨_, none, 0, rfl⟩, ⟨.bool true, trivial⟩⟩
        · exact (fun vs vs' w' h hf => by unfold MidPut at hf ⊢; rw [← h 8 (by kernel_rfl) (.inr rfl)]; exact hf)
        · exact (fun _ _ _ _ h => h)
        repeat (first
          | (refine Dv.Chain.step (v := ?_) (a' := ?_) rfl rfl rfl ?_ ?_ ?_; rotate_left 2; (focus (intro w; go_simp; try with_reducible rfl)); focus (simp only [Act.put, pqA, pqS, pqZ]; try rfl))
          | (refine Dv.XP.late (i := 2) _ rfl (by decide) (by decide) (by kernel_rfl) ((fun vs vs' w' h hf => by unfold MidPut at hf ⊢; rw [← h 8 (by kernel_rfl) (.inr rfl)]; exact hf)) rfl rfl (fun wx hw hF => ?_) (fun vs wx hM hF => ?_) (fun v2 hv2 a' ha => ?_)
             (focus ((have y0 := (BP8.below hw).cell (i := 1) rfl; go_simp)))
             focus
               (obtain ⟨s1, wq, _, hbq, haq⟩ := hM; have y0 := ((BP8.below hbq).ap haq.start haq.ap (by decide)).cell (i := 1) rfl; go_simp)
             obtain rfl := hv2
             simp only [Act.put, pqA, pqS, pqZ] at ha
             subst ha)
          | (refine Dv.XP.make (i := 5) _ _ rfl (by decide) (by decide) (by kernel_rfl) hstT rfl rfl (fun wx hw hF => ?_) (fun v5 hv5 a' ha => ?_); (focus ((have y0 := (BP8.below hw).cell (i := 1) rfl; go_simp; first | exact ⟨rB, trivial⟩ | exact rB))); obtain rfl := hv5; simp only [Act.put, pqA, pqS, pqZ] at ha; subst ha)
          | (refine Dv.XP.make (i := 6) _ _ rfl (by decide) (by decide) (by kernel_rfl) hstT rfl rfl (fun wx hw hF => ?_) (fun v6 hv6 a' ha => ?_); (focus ((have y0 := HLK.out wx hw; go_simp; first | exact ⟨rB, trivial⟩ | exact rB))); obtain rfl := hv6; simp only [Act.put, pqA, pqS, pqZ] at ha; subst ha)
          | (refine Dv.XP.pivot (i := 8) _ _ rfl rfl (by decide) rfl rfl (fun vs wx hw hF => ?_) (fun v8 hv8 a' ha => ?_); (focus (go_simp); (with_reducible refine (HINS.out wx hw).mono ?_); (rintro e w9 ⟨v9, rfl, ha9⟩); (obtain ⟨A9, c9, rfl, _⟩ := ha9.buf.shape); (obtain ⟨s1, hs1⟩ := encS_of ha9.buf (Nat.succ_pos _)); (exact ⟨⟨_, _, rfl⟩, s1, wx, hs1, hw, by rw [← hs1]; exact ha9⟩)); obtain ⟨A9, c9, rfl⟩ := hv8; simp only [Act.put, pqA, pqS, pqZ] at ha; subst ha)
          | (refine Dv.XP.last (i := 9) _ _ rfl rfl (by decide) (by kernel_rfl) rfl rfl (fun vs wx hM hF => ?_) (fun v9 hv9 a' ha => ?_); (focus ((obtain ⟨s1, wq, hvs, hbq, haq⟩ := hM; refine oper_update_mf _ _ _ 207 rfl mtyJ rfl (HM9.out wq wx s1 hbq haq) hNm p2 rfl hk2 s1 ((hF 8 _ (by kernel_rfl) rfl).symm.trans hvs) ?_; intro w10 hm10 hg10; exact ⟨_, rfl, trivial, HFIN.out wq wx s1 w10 hbq haq hg10 hm10 _⟩))); obtain _ := hv9; simp only [Act.put] at ha; subst ha)
          | (refine Dv.XP.skip (a' := ?_) rfl rfl rfl ?_ ?_; rotate_left 1; focus (simp only [Act.put, pqA, pqS, pqZ]; try rfl)))
        refine Dv.XP.end_ (by decide) (fun vs w10 hv hfin => ?_)
        obtain ⟨G10, X10, F10, hN10⟩ := hfin
        have HX10 := Lib.hid X10
        have HF10 := Lib.hid (H8.out.trans F10)
        clear hv X10 F10 HFIN HM9 HINS HLK H8 HX8 BP8
        go_wp2_with fail
        go_roundw
        case rel => exact ⟨j + 1, G10, by go_num, by omega, HX10, HF10, by omega⟩
        case measure => simp [intOf]; omega
    · obtain rfl : j = L.length := by omega
      have hX : IxAt Tryz.prog hty wr I H O (m + 1) (fun _ => ((m + 1 : Nat) : Int)) Gj := HX.out.le_mono (fun a => by have := (leJ_le L L.length m a).2; push_cast; omega)
      have HZ := Lib.hid hX
      clear hX HX
      go_wp2_with fail
      go_end0
      exact ⟨rfl, Gj, HZ.out, HF.out, by omega⟩
end Go.Proofs.YtnoebccoaeiakaaGreatDoor
