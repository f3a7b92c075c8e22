/-
  Layer 25: a ledger in memory; the walks of row, with, Sure, May, Open, Done, Tried.
-/
import Derived.Test.YtjklcojnbcemoaaGreatDoorZLdgA
import Derived.Test.YtjklcojnbcemoaaGreatDoorZMrgAE
import Derived.Deep.RegionLaw

namespace Go.Proofs.YtjklcojnbcemoaaGreatDoor
open Go.RowKit Go.Bar Go.Bar.Leb Go.Bar.Lab Go.Bar.Xor Go.Bar.Mrg

/-- labels of the laws -/
def IsL (L : List Pr) : Prop := ∃ m, L = lab5 m
theorem IsL.len {L : List Pr} (h : IsL L) : L.length ≤ 2 := by obtain ⟨m, rfl⟩ := h; exact lab5_len m
/-- a small table of the laws' labels -/
def SzP (R : List Row) (n : Nat) : Prop := R.length ≤ n ∧ ∀ r ∈ R, IsL r.1 ∧ r.2.length ≤ n
theorem SzP.nil {n : Nat} : SzP [] n := ⟨Nat.zero_le _, fun x hx => by cases hx⟩
theorem SzP.mono {R : List Row} {n m : Nat} (h : SzP R n) (hm : n ≤ m) : SzP R m := ⟨Nat.le_trans h.1 hm, fun r hr => ⟨(h.2 r hr).1, Nat.le_trans (h.2 r hr).2 hm⟩⟩
theorem SzP.addAll {R : List Row} {n : Nat} {ps : List Pt} (h : SzP R n) (hp : ∀ p ∈ ps, IsL p.1) : SzP (addAll R ps) (n + ps.length) := by
  refine ⟨?_, addAll_bound (P := IsL) ps R n hp h.2⟩
  have := addAll_len ps R
  have := h.1
  omega
theorem SzP.szd {t : List Rv} {n : Nat} (h : SzP (t.map plR) n) : Szd t n n := by
  refine ⟨by have := h.1; rwa [List.length_map] at this, fun x hx => ?_⟩
  have := h.2 (plR x) (List.mem_map_of_mem hx)
  exact ⟨this.1.len, this.2⟩

/-- the types that a ledger's own stores turn -/
abbrev Tl25 (T : TypeId) : Prop := T = 35
/-- points all of whose slices are new since W0 -/
def OwnP (W0 w : World) (v : Value) (ps : List Pv) : Prop := NBuf W0 w 46 3 v ps.length (pts3 ps) ∧ ∀ p ∈ ps, NBuf W0 w 84 2 (.slice p.la p.ls.length p.lc) p.ls.length (pcs p.ls)
section
variable {W0 W w w' : World} {v : Value} {t : List Rv} {ps : List Pv} {Ts : TypeId → Prop}
theorem OwnT.below (h : OwnT W0 w v t) (hb : Below w.heap.size w w') : OwnT W0 w' v t := ⟨h.1.then_below hb, fun x hx => ⟨(h.2 x hx).1.then_below hb, (h.2 x hx).2.then_below hb⟩⟩
theorem OwnT.after (h : OwnT W w v t) (hb : Below W0.heap.size W0 W) : OwnT W0 w v t := ⟨h.1.after hb, fun x hx => ⟨(h.2 x hx).1.after hb, (h.2 x hx).2.after hb⟩⟩
theorem OwnT.ke (h : OwnT W0 w v t) (hk : Ke Ts w w') (hb : Below W0.heap.size W0 w') (h1 : ¬ Ts 84) (h2 : ¬ Ts 42) (h3 : ¬ Ts 50) : OwnT W0 w' v t := ⟨nbuf_ke h.1 hk hb h3, fun x hx => (h.2 x hx).ke hk hb h1 h2⟩
theorem OwnT.nil (hb : Below W0.heap.size W0 w) : OwnT W0 w (.slice none 0 0) [] := ⟨NBuf.nil hb _ _, fun x hx => by cases hx⟩
theorem OwnT.shape (h : OwnT W0 w v t) : ∃ A c, v = .slice A t.length c := by obtain ⟨A, c, e, _⟩ := h.1.buf.shape; exact ⟨A, c, e⟩
theorem OwnP.below (h : OwnP W0 w v ps) (hb : Below w.heap.size w w') : OwnP W0 w' v ps := ⟨h.1.then_below hb, fun x hx => (h.2 x hx).then_below hb⟩
theorem OwnP.after (h : OwnP W w v ps) (hb : Below W0.heap.size W0 W) : OwnP W0 w v ps := ⟨h.1.after hb, fun x hx => (h.2 x hx).after hb⟩
theorem OwnP.ke (h : OwnP W0 w v ps) (hk : Ke Ts w w') (hb : Below W0.heap.size W0 w') (h1 : ¬ Ts 84) (h3 : ¬ Ts 46) : OwnP W0 w' v ps := ⟨nbuf_ke h.1 hk hb h3, fun x hx => nbuf_ke (h.2 x hx) hk hb h1⟩
theorem OwnP.nil (hb : Below W0.heap.size W0 w) : OwnP W0 w (.slice none 0 0) [] := ⟨NBuf.nil hb _ _, fun x hx => by cases hx⟩
theorem OwnP.at_ (h : OwnP W0 w v ps) : PtAt w v ps := ⟨h.1.slice, fun p hp => (h.2 p hp).slice⟩
theorem OwnP.pt (h : OwnP W0 w v ps) (hk : Ke Tl25 w w') : PtAt w' v ps := ⟨SlAt.of_buf (hk.buf h.1.buf (by decide)), fun p hp => SlAt.of_buf (hk.buf (h.2 p hp).buf (by decide))⟩
end
/-- a ledger: what must be there, what may be: all new since B -/
structure Lg (B : World) (X : Nat) (t : List Rv) (ps : List Pv) (w : World) : Prop where
  buf : ∃ A c A2 c2, Blk w X 35 #[.slice A t.length c, .slice A2 ps.length c2] ∧ OwnT B w (.slice A t.length c) t ∧ OwnP B w (.slice A2 ps.length c2) ps ∧ (ps = [] → A2 = none)
  new : B.heap.size ≤ X
theorem ke_belowB {Ts : TypeId → Prop} {a b c : World} (h : Ke Ts a b) (hb : Below a.heap.size b c) : Ke Ts a c := ⟨hb.os.trans h.os, hb.tape.trans h.tape, hb.output.trans h.output, Nat.le_trans h.size hb.size, fun k hk ht => (hb.block k hk).trans (h.block k hk ht)⟩
section
variable {B w w' : World} {X : Nat} {t t' : List Rv} {ps : List Pv}
theorem Lg.below (h : Lg B X t ps w) (hb : Below w.heap.size w w') : Lg B X t ps w' := by
  obtain ⟨⟨A, c, A2, c2, h1, h2, h3, h4⟩, hn⟩ := h
  exact ⟨⟨A, c, A2, c2, h1.below hb, h2.below hb, h3.below hb, h4⟩, hn⟩
theorem Lg.start (w : World) : Lg w w.heap.size [] [] (w.alloc (.cells #[.slice none 0 0, .slice none 0 0] 35)) :=
  ⟨⟨none, 0, none, 0, Blk.new _ _ _, OwnT.nil (below_alloc1 _ _), OwnP.nil (below_alloc1 _ _), fun _ => rfl⟩, Nat.le_refl _⟩
theorem Lg.base {B' : World} (h : Lg B X t ps w) (hb : Below B'.heap.size B' B) : Lg B' X t ps w := by
  obtain ⟨⟨A, c, A2, c2, h1, h2, h3, h4⟩, hn⟩ := h
  exact ⟨⟨A, c, A2, c2, h1, h2.after hb, h3.after hb, h4⟩, Nat.le_trans hb.size hn⟩
theorem Lg.bel (h : Lg B X t ps w) : Below B.heap.size B w := by
  obtain ⟨⟨A, c, A2, c2, h1, h2, h3⟩, hn⟩ := h
  exact h2.1.below
/-- another table -/
theorem Lg.setT {v : Value} (h : Lg B X t ps w) (hv : OwnT B w v t') : Lg B X t' ps (w.setCell ⟨X, 0, none⟩ v) ∧ Ke Tl25 w (w.setCell ⟨X, 0, none⟩ v) := by
  obtain ⟨⟨A, c, A2, c2, h1, h2, h3, h4⟩, hn⟩ := h
  obtain ⟨A', c', rfl⟩ := hv.shape
  have hk : Ke Tl25 w (w.setCell ⟨X, 0, none⟩ (.slice A' t'.length c')) := Ke.of_set (Ts := Tl25) h1 rfl 0 _
  have hb : Below B.heap.size B (w.setCell ⟨X, 0, none⟩ (.slice A' t'.length c')) := h2.1.below.setCell (p := ⟨X, 0, none⟩) hn _
  exact ⟨⟨⟨A', c', A2, c2, h1.set 0 _, hv.ke hk hb (by decide) (by decide) (by decide), h3.ke hk hb (by decide) (by decide), h4⟩, hn⟩, hk⟩
/-- other points -/
theorem Lg.setP {v : Value} {qs : List Pv} (h : Lg B X t ps w) (hv : OwnP B w v qs) (hq : qs = [] → v = .slice none 0 0) : Lg B X t qs (w.setCell ⟨X, 1, none⟩ v) ∧ Ke Tl25 w (w.setCell ⟨X, 1, none⟩ v) := by
  obtain ⟨⟨A, c, A2, c2, h1, h2, h3, h4⟩, hn⟩ := h
  obtain ⟨A', c', rfl, _⟩ := hv.1.buf.shape
  have hk : Ke Tl25 w (w.setCell ⟨X, 1, none⟩ (.slice A' qs.length c')) := Ke.of_set (Ts := Tl25) h1 rfl 1 _
  have hb : Below B.heap.size B (w.setCell ⟨X, 1, none⟩ (.slice A' qs.length c')) := h2.1.below.setCell (p := ⟨X, 1, none⟩) hn _
  exact ⟨⟨⟨A, c, A', c', h1.set 1 _, h2.ke hk hb (by decide) (by decide) (by decide), hv.ke hk hb (by decide) (by decide), fun e => by have := hq e; injection this⟩, hn⟩, hk⟩
end

/-- a table that a call hands back, all new since B -/
def RetOw (B w : World) (R : List Row) (e : Ending) (w' : World) : Prop := ∃ v t, e = .returned v ∧ Below w.heap.size w w' ∧ OwnT B w' v t ∧ t.map plR = R
theorem tables_ow2 (B : World) (v : Value) (ts : List (List Rv)) (n m p : Nat) (R : List Row) (w : World) (hB : Below B.heap.size B w) (hts : TsAt w v ts) (hn : ts.length = n) (hk : n ≤ 1000) (hz : ∀ t ∈ ts, Szd t m p) (hr : ∀ t ∈ ts, Rls (t.map plR)) (hR : ∀ S, tabs (plT ts) S → S = R)
    (h1 : n * m ≤ 1000000) (h2 : n * m * p ≤ 10000000) :
    Calls Tryz.prog 9 #[v] w (RetOw B w R) := by
  have hs := evsK_small (m := m) (p := p) (ls := plT ts) (k := 0) fun R hR => by
    obtain ⟨t, ht, rfl⟩ := List.mem_map.1 hR
    refine ⟨by rw [List.length_map]; exact (hz t ht).1, fun r hr => ?_⟩
    obtain ⟨x, hx, rfl⟩ := List.mem_map.1 hr
    exact ((hz t ht).2 x hx).2
  have hlt : (plT ts).length = n := by unfold plT; rw [List.length_map, hn]
  rw [hlt] at hs
  refine (tables_own _ ts _ hts (by omega) (by unfold evs; omega) (by unfold evs; omega) hr fun t ht x hx => by have := ((hz t ht).2 x hx).1; omega).mono ?_
  rintro e w' ⟨v, t, rfl, ht, hf⟩
  exact ⟨v, t, rfl, ht.1.below, ht.after hB, hR _ hf.tabs⟩
theorem tables_ow (B : World) (T : TypeId) (vs : List Value) (ts : List (List Rv)) (n m p : Nat) (R : List Row) (w : World) (hB : Below B.heap.size B w) (hn : ts.length = n) (hl : vs.length = n) (hk : n ≤ 1000) (h : ∀ (i : Nat) (t : List Rv), ts[i]? = some t → ∃ v, vs[i]? = some v ∧ TbAt w v t) (hz : ∀ t ∈ ts, Szd t m p) (hr : ∀ t ∈ ts, Rls (t.map plR)) (hR : ∀ S, tabs (plT ts) S → S = R)
    (h1 : n * m ≤ 1000000) (h2 : n * m * p ≤ 10000000) :
    Calls Tryz.prog 9 #[.slice (some ⟨w.heap.size, 0, none⟩) n n] (w.alloc (.cells vs.toArray T)) (RetOw B (w.alloc (.cells vs.toArray T)) R) := by
  have hts := TsAt.lit T vs ts n hn hl (by unfold maxLen; omega) fun i t ht => by
    obtain ⟨v, e, hv⟩ := h i t ht
    obtain ⟨A, c, rfl, _⟩ := hv.shape
    exact ⟨A, c, e, hv⟩
  exact tables_ow2 B _ ts n m p R _ (below_trans hB (below_alloc1 _ _)) hts hn hk hz hr hR h1 h2

/-- a point as a table -/
def RetRow (p : Pv) (w : World) (e : Ending) (w' : World) : Prop := ∃ v x, e = .returned v ∧ Below w.heap.size w w' ∧ TbAt w' v [x] ∧ plR x = (p.ls, [p.s])
set_option maxHeartbeats 1000000 in
set_option maxRecDepth 10000 in
theorem row_any (p : Pv) (w : World) (h : LAt w p) : Calls Tryz.prog 57 #[.agg #[.slice p.la p.ls.length p.lc, .int .i64 p.s.1, .int .u64 (p.s.2 : Nat)]] w (RetRow p w) := by
  obtain ⟨W, hW⟩ : ∃ W, W = w.alloc (.cells #[.slice p.la p.ls.length p.lc, .int .i64 p.s.1, .int .u64 (p.s.2 : Nat)] 46) := ⟨_, rfl⟩
  have hbW : Below w.heap.size w W := by rw [hW]; exact below_alloc1 _ _
  have hX : Blk W w.heap.size 46 #[.slice p.la p.ls.length p.lc, .int .i64 p.s.1, .int .u64 (p.s.2 : Nat)] := by rw [hW]; exact Blk.new _ _ _
  obtain ⟨c0, c1, c2⟩ := hX.c3
  have HL := Lib.hid (PsAt.below h hbW)
  have hWs : W.heap.size = w.heap.size + 1 := by rw [hW]; simp
  have HWS := Lib.hid hWs
  clear hX h hWs
  go_enter Tryz.func57, Tryz.ntmps57
  go_wp2_with fail
  rw [← hW]
  clear hW
  go_wp2_with fail
  go_ret
  obtain ⟨w1, hw1⟩ : ∃ w1, w1 = W.alloc (.cells #[.int .i64 p.s.1, .int .u64 (p.s.2 : Nat)] 42) := ⟨_, rfl⟩
  have e1 : w.heap.size + 1 = W.heap.size := HWS.out.symm
  have e2 : w.heap.size + 1 + 1 = w1.heap.size := by rw [hw1]; simp [e1]
  rw [← hw1, e2, e1]
  have b1 : Below W.heap.size W w1 := by rw [hw1]; exact below_alloc1 _ _
  have hsm : SmsAt w1 (.slice (some ⟨W.heap.size, 0, none⟩) 1 1) [p.s] := by
    rw [hw1]
    exact SlAt.of_buf (Buf.lit W 42 2 1 (smc [p.s]) rfl (by decide))
  refine ⟨_, ⟨p.ls, [p.s], p.la, p.lc, some ⟨W.heap.size, 0, none⟩, 1⟩, rfl, below_trans hbW (below_trans b1 (below_alloc1 _ _)), ⟨?_, fun x hx => ?_⟩, rfl⟩
  · exact SlAt.of_buf (Buf.lit w1 50 2 1 (rcs [⟨p.ls, [p.s], p.la, p.lc, some ⟨W.heap.size, 0, none⟩, 1⟩]) rfl (by decide))
  · obtain rfl := List.mem_singleton.1 hx
    exact ⟨PsAt.below HL.out (below_trans b1 (below_alloc1 _ _)), hsm.below (below_alloc1 _ _)⟩

set_option maxHeartbeats 4000000 in
set_option maxRecDepth 10000 in
theorem with_any (B : World) (v pv : Value) (t : List Rv) (ps : List Pv) (n : Nat) (w : World) (h : OwnT B w v t) (hp : PtAt w pv ps) (hT : Tb (t.map plR)) (hz : SzP (t.map plR) n) (hps : ∀ p ∈ ps, IsL p.ls) (hn : n + ps.length ≤ 100) :
    Calls Tryz.prog 36 #[v, pv] w (RetOw B w (addAll (t.map plR) (ps.map plP))) := by
  obtain ⟨A, c, rfl⟩ := h.shape
  obtain ⟨A2, c2, rfl, hlc2, hcm2⟩ := hp.shape
  unfold maxLen at hcm2
  obtain ⟨R, hR⟩ : ∃ R, R = t.map plR := ⟨_, rfl⟩
  obtain ⟨S, hS⟩ : ∃ S, S = addAll (t.map plR) (ps.map plP) := ⟨_, rfl⟩
  rw [← hS]
  rw [← hR] at hT hz hS
  have HS := Lib.hid hS
  have HR := Lib.hid hR
  have HT := Lib.hid hT
  have HZ := Lib.hid hz
  have HP := Lib.hid hp
  have HPS := Lib.hid hps
  have H0 := Lib.hid h
  clear hS hR hT hz hp hps h
  go_enter Tryz.func36, Tryz.ntmps36
  go_wp2_with fail
  go_loopw [0, 9] (fun tv i wr => ∃ (k : Nat) (O : List Rv), k ≤ ps.length ∧ i = .int .i64 k ∧ Below w.heap.size w wr ∧ Hid (OwnT B wr tv O) ∧ Hid (O.map plR = addAll R ((ps.take k).map plP))) (fun _ i _ => ps.length - (intOf i).toNat)
  case atStart => exact ⟨0, t, Nat.zero_le _, rfl, Below.refl _ _, H0, Lib.hid HR.out.symm⟩
  case round =>
    obtain ⟨k, O, hk, rfl, hb, HO, HM⟩ := hrel
    obtain ⟨OA, oc, rfl⟩ := HO.out.shape
    clear H0
    by_cases hgo : k < ps.length
    · obtain ⟨p, hx⟩ : ∃ p, ps[k]? = some p := ⟨_, List.getElem?_eq_getElem hgo⟩
      obtain ⟨b, o, rfl, a0, a1, a2, hla⟩ := (HP.out.below hb).at_ hx
      obtain ⟨wb, hwb⟩ : ∃ wb, wb = wr.alloc (.cells #[.slice p.la p.ls.length p.lc, .int .i64 p.s.1, .int .u64 (p.s.2 : Nat)] 46) := ⟨_, rfl⟩
      have hb2 : Below wr.heap.size wr wb := by rw [hwb]; exact below_alloc1 _ _
      have hX : Blk wb wr.heap.size 46 #[.slice p.la p.ls.length p.lc, .int .i64 p.s.1, .int .u64 (p.s.2 : Nat)] := by rw [hwb]; exact Blk.new _ _ _
      obtain ⟨c0, c1, c2⟩ := hX.c3
      have HRW := Lib.hid (row_any p wb (PsAt.below hla hb2))
      have hnext : addR (O.map plR) p.ls p.s = addAll R ((ps.take (k + 1)).map plP) := by
        rw [List.take_add_one, hx, List.map_append, addAll_append, ← HM.out]; rfl
      have hsz : SzP (O.map plR) 100 := by
        rw [HM.out]
        refine (HZ.out.addAll (ps := (ps.take k).map plP) fun q hq => ?_).mono (by rw [List.length_map, List.length_take]; omega)
        obtain ⟨y, hy, rfl⟩ := List.mem_map.1 hq
        exact HPS.out y (List.mem_of_mem_take hy)
      have htb : Tb (O.map plR) := by rw [HM.out]; exact (add_spec _ HT.out).1
      have HN := Lib.hid hnext
      have HSZ := Lib.hid hsz
      have HTB := Lib.hid htb
      have HIL := Lib.hid (HPS.out p (List.mem_of_getElem? hx))
      have HO2 := Lib.hid (HO.out.below hb2)
      have hb3 := below_trans hb hb2
      clear hnext hsz htb hx hX HM HO hla
      go_upto_region 4 with fail
      rw [← hwb]
      clear a0 a1 a2
      obtain ⟨X, hXe⟩ : ∃ X, X = wr.heap.size := ⟨_, rfl⟩
      rw [← hXe] at c0 c1 c2 ⊢
      clear hwb hXe hb2 hb
      go_wp2_with fail
      refine HRW.out.mono ?_
      rintro e w4 ⟨v4, x, rfl, hb4, hx4, he4⟩
      obtain ⟨A4, c4, rfl, _⟩ := hx4.shape
      have hO4 := HO2.out.below hb4
      have H5 := Lib.hid (tables_ow B 23 [.slice OA O.length oc, .slice A4 1 c4] [O, [x]] 2 100 100 (addAll R ((ps.take (k + 1)).map plP)) w4 hO4.1.below rfl rfl (by decide) (fun i t ht => by
        rcases i with _ | _ | i
        · obtain rfl : O = t := by simpa using ht
          exact ⟨_, rfl, hO4.tb⟩
        · obtain rfl : [x] = t := by simpa using ht
          exact ⟨_, rfl, hx4⟩
        · simp at ht) (all2 HSZ.out.szd (by
          refine ⟨by simp, fun y hy => ?_⟩
          obtain rfl := List.mem_singleton.1 hy
          have e1 : y.ls = p.ls := congrArg Prod.fst he4
          have e2 : y.ss = [p.s] := congrArg Prod.snd he4
          rw [e1, e2]
          exact ⟨HIL.out.len, by simp⟩)) (all2 HTB.out.rls (List.pairwise_singleton _ _)) (fun S hS => by
            have h := hS
            unfold plT at h
            simp only [List.map_cons, List.map_nil, he4] at h
            exact (tabs_point HTB.out h).trans HN.out) (by decide) (by decide))
      have hb5 := below_trans hb3 hb4
      clear hO4 hb4 hx4 he4 HRW HO2 HSZ HTB HIL HN hb3 c0 c1 c2
      go_wp2_with fail
      refine H5.out.mono ?_
      rintro e w6 ⟨v6, O6, rfl, hb6, hO6, hm6⟩
      have hb7 := below_trans hb5 (below_trans (below_alloc1 _ _) hb6)
      have HO6 := Lib.hid hO6
      have HM6 := Lib.hid hm6
      clear hO6 hm6 hb6 hb5 H5
      go_wp2_with fail
      go_roundw
      case rel => exact ⟨k + 1, O6, by omega, by go_num, hb7, HO6, HM6⟩
      case measure => simp [intOf]; omega
    · have hm := HM.out
      rw [List.take_of_length_le (by omega), ← HS.out] at hm
      have HM2 := Lib.hid hm
      clear hm HM
      go_wp2_with fail
      go_ret
      exact ⟨_, O, rfl, hb, HO.out, HM2.out⟩

theorem self_tabs {t : List Rv} (hT : Tb (t.map plR)) : ∀ S, tabs (plT [t]) S → S = t.map plR := fun S hS => by
  have h := hS
  unfold plT at h
  simp only [List.map_cons, List.map_nil] at h
  exact tabs_self hT h
set_option maxHeartbeats 1000000 in
set_option maxRecDepth 10000 in
theorem sure_any (B : World) (X : Nat) (t : List Rv) (ps : List Pv) (w : World) (h : Lg B X t ps w) (hT : Tb (t.map plR)) (hz : SzP (t.map plR) 100) :
    Calls Tryz.prog 15 #[.pointer (some ⟨X, 0, none⟩)] w (RetOw w w (t.map plR)) := by
  obtain ⟨⟨A, c, A2, c2, hX, h1, h2, h4⟩, _⟩ := h
  obtain ⟨c0, c1⟩ := hX.c2
  have hba := below_alloc1 w (.cells #[.slice A t.length c] 23)
  have H5 := Lib.hid (tables_ow w 23 [.slice A t.length c] [t] 1 100 100 (t.map plR) w (Below.refl _ _) rfl rfl (by decide) (fun i t' ht => by
        rcases i with _ | i
        · obtain rfl : t = t' := by simpa using ht
          exact ⟨_, rfl, h1.tb⟩
        · simp at ht) (all1 hz.szd) (all1 hT.rls) (self_tabs hT) (by decide) (by decide))
  clear hX h1 h2 h4 hT hz
  go_enter Tryz.func15, Tryz.ntmps15
  go_wp2_with fail
  refine H5.out.mono ?_
  rintro e w' ⟨v, t', rfl, hb, ho, hm⟩
  have HO := Lib.hid (And.intro ho hm)
  clear ho hm H5
  go_wp2_with fail
  go_ret
  exact ⟨_, t', rfl, below_trans hba hb, HO.out⟩

set_option maxHeartbeats 1000000 in
set_option maxRecDepth 10000 in
theorem open_any (B : World) (X : Nat) (t : List Rv) (ps : List Pv) (w : World) (h : Lg B X t ps w) :
    Calls Tryz.prog 18 #[.pointer (some ⟨X, 0, none⟩)] w (RetBelow w (.int .i64 (ps.length : Nat))) := by
  obtain ⟨⟨A, c, A2, c2, hX, h1, h2, h4⟩, _⟩ := h
  obtain ⟨c0, c1⟩ := hX.c2
  clear hX h1 h2 h4
  go_enter Tryz.func18, Tryz.ntmps18
  go_wp2_with fail
  go_ret
  exact ⟨rfl, Below.refl _ _⟩

/-- what May comes to -/
def FinMay (w : World) (R : List Row) (vs : Nat → Value) (w' : World) : Prop := ∃ t, OwnT w w' (vs 10) t ∧ t.map plR = R
set_option maxHeartbeats 4000000 in
set_option maxRecDepth 10000 in
theorem may_any (B : World) (X : Nat) (t : List Rv) (ps : List Pv) (n : Nat) (wb : World) (h : Lg B X t ps wb) (hT : Tb (t.map plR)) (hz : SzP (t.map plR) n) (hps : ∀ p ∈ ps, IsL p.ls) (hn : n + ps.length ≤ 100) :
    Calls Tryz.prog 19 #[.pointer (some ⟨X, 0, none⟩)] wb (RetOw wb wb (addAll (t.map plR) (ps.map plP))) := by
  obtain ⟨⟨A, c, A2, c2, hX, h1, h2, h4⟩, _⟩ := h
  have HX := Lib.hid hX
  have HO := Lib.hid h1.tb
  have HP := Lib.hid h2.at_
  have HT := Lib.hid hT
  have HZ := Lib.hid hz
  have HPS := Lib.hid hps
  obtain ⟨R0, hR0⟩ : ∃ R0, R0 = t.map plR := ⟨_, rfl⟩
  rw [← hR0] at HT HZ ⊢
  obtain ⟨R, hR⟩ : ∃ R, R = addAll R0 (ps.map plP) := ⟨_, rfl⟩
  rw [← hR]
  have HR0 := Lib.hid hR0
  have HR := Lib.hid hR
  clear hX h1 h2 h4 hT hz hps hR hR0
  go_enter Tryz.func19, Tryz.ntmps19
  go_upto_region 1 with fail
  have hstT : ∀ k v w w', Below w.heap.size w w' → Dv.factOf ([(3, ((fun v => v = (.slice A t.length c)), noFact, 3)), (4, ((fun v => ∃ g, v = .slice (some ⟨g, 0, none⟩) 1 1), (fun v w' => TsAt w' v [t]), 10)), (5, ((fun v => ∃ A m c, v = .slice A m c), (fun v w' => ∃ t', OwnT wb w' v t' ∧ t'.map plR = R0), 10)), (9, ((fun v => v = (.slice A2 ps.length c2)), noFact, 9)), (10, ((fun v => ∃ A m c, v = .slice A m c), noFact, 10))] : List (Nat × Dv.Kp)) k v w → Dv.factOf ([(3, ((fun v => v = (.slice A t.length c)), noFact, 3)), (4, ((fun v => ∃ g, v = .slice (some ⟨g, 0, none⟩) 1 1), (fun v w' => TsAt w' v [t]), 10)), (5, ((fun v => ∃ A m c, v = .slice A m c), (fun v w' => ∃ t', OwnT wb w' v t' ∧ t'.map plR = R0), 10)), (9, ((fun v => v = (.slice A2 ps.length c2)), noFact, 9)), (10, ((fun v => ∃ A m c, v = .slice A m c), noFact, 10))] : List (Nat × Dv.Kp)) k v w' := Dv.fact_st (by
    simp only [List.forall_mem_cons, List.not_mem_nil, false_imp_iff, implies_true, and_true]
    refine ⟨?_, ?_, ?_, ?_, ?_⟩
    · exact fun _ _ _ _ _ => trivial
    · exact fun _ _ _ hb h => h.below hb
    · exact fun _ _ _ hb h => by obtain ⟨t', h1, h2⟩ := h; exact ⟨t', h1.below hb, h2⟩
    · exact fun _ _ _ _ _ => trivial
    · exact fun _ _ _ _ _ => trivial)
  have htrT : ∀ x ∈ ([(3, ((fun v => v = (.slice A t.length c)), noFact, 3)), (4, ((fun v => ∃ g, v = .slice (some ⟨g, 0, none⟩) 1 1), (fun v w' => TsAt w' v [t]), 10)), (5, ((fun v => ∃ A m c, v = .slice A m c), (fun v w' => ∃ t', OwnT wb w' v t' ∧ t'.map plR = R0), 10)), (9, ((fun v => v = (.slice A2 ps.length c2)), noFact, 9)), (10, ((fun v => ∃ A m c, v = .slice A m c), noFact, 10))] : List (Nat × Dv.Kp)), (([(3, ((fun v => v = (.slice A t.length c)), noFact, 3)), (4, ((fun v => ∃ g, v = .slice (some ⟨g, 0, none⟩) 1 1), (fun v w' => TsAt w' v [t]), 10)), (5, ((fun v => ∃ A m c, v = .slice A m c), (fun v w' => ∃ t', OwnT wb w' v t' ∧ t'.map plR = R0), 10)), (9, ((fun v => v = (.slice A2 ps.length c2)), noFact, 9)), (10, ((fun v => ∃ A m c, v = .slice A m c), noFact, 10))] : List (Nat × Dv.Kp)).lookup x.2.2.2).isSome = true := by
    simp only [List.forall_mem_cons, List.not_mem_nil, false_imp_iff, implies_true, and_true]
    exact ⟨by kernel_rfl, by kernel_rfl, by kernel_rfl, by kernel_rfl, by kernel_rfl⟩
  refine Dv.wp_region_two (L := ([(3, ((fun v => v = (.slice A t.length c)), noFact, 3)), (4, ((fun v => ∃ g, v = .slice (some ⟨g, 0, none⟩) 1 1), (fun v w' => TsAt w' v [t]), 10)), (5, ((fun v => ∃ A m c, v = .slice A m c), (fun v w' => ∃ t', OwnT wb w' v t' ∧ t'.map plR = R0), 10)), (9, ((fun v => v = (.slice A2 ps.length c2)), noFact, 9)), (10, ((fun v => ∃ A m c, v = .slice A m c), noFact, 10))] : List (Nat × Dv.Kp))) (m := 10) (Fin := (FinMay wb R)) (by kernel_rfl) 14 (by kernel_rfl) rfl (by kernel_rfl) ?_ ?_ ?_
  · simp only [List.forall_mem_cons, List.not_mem_nil, false_imp_iff, implies_true, and_true]
    exact ⟨⟨_, rfl⟩, ⟨_, 0, rfl⟩, ⟨_, none, 0, 0, rfl⟩, ⟨_, rfl⟩, ⟨_, none, 0, 0, rfl⟩⟩
  · exact (fun vs vs' w' h hf => by unfold FinMay at hf ⊢; rw [← h 10 (by kernel_rfl) (by decide)]; exact hf)
  repeat (first
    | (refine Dv.Chain.step (v := ?_) (a' := ?_) rfl rfl rfl ?_ ?_ ?_
       rotate_left 2
       focus (intro w; go_simp; try with_reducible rfl)
       focus (simp only [Act.put, List.setIfInBounds_toArray, List.set_cons_succ, List.set_cons_zero]; try rfl))
    | (refine Dv.Chain.skip' (a' := ?_) rfl rfl rfl ?_ ?_
       rotate_left 1
       focus (simp only [Act.put, List.setIfInBounds_toArray, List.set_cons_succ, List.set_cons_zero]; try rfl)))
  refine Dv.XT.call (a' := ?_) _ _ rfl (by decide) hstT rfl rfl (fun wx hw hF => ?_) htrT ?_ ?_
  rotate_left 1
  focus
    obtain ⟨g0, g1⟩ := Blk.c2 (HX.out.below hw); go_simp; first | exact ⟨rfl, Below.refl _ _⟩ | exact Below.refl _ _
  focus (simp only [Act.put, List.setIfInBounds_toArray, List.set_cons_succ, List.set_cons_zero]; try rfl)
  repeat (first
    | (refine Dv.Chain.step (v := ?_) (a' := ?_) rfl rfl rfl ?_ ?_ ?_
       rotate_left 2
       focus (intro w; go_simp; try with_reducible rfl)
       focus (simp only [Act.put, List.setIfInBounds_toArray, List.set_cons_succ, List.set_cons_zero]; try rfl))
    | (refine Dv.Chain.skip' (a' := ?_) rfl rfl rfl ?_ ?_
       rotate_left 1
       focus (simp only [Act.put, List.setIfInBounds_toArray, List.set_cons_succ, List.set_cons_zero]; try rfl)))
  refine Dv.XT.make _ _ _ rfl (by decide) hstT rfl rfl (fun wx hw hF => ?_) htrT (fun v4 hv4 a' ha => ?_)
  focus
    go_simp
    exact ⟨ba1 _ _, TsAt.lit 23 [.slice A t.length c] [t] 1 rfl rfl (by decide) (fun i t' ht => by
      rcases i with _ | i
      · obtain rfl : t = t' := by simpa using ht
        exact ⟨_, _, rfl, HO.out.below hw⟩
      · simp at ht)⟩
  obtain ⟨g4, rfl⟩ := hv4
  simp only [Act.put, List.setIfInBounds_toArray, List.set_cons_succ, List.set_cons_zero] at ha
  subst ha
  repeat (first
    | (refine Dv.Chain.step (v := ?_) (a' := ?_) rfl rfl rfl ?_ ?_ ?_
       rotate_left 2
       focus (intro w; go_simp; try with_reducible rfl)
       focus (simp only [Act.put, List.setIfInBounds_toArray, List.set_cons_succ, List.set_cons_zero]; try rfl))
    | (refine Dv.Chain.skip' (a' := ?_) rfl rfl rfl ?_ ?_
       rotate_left 1
       focus (simp only [Act.put, List.setIfInBounds_toArray, List.set_cons_succ, List.set_cons_zero]; try rfl)))
  refine Dv.XT.make _ _ _ rfl (by decide) hstT rfl rfl (fun wx hw hF => ?_) htrT (fun v5 hv5 a' ha => ?_)
  focus
    have f4 : (fun v w' => TsAt w' v [t] : Value → World → Prop) _ wx := hF 4 _ (by kernel_rfl) rfl (by kernel_rfl)
    go_simp
    with_reducible refine (tables_ow2 wb _ [t] 1 100 100 R0 wx hw f4 rfl (by decide) (all1 (by have := HZ.out; rw [HR0.out] at this; exact (this.mono (by omega)).szd)) (all1 (by rw [← HR0.out]; exact HT.out.rls)) (by rw [HR0.out]; exact self_tabs (by rw [← HR0.out]; exact HT.out)) (by decide) (by decide)).mono ?_
    rintro e w' ⟨v, t', rfl, hb, ho, hm⟩
    obtain ⟨A, c, rfl⟩ := ho.shape
    exact ⟨⟨_, _, _, rfl⟩, hb, t', ho, hm⟩
  obtain ⟨A5, m5, c5, rfl⟩ := hv5
  simp only [Act.put, List.setIfInBounds_toArray, List.set_cons_succ, List.set_cons_zero] at ha
  subst ha
  repeat (first
    | (refine Dv.Chain.step (v := ?_) (a' := ?_) rfl rfl rfl ?_ ?_ ?_
       rotate_left 2
       focus (intro w; go_simp; try with_reducible rfl)
       focus (simp only [Act.put, List.setIfInBounds_toArray, List.set_cons_succ, List.set_cons_zero]; try rfl))
    | (refine Dv.Chain.skip' (a' := ?_) rfl rfl rfl ?_ ?_
       rotate_left 1
       focus (simp only [Act.put, List.setIfInBounds_toArray, List.set_cons_succ, List.set_cons_zero]; try rfl)))
  refine Dv.XT.call (a' := ?_) _ _ rfl (by decide) hstT rfl rfl (fun wx hw hF => ?_) htrT ?_ ?_
  rotate_left 1
  focus
    obtain ⟨g0, g1⟩ := Blk.c2 (HX.out.below hw); go_simp; first | exact ⟨rfl, Below.refl _ _⟩ | exact Below.refl _ _
  focus (simp only [Act.put, List.setIfInBounds_toArray, List.set_cons_succ, List.set_cons_zero]; try rfl)
  repeat (first
    | (refine Dv.Chain.step (v := ?_) (a' := ?_) rfl rfl rfl ?_ ?_ ?_
       rotate_left 2
       focus (intro w; go_simp; try with_reducible rfl)
       focus (simp only [Act.put, List.setIfInBounds_toArray, List.set_cons_succ, List.set_cons_zero]; try rfl))
    | (refine Dv.Chain.skip' (a' := ?_) rfl rfl rfl ?_ ?_
       rotate_left 1
       focus (simp only [Act.put, List.setIfInBounds_toArray, List.set_cons_succ, List.set_cons_zero]; try rfl)))
  refine Dv.XT.last _ _ _ rfl rfl (by kernel_rfl) rfl rfl (fun vs wx hw hF => ?_) (fun v10 hv10 a' ha => ?_)
  focus
    have f5 : (fun v w' => ∃ t', OwnT wb w' v t' ∧ t'.map plR = R0 : Value → World → Prop) _ wx := (hF 5 _ (by kernel_rfl) rfl).1 (by kernel_rfl)
    have q5 := (hF 5 _ (by kernel_rfl) rfl).2
    obtain ⟨t', ho, hm⟩ := f5
    go_simp
    with_reducible refine (with_any wb _ _ t' ps n wx ho (HP.out.below hw) (by rw [hm]; exact HT.out) (by rw [hm]; exact HZ.out) HPS.out hn).mono ?_
    rintro e w' ⟨v, t2, rfl, hb, ho2, hm2⟩
    obtain ⟨A, c, rfl⟩ := ho2.shape
    refine ⟨⟨_, _, _, rfl⟩, t2, ?_, by rw [hm2, hm, HR.out]⟩
    rw [Dv.updV_self]
    exact ho2
  obtain ⟨A10, m10, c10, rfl⟩ := hv10
  simp only [Act.put, List.setIfInBounds_toArray, List.set_cons_succ, List.set_cons_zero] at ha
  subst ha
  repeat (first
    | (refine Dv.Chain.step (v := ?_) (a' := ?_) rfl rfl rfl ?_ ?_ ?_
       rotate_left 2
       focus (intro w; go_simp; try with_reducible rfl)
       focus (simp only [Act.put, List.setIfInBounds_toArray, List.set_cons_succ, List.set_cons_zero]; try rfl))
    | (refine Dv.Chain.skip' (a' := ?_) rfl rfl rfl ?_ ?_
       rotate_left 1
       focus (simp only [Act.put, List.setIfInBounds_toArray, List.set_cons_succ, List.set_cons_zero]; try rfl)))
  refine Dv.XT.end_ (by decide) (fun vs w10 hv hfin => ?_)
  obtain ⟨t', ho, hm⟩ := hfin
  rw [hv 10 _ rfl] at ho
  have HF := Lib.hid (And.intro ho hm)
  clear ho hm hv
  go_wp2_with fail
  go_ret
  exact ⟨_, t', rfl, HF.out.1.1.below, HF.out⟩

/-- what Done comes to -/
def RetDone (B w : World) (X : Nat) (ps : List Pv) (R : List Row) (e : Ending) (w' : World) : Prop := e = .returned (.tuple #[]) ∧ Ke Tl25 w w' ∧ ∃ t, Lg B X t ps w' ∧ t.map plR = R
set_option maxHeartbeats 1000000 in
set_option maxRecDepth 10000 in
theorem done_any (B : World) (X : Nat) (t : List Rv) (ps : List Pv) (pv : Value) (qs : List Pv) (n : Nat) (w : World) (h : Lg B X t ps w) (hp : PtAt w pv qs) (hT : Tb (t.map plR)) (hz : SzP (t.map plR) n) (hqs : ∀ p ∈ qs, IsL p.ls) (hn : n + qs.length ≤ 100) :
    Calls Tryz.prog 13 #[.pointer (some ⟨X, 0, none⟩), pv] w (RetDone B w X ps (addAll (t.map plR) (qs.map plP))) := by
  have HL := Lib.hid h
  obtain ⟨⟨A, c, A2, c2, hX, h1, h2, h4⟩, hnX⟩ := h
  obtain ⟨c0, c1⟩ := hX.c2
  have H5 := Lib.hid (with_any B _ _ t qs n w h1 hp hT hz hqs hn)
  obtain ⟨PA, pc, rfl, _⟩ := hp.shape
  obtain ⟨R, hR⟩ : ∃ R, R = addAll (t.map plR) (qs.map plP) := ⟨_, rfl⟩
  rw [← hR] at H5 ⊢
  have HX := Lib.hid hX
  clear hX h1 h2 h4 hp hT hz hqs hR
  go_enter Tryz.func13, Tryz.ntmps13
  go_wp2_with fail
  refine H5.out.mono ?_
  rintro e w' ⟨v, t', rfl, hb, ho, hm⟩
  have HS := Lib.hid ((HL.out.below hb).setT ho)
  have HK := Lib.hid (Ke.of_below (Ts := Tl25) hb)
  have HM := Lib.hid hm
  obtain ⟨VA, vc, rfl⟩ := ho.shape
  have d0 := ((HX.out.below hb).c2).1
  have f0 := (HX.out.below hb).free 0
  clear ho hm c0 c1 hb H5
  go_wp2_with fail
  go_end0
  exact ⟨rfl, HK.out.trans HS.out.2, t', HS.out.1, HM.out⟩

theorem pt_ty : ElemTy Tryz.prog 33 46 (.agg #[.slice none 0 0, .int .i64 0, .int .u64 0]) 3 40 :=
  ⟨Tryz.underlying33, info_parts (show (Tryz.prog.info? 46).map (fun i => (i.zero, i.size, i.bytes)) = some (some (.agg #[.slice none 0 0, .int .i64 0, .int .u64 0]), 3, 40) by kernel_rfl), rfl⟩
/-- the points under way: the ledger's open ones behind the first of what is tried -/
structure Td (B W0 : World) (X : Nat) (t : List Rv) (O : List Pv) (w : World) : Prop where
  buf : ∃ A c A2 c2, Blk w X 35 #[.slice A t.length c, .slice A2 O.length c2] ∧ OwnT B w (.slice A t.length c) t ∧ OwnP B w (.slice A2 O.length c2) O ∧ (O = [] → A2 = none) ∧ ∀ k, (Value.slice A2 O.length c2).ownBlock = some k → W0.heap.size ≤ k
  new : B.heap.size ≤ X
  ke : Ke Tl25 W0 w
section
variable {B W0 w w' wa w2 : World} {X : Nat} {t : List Rv} {O : List Pv}
theorem Td.lg (h : Td B W0 X t O w) : Lg B X t O w := by
  obtain ⟨⟨A, c, A2, c2, h1, h2, h3, h4, _⟩, hn⟩ := h
  exact ⟨⟨A, c, A2, c2, h1, h2, h3, h4⟩, hn⟩
theorem Td.start (h : Lg B X t [] w) : Td B w X t [] w := by
  obtain ⟨⟨A, c, A2, c2, h1, h2, h3, h4⟩, hn⟩ := h
  obtain rfl := h4 rfl
  exact ⟨⟨A, c, none, c2, h1, h2, h3, h4, fun k hk => by simp [Value.ownBlock] at hk⟩, hn, Ke.refl _ _⟩
theorem Td.below (h : Td B W0 X t O w) (hb : Below w.heap.size w w') : Td B W0 X t O w' := by
  obtain ⟨⟨A, c, A2, c2, h1, h2, h3, h4, h5⟩, hn, hk⟩ := h
  exact ⟨⟨A, c, A2, c2, h1.below hb, h2.below hb, h3.below hb, h4, h5⟩, hn, hk.trans (Ke.of_below hb)⟩
abbrev Tlp (T : TypeId) : Prop := T = 35 ∨ T = 46
theorem Td.snoc {A A2 A3 A6 : Option Addr} {c c2 c3 c6 : Nat} {L : List Pr} {s : Sm} (h : Td B W0 X t O wa) (hX : Blk wa X 35 #[.slice A t.length c, .slice A2 O.length c2]) (hL : NBuf B wa 84 2 (.slice A6 L.length c6) L.length (pcs L))
    (hb : Buf w2 46 3 (.slice A3 (O.length + 1) c3) (O.length + 1) (pts3 O ++ [.slice A6 L.length c6, .int .i64 s.1, .int .u64 (s.2 : Nat)])) (ha : Ap wa w2 3 (.slice A2 O.length c2)) (hg : Grew wa (.slice A2 O.length c2) (.slice A3 (O.length + 1) c3)) :
    Td B W0 X t (O ++ [⟨L, A6, c6, s⟩]) (w2.setCell ⟨X, 1, none⟩ (.slice A3 (O.length + 1) c3)) := by
  obtain ⟨⟨A', c', A2', c2', h1, h2, h3, h4, h5⟩, hn, hk⟩ := h
  have e : #[Value.slice A' t.length c', .slice A2' O.length c2'] = #[.slice A t.length c, .slice A2 O.length c2] := by
    unfold Blk at h1 hX
    rw [h1] at hX
    injection hX with hX
    injection hX
  have e0 : [Value.slice A' t.length c', .slice A2' O.length c2'] = [.slice A t.length c, .slice A2 O.length c2] := by injection e
  injection e0 with e1 e2
  injection e2 with e2 _
  injection e1 with e11 _ e13
  injection e2 with e21 _ e23
  subst e11; subst e13; subst e21; subst e23
  have hk1 : Ke Tlp wa w2 := Ke.of_ap h3.1.buf ha (.inr rfl)
  have hb1 : Below B.heap.size B w2 := h3.1.below.trans (ha.below h3.1.below.size h3.1.new)
  have hbW : Below W0.heap.size wa w2 := ha.below hk.size h5
  have hX2 : Blk w2 X 35 #[.slice A' t.length c', .slice A2' O.length c2'] := h1.ap h3.1.buf ha (by decide)
  have hk2 : Ke Tlp w2 (w2.setCell ⟨X, 1, none⟩ (.slice A3 (O.length + 1) c3)) := Ke.of_set hX2 (.inl rfl) 1 _
  have hk3 : Ke Tl25 w2 (w2.setCell ⟨X, 1, none⟩ (.slice A3 (O.length + 1) c3)) := Ke.of_set (Ts := Tl25) hX2 rfl 1 _
  have hb2 : Below B.heap.size B (w2.setCell ⟨X, 1, none⟩ (.slice A3 (O.length + 1) c3)) := hb1.setCell (p := ⟨X, 1, none⟩) hn _
  have hn1 : (O ++ [(⟨L, A6, c6, s⟩ : Pv)]).length = O.length + 1 := by simp
  have hkk := hk1.trans hk2
  refine ⟨⟨A', c', A3, c3, ?_, h2.ke hkk hb2 (by decide) (by decide) (by decide), ⟨?_, fun p hp => ?_⟩, fun e => by simp at e, ?_⟩, hn, (ke_belowB hk hbW).trans hk3⟩
  · rw [hn1]; exact hX2.set 1 _
  · rw [hn1, pts3_snoc]
    exact ⟨hb.set_ne hX2 (by decide) 1 _, hb2, hg.new h3.1.below.size h3.1.new⟩
  · rcases List.mem_append.1 hp with h | h
    · exact nbuf_ke (h3.2 p h) hkk hb2 (by decide)
    · obtain rfl := List.mem_singleton.1 h
      exact nbuf_ke hL hkk hb2 (by decide)
  · rw [hn1]
    exact hg.new hk.size h5
end

set_option maxHeartbeats 8000000 in
set_option maxRecDepth 10000 in
theorem tried_any (B : World) (X : Nat) (t : List Rv) (pv : Value) (qs : List Pv) (w : World) (h : Lg B X t [] w) (hp : ∀ w', Ke Tl25 w w' → PtAt w' pv qs) (hqs : ∀ p ∈ qs, IsL p.ls) (hn : qs.length ≤ 100) :
    Calls Tryz.prog 14 #[.pointer (some ⟨X, 0, none⟩), pv] w (fun e w' => e = .returned (.tuple #[]) ∧ ∃ O, Td B w X t O w' ∧ O.map plP = qs.map plP) := by
  have HL := Lib.hid (Td.start h)
  obtain ⟨PA, pc, rfl, hpl, hpm⟩ := (hp w (Ke.refl _ _)).shape
  unfold maxLen at hpm
  have HP := Lib.hid hp
  have HPS := Lib.hid hqs
  clear h hp hqs
  go_enter Tryz.func14, Tryz.ntmps14
  go_wp2_with fail
  go_loopw [8] (fun i wr => ∃ (k : Nat) (O : List Pv), k ≤ qs.length ∧ i = .int .i64 k ∧ O.length = k ∧ Hid (Td B w X t O wr) ∧ Hid (O.map plP = (qs.take k).map plP)) (fun i _ => qs.length - (intOf i).toNat)
  case atStart => exact ⟨0, [], Nat.zero_le _, rfl, rfl, HL, Lib.hid rfl⟩
  case round =>
    obtain ⟨k, O, hk, rfl, hOk, HT, HM⟩ := hrel
    clear HL
    by_cases hgo : k < qs.length
    · obtain ⟨⟨L, la, lc, s⟩, hx⟩ : ∃ p, qs[k]? = some p := ⟨_, List.getElem?_eq_getElem hgo⟩
      obtain ⟨b, o, rfl, a0, a1, a2, hla⟩ := (HP.out wr HT.out.ke).at_ hx
      dsimp only at a0 a1 a2
      have hla : PsAt wr (.slice la L.length lc) L := hla
      obtain ⟨w5, hw5⟩ : ∃ w5, w5 = wr.alloc (.cells #[.slice la L.length lc, .int .i64 s.1, .int .u64 (s.2 : Nat)] 46) := ⟨_, rfl⟩
      have hb5 : Below wr.heap.size wr w5 := by rw [hw5]; exact below_alloc1 _ _
      have hY : Blk w5 wr.heap.size 46 #[.slice la L.length lc, .int .i64 s.1, .int .u64 (s.2 : Nat)] := by rw [hw5]; exact Blk.new _ _ _
      obtain ⟨k0, k1, k2⟩ := hY.c3
      have HT5 := Lib.hid (HT.out.below hb5)
      obtain ⟨⟨A, c, A5, c5, hX, h1, h3, h4, _⟩, _, _⟩ := HT.out.below hb5
      have hl2 := (HPS.out _ (List.mem_of_getElem? hx)).len
      have hl2 : L.length ≤ 2 := hl2
      have HCL := Lib.hid (fun w' (hb : Below w5.heap.size w5 w') => cloneSet_any (.slice la L.length lc) L w' ((PsAt.below hla hb5).below hb) (by omega))
      have HFIN := Lib.hid (fun (wa w2 : World) (A6 A2 : Option Addr) (c6 c2 : Nat) (hba : Below w5.heap.size w5 wa) => Td.snoc (w2 := w2) (A3 := A2) (A6 := A6) (c3 := c2) (c6 := c6) (L := L) (s := s) (HT5.out.below hba) (hX.below hba))
      have HN5 := Lib.hid h3.1
      have HB5 := Lib.hid hX
      have HY5 := Lib.hid hY
      obtain ⟨g0, g1⟩ := hX.c2
      have hnext : O.map plP ++ [(L, s)] = (qs.take (k + 1)).map plP := by
        rw [List.take_add_one, hx, List.map_append, ← HM.out]; rfl
      have HNX := Lib.hid hnext
      rw [hOk] at HFIN HN5 HB5 g1
      have HOK := Lib.hid hOk
      clear hnext hla hX h1 h3 h4 HM hx hY hOk HT
      go_upto_region 3 with fail
      rw [← hw5]
      clear a0 a1 a2
      obtain ⟨Y, hYe⟩ : ∃ Y, Y = wr.heap.size := ⟨_, rfl⟩
      rw [← hYe] at k0 k1 k2 HY5 ⊢
      clear hw5 hYe
      go_region_law (first
        | (((rw [if_pos (by rfl)]); go_simp; go_at_call 32; refine (HCL.out _ (Below.refl _ _).drew).mono ?_; rintro e w6 ⟨v6, rfl, n6⟩; obtain ⟨A6, c6, rfl, hc6⟩ := n6.buf.shape; obtain ⟨y0, y1, y2⟩ := (HY5.out.drew.below n6.below).c3; have g6 := (HB5.out.drew.below n6.below).c2.2; have g6a : ∀ o, (w6.alloc o).cell? ⟨X, 1, none⟩ = some (.slice A5 k c5) := fun o => ((HB5.out.drew.below n6.below).alloc o).c2.2; have b6 : Below w5.heap.size w5 w6 := below_trans (Below.refl _ _).drew n6.below; dsimp only))
        | ((refine step_append_buf rfl (.tmp 16) (.tmp 23) 33 rfl pt_ty rfl ((HN5.out.buf.below b6).alloc _) rfl ((Buf.lit w6 46 3 1 [.slice A6 L.length c6, .int .i64 s.1, .int .u64 (s.2 : Nat)] rfl (by decide)).src pt_ty.slice (by simp [Value.oneCell'])) (by simp only [maxLen]; omega) (by omega) ?_; intro v2 w2 hb2 ha2 hg2; obtain ⟨A2, c2, rfl, hc2⟩ := hb2.shape; have Y2 := ((HB5.out.below b6).alloc _).ap ((HN5.out.buf.below b6).alloc _) ha2 (by decide); have HB8 := Lib.hid (And.intro hb2 (And.intro ha2 hg2)); clear hb2 ha2 hg2; have d0 := Y2.c2.2; have d1 := Y2.free 1; clear Y2)))
      all_goals
        have hfin := HFIN.out _ w2 A6 A2 c6 c2 (below_trans b6 (below_alloc1 _ _)) ((n6.after HN5.out.below.drew).alloc _) HB8.out.1 HB8.out.2.1 HB8.out.2.2
        have HFN := Lib.hid hfin
        have hnx := HNX.out
        have HMX : Hid ((O ++ [(⟨L, A6, c6, s⟩ : Pv)]).map plP = (qs.take (k + 1)).map plP) := Lib.hid (by rw [List.map_append]; exact hnx)
        clear hfin n6 b6 g6 g6a d0 d1 hnx y0 y1 y2 k0 k1 k2 g0 g1
        go_wp2_with fail
        go_roundw
        case rel => exact ⟨k + 1, _, by omega, by go_num, by rw [List.length_append, HOK.out]; rfl, HFN, HMX⟩
        case measure => simp [intOf]; omega
    · have hm := HM.out
      rw [List.take_of_length_le (by omega)] at hm
      have HM2 := Lib.hid hm
      clear hm HM
      go_wp2_with fail
      go_end0
      exact ⟨rfl, O, HT.out, HM2.out⟩
end Go.Proofs.YtjklcojnbcemoaaGreatDoor
