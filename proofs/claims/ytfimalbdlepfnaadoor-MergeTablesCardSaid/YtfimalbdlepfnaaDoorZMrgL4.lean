/-
  Any tables: all labels, all samples, of one time the first table's; what is between any times. No condition.
-/
import Derived.Test.YtfimalbdlepfnaaDoorZMrgAE
import Derived.Test.YtfimalbdlepfnaaDoorTie
import Derived.Test.YtfimalbdlepfnaaDoorCards

namespace Go.Bar.Mrg
open Go.RowKit Go.Bar Go.Bar.Xor Go.Bar.Lab

theorem cntR_cons (r : Row) (R : List Row) : cntR (r :: R) = r.2.length + cntR R := by unfold cntR; rfl
theorem cntR_addR {L : List Pr} {s : Sm} : ∀ {l : List Row}, Rls l → cntR (addR l L s) ≤ cntR l + 1
  | [], _ => Nat.le_refl _
  | r :: l, h => by
    obtain ⟨h1, h2⟩ := List.pairwise_cons.1 h
    have e : addR (r :: l) L s = if cmpL L r.1 = 0 then (r.1, putS r.2 s) :: addG L s true l else if cmpL L r.1 < 0 then (L, [s]) :: r :: addG L s true l else r :: addR l L s := rfl
    rw [e]
    split
    · rename_i e0
      have e0 := cmpL_zero.1 e0
      rw [addG_true fun x hx he => by have := h1 x hx; rw [← e0, he, cmpL_self] at this; omega, cntR_cons, cntR_cons]
      have := putS_len r.2 s
      show (putS r.2 s).length + _ ≤ _
      omega
    · split
      · rename_i e1
        rw [addG_true fun x hx he => by have := cmpL_lt_trans e1 (h1 x hx); rw [he, cmpL_self] at this; omega, cntR_cons, cntR_cons]
        show 1 + _ ≤ _
        omega
      · have := cntR_addR (L := L) (s := s) h2
        rw [cntR_cons, cntR_cons]
        omega
theorem cntR_addAll : ∀ (xs : List Pt) {l : List Row}, Tb l → cntR (addAll l xs) ≤ cntR l + xs.length
  | [], l, _ => Nat.le_refl _
  | x :: xs, l, h => by
    have h1 := cntR_addR (L := x.1) (s := x.2) h.rls
    have h2 := cntR_addAll xs (addR_spec (L := x.1) (s := x.2) h).1
    show cntR (addAll (addR l x.1 x.2) xs) ≤ _
    rw [List.length_cons]
    omega
theorem ptsOf_len : ∀ R : List Row, (ptsOf R).length = cntR R
  | [] => rfl
  | r :: R => by
    have := ptsOf_len R
    rw [cntR_cons, ← this]
    show (r.2.map _ ++ ptsOf R).length = _
    rw [List.length_append, List.length_map]
theorem cnt_tab3 (l : List On3) : cntR (tab3 l) ≤ 40 := by
  have := cntR_addAll ((l.take 40).map pt3) Tb.nil
  rw [List.length_map, List.length_take] at this
  unfold tab3
  have e : cntR ([] : List Row) = 0 := rfl
  omega
/-- the points of the first tables -/
def ptsL (ls : List (List On3)) : List Pt := ls.flatMap (fun l => ptsOf (tab3 l))
theorem ptsL_len : ∀ ls : List (List On3), (ptsL ls).length ≤ 40 * ls.length
  | [] => Nat.le_refl _
  | l :: ls => by
    have h1 := ptsL_len ls
    have h2 := cnt_tab3 l
    rw [← ptsOf_len] at h2
    show (ptsOf (tab3 l) ++ ptsL ls).length ≤ _
    rw [List.length_append, List.length_cons]
    omega
theorem ptsL_labs {ls : List (List On3)} {x : Pt} (h : x ∈ ptsL ls) : x.1.length ≤ 2 := by
  obtain ⟨l, _, h⟩ := List.mem_flatMap.1 h
  obtain ⟨r, hr, h⟩ := List.mem_flatMap.1 h
  obtain ⟨s, _, rfl⟩ := List.mem_map.1 h
  exact ((tab3_bound (l.take 40)).2 r hr).1
end Go.Bar.Mrg
namespace Go.Proofs.YtfimalbdlepfnaaDoor
open Go.RowKit Go.Bar Go.Bar.Leb Go.Bar.Lab Go.Bar.Xor Go.Bar.Mrg Go.ChangeShapes Go.WideShapes Go.ChangeAt

theorem nbuf_ty : ElemTy Tryd.prog 54 35 (.slice none 0 0) 1 24 :=
  ⟨Tryd.underlying54, info_parts (show (Tryd.prog.info? 35).map (fun i => (i.zero, i.size, i.bytes)) = some (some (.slice none 0 0), 1, 24) by kernel_rfl), rfl⟩
theorem DTb.ke {Ts : TypeId → Prop} {B W0 W w w' : World} {T Tp : TypeId} {v : Value} {t : List Rv} (h : DTb B W0 W w T Tp v t) (hk : Ke Ts w w') (hb : Below W.heap.size W w') (h1 : ¬ Ts T) (h2 : ¬ Ts Tp) (h3 : ¬ Ts 31) : DTb B W0 W w' T Tp v t := ⟨nbuf_ke h.n hk hb h1, h.b, fun x hx => (h.d x hx).ke hk (below_trans h.b hb) h2 h3⟩
/-- the tables so far: a buffer of slices -/
structure Tvs (W w : World) (v : Value) (ls : List (List On3)) (vs : List Value) : Prop where
  n : NBuf W w 35 1 v ls.length vs
  at_ : ∃ (tv : List (List Rv)), tv.length = ls.length ∧ vs.length = ls.length ∧ ∀ (i : Nat) (t : List Rv), tv[i]? = some t → ∃ A c l, vs[i]? = some (.slice A t.length c) ∧ ls[i]? = some l ∧ t.map plR = tab3 l ∧ DTb W W W w 67 81 (.slice A t.length c) t
theorem Tvs.below {W w w' : World} {v : Value} {ls : List (List On3)} {vs : List Value} (h : Tvs W w v ls vs) (hb : Below w.heap.size w w') : Tvs W w' v ls vs := by
  obtain ⟨h1, tv, h2, h3, h4⟩ := h
  refine ⟨h1.then_below hb, tv, h2, h3, fun i t ht => ?_⟩
  obtain ⟨A, c, l, a1, a2, a3, a4⟩ := h4 i t ht
  exact ⟨A, c, l, a1, a2, a3, a4.below hb⟩
theorem Tvs.snoc {W wa w2 : World} {v v2 : Value} {ls : List (List On3)} {l : List On3} {vs : List Value} {A : Option Addr} {c : Nat} {t : List Rv} (h : Tvs W wa v ls vs) (ht : DTb W W W wa 67 81 (.slice A t.length c) t) (hm : t.map plR = tab3 l)
    (hn : NBuf W w2 35 1 v2 (ls.length + 1) (vs ++ [.slice A t.length c])) (ha : Ap wa w2 1 v) : Tvs W w2 v2 (ls ++ [l]) (vs ++ [.slice A t.length c]) ∧ Ke (fun T => T = 35) wa w2 := by
  obtain ⟨h1, tv, h2, h3, h4⟩ := h
  have hk : Ke (fun T => T = 35) wa w2 := Ke.of_ap h1.buf ha rfl
  have hb := hn.below
  refine ⟨⟨by rw [List.length_append]; exact hn, tv ++ [t], by simp [h2], by simp [h3], fun i y hy => ?_⟩, hk⟩
  rcases Nat.lt_or_ge i tv.length with hi | hi
  · rw [List.getElem?_append_left hi] at hy
    obtain ⟨A, c, l', a1, a2, a3, a4⟩ := h4 i y hy
    exact ⟨A, c, l', by rw [List.getElem?_append_left (by omega)]; exact a1, by rw [List.getElem?_append_left (by omega)]; exact a2, a3, a4.ke hk hb (by decide) (by decide) (by decide)⟩
  · have hi2 : i = tv.length := by have := (List.getElem?_eq_some_iff.1 hy).1; simp at this; omega
    subst hi2
    rw [List.getElem?_append_right (Nat.le_refl _), Nat.sub_self] at hy
    injection hy with hy
    subst hy
    exact ⟨A, c, l, by rw [h2, ← h3, List.getElem?_append_right (Nat.le_refl _), Nat.sub_self]; rfl, by rw [h2, List.getElem?_append_right (Nat.le_refl _), Nat.sub_self]; rfl, hm, ht.ke hk hb (by decide) (by decide) (by decide)⟩
theorem Tvs.call {W w : World} {v : Value} {ls : List (List On3)} {vs : List Value} (h : Tvs W w v ls vs) (hl : ls.length ≤ 4) : Calls Tryd.prog 15 #[v] w (RetMt w (addAll [] (ptsL ls)) 160 6400) := by
  obtain ⟨h1, tv, h2, h3, h4⟩ := h
  have hts : TsAt w v tv := ⟨vs, by omega, by rw [h2]; exact h1.slice, fun i t ht => by
    obtain ⟨A, c, l, a1, a2, a3, a4⟩ := h4 i t ht
    exact ⟨A, c, a1, (a4.rtb (Below.refl _ _)).tb⟩⟩
  have hall : ∀ t ∈ tv, ∃ l, t.map plR = tab3 l := fun t ht => by
    obtain ⟨i, hi⟩ := List.mem_iff_getElem?.1 ht
    obtain ⟨A, c, l, a1, a2, a3, a4⟩ := h4 i t hi
    exact ⟨l, a3⟩
  have hz : ∀ t ∈ tv, Szd t 40 40 := fun t ht => by
    obtain ⟨l, hl⟩ := hall t ht
    exact szd_tab hl
  have hpl : plT tv = ls.map tab3 := by
    refine List.ext_getElem? fun i => ?_
    unfold plT
    rw [List.getElem?_map, List.getElem?_map]
    rcases hi : tv[i]? with _ | t
    · have : tv.length ≤ i := List.getElem?_eq_none_iff.1 hi
      rw [List.getElem?_eq_none_iff.2 (by omega)]; rfl
    · obtain ⟨A, c, l, a1, a2, a3, a4⟩ := h4 i t hi
      rw [a2]
      show some (t.map plR) = some (tab3 l)
      rw [a3]
  refine (tables_of v tv w hts (fun t ht => by obtain ⟨l, hl⟩ := hall t ht; rw [hl]; exact (tab3_tb l).rls) 4 40 40 (by omega) (fun t ht => ⟨(hz t ht).1, fun x hx => ⟨by have := ((hz t ht).2 x hx).1; omega, ((hz t ht).2 x hx).2⟩⟩) (by decide) (by decide) (by decide)).mono ?_
  rintro e w' ⟨u, t, rfl, hb, ht, hf⟩
  have hs := hf.szd hz
  have h5 := want_tabs hf.tabs (fun x hx => by
    rw [hpl] at hx
    obtain ⟨l, _, rfl⟩ := List.mem_map.1 hx
    exact tab3_tb l)
  rw [hpl] at h5
  refine ⟨u, t, rfl, hb, ht, ?_, ⟨by have := hs.1; rw [h2] at this; omega, fun x hx => ⟨(hs.2 x hx).1, by have := (hs.2 x hx).2; rw [h2] at this; omega⟩⟩⟩
  rw [h5]
  unfold ptsL
  rw [List.flatMap_map]

set_option maxHeartbeats 16000000 in
set_option maxRecDepth 10000 in
theorem mergeTables_walk0 (v : Value) (ls : List (List On3)) (x : Int) (_ : (Lit.int .i64 x).wf = true) (y : Int) (_ : (Lit.int .i64 y).wf = true) (W : World) (h : LsArg W v ls) (_ : True) :
    Calls Tryd.prog 8 #[v, .int .i64 x, .int .i64 y] W (RetBelow W (.bool true)) := by
  obtain ⟨vs0, hs, hl0, hat⟩ := h
  obtain ⟨A, c, rfl, hlc, hcm⟩ := SlAt.shape hs
  unfold maxLen at hcm
  obtain ⟨n, hn⟩ : ∃ n, n = ls.length := ⟨_, rfl⟩
  rw [← hn] at hs hlc ⊢
  have HS := Lib.hid hs
  have HN := Lib.hid hn
  have HAT := Lib.hid hat
  have hT0 : Tvs W (W.alloc (.cells #[] 35)) (.slice (some ⟨W.heap.size, 0, none⟩) 0 0) [] [] := ⟨NBuf.lit0 (Below.refl W.heap.size W) 35 1, [], rfl, rfl, fun i t ht => by simp at ht⟩
  have hb1 : Below W.heap.size W (W.alloc (.cells #[] 35)) := below_alloc1 _ _
  have hn1 := NBuf.lit0 hb1 47 2
  have hW1 : (W.alloc (.cells #[] 35)).heap.size = W.heap.size + 1 := by simp
  rw [hW1] at hn1
  have HT0 := Lib.hid (hT0.below (below_alloc1 _ (.cells #[] 47)))
  have HW0 : Hid (DTb W W W ((W.alloc (.cells #[] 35)).alloc (.cells #[] 47)) 47 84 (.slice (some ⟨W.heap.size + 1, 0, none⟩) 0 0) []) := Lib.hid ⟨hn1, Below.refl _ _, fun x hx => by cases hx⟩
  clear hs hn hat hl0 hT0 hb1 hn1 hW1
  go_enter Tryd.func8, Tryd.ntmps8
  go_wp2_with fail
  go_loopw [7, 8, 10] (fun d g i wr => ∃ (k : Nat) (O : List Rv) (vs : List Value), k ≤ n ∧ k ≤ 4 ∧ i = .int .i64 k ∧ Hid (Tvs W wr d (ls.take k) vs) ∧ Hid (DTb W W W wr 47 84 g O) ∧ Hid (O.map plR = addAll [] (ptsL (ls.take k)))) (fun _ _ i _ => n - (intOf i).toNat)
  case atStart => exact ⟨0, [], [], Nat.zero_le _, Nat.zero_le _, rfl, HT0, HW0, Lib.hid rfl⟩
  case round =>
    obtain ⟨k, O, vs, hk, hk4, rfl, HTV, HNB, HRR⟩ := hrel
    obtain ⟨dA, dc, rfl, hdc⟩ := HTV.out.n.buf.shape
    obtain ⟨fA, fc, rfl, hfc⟩ := HNB.out.n.buf.shape
    have hbw := HNB.out.n.below
    have hlk : (ls.take k).length = k := by rw [List.length_take, ← HN.out]; omega
    clear HT0 HW0
    by_cases hgo : k < n ∧ k < 4
    · obtain ⟨hgo, hg4⟩ := hgo
      obtain ⟨l, hx⟩ : ∃ l, ls[k]? = some l := ⟨_, List.getElem?_eq_getElem (by have := HN.out; omega)⟩
      obtain ⟨u, hu, hul⟩ := HAT.out k l hx
      obtain ⟨xb, xo, rfl, hxb, hxc⟩ := SlAt.cells (HS.out.below hbw) (by omega)
      have x0 := hxc _ _ hu
      have hk40 : (k : Int) < 4 := by omega
      have htk : ls.take (k + 1) = ls.take k ++ [l] := by rw [List.take_add_one, hx]; rfl
      have htb := table_anyB W u l wr hbw (hul.1.below hbw)
      have HTB := Lib.hid htb
      have HTK := Lib.hid htk
      have HLK := Lib.hid hlk
      clear hx hu hul hxc htk htb hlk
      go_wp2_with fail
      refine HTB.out.mono ?_
      rintro e w1 ⟨v1, u1, t1, s1, rfl, d1, e1, m1, n1⟩
      obtain ⟨A1, c1, rfl, _⟩ := d1.n.buf.shape
      obtain ⟨A2, c2, rfl, _⟩ := e1.n.buf.shape
      have HD1 := Lib.hid (d1.up hbw)
      have HE1 := Lib.hid (e1.up hbw)
      have HM1 := Lib.hid m1
      have HN1 := Lib.hid n1
      have HV1 := Lib.hid (HTV.out.below d1.n.below)
      have HO1 := Lib.hid (HNB.out.below d1.n.below)
      have hlk := HLK.out
      have hks : ((s1.map plR)).length = s1.length := List.length_map _
      rw [HLK.out] at hdc ⊢
      have HLA := Lib.hid hlk
      rw [hlk] at HV1
      clear d1 e1 m1 n1 hlk hks HTV HNB HTB
      go_upto_region 9 with (at_builtin; refine wpList_append_nlit rfl (.tmp 40) (.tmp 42) 54 rfl nbuf_ty rfl HV1.out.n rfl (by simp) rfl (by simp [Value.oneCell']) (by simp only [maxLen]; have := HLA.out; omega) (by have := HLA.out; omega) ?_; intro v3 w3 hn3 ha3; obtain ⟨hs3, hk3⟩ := Tvs.snoc (HV1.out.below (below_alloc1 _ _)) (HD1.out.below (below_alloc1 _ _)) HM1.out hn3 ha3; have HV3 := Lib.hid hs3; have HE3 := Lib.hid ((HE1.out.below (below_alloc1 _ _)).ke hk3 hn3.below (by decide) (by decide) (by decide)); have HO3 := Lib.hid ((HO1.out.below (below_alloc1 _ _)).ke hk3 hn3.below (by decide) (by decide) (by decide)); clear hn3 ha3 hs3 hk3)
      have HQ0 := Lib.hid (show O.map plR = addAll [] (ptsL (ls.take k) ++ ptsOf ((s1.map plR).take 0)) by rw [HRR.out]; simp [ptsOf])
      have hsz : Szd s1 40 40 := szd_tab HN1.out
      have HSZ := Lib.hid hsz
      have hsl : s1.length ≤ 40 := hsz.1
      have hqn := ptsL_len (ls.take k)
      rw [HLA.out] at hqn
      obtain ⟨Q, hQ⟩ : ∃ Q, Q = ptsL (ls.take k) := ⟨_, rfl⟩
      rw [← hQ] at HQ0 hqn
      have HQ := Lib.hid hQ
      have hct : cntR (s1.map plR) ≤ 40 := by rw [HN1.out]; exact cnt_tab3 l
      have HCT := Lib.hid hct
      clear hsz hQ hct HRR HV1 HD1 HE1 HO1
      go_wp2_with fail
      go_loopw [8, 46] (fun g i wz => ∃ (j : Nat) (P : List Rv), j ≤ s1.length ∧ i = .int .i64 j ∧ Hid (Below w3.heap.size w3 wz) ∧ Hid (DTb W W W wz 47 84 g P) ∧ Hid (P.map plR = addAll [] (Q ++ ptsOf ((s1.map plR).take j)))) (fun _ i _ => s1.length - (intOf i).toNat)
      case atStart => exact ⟨0, O, Nat.zero_le _, rfl, Lib.hid (Below.refl _ _), HO3, HQ0⟩
      case round =>
        obtain ⟨j, P, hj, rfl, HBZ, HJ, HPF⟩ := hrel
        obtain ⟨jA, jc, rfl, hjc⟩ := HJ.out.n.buf.shape
        have hbj := HJ.out.n.below
        clear HO3 HQ0
        by_cases hgo2 : j < s1.length
        · obtain ⟨r, hr⟩ : ∃ r, s1[j]? = some r := ⟨_, List.getElem?_eq_getElem hgo2⟩
          obtain ⟨rL, rS, la, lc, sa, sc⟩ := r
          have hT := (HE3.out.below HBZ.out).rtb (Below.refl _ _)
          obtain ⟨rb, ro, rfl, r0, r1, hrr⟩ := hT.tb.at_ hr
          have hrr : PsAt wr (.slice la rL.length lc) rL ∧ SmsAt wr (.slice sa rS.length sc) rS := hrr
          have hrd := (HE3.out.below HBZ.out).d _ (List.mem_of_getElem? hr)
          have hrs : rS.length ≤ 40 := (HSZ.out.2 _ (List.mem_of_getElem? hr)).2
          dsimp only at r0 r1
          have hpt : ptsOf ((s1.map plR).take (j + 1)) = ptsOf ((s1.map plR).take j) ++ rS.map (fun s => (rL, s)) := by
            rw [List.take_add_one, List.getElem?_map, hr]
            unfold ptsOf
            rw [List.flatMap_append]
            simp [plR]
          have hpn : (ptsOf ((s1.map plR).take j)).length ≤ 40 := by
            rw [ptsOf_len]
            exact Nat.le_trans (cntR_take _ _) HCT.out
          obtain ⟨Q2, hQ2⟩ : ∃ Q2, Q2 = Q ++ ptsOf ((s1.map plR).take j) := ⟨_, rfl⟩
          have hq2 : Q2.length ≤ 200 := by rw [hQ2, List.length_append]; omega
          rw [← hQ2] at HPF
          have HPT := Lib.hid (show Q ++ ptsOf ((s1.map plR).take (j + 1)) = Q2 ++ rS.map (fun s => (rL, s)) by rw [hpt, hQ2, List.append_assoc])
          have HRR := Lib.hid hrr
          have HRD := Lib.hid (show (PsAt W (.slice la rL.length lc) rL ∨ NBuf W wr 84 2 (.slice la rL.length lc) rL.length (pcs rL)) from hrd.1)
          obtain ⟨wx, hwx⟩ : ∃ wx, wx = wr.alloc (.cells #[.slice la rL.length lc, .slice sa rS.length sc] 47) := ⟨_, rfl⟩
          have hbx : Below wr.heap.size wr wx := by rw [hwx]; exact below_alloc1 _ _
          have HXB : Hid (Blk wx wr.heap.size 47 #[.slice la rL.length lc, .slice sa rS.length sc]) := Lib.hid (by rw [hwx]; exact Blk.new _ _ _)
          have HNX := Lib.hid (HJ.out.below hbx)
          have HPX := Lib.hid (show P.map plR = addAll [] (Q2 ++ (rS.take 0).map (fun s => (rL, s))) by rw [HPF.out]; simp)
          have HBX := Lib.hid hbx
          clear hr hT hrr hrd hpt hpn hQ2
          go_upto_region 12 with fail
          rw [← hwx]
          obtain ⟨X, hX⟩ : ∃ X, X = wr.heap.size := ⟨_, rfl⟩
          rw [← hX] at HXB ⊢
          obtain ⟨k0, k1⟩ := HXB.out.c2
          have HRX := Lib.hid (And.intro (HRR.out.1.below HBX.out) (HRR.out.2.below HBX.out))
          have HRX2 := Lib.hid (HRD.out.imp id (fun h => h.then_below HBX.out))
          have HB0 := Lib.hid (below_trans HBZ.out HBX.out)
          clear hwx hX hbx HJ HRR HRD HBX HBZ HPF
          go_wp2_with fail
          go_loopw [8, 53] (fun g i wy => ∃ (m : Nat) (P2 : List Rv), m ≤ rS.length ∧ i = .int .i64 m ∧ Hid (Below wx.heap.size wx wy) ∧ Hid (DTb W W W wy 47 84 g P2) ∧ Hid (P2.map plR = addAll [] (Q2 ++ (rS.take m).map (fun s => (rL, s))))) (fun _ i _ => rS.length - (intOf i).toNat)
          case atStart => exact ⟨0, P, Nat.zero_le _, rfl, Lib.hid (Below.refl _ _), HNX, HPX⟩
          case round =>
            obtain ⟨m, P2, hm, rfl, HBY, HJ2, HPF2⟩ := hrel
            obtain ⟨mA, mc, rfl, hmc⟩ := HJ2.out.n.buf.shape
            clear HNX HPX
            by_cases hgo3 : m < rS.length
            · obtain ⟨s, hs⟩ : ∃ s, rS[m]? = some s := ⟨_, List.getElem?_eq_getElem hgo3⟩
              obtain ⟨pb, po, rfl, hpb, g1, g2⟩ := (HRX.out.2.below HBY.out).at_ hs
              have hfs : Q2 ++ (rS.take (m + 1)).map (fun s => (rL, s)) = (Q2 ++ (rS.take m).map (fun s => (rL, s))) ++ [(rL, s)] := by
                rw [List.take_add_one, hs]; simp
              have HFS := Lib.hid hfs
              obtain ⟨wy, hwy⟩ : ∃ wy, wy = wr.alloc (.cells #[.int .i64 s.1, .int .u64 (s.2 : Nat)] 31) := ⟨_, rfl⟩
              have hby : Below wr.heap.size wr wy := by rw [hwy]; exact below_alloc1 _ _
              have hSB : Blk wy wr.heap.size 31 #[.int .i64 s.1, .int .u64 (s.2 : Nat)] := by rw [hwy]; exact Blk.new _ _ _
              have HJ1 := Lib.hid (HJ2.out.below hby)
              have HB1 := Lib.hid (below_trans HBY.out hby)
              have hpl : (Q2 ++ (rS.take m).map (fun s => (rL, s))).length ≤ 240 := by
                rw [List.length_append, List.length_map, List.length_take]
                omega
              have hP1 : P2.length ≤ 1000000 := by
                have h3 := addAll_len (Q2 ++ (rS.take m).map (fun s => (rL, s))) []
                rw [← HPF2.out, List.length_map, List.length_nil] at h3
                omega
              have hP2 : ∀ y ∈ P2, y.ss.length ≤ 1000000 := fun y hy => by
                have h3 := addAll_bound (P := fun _ => True) (Q2 ++ (rS.take m).map (fun s => (rL, s))) [] 0 (fun _ _ => trivial) (fun x hx => by cases hx)
                rw [← HPF2.out] at h3
                have h4 : y.ss.length ≤ _ := (h3 (plR y) (List.mem_map_of_mem hy)).2
                omega
              have had := radd_any W W (.slice mA P2.length mc) (.slice la rL.length lc) P2 rL s wy (HJ1.out.rtb (Below.refl _ _)).tb (HRX.out.1.below HB1.out) HJ1.out.n.below HJ1.out.d (HRX2.out.imp id (fun h => h.then_below HB1.out)) hP1 hP2
              have HAD := Lib.hid had
              obtain ⟨u0, u1⟩ := hSB.c2
              obtain ⟨q0, q1⟩ := (HXB.out.below HB1.out).c2
              clear hs hfs hby hSB hpl hP1 hP2 had
              go_upto_region 15 with fail
              rw [← hwy]
              clear hwy
              go_wp2_with fail
              refine HAD.out.mono ?_
              rintro e w4 ⟨v4, P4, rfl, hd4, hm4⟩
              have HD4 := Lib.hid (hd4.after HJ1.out.n.below (Below.refl _ _))
              have HM4 := Lib.hid hm4
              have HB4 := Lib.hid (below_trans HB1.out hd4.n.below)
              clear hd4 hm4 HAD
              go_wp2_with fail
              go_roundw
              case rel => exact ⟨m + 1, P4, by omega, by go_num, HB4, HD4, Lib.hid (by rw [HFS.out, addAll_append, ← HPF2.out, HM4.out]; rfl)⟩
              case measure => simp [intOf]; omega
            · obtain rfl : m = rS.length := by omega
              have hpf := HPF2.out
              rw [List.take_length, ← HPT.out] at hpf
              have HPF3 := Lib.hid hpf
              have HB5 := Lib.hid (below_trans HB0.out HBY.out)
              clear hpf
              go_wp2_with fail
              go_roundw
              case rel => exact ⟨j + 1, P2, by omega, by go_num, HB5, HJ2, HPF3⟩
              case measure => simp [intOf]; omega
        · obtain rfl : j = s1.length := by omega
          have hpf := HPF.out
          rw [List.take_of_length_le (by rw [List.length_map]; exact Nat.le_refl _), HN1.out, HQ.out] at hpf
          have hpf : P.map plR = addAll [] (ptsL (ls.take (k + 1))) := by
            rw [hpf, HTK.out]
            unfold ptsL
            rw [List.flatMap_append]
            simp
          have HPF3 := Lib.hid hpf
          have htv := HV3.out.below HBZ.out
          rw [← HTK.out] at htv
          have HTV3 := Lib.hid htv
          clear hpf htv
          go_wp2_with fail
          go_roundw
          case rel => exact ⟨k + 1, P, _, by omega, by omega, by go_num, HTV3, HJ, HPF3⟩
          case measure => simp [intOf]; omega
    · have hkx : ls.take k = ls.take 4 := by
        have hnn := HN.out
        rcases Nat.lt_or_ge k 4 with h1 | h1
        · rw [List.take_of_length_le (by omega), List.take_of_length_le (by omega)]
        · obtain rfl : k = 4 := by omega
          rfl
      have hrr := HRR.out
      obtain ⟨R, hR⟩ : ∃ R, R = addAll [] (ptsL (ls.take k)) := ⟨_, rfl⟩
      have hRB : Tb R := by rw [hR]; exact (addAll_spec _ Tb.nil).1
      have hRC : cntR R ≤ 160 := by
        have h1 := cntR_addAll (ptsL (ls.take k)) Tb.nil
        have h2 := ptsL_len (ls.take k)
        rw [hlk] at h2
        rw [← hR] at h1
        have e : cntR ([] : List Row) = 0 := rfl
        omega
      have htv := fun w' hb => (HTV.out.below (w' := w') hb).call (by omega)
      rw [← hR] at hrr htv
      rw [hlk] at htv ⊢
      have HTVC := Lib.hid htv
      have HM0 := Lib.hid hrr
      have HRB := Lib.hid hRB
      have hOl : O.length ≤ 160 := by
        have h1 : (O.map plR).length ≤ cntR (O.map plR) := by
          have hne : ∀ r ∈ O.map plR, r.2 ≠ [] := by rw [hrr]; exact hRB.ne
          clear hrr htv
          generalize O.map plR = X at hne
          induction X with
          | nil => exact Nat.zero_le _
          | cons r X ih =>
            have h2 := ih fun y hy => hne y (List.mem_cons_of_mem _ hy)
            have h3 := hne r (List.mem_cons_self ..)
            rw [cntR_cons, List.length_cons]
            rcases hr : r.2 with _ | ⟨a, b⟩
            · exact absurd hr h3
            · simp; omega
        rw [List.length_map, hrr] at h1
        omega
      have hT := (HNB.out.rtb (Below.refl _ _)).tb
      have HWT := Lib.hid hT
      have HB0 := Lib.hid hbw
      have hcase : (k : Int) = (n : Int) ∨ ((k : Int) < (n : Int) ∧ (4 : Int) ≤ (k : Int)) := by omega
      clear hlk hkx hrr hR hRB htv hT hgo
      rcases hcase with h1 | ⟨h1, h2⟩
      case' inl => have h3 : (n : Int) ≤ (k : Int) := by omega
      case' inl => clear h1
      all_goals
        go_wp2_with fail
        go_loopw [9, 66] (fun s i wz => ∃ j m : Nat, j ≤ O.length ∧ i = .int .i64 j ∧ s = .int .i64 m ∧ m ≤ 160 ∧ Hid (Below wr.heap.size wr wz) ∧ Hid (m = cntR ((O.map plR).take j))) (fun _ i _ => O.length - (intOf i).toNat)
        case atStart => exact ⟨0, 0, Nat.zero_le _, rfl, rfl, Nat.zero_le _, Lib.hid (Below.refl _ _), Lib.hid rfl⟩
        case round =>
          obtain ⟨j, m, hj, rfl, rfl, hm, HBZ, HMC⟩ := hrel
          by_cases hgo2 : j < O.length
          · obtain ⟨r, hr⟩ : ∃ r, O[j]? = some r := ⟨_, List.getElem?_eq_getElem hgo2⟩
            obtain ⟨rL, rS, la, lc, sa, sc⟩ := r
            obtain ⟨rb, ro, rfl, r0, r1, _⟩ := (HWT.out.below HBZ.out).at_ hr
            dsimp only at r0 r1
            have hm2 : m + rS.length = cntR ((O.map plR).take (j + 1)) := by
              rw [List.take_add_one, List.getElem?_map, hr]
              show _ = cntR ((O.map plR).take j ++ [(rL, rS)])
              rw [cntR_snoc, ← HMC.out]
            have hle : m + rS.length ≤ 160 := by
              rw [hm2, HM0.out]
              exact Nat.le_trans (cntR_take _ _) hRC
            have HM2 := Lib.hid hm2
            have hw : IntKind.i64.wrap ((m : Int) + (rS.length : Int)) = (m : Int) + (rS.length : Int) := by rw [IntKind.wrap_i64]; omega
            have HB2 := Lib.hid (below_trans HBZ.out (below_alloc1 _ (.cells #[.slice la rL.length lc, .slice sa rS.length sc] 47)))
            clear hr hm2
            go_wp2_with fail
            go_roundw
            case rel => exact ⟨j + 1, m + rS.length, by omega, by go_num, by go_num, hle, HB2, HM2⟩
            case measure => simp [intOf]; omega
          · obtain rfl : j = O.length := by omega
            have hmz : m = cntR R := by rw [HMC.out, List.take_of_length_le (by rw [List.length_map]; exact Nat.le_refl _), HM0.out]
            have HMZ := Lib.hid hmz
            have HT4 := Lib.hid (HTVC.out _ HBZ.out)
            have HW4 := Lib.hid (HWT.out.below HBZ.out)
            have HB4 := Lib.hid (below_trans HB0.out HBZ.out)
            clear hmz HTVC HWT HB0 HMC HNB HTV HRR
            go_wp2_with fail
            refine HT4.out.mono ?_
            rintro e w5 ⟨v5, t5, rfl, b5, h5, m5, z5⟩
            have X5 := Lib.hid (And.intro h5 (And.intro m5 z5))
            have W5 := Lib.hid (HW4.out.below b5)
            have B5 := Lib.hid (below_trans HB4.out b5)
            clear b5 h5 m5 z5 HT4 HW4 HB4
            go_wp2_with fail
            refine (awake14_any _).mono ?_
            rintro e w6 ⟨rfl, b6⟩
            have X6 := Lib.hid (And.intro (X5.out.1.below b6) X5.out.2)
            have W6 := Lib.hid (W5.out.below b6)
            have B6 := Lib.hid (below_trans B5.out b6)
            have H6 := Lib.hid (told_at X6.out.1 X6.out.2.1 X6.out.2.2 (by decide))
            clear b6 X5 W5 B5
            go_wp2_with fail
            refine H6.out.mono ?_
            rintro e w7 ⟨v7, t7, rfl, b7, h7, m7, z7⟩
            have X7 := Lib.hid (And.intro (X6.out.1.below b7) X6.out.2)
            have W7 := Lib.hid (W6.out.below b7)
            have B7 := Lib.hid (below_trans B6.out b7)
            have H7 := Lib.hid (rsame_any _ _ _ _ _ h7 W7.out (m7.trans HM0.out.symm))
            clear b7 h7 m7 z7 H6 X6 W6 B6
            go_wp2_with fail
            refine H7.out.mono ?_
            rintro e w8 ⟨rfl, b8⟩
            have X8 := Lib.hid (And.intro (X7.out.1.below b8) X7.out.2)
            have W8 := Lib.hid (W7.out.below b8)
            have B8 := Lib.hid (below_trans B7.out b8)
            have hg8 := mgood_any _ _ _ X8.out.1
            rw [X8.out.2.1, goodB_true HRB.out.good] at hg8
            have H8 := Lib.hid hg8
            clear b8 hg8 H7 X7 W7 B7
            go_wp2_with fail
            refine H8.out.mono ?_
            rintro e w9 ⟨rfl, b9⟩
            have X9 := Lib.hid (And.intro (X8.out.1.below b9) X8.out.2)
            have W9 := Lib.hid (W8.out.below b9)
            have B9 := Lib.hid (below_trans B8.out b9)
            have hc9 := mcount_any _ _ _ X9.out.1 (by rw [X9.out.2.1]; omega)
            rw [X9.out.2.1, ← HMZ.out] at hc9
            have H9 := Lib.hid hc9
            clear b9 hc9 H8 X8 W8 B8
            go_wp2_with fail
            refine H9.out.mono ?_
            rintro e wa ⟨rfl, ba⟩
            have XA := Lib.hid (And.intro (X9.out.1.below ba) X9.out.2)
            have WA := Lib.hid (W9.out.below ba)
            have BA := Lib.hid (below_trans B9.out ba)
            have HA := Lib.hid (between_at x y XA.out.1 XA.out.2.1 XA.out.2.2 (by decide) (by decide))
            clear ba H9 X9 W9 B9
            go_wp2_with fail
            refine HA.out.mono ?_
            rintro e wb ⟨vb, tb, rfl, bb, hb, mb, zb⟩
            have WB := Lib.hid (WA.out.below bb)
            have BB := Lib.hid (below_trans BA.out bb)
            have HB := Lib.hid (told_at hb mb zb (by decide))
            clear bb hb mb zb HA XA WA BA
            go_wp2_with fail
            refine HB.out.mono ?_
            rintro e wc ⟨vc, tc, rfl, bc, hc, mc, zc⟩
            have XC := Lib.hid (And.intro hc mc)
            have WC := Lib.hid (WB.out.below bc)
            have BC := Lib.hid (below_trans BB.out bc)
            have hbt := rbetween_any _ _ x y _ WC.out (by rw [HM0.out]; omega)
            rw [HM0.out, betwR_eq x y HRB.out] at hbt
            have HC := Lib.hid hbt
            clear bc hc mc zc hbt HB WB BB
            go_wp2_with fail
            refine HC.out.mono ?_
            rintro e wd ⟨vd, td, rfl, dd, md⟩
            have BD := Lib.hid (below_trans BC.out dd.n.below)
            have HD := Lib.hid (rsame_any _ _ _ _ _ (XC.out.1.below dd.n.below) (dd.rtb (Below.refl _ _)).tb (XC.out.2.trans md.symm))
            clear dd md HC XC WC BC
            go_wp2_with fail
            refine HD.out.mono ?_
            rintro e we ⟨rfl, be⟩
            have BE := Lib.hid (below_trans BD.out be)
            clear be HD BD
            go_wp2_with fail
            go_ret
            exact ⟨rfl, BE.out⟩
set_option maxHeartbeats 8000000 in
set_option maxRecDepth 100000 in
theorem mergeTables_lifted (os : Os) (started : os.Started) (H : Type) (enc : TypeId × Value → H) :
    ReturnsInHanded {} Tryd.checked os 8 .any (fun w args => (Rows.mergeTablesSpec.pre enc Tryd.prog Tryd.f8 [] false w args ∧ laidMetH Tryd.prog [("unicode/utf8.acceptRanges", Rows.laid_unicode_utf8_acceptRanges), ("unicode/utf8.first", Rows.laid_unicode_utf8_first)] w) ∧ sizedMet enc Tryd.prog Tryd.f8 (OpenSpec.ofChange Rows.mergeTablesSpec) false w args)
      (Rows.mergeTablesSpec.post enc Tryd.prog Tryd.f8 false true false false) := by
  refine returnsInHanded_of_change_and (C := Tryd.checked) (X := fun w _ => laidMetH Tryd.prog [("unicode/utf8.acceptRanges", Rows.laid_unicode_utf8_acceptRanges), ("unicode/utf8.first", Rows.laid_unicode_utf8_first)] w) (fun _ _ _ hh h => h.of_heap hh) law_own started (by kernel_rfl) Tryd.func8
    (ChangeSpec.witness_shaped (enc := enc) (C := Tryd.checked) (os := os) (X := fun w _ => laidMetH Tryd.prog [("unicode/utf8.acceptRanges", Rows.laid_unicode_utf8_acceptRanges), ("unicode/utf8.first", Rows.laid_unicode_utf8_first)] w) false (World.laidAll Tryd.prog os [("unicode/utf8.acceptRanges", Rows.laid_unicode_utf8_acceptRanges), ("unicode/utf8.first", Rows.laid_unicode_utf8_first)]) #[.slice none 0 0, .int .i64 0, .int .i64 0] 8 (World.laidAll_os _ _ _)
      (World.shaped_of_ZipB (by kernel_rfl) (by kernel_rfl)) (by kernel_rfl) (by kernel_rfl) (by kernel_rfl) (door_met os _)) ?_
  intro W base args ds gs before hval0 hW _ _ hL _
  have hval : ∀ (j : Nat) t v, Tryd.f8.params[j]? = some t → args[j]? = some v → Value.okWide Tryd.prog W .any base t v := hval0
  have hW' := hW
  obtain ⟨p, q, hA0, hV, rfl, _, _⟩ := hW
  have hA : DataW.TrodAll enc Tryd.prog W 0 (fun _ => true) true Tryd.f8.params.toList args.toList ds p := hA0
  rw [Tryd.params8] at hA hval
  obtain ⟨v0, vs0, d0, ds0, p0, q0, hargs, rfl, rfl, h0, r0⟩ := trodAll_cons hA
  obtain ⟨v1, vs1, d1, ds1, p1, q1, rfl, rfl, rfl, h1, r1⟩ := trodAll_cons r0
  obtain ⟨v2, vs2, d2, ds2, p2, q2, rfl, rfl, rfl, h2, r2⟩ := trodAll_cons r1
  obtain ⟨rfl, rfl, rfl⟩ := trodAll_nil r2
  obtain rfl : args = #[v0, v1, v2] := by cases args; simp_all
  obtain ⟨rfl, rfl⟩ := trodVars_none hV
  obtain ⟨a1, rfl, rfl, rfl, w1⟩ := open_int Tryd.underlying2 (hval 1 2 v1 rfl rfl) h1
  obtain ⟨a2, rfl, rfl, rfl, w2⟩ := open_int Tryd.underlying2 (hval 2 2 v2 rfl rfl) h2
  obtain ⟨ts0, hts0⟩ := open_lists14 (hval 0 22 v0 rfl rfl) h0
  refine (mergeTables_walk0 v0 ts0 a1 w1 a2 w2 W hts0 (of_laid hL)).mono fun e W' ⟨he, hb⟩ => ?_
  subst he
  exact ⟨_, rfl, law_post law_laid (by intro t ht; rw [Tryd.params8] at ht; simp only [List.mem_cons, List.not_mem_nil, or_false] at ht; rcases ht with rfl | rfl | rfl <;> exact ⟨by kernel_rfl, of_decide_eq_true (by kernel_rfl)⟩) rfl Tryd.underlying4 rfl rfl hW' hb⟩

theorem mergeTables_holds : Rows.MergeTablesSaid :=
  OpenClaim.holds_of_wide 8 Tryd.f8 rfl rfl rfl rfl rfl rfl rfl ⟨rfl, rfl, rfl, rfl, rfl⟩ rfl rfl rfl rfl rfl (by kernel_rfl) Tryd.func8 (by kernel_rfl)
    (of_decide_eq_true (by kernel_rfl)) (by unfold Func.isWrapper; first | (rw [if_pos (by decide +kernel)]; kernel_rfl) | (rw [if_neg (by decide +kernel)]; exact ⟨rfl, rfl⟩))
    (fun os started H enc _ => mergeTables_lifted os started H enc)

theorem mergeTables_card : Rows.MergeTablesCardSaid :=
  Claim7.holds_tied_plain_at .later [] [.data, .pinned] true (true, "b5117781a2fc4f5bf1bebc4ed0b17e914806c6cca6626edf4671d5f934c5a5b4") true
    mergeTables_holds (fun _ h => by cases h) (by kernel_rfl) (fun _ h => by cases h) mergeTables_row_tie rfl ⟨rfl, rfl⟩ (by kernel_rfl) rfl
    (fun f fn hf hfn => by
      obtain rfl : f = 8 := Option.some.inj ((show Tryd.prog.funcNamed "barograph/barographlaw14.MergeTables" = some 8 by kernel_rfl).symm.trans hf) |>.symm
      obtain rfl : fn = Tryd.f8 := (Option.some.inj (Tryd.func8.symm.trans hfn)).symm
      exact ⟨by kernel_rfl, fun j t ht => by
        rw [Tryd.params8] at ht
        rcases j with _ | j
        · obtain rfl : t = 22 := by simpa using ht.symm
          exact (show Tryd.prog.wantsStandIn 22 = false by kernel_rfl)
        rcases j with _ | j
        · obtain rfl : t = 2 := by simpa using ht.symm
          exact (show Tryd.prog.wantsStandIn 2 = false by kernel_rfl)
        rcases j with _ | j
        · obtain rfl : t = 2 := by simpa using ht.symm
          exact (show Tryd.prog.wantsStandIn 2 = false by kernel_rfl)
        simp at ht⟩)
    (by kernel_rfl)

end Go.Proofs.YtfimalbdlepfnaaDoor
