/-
  Law 11 (wal), WalSegments: no segment is greater than the limit, but for one with a single Append; all are whole: for every input.
  Conditions: none.
-/
import Derived.Test.YtcopknopifbebaaGreatDoorZWalLA
import Derived.Test.YtcopknopifbebaaGreatDoorZLib24
import Derived.Test.YtcopknopifbebaaGreatDoorTie
import Derived.Test.YtcopknopifbebaaGreatDoorCards
import Derived.Test.YtcopknopifbebaaGreatDoorZLib3

namespace Go.Proofs.YtcopknopifbebaaGreatDoor
open Go.RowKit Go.Bar Go.Bar.Wal Go.Bar.Leb Go.Bar.Frm Go.Conc Go.ChangeShapes Go.WideShapes Go.ChangeAt Go.Deep
attribute [local go_sem] Oper.semAt_some
def RssAt (W : World) (v : Value) (ls : List (List Rc)) : Prop := ∃ vs : List Value, SlAt W 1 v ls.length vs ∧ vs.length = ls.length ∧ ∀ (i : Nat) (l : List Rc), ls[i]? = some l → ∃ u, vs[i]? = some u ∧ RecsAt W u l ∧ ∀ r ∈ l, r.2.length ≤ maxLen
set_option maxRecDepth 100000 in
theorem open_rss {H : Type} {enc : TypeId × Value → H} {W : World} {base b0 : Nat} {spare : Nat → Bool} {held : Bool} {r : Reach} {v : Value} {d : DataW H} {p : List MemPlace} (hval : Value.okWide Tryz.prog W r b0 47 v)
    (h : DataW.Trod enc Tryz.prog W base spare held 47 v d p) : ∃ ls, RssAt W v ls := by
  obtain ⟨A, len, cap, rfl⟩ := okWide_slice Tryz.underlying47 hval
  obtain ⟨k, hk⟩ := h
  have e : (Value.slice A len cap).cells.toList = [.slice A len cap] := by simp [Value.cells]
  rw [e] at hk
  obtain ⟨A, n, c, he, hnc, hcm, hx⟩ := open_ones_raw Tryz.underlying47 (by kernel_rfl) hk
  rw [he]
  rcases Nat.eq_zero_or_pos n with h0 | h0
  · subst h0
    exact ⟨[], [], ⟨rfl, A, c, rfl, hnc, hcm, fun h => absurd h (by simp)⟩, rfl, by simp⟩
  · obtain ⟨b, o, rfl, hb, hf⟩ := hx h0
    obtain ⟨rs, hl, ht⟩ := list_of (fun i (x : Value × List Rc) => W.cell? ⟨b, o + i, none⟩ = some x.1 ∧ RecsAt W x.1 x.2 ∧ ∀ r ∈ x.2, r.2.length ≤ maxLen) n (fun i hi => by
      obtain ⟨x0, y0, k0, c0, t0⟩ := hf i hi
      obtain ⟨l, hl, ho⟩ := open_recs_raw t0
      exact ⟨(x0, l), c0, hl, ho⟩)
    refine ⟨rs.map (·.2), rs.map (·.1), ⟨by simp, some ⟨b, o, none⟩, c, by rw [List.length_map, hl], by rw [List.length_map, hl]; exact hnc, hcm, fun _ => ⟨b, o, rfl, hb, fun j hj => ?_⟩⟩, by simp, fun i l hi => ?_⟩
    · rw [List.length_map] at hj
      have hlt : j < rs.length := by omega
      have hg := List.getElem?_eq_getElem hlt
      rw [List.getElem?_map, hg]
      exact (ht j _ hg).1
    · rw [List.getElem?_map] at hi
      rcases hg : rs[i]? with _ | x
      · rw [hg] at hi; cases hi
      · rw [hg] at hi
        injection hi with hi
        subst hi
        exact ⟨x.1, by rw [List.getElem?_map, hg]; rfl, (ht i x hg).2⟩
theorem RssAt.at_ {w : World} {v : Value} {ls : List (List Rc)} (h : RssAt w v ls) {i : Nat} {l : List Rc} (hi : ls[i]? = some l) : ∃ b o c u, v = .slice (some ⟨b, o, none⟩) ls.length c ∧ b < w.heap.size ∧ w.cell? ⟨b, o + i, none⟩ = some u ∧ RecsAt w u l ∧ ∀ r ∈ l, r.2.length ≤ maxLen := by
  obtain ⟨vs, h1, h2, h3⟩ := h
  obtain ⟨u, hu, h4, h5⟩ := h3 i l hi
  obtain ⟨A, c, rfl, _, _⟩ := h1.shape
  have hp : 0 < ls.length := Nat.lt_of_le_of_lt (Nat.zero_le _) (List.getElem?_eq_some_iff.1 hi).1
  obtain ⟨b, o, rfl, hlt, hc⟩ := h1.cells (by omega)
  exact ⟨b, o, c, u, rfl, hlt, hc i u hu, h4, h5⟩
theorem RssAt.shape {w : World} {v : Value} {ls : List (List Rc)} (h : RssAt w v ls) : ∃ A c, v = .slice A ls.length c ∧ ls.length ≤ c ∧ c ≤ maxLen := by
  obtain ⟨vs, h1, _, _⟩ := h
  exact h1.shape
theorem segment_any (w : World) (L : Nat) (h : Hd) (g : Lg) (l : LgAt w L h g) : Calls Tryz.prog 26 #[.pointer (some ⟨L, 0, none⟩)] w (RetBelow w (.int .i64 (g.seg : Nat))) := by
  obtain ⟨d0, d1, d2, d3, d4⟩ := Blk.c5 l
  go_enter Tryz.func26, Tryz.ntmps26
  go_wp2_with fail
  go_ret
  exact ⟨rfl, Below.refl _ _⟩

theorem segN_short (n : Nat) (hn : n ≤ 9223372036854775807) : (segN n).length ≤ 40 := by
  have hdl : (Lib.decDigits n).length ≤ 19 := (pad_d10 18 n (by omega)).1
  unfold segN
  simp only [List.length_append, List.length_replicate]
  have : pre.length = 4 := rfl
  omega

def SgE (M : Int) (k one : Nat) (d : Ds) (g : Lg) : Prop := SegI M k one (300 * k) d g ∧ g.size ≤ 300 * k ∧ g.seg ≤ k + 1 ∧ one ≤ 300
theorem SgE.app {M : Int} {k one : Nat} {d : Ds} {g : Lg} (h : SgE M k one d g) (hk : k < 15) (rs : List Rc) (h1 : ∀ r ∈ rs, r.2.length ≤ 30) (h2 : rs.length ≤ 4) :
    ∃ d' g', wAppend d g rs = (0, d', g') ∧ SgE M (k + 1) (max one (laid rs).length) d' g' := by
  obtain ⟨a1, a2, a3, a4⟩ := h
  have hl := laid_short rs (fun r hr => Nat.le_trans (h1 r hr) (by decide))
  obtain ⟨d', g', e, b1⟩ := a1.app (rs := rs) (fun r hr => Nat.le_trans (h1 r hr) (by decide)) (by omega) (by omega)
  have hs := wAppend_size d g rs
  rw [e] at hs
  have hs2 : g'.size ≤ g.size + (laid rs).length := hs
  refine ⟨d', g', e, ⟨b1.ex, b1.z, b1.lm, b1.acc, b1.rm, by have := b1.us; omega⟩, by omega, ?_, by omega⟩
  obtain ⟨q, A, c1, c2, c3, _⟩ := b1.ex
  rcases Nat.eq_zero_or_pos q with e | e
  · have := c3 e; omega
  · rcases c1.at_ with ⟨h3, _⟩ | ⟨h3, _⟩
    · rw [range_last e] at h3
      have := Option.some.inj h3; omega
    · rw [List.range'_eq_nil_iff] at h3; omega

set_option maxHeartbeats 8000000 in
set_option maxRecDepth 10000 in
theorem walSegments_walk0 (v : Value) (lss : List (List Rc)) (limit : Int) (hwf : (Lit.int .i64 limit).wf = true) (w : World) (h0 : RssAt w v lss) (hE : EnvAt w) :
    Calls Tryz.prog 5 #[v, .int .i64 limit] w (RetBelow w (.bool true)) := by
  have hlim := bounds_i64 hwf
  clear hwf
  obtain ⟨A0, c0, rfl, hlc, hcm⟩ := h0.shape
  unfold maxLen at hcm
  have H0 := Lib.hid h0
  have hB4 := hE.four
  obtain ⟨B, hBe⟩ : ∃ B, B = w.heap.size := ⟨_, rfl⟩
  rw [← hBe] at hB4
  have hE0 := Lib.hid hE
  have hEx : ∀ wx, Below B w wx → EnvAt wx := fun wx hb => hE.bel hb hB4
  have HEX := Lib.hid hEx
  have hbs : ∀ wx, Off LTs B w wx → B ≤ wx.heap.size := fun wx o => by rw [hBe]; exact o.size
  have HBS := Lib.hid hbs
  obtain ⟨M, hM⟩ : ∃ M, min (max limit 1) 500 = M := ⟨_, rfl⟩
  have hM1 : 1 ≤ M ∧ M ≤ 500 := by omega
  have hMx : max M 1 = M := by omega
  clear hbs hEx hE h0 hlim
  have ho := open_new 1048576 M
  rw [hMx] at ho
  have hS : Hid (SgE M 0 0 (Ds.new 1048576) ⟨M, 1, 0, false⟩) := ⟨⟨⟨0, _, ho.2, Nat.le_refl _, fun _ => rfl, fun n hn => by cases hn⟩, rfl, rfl, Acc.new _, rfl, Int.le_refl _⟩, Nat.le_refl _, Nat.le_refl _, by decide⟩
  have hnew := Lib.hid (new_any w 1048576)
  rw [← hBe] at hnew
  have cO1 := Lib.hid (fun wx h (kx : DkAt wx h (Ds.new 1048576)) hx (hB : h.Hi B) => open_ok wx h _ B 0 M _ _ _ ho.1 kx hx hB hB4 (Acc.new _) (by decide) (by decide))
  have HMX := Lib.hid hMx
  clear ho hMx
  go_enter Tryz.func5, Tryz.ntmps5
  go_wp2_with (first
    | (go_at_call 17; refine (awake11_any w3 (HEX.out _ O3.out.bel)).mono ?_; rintro e w4 ⟨rfl, hb4⟩)
    | (go_at_call 11; refine hnew.out.mono ?_; rintro e w2 ⟨h, rfl, k2, hB, hb2⟩)
    | (go_at_call 12; refine (cO1.out w2 h k2 (HEX.out _ hb2) hB).mono ?_; rintro e w3 ⟨L, A, cp, rfl, k3, l3, hL, o3, _⟩; have O3 := Lib.hid ((show Off LTs B w w2 from ⟨Kc.of_below (by have := hb2; rwa [hBe] at this), hb2⟩).trans o3)))
  have O4 := Lib.hid (O3.out.trans (Off.of_below hb4 (HBS.out _ O3.out)))
  have K4 := Lib.hid (k3.below hb4)
  have L4 := Lib.hid (l3.below hb4)
  clear hnew cO1 O3 k2 k3 l3 o3 hb2 hb4
  go_loopw [9, 10] (fun o i wr => ∃ (k one : Nat) (d : Ds) (g : Lg), i = .int .i64 k ∧ o = .int .i64 one ∧ k ≤ lss.length ∧ k ≤ 15 ∧ one ≤ 300 ∧ Hid (SgE M k one d g) ∧ Hid (DkAt wr h d) ∧ Hid (LgAt wr L h g) ∧ Hid (Off LTs B w wr)) (fun _ i _ => 15 - (intOf i).toNat)
  case atStart => exact ⟨0, 0, _, _, rfl, rfl, Nat.zero_le _, by omega, by omega, hS, K4, L4, O4⟩
  case round =>
    obtain ⟨k, one, d, g, rfl, rfl, hk, hk15, ho3, hI, hkk, hll, hoo⟩ := hrel
    by_cases hgo : k < lss.length ∧ k < 15
    · obtain ⟨hk1, hk2⟩ := hgo
      obtain ⟨ls, hki⟩ : ∃ r, lss[k]? = some r := ⟨_, List.getElem?_eq_getElem hk1⟩
      have hbl : Below w.heap.size w wr := by have := hoo.out.bel; rwa [hBe] at this
      obtain ⟨b, o, c', u, he, hlt, hcell, hrs, hsz⟩ := (show RssAt wr (.slice A0 lss.length c0) lss from by
        obtain ⟨vs, g1, g2, g3⟩ := H0.out
        exact ⟨vs, SlAt.below g1 hbl, g2, fun i l hi => by obtain ⟨u, g4, g5, g6⟩ := g3 i l hi; exact ⟨u, g4, g5.below hbl, g6⟩⟩).at_ hki
      injection he with he1 he2 he3
      subst he1; subst he3
      obtain ⟨F, D, C⟩ := few4_few ls
      have hfew := Lib.hid (few11_any u ls wr hrs hsz)
      obtain ⟨X, hX⟩ : ∃ X, X = few4 ls := ⟨_, rfl⟩
      rw [← hX] at F D C hfew
      obtain ⟨S, hS'⟩ : ∃ S, S = laid X := ⟨_, rfl⟩
      have hSl : S.length ≤ 300 := by rw [hS']; have := laid_short X (fun r hr => Nat.le_trans (D r hr) (by decide)); omega
      obtain ⟨d', g', ea, hI2⟩ := hI.out.app hk2 X D C
      rw [← hS'] at hI2
      have hSG := hI.out.1
      have hgs := hI.out.2.1
      have hgg := hI.out.2.2.1
      have cA := Lib.hid (fun wx v (kx : DkAt wx h d) (lx : LgAt wx L h g) hx (hv : RecsAt wx v X) => append_ok wx L h d g B k v X _ _ _ ea kx lx hx hB hL hB4 hSG.acc (by omega) (by rw [hSG.rm]; decide) hv (by omega) (fun r hr => Nat.le_trans (D r hr) (by decide)) (by rw [hSG.lm]; exact hM1.1) (by rw [hSG.lm]; omega) (by omega) (by omega))
      have hlad : Hid (∀ wx v, RecsAt wx v X → Calls Tryz.prog 21 #[v] wx (fun en w' => ∃ v', en = .returned (.tuple #[.string (bs S), v']) ∧ Below wx.heap.size wx w')) := fun wx v hv => by
        rw [hS']
        refine (laid_any v X wx hv (by omega) (fun r hr => Nat.le_trans (D r hr) (by decide))).mono ?_
        rintro en w' ⟨v', e, nb⟩
        exact ⟨v', e, nb.below⟩
      obtain ⟨N, hN⟩ : ∃ N : Nat, N = max one S.length := ⟨_, rfl⟩
      have hmx : max (one : Int) (S.length : Int) = (N : Int) := by omega
      have hN3 : N ≤ 300 := by omega
      rw [← hN] at hI2
      have HI := Lib.hid hI2
      have hci : (0 : Int) ≤ (k : Int) := by omega
      have hci2 : (k : Int) < lss.length := by omega
      clear hki hlt hrs hsz hX F D C hS' hI2 hSG hgs hgg ea hN hI
      go_wp2_with (first
        | (go_at_call 14; refine (cA.out w6 v5 k6 l6 (HEX.out _ O6.out.bel) (SlAt.of_buf q6)).mono ?_; rintro e w7 ⟨rfl, k7, l7, o7⟩)
        | (go_at_call 21; refine (hlad.out w5 v5 (SlAt.of_buf q5)).mono ?_; rintro e w6 ⟨v6, rfl, hb6⟩; have k6 := (hkk.out.below hb5).below hb6; have l6 := (hll.out.below hb5).below hb6; have O6 := Lib.hid (hoo.out.trans (Off.of_below (below_trans hb5 hb6) (HBS.out _ hoo.out))); have q6 := q5.below hb6)
        | (go_at_call 16; refine hfew.out.mono ?_; rintro e w5 ⟨v5, rfl, q5, hb5⟩))
      have O7 := Lib.hid (O6.out.trans o7)
      have K7 := Lib.hid k7
      have L7 := Lib.hid l7
      clear k7 l7 o7 k6 l6 O6 q5 q6 hb5 hb6
      go_roundw
      case rel => exact ⟨k + 1, N, d', g', by go_num, rfl, by omega, by omega, hN3, HI, K7, L7, O7⟩
      case measure => simp [intOf]; omega
    · have hend : lss.length ≤ k ∨ k < lss.length ∧ 15 ≤ k := by omega
      obtain ⟨q, A', hls, hq, hgq, hcl⟩ := hI.out.1.end_ (by omega)
      have hSG := hI.out.1
      have cL : Hid (∀ wx, DkAt wx h d → Calls Tryz.prog 22 #[.pointer (some ⟨h.D, 0, none⟩), .string { data := #[119, 97, 108, 45] }] wx fun e w' => ∃ A cp, e = .returned (.slice A q cp) ∧ Buf w' 9 1 (.slice A q cp) q (scs ((List.range' 1 q).map segN)) ∧ Below wx.heap.size wx w') := fun wx kx => by
        refine (dList_any wx h d k kx hSG.acc (by omega) pre (by decide)).mono ?_
        rintro e w' ⟨v, rfl, hb, hbel⟩
        rw [hls] at hb
        have hlq : ((List.range' 1 q).map segN).length = q := by rw [List.length_map, List.length_range']
        rw [hlq] at hb
        obtain ⟨A, cp, rfl, _⟩ := hb.shape
        exact ⟨A, cp, rfl, hb, hbel⟩
      have hat : ∀ j, j < q → (scs ((List.range' 1 q).map segN))[j]? = some (.string (bs (segN (j + 1)))) := fun j hj => by
        refine scs_at ?_
        rw [List.getElem?_map, List.getElem?_range' (by omega)]
        simp only [Option.map_some, Nat.one_mul]
        rw [Nat.add_comm 1 j]
      have HAT := Lib.hid hat
      obtain ⟨P, hP⟩ : ∃ P : Int, max M (one : Int) = P := ⟨_, rfl⟩
      have hrd : ∀ j, j < q → ∃ T : List UInt8, d.read (segN (j + 1)) = (T, 0) ∧ left T = [] ∧ (T.length : Int) ≤ P ∧ T.length ≤ 500 := fun j hj => by
        obtain ⟨r1, r2, r3⟩ := hcl (j + 1) (List.mem_range'_1.2 ⟨by omega, by omega⟩)
        exact ⟨_, r1, r2, by omega, by omega⟩
      have HRD := Lib.hid hrd
      obtain ⟨G, hG⟩ : ∃ G, G = g.seg := ⟨_, rfl⟩
      have cS := Lib.hid (fun wx (lx : LgAt wx L h g) => segment_any wx L h g lx)
      rw [← hG] at cS hgq
      have hmq : max (q : Int) 1 = (G : Int) := by omega
      have KK := Lib.hid (fun wx (hb : Below wr.heap.size wr wx) => (hkk.out.below hb : DkAt wx h d))
      have LL := Lib.hid (fun wx (hb : Below wr.heap.size wr wx) => (hll.out.below hb : LgAt wx L h g))
      have EE := Lib.hid (fun wx (hb : Below wr.heap.size wr wx) => (HEX.out wx (hoo.out.trans (Off.of_below hb (HBS.out _ hoo.out))).bel : EnvAt wx))
      have hbw : Below w.heap.size w wr := by have := hoo.out.bel; rwa [hBe] at this
      have HBW := Lib.hid hbw
      clear hcl hls hat hrd hG hSG hI hgq hkk hll hgo hbw
      rcases hend with hend | ⟨hend1, hend2⟩
      all_goals
        go_wp2_with (go_at_call 22; refine (cL.out wr (KK.out _ (Below.refl _ _))).mono ?_; rintro e w9 ⟨NA, nc, rfl, nbuf, hb9⟩)
        have NB := Lib.hid nbuf
        have B9 := Lib.hid hb9
        clear nbuf hb9
        go_loopw [68] (fun i wz => ∃ j : Nat, i = .int .i64 j ∧ j ≤ q ∧ Hid (Below w9.heap.size w9 wz)) (fun i _ => q - (intOf i).toNat)
        case atStart => exact ⟨0, rfl, Nat.zero_le _, Lib.hid (Below.refl _ _)⟩
        case round =>
          obtain ⟨j, rfl, hj, hbz⟩ := hrel
          by_cases hjq : j < q
          · obtain ⟨bb, oo, rfl, hlt, hcells⟩ := (SlAt.of_buf NB.out).cells (by omega)
            have hcell : wr.cell? ⟨bb, oo + j, none⟩ = some (.string (bs (segN (j + 1)))) := (hbz.out.cell (p := ⟨bb, oo + j, none⟩) hlt).trans (hcells j _ (HAT.out j hjq))
            obtain ⟨T, hT1, hT2, hT3, hT4⟩ := HRD.out j hjq
            have hj15 : j ≤ 15 := by omega
            have cN := Lib.hid (fun wx (hx : EnvAt wx) => name_any wx hx (j + 1) (by omega))
            have hsl := segN_short (j + 1) (by omega)
            obtain ⟨NM, hNM⟩ : ∃ NM, NM = segN (j + 1) := ⟨_, rfl⟩
            rw [← hNM] at hcell hT1 hsl cN
            have cR := Lib.hid (fun wx (kx : DkAt wx h d) => dRead_any wx h d kx NM (by unfold maxLen; omega))
            rw [hT1] at cR
            rw [show (((j + 1 : Nat)) : Int) = (j : Int) + 1 by omega] at cN
            have cAll := Lib.hid (fun wx => all_of (l := T) rfl hT2 (n := (T.length : Int)) (by simp) wx (by omega))
            have hci : (0 : Int) ≤ (j : Int) := by omega
            have hci2 : (j : Int) < q := by omega
            have B9z := Lib.hid (below_trans B9.out hbz.out)
            clear hNM hT1 hT2 hlt hcells
            go_wp2_with (first
              | (go_at_call 25; refine (cN.out wb (EE.out _ (below_trans B9z.out hbA))).mono ?_; rintro e wc ⟨rfl, hbc⟩)
              | (go_at_call 24; refine (cAll.out wa).mono ?_; rintro e wb ⟨rv, rfl, _, hbb⟩; have hbA := below_trans hba hbb)
              | (go_at_call 23; refine (cR.out wr (KK.out _ B9z.out)).mono ?_; rintro e wa ⟨rfl, hba⟩))
            have hbZ := Lib.hid (below_trans (below_trans hbz.out hbA) hbc)
            clear hba hbb hbc hbA
            go_roundw
            case rel => exact ⟨j + 1, by go_num, by omega, hbZ⟩
            case measure => simp [intOf]; omega
          · obtain rfl : j = q := by omega
            have B9z := Lib.hid (below_trans B9.out hbz.out)
            go_wp2_with (first
              | (go_at_call 22; refine (cL.out wa (KK.out _ (below_trans B9z.out hba))).mono ?_; rintro e wb ⟨NA2, nc2, rfl, _, hbb⟩)
              | (go_at_call 26; refine (cS.out wr (LL.out _ B9z.out)).mono ?_; rintro e wa ⟨rfl, hba⟩))
            go_ret
            exact ⟨rfl, below_trans (below_trans HBW.out B9z.out) (below_trans hba hbb)⟩
set_option maxHeartbeats 8000000 in
set_option maxRecDepth 100000 in
theorem walSegments_lifted (os : Os) (started : os.Started) (H : Type) (enc : TypeId × Value → H) :
    ReturnsInHanded {} Tryz.checked os 5 .any (fun w args => (Rows.walSegmentsSpec.pre enc Tryz.prog Tryz.f5 [] false w args ∧ laidMetH Tryz.prog [("math/bits.deBruijn32tab", Rows.laid_math_bits_deBruijn32tab), ("math/bits.deBruijn64tab", Rows.laid_math_bits_deBruijn64tab), ("internal/strconv.uint64pow10", Rows.laid_internal_strconv_uint64pow10), ("strconv.ErrRange", Rows.laid_strconv_ErrRange), ("strconv.ErrSyntax", Rows.laid_strconv_ErrSyntax)] w) ∧ sizedMet enc Tryz.prog Tryz.f5 (OpenSpec.ofChange Rows.walSegmentsSpec) false w args)
      (Rows.walSegmentsSpec.post enc Tryz.prog Tryz.f5 false true false false) := by
  refine returnsInHanded_of_change_and (C := Tryz.checked) (X := fun w _ => laidMetH Tryz.prog [("math/bits.deBruijn32tab", Rows.laid_math_bits_deBruijn32tab), ("math/bits.deBruijn64tab", Rows.laid_math_bits_deBruijn64tab), ("internal/strconv.uint64pow10", Rows.laid_internal_strconv_uint64pow10), ("strconv.ErrRange", Rows.laid_strconv_ErrRange), ("strconv.ErrSyntax", Rows.laid_strconv_ErrSyntax)] w) (fun _ _ _ hh h => h.of_heap hh) law_own started (by kernel_rfl) Tryz.func5
    (ChangeSpec.witness_shaped (enc := enc) (C := Tryz.checked) (os := os) (X := fun w _ => laidMetH Tryz.prog [("math/bits.deBruijn32tab", Rows.laid_math_bits_deBruijn32tab), ("math/bits.deBruijn64tab", Rows.laid_math_bits_deBruijn64tab), ("internal/strconv.uint64pow10", Rows.laid_internal_strconv_uint64pow10), ("strconv.ErrRange", Rows.laid_strconv_ErrRange), ("strconv.ErrSyntax", Rows.laid_strconv_ErrSyntax)] w) false (World.laidAll Tryz.prog os [("math/bits.deBruijn32tab", Rows.laid_math_bits_deBruijn32tab), ("math/bits.deBruijn64tab", Rows.laid_math_bits_deBruijn64tab), ("internal/strconv.uint64pow10", Rows.laid_internal_strconv_uint64pow10), ("strconv.ErrRange", Rows.laid_strconv_ErrRange), ("strconv.ErrSyntax", Rows.laid_strconv_ErrSyntax)]) #[.slice none 0 0, .int .i64 0] 8 (World.laidAll_os _ _ _)
      (World.shaped_of_ZipB (by kernel_rfl) (by kernel_rfl)) (by kernel_rfl) (by kernel_rfl) (by kernel_rfl) (door_met os _)) ?_
  intro W base args ds gs before hval0 hW _ _ hL _
  have hval : ∀ (j : Nat) t v, Tryz.f5.params[j]? = some t → args[j]? = some v → Value.okWide Tryz.prog W .any base t v := hval0
  have hW' := hW
  obtain ⟨p, q, hA0, hV, rfl, _, _⟩ := hW
  have hA : DataW.TrodAll enc Tryz.prog W 0 (fun _ => true) true Tryz.f5.params.toList args.toList ds p := hA0
  rw [Tryz.params5] at hA hval
  obtain ⟨v0, vs0, d0, ds0, p0, q0, hargs, rfl, rfl, h0, r0⟩ := trodAll_cons hA
  obtain ⟨v1, vs1, d1, ds1, p1, q1, rfl, rfl, rfl, h1, r1⟩ := trodAll_cons r0
  obtain ⟨rfl, rfl, rfl⟩ := trodAll_nil r1
  obtain rfl : args = #[v0, v1] := by cases args; simp_all
  obtain ⟨rfl, rfl⟩ := trodVars_none hV
  obtain ⟨a1, rfl, rfl, rfl, w1⟩ := open_int Tryz.underlying3 (hval 1 3 v1 rfl rfl) h1
  obtain ⟨ts0, hts0⟩ := open_rss (hval 0 47 v0 rfl rfl) h0
  refine (walSegments_walk0 v0 ts0 a1 w1 W hts0 (of_laid hL)).mono fun e W' ⟨he, hb⟩ => ?_
  subst he
  exact ⟨_, rfl, law_post law_laid (by intro t ht; rw [Tryz.params5] at ht; simp only [List.mem_cons, List.not_mem_nil, or_false] at ht; rcases ht with rfl | rfl <;> exact ⟨by kernel_rfl, of_decide_eq_true (by kernel_rfl)⟩) rfl Tryz.underlying4 rfl rfl hW' hb⟩

theorem walSegments_holds : Rows.WalSegmentsSaid :=
  OpenClaim.holds_of_wide 5 Tryz.f5 rfl rfl rfl rfl rfl rfl rfl ⟨rfl, rfl, rfl, rfl, rfl⟩ rfl rfl rfl rfl rfl (by kernel_rfl) Tryz.func5 (by kernel_rfl)
    (of_decide_eq_true (by kernel_rfl)) (by unfold Func.isWrapper; first | (rw [if_pos (by decide +kernel)]; kernel_rfl) | (rw [if_neg (by decide +kernel)]; exact ⟨rfl, rfl⟩))
    (fun os started H enc _ => walSegments_lifted os started H enc)

theorem walSegments_card : Rows.WalSegmentsCardSaid :=
  Claim7.holds_tied_plain_at .later [] [.data, .data, .data, .sentinel, .sentinel] true (true, "35d3756c6aaeeb34e9de177c5e9e73e9b2e83cd5c1c91c172043f2b2604cd02a") true
    walSegments_holds (fun _ h => by cases h) (by kernel_rfl) (fun _ h => by cases h) walSegments_row_tie rfl ⟨rfl, rfl⟩ (by kernel_rfl) rfl
    (fun f fn hf hfn => by
      obtain rfl : f = 5 := Option.some.inj ((show Tryz.prog.funcNamed "barograph/barographlaw11.WalSegments" = some 5 by kernel_rfl).symm.trans hf) |>.symm
      obtain rfl : fn = Tryz.f5 := (Option.some.inj (Tryz.func5.symm.trans hfn)).symm
      exact ⟨by kernel_rfl, fun j t ht => by
        rw [Tryz.params5] at ht
        rcases j with _ | j
        · obtain rfl : t = 47 := by simpa using ht.symm
          exact (show Tryz.prog.wantsStandIn 47 = false by kernel_rfl)
        rcases j with _ | j
        · obtain rfl : t = 3 := by simpa using ht.symm
          exact (show Tryz.prog.wantsStandIn 3 = false by kernel_rfl)
        simp at ht⟩)
    (by kernel_rfl)

end Go.Proofs.YtcopknopifbebaaGreatDoor

namespace Go.Proofs.YtcopknopifbebaaGreatDoor
open Go.RowKit Go.Bar Go.Bar.Wal Go.Bar.Leb Go.Bar.Frm Go.Conc Go.ChangeShapes Go.WideShapes Go.ChangeAt Go.Deep
attribute [local go_sem] Oper.semAt_some
def RcE (X0 X1 : List Rc) (d : Ds) : Prop := RecI 2 X0 X1 d ∧ d.fz = Fz.none_ ∧ d.room = 1048576
theorem arm_none {d : Ds} (hz : d.fz = Fz.none_) (n : Int) (b : Bool) : (d.fz.arm n b) = (0, ⟨[(max n 0, b)], none⟩) := by rw [hz]; rfl
theorem RcE.round {X0 X1 : List Rc} {d : Ds} (h : RcE X0 X1 d) (hm : Few X1) (z : Fz) (hz : z.q.length ≤ 16) (cs : List Int) : ∃ e d' g' got, wOpen { d with fz := z } 60 = (e, d', g', got) ∧ (e = 0 ∨ e = 8) ∧ Wal.Acc 2 d' ∧ d'.room = 1048576 ∧ RcE X0 X1 (d'.crash cs) := by
  have h1 := h.1.fuse hz
  obtain ⟨h2, h3⟩ := h1.open_ hm 60
  have h4 := wOpen_room { d with fz := z } 60
  obtain ⟨e, d', g', got, he⟩ : ∃ e d' g' got, wOpen { d with fz := z } 60 = (e, d', g', got) := ⟨_, _, _, _, rfl⟩
  rw [he] at h2 h3 h4
  exact ⟨e, d', g', got, he, h3, h2.acc, h4.trans h.2.2, h2.crash cs, rfl, h4.trans h.2.2⟩

set_option maxHeartbeats 8000000 in
set_option maxRecDepth 10000 in
theorem walRecovers_walk0 (v0 : Value) (ls : List Rc) (v1 : Value) (ms : List Rc) (v2 : Value) (cs : List Int) (v3 : Value) (fs : List Int) (w : World) (h0 : RecsAt w v0 ls ∧ ∀ r ∈ ls, r.2.length ≤ maxLen) (h1 : RecsAt w v1 ms ∧ ∀ r ∈ ms, r.2.length ≤ maxLen) (h2 : IntsAt w v2 cs) (h3 : IntsAt w v3 fs) (hE : EnvAt w) :
    Calls Tryz.prog 4 #[v0, v1, v2, v3] w (RetBelow w (.bool true)) := by
  have hB4 := hE.four
  obtain ⟨B, hBe⟩ : ∃ B, B = w.heap.size := ⟨_, rfl⟩
  rw [← hBe] at hB4
  obtain ⟨A2, c2, rfl, hlc2, hcm2⟩ := h2.1.shape
  obtain ⟨A3, c3, rfl, hlc3, hcm3⟩ := h3.1.shape
  unfold maxLen at hcm2 hcm3
  -- what the calls do
  obtain ⟨F0, D0, C0⟩ := few4_few ls
  obtain ⟨F1, D1, C1⟩ := few4_few ms
  have hf0 := Lib.hid (fun wx hb => few11_any v0 ls wx (RecsAt.below h0.1 hb) h0.2)
  have hf1 := Lib.hid (fun wx hb => few11_any v1 ms wx (RecsAt.below h1.1 hb) h1.2)
  obtain ⟨X0, hX0⟩ : ∃ X, X = few4 ls := ⟨_, rfl⟩
  obtain ⟨X1, hX1⟩ : ∃ X, X = few4 ms := ⟨_, rfl⟩
  rw [← hX0] at F0 D0 C0 hf0
  rw [← hX1] at F1 D1 C1 hf1
  rw [← hBe] at hf0 hf1
  clear hX0 hX1 h0 h1
  have T0 := laid_short X0 (fun r hr => Nat.le_trans (D0 r hr) (by decide))
  have T1 := laid_short X1 (fun r hr => Nat.le_trans (D1 r hr) (by decide))
  obtain ⟨d1, g1, e1, R1⟩ := (RstI.start 60).app F0 (by omega) (by decide) (by decide)
  have lim1 : g1.limit = max 60 1 := by have := wAppend_lim (Ds.new 1048576) ⟨max 60 1, 1, 0, false⟩ X0; rw [e1] at this; exact this
  have siz1 : g1.size ≤ 1000 := by have := wAppend_size (Ds.new 1048576) ⟨max 60 1, 1, 0, false⟩ X0; rw [e1] at this; have h : g1.size ≤ 0 + (laid X0).length := this; omega
  have harm1 := Lib.hid (fun wx h (kx : DkAt wx h d1) (hB : h.Hi B) => arm_any wx h d1 B 1 false kx hB (by decide))
  rw [arm_none R1.z] at harm1
  obtain ⟨dA, hdA⟩ : ∃ dA, dA = { d1 with fz := ⟨[(max 1 0, false)], none⟩ } := ⟨_, rfl⟩
  have hA1 : Wal.Acc 1 dA := by rw [hdA]; exact R1.acc.fuse (by decide)
  have hA2 : dA.room = 1048576 := by rw [hdA]; exact R1.rm
  obtain ⟨e2, d2, g2, he2⟩ : ∃ e2 d2 g2, wAppend dA g1 X1 = (e2, d2, g2) := ⟨_, _, _, rfl⟩
  have hI : RcE X0 X1 (d2.crash cs) ∧ Wal.Acc 2 d2 ∧ d2.room = 1048576 := by
    obtain ⟨⟨ns, A, hg, hf⟩, hz, hacc, hrm, hus, hsg, _⟩ := R1
    have hgA : LG dA g1 ns A := by rw [hdA]; exact ⟨hg.li, hg.nb, hg.at_, hg.lo⟩
    have hfr : ((laid X1).length : Int) ≤ dA.free := by rw [hdA]; unfold Ds.free; show _ ≤ d1.room - d1.used; omega
    have hs := RecI.start (c := 1) hgA hf hA1 F1 hfr (by omega)
    have hr := (Wal.append_any hgA F1.dat hfr (by omega)).room
    rw [he2] at hs hr
    rw [List.nil_append] at hs
    exact ⟨⟨hs.crash cs, rfl, hr.trans hA2⟩, hs.acc, hr.trans hA2⟩
  obtain ⟨hI0, hA3, hA4⟩ := hI
  have sg1 := R1.sg
  -- their contracts
  have hE0 := Lib.hid hE
  have hEx : ∀ wx, Below B w wx → EnvAt wx := fun wx hb => hE.bel hb hB4
  have HEX := Lib.hid hEx
  have hbs : ∀ wx, Off LTs B w wx → B ≤ wx.heap.size := fun wx o => by rw [hBe]; exact o.size
  have HBS := Lib.hid hbs
  have hcs : ∀ wx, Below B w wx → SlAt wx 1 (.slice A2 cs.length c2) cs.length (zcs cs) := fun wx hb => SlAt.below h2.1 (by rwa [hBe] at hb)
  have HCS := Lib.hid hcs
  have hfs : ∀ wx, Below B w wx → SlAt wx 1 (.slice A3 fs.length c3) fs.length (zcs fs) := fun wx hb => SlAt.below h3.1 (by rwa [hBe] at hb)
  have HFS := Lib.hid hfs
  have HF3 := Lib.hid h3.2
  have hnew := Lib.hid (new_any w 1048576)
  rw [← hBe] at hnew
  have cO1 := Lib.hid (fun wx h (kx : DkAt wx h (Ds.new 1048576)) hx (hB : h.Hi B) => open_ok wx h _ B 0 60 _ _ _ (open_new 1048576 60).1 kx hx hB hB4 (Acc.new _) (by decide) (by decide))
  have cA1 := Lib.hid (fun wx L h v (kx : DkAt wx h (Ds.new 1048576)) (lx : LgAt wx L h ⟨max 60 1, 1, 0, false⟩) hx (hB : h.Hi B) (hL : B ≤ L) (hv : RecsAt wx v X0) => append_ok wx L h _ _ B 0 v X0 _ _ _ e1 kx lx hx hB hL hB4 (Acc.new _) (by decide) (by decide) hv (by omega) (fun r hr => Nat.le_trans (D0 r hr) (by decide)) (by decide) (by decide) (by decide) (by decide))
  have cA2 := Lib.hid (fun wx L h v (kx : DkAt wx h dA) (lx : LgAt wx L h g1) hx (hB : h.Hi B) (hL : B ≤ L) (hv : RecsAt wx v X1) => append_ok wx L h _ _ B 1 v X1 _ _ _ he2 kx lx hx hB hL hB4 hA1 (by decide) (by rw [hA2]; decide) hv (by omega) (fun r hr => Nat.le_trans (D1 r hr) (by decide)) (by rw [lim1]; decide) (by rw [lim1]; decide) (by omega) (by omega))
  have cC1 := Lib.hid (fun wx h (kx : DkAt wx h d2) (hB : h.Hi B) (o : Off LTs B w wx) => crash_any wx h d2 B 2 kx hB hA3 (by decide) (by rw [hA4]; decide) A2 c2 cs (by omega) (fun w' hb => HCS.out w' (o.bel.trans hb)))
  rw [← hdA] at harm1
  have HI0 := Lib.hid hI0
  obtain ⟨d3, hd3⟩ : ∃ d3, d3 = d2.crash cs := ⟨_, rfl⟩
  rw [← hd3] at HI0 cC1
  have n1 := C0
  have n2 := C1
  clear hE hEx hbs hcs hfs h2 h3 R1 e1 lim1 siz1 hdA hA1 hA2 he2 hI0 hA3 hA4 T0 T1 sg1 hd3 D0 D1 C0 C1
  go_enter Tryz.func4, Tryz.ntmps4
  go_upto_region 3 with (first
    | (go_at_call 11; refine hnew.out.mono ?_; rintro e w1 ⟨h, rfl, k1, hB, hb1⟩)
    | (go_at_call 12; refine (cO1.out w1 h k1 (HEX.out _ hb1) hB).mono ?_; rintro e w2 ⟨L, A, cp, rfl, k2, l2, hL, o2, _⟩))
  have O2 := Lib.hid ((show Off LTs B w w1 from ⟨Kc.of_below (by have := hb1; rwa [hBe] at this), hb1⟩).trans o2)
  clear o2 hb1 k1 hnew cO1
  go_upto_region 4 with (first
    | (go_at_call 16; refine (hf1.out w3 O3.out.bel).mono ?_; rintro e w4 ⟨x1, rfl, q1, hb4⟩)
    | (go_at_call 16; refine (hf0.out w2 O2.out.bel).mono ?_; rintro e w3 ⟨x0, rfl, q0, hb3⟩; have O3 := Lib.hid (O2.out.trans (Off.of_below hb3 (HBS.out _ O2.out)))))
  have O4 := Lib.hid (O3.out.trans (Off.of_below hb4 (HBS.out _ O3.out)))
  have k4 := (k2.below hb3).below hb4
  have l4 := (l2.below hb3).below hb4
  have Q0 := Lib.hid (q0.below hb4)
  have Q1 := Lib.hid q1
  clear O2 O3 k2 l2 q0 q1 hb3 hb4 hf0 hf1
  go_upto_region 6 with (first
    | (go_at_call 14; refine (cA1.out w6 L h x0 k6 l6 (HEX.out _ O6.out.bel) hB hL (SlAt.of_buf (P6.out.kc.buf Q0.out nl_rec))).mono ?_; rintro e w7 ⟨rfl, k7, l7, o7⟩)
    | (go_at_call 17; refine (awake11_any w4 (HEX.out _ O4.out.bel)).mono ?_; rintro e w6 ⟨rfl, hb6⟩; have P6 := Lib.hid (Off.of_below (Ts := LTs) hb6 (HBS.out _ O4.out)); have O6 := Lib.hid (O4.out.trans P6.out); have k6 := k4.below hb6; have l6 := l4.below hb6))
  have O7 := Lib.hid (O6.out.trans o7)
  have P7 := Lib.hid (P6.out.trans o7)
  have x0c := (d_cells k7).1
  clear O4 O6 P6 o7 k4 l4 k6 l6 cA1
  go_upto_region 9 with (first
    | (go_at_call 19; refine (cC1.out w9 h k9 hB O9.out).mono ?_; rintro e w10 ⟨rfl, k10, o10⟩)
    | (go_at_call 14; refine (cA2.out w8 L h x1 k8 l8 (HEX.out _ O8.out.bel) hB hL (SlAt.of_buf (P8.out.kc.buf Q1.out nl_rec))).mono ?_; rintro e w9 ⟨rfl, k9, l9, o9⟩; have O9 := Lib.hid (O8.out.trans o9); have P9 := Lib.hid (P8.out.trans o9))
    | (go_at_call 18; refine (harm1.out w7 h k7 hB).mono ?_; rintro e w8 ⟨rfl, k8, o8⟩; have l8 := l7.off (o8.wide dt0); have O8 := Lib.hid (O7.out.trans ((o8.wide dt0).wide dlt)); have P8 := Lib.hid (P7.out.trans ((o8.wide dt0).wide dlt))))
  have O10 := Lib.hid (O9.out.trans (o10.wide dlt))
  have P10 := Lib.hid (P9.out.trans (o10.wide dlt))
  have K10 := Lib.hid k10
  clear O7 O8 O9 P7 P8 P9 k7 k8 k9 k10 l7 l8 o9 o8 o10 x0c harm1 cA2 cC1
  go_wp2_with fail
  go_loopw [13] (fun i wr => ∃ (k : Nat) (d : Ds), i = .int .i64 k ∧ k ≤ fs.length ∧ k ≤ 8 ∧ Hid (RcE X0 X1 d) ∧ Hid (DkAt wr h d) ∧ Hid (Off LTs B w wr) ∧ Hid (Off LTs B w4 wr)) (fun i _ => 8 - (intOf i).toNat)
  case atStart => exact ⟨0, d3, rfl, Nat.zero_le _, by omega, HI0, K10, O10, P10⟩
  case round =>
    obtain ⟨k, d, rfl, hk, hk8, hI, hkk, hoo, hpp⟩ := hrel
    by_cases hgo : k < fs.length ∧ k < 8
    · obtain ⟨hk1, hk2⟩ := hgo
      obtain ⟨a, hki⟩ : ∃ r, fs[k]? = some r := ⟨_, List.getElem?_eq_getElem hk1⟩
      obtain ⟨bb, oo, rfl, hlt, hcells⟩ := (HFS.out _ hoo.out.bel).cells (by omega)
      have hcell := hcells k (.int .i64 a) (by unfold zcs; rw [List.getElem?_map, hki]; rfl)
      have HCL := Lib.hid hcell
      have HLT := Lib.hid hlt
      obtain ⟨z, hz⟩ : ∃ z, z = (d.fz.arm (bits .and .i64 a 3) (bits .and .i64 a 4 == 0)).2 := ⟨_, rfl⟩
      have hz16 : z.q.length ≤ 16 := by rw [hz, arm_none hI.out.2.1]; show 1 ≤ 16; decide
      have hz0 : (d.fz.arm (bits .and .i64 a 3) (bits .and .i64 a 4 == 0)).1 = 0 := by rw [arm_none hI.out.2.1]
      have harm := Lib.hid (fun wx (kx : DkAt wx h d) => arm_any wx h d B (bits .and .i64 a 3) (bits .and .i64 a 4 == 0) kx hB (and3_11 a))
      rw [← hz, hz0] at harm
      obtain ⟨e, d', g', got, hw, he, hac, hrm, hI2⟩ := hI.out.round F1 z hz16 cs
      obtain ⟨dz, hdz⟩ : ∃ dz, dz = { d with fz := z } := ⟨_, rfl⟩
      have hza : Wal.Acc 2 dz := by rw [hdz]; exact hI.out.1.acc.fuse hz16
      have hzr : dz.room = 1048576 := by rw [hdz]; exact hI.out.2.2
      rw [← hdz] at hw harm
      have cO := Lib.hid (fun wx (kx : DkAt wx h dz) hx => open_end wx h dz B 2 60 hw kx hx hB hB4 hza (by decide) (by rw [hzr]; decide))
      have cC := Lib.hid (fun wx (kx : DkAt wx h d') (o : Off LTs B w wx) => crash_any wx h d' B 2 kx hB hac (by decide) (by rw [hrm]; decide) A2 c2 cs (by omega) (fun w' hb => HCS.out w' (o.bel.trans hb)))
      have HI := Lib.hid hI2
      have HBw := Lib.hid (HBS.out _ hoo.out)
      have hci : (0 : Int) ≤ (k : Int) := by omega
      have hci2 : (k : Int) < fs.length := by omega
      clear hki hcells hcell hlt hz hz16 hz0 hw hac hrm hI2 hdz hza hzr hI
      have HBE := Lib.hid hBe
      clear hBe
      go_upto_region 12 with fail
      have hstT : ∀ k v w w', Below w.heap.size w w' → Dv.factOf ([(3, ((fun v => v = (.pointer (some ⟨h.U, 0, none⟩))), noFact, 3)), (7, ((fun v => v = (.int .i64 a)), noFact, 7)), (12, ((fun v => v = (.int .i64 a)), noFact, 12)), (15, ((fun v => v = .int .i64 ((0 : Nat) : Int)), noFact, 15))] : List (Nat × Dv.Kp)) k v w → Dv.factOf ([(3, ((fun v => v = (.pointer (some ⟨h.U, 0, none⟩))), noFact, 3)), (7, ((fun v => v = (.int .i64 a)), noFact, 7)), (12, ((fun v => v = (.int .i64 a)), noFact, 12)), (15, ((fun v => v = .int .i64 ((0 : Nat) : Int)), noFact, 15))] : List (Nat × Dv.Kp)) k v w' := Dv.fact_st (by
        simp only [List.forall_mem_cons, List.not_mem_nil, false_imp_iff, implies_true, and_true]
        refine ⟨?_, ?_, ?_, ?_⟩
        · exact fun _ _ _ _ _ => trivial
        · exact fun _ _ _ _ _ => trivial
        · exact fun _ _ _ _ _ => trivial
        · exact fun _ _ _ _ _ => trivial)
      have htrT : ∀ x ∈ ([(3, ((fun v => v = (.pointer (some ⟨h.U, 0, none⟩))), noFact, 3)), (7, ((fun v => v = (.int .i64 a)), noFact, 7)), (12, ((fun v => v = (.int .i64 a)), noFact, 12)), (15, ((fun v => v = .int .i64 ((0 : Nat) : Int)), noFact, 15))] : List (Nat × Dv.Kp)), (([(3, ((fun v => v = (.pointer (some ⟨h.U, 0, none⟩))), noFact, 3)), (7, ((fun v => v = (.int .i64 a)), noFact, 7)), (12, ((fun v => v = (.int .i64 a)), noFact, 12)), (15, ((fun v => v = .int .i64 ((0 : Nat) : Int)), noFact, 15))] : List (Nat × Dv.Kp)).lookup x.2.2.2).isSome = true := by
        simp only [List.forall_mem_cons, List.not_mem_nil, false_imp_iff, implies_true, and_true]
        exact ⟨by kernel_rfl, by kernel_rfl, by kernel_rfl, by kernel_rfl⟩
      refine Dv.wp_region_two (L := ([(3, ((fun v => v = (.pointer (some ⟨h.U, 0, none⟩))), noFact, 3)), (7, ((fun v => v = (.int .i64 a)), noFact, 7)), (12, ((fun v => v = (.int .i64 a)), noFact, 12)), (15, ((fun v => v = .int .i64 ((0 : Nat) : Int)), noFact, 15))] : List (Nat × Dv.Kp))) (m := 15) (Fin := (FinDk B wr h dz)) (by kernel_rfl) 113 (by kernel_rfl) rfl (by kernel_rfl) ?_ ?_ ?_
      · simp only [List.forall_mem_cons, List.not_mem_nil, false_imp_iff, implies_true, and_true]
        exact ⟨⟨_, rfl⟩, ⟨_, rfl⟩, ⟨_, rfl⟩, ⟨_, rfl⟩⟩
      · exact (fun vs vs' w' _ hf => hf)
      repeat (first
        | (refine Dv.Chain.step (v := ?_) (a' := ?_) rfl rfl rfl ?_ ?_ ?_; rotate_left 2; (focus (intro w; go_simp; try with_reducible rfl)); focus (simp only [Act.put, pqA, pqS, pqZ]; try rfl))
        | (refine Dv.XT.call (i := 3) (a' := ?_) _ _ rfl (by decide) hstT rfl rfl (fun wx hw hF => ?_) htrT ?_ ?_; rotate_left 1; (focus (have x0 := (d_cells (hkk.out.below hw)).1); (go_simp); (first | exact ⟨rfl, rB⟩ | exact rB)); focus (simp only [Act.put, pqA, pqS, pqZ]; try rfl))
        | (refine Dv.XT.call (i := 7) (a' := ?_) _ _ rfl (by decide) hstT rfl rfl (fun wx hw hF => ?_) htrT ?_ ?_; rotate_left 1; (focus (have x0 : wx.cell? ⟨bb, oo + k, none⟩ = some (.int .i64 a) := (hw.cell (p := ⟨bb, oo + k, none⟩) HLT.out).trans HCL.out); (go_simp); (first | exact ⟨rfl, rB⟩ | exact rB)); focus (simp only [Act.put, pqA, pqS, pqZ]; try rfl))
        | (refine Dv.XT.call (i := 12) (a' := ?_) _ _ rfl (by decide) hstT rfl rfl (fun wx hw hF => ?_) htrT ?_ ?_; rotate_left 1; (focus (have x0 : wx.cell? ⟨bb, oo + k, none⟩ = some (.int .i64 a) := (hw.cell (p := ⟨bb, oo + k, none⟩) HLT.out).trans HCL.out); (go_simp); (first | exact ⟨rfl, rB⟩ | exact rB)); focus (simp only [Act.put, pqA, pqS, pqZ]; try rfl))
        | (refine Dv.XT.last (i := 15) _ _ _ rfl rfl (by kernel_rfl) rfl rfl (fun vs wx hw hF => ?_) (fun v15 hv15 a' ha => ?_); (focus (go_simp); (with_reducible refine (harm.out wx (hkk.out.below hw)).mono ?_); (rintro e w' ⟨rfl, hd, ho⟩); (exact ⟨rfl, hd, (Off.of_below hw HBw.out).trans (ho.wide dt0)⟩)); obtain rfl := hv15; simp only [Act.put, pqA, pqS, pqZ] at ha; subst ha)
        | (refine Dv.Chain.skip' (a' := ?_) rfl rfl rfl ?_ ?_; rotate_left 1; focus (simp only [Act.put, pqA, pqS, pqZ]; try rfl)))
      refine Dv.XT.end_ (by decide) (fun vs w12 hv hfin => ?_)
      obtain ⟨k12, o12⟩ := hfin
      have P12 := Lib.hid (o12.wide dlt)
      have O12 := Lib.hid (hoo.out.trans P12.out)
      clear hv
      rcases he with rfl | rfl
      all_goals
        go_wp2_with (first
          | (go_at_call 19; refine (cC.out w13 k13 O13.out).mono ?_; rintro e w14 ⟨rfl, k14, o14⟩)
          | (go_at_call 12; refine (cO.out w12 k12 (HEX.out _ O12.out.bel)).mono ?_; rintro e w13 ⟨p13, s13, rfl, k13, o13⟩; have P13 := Lib.hid (P12.out.trans o13); have O13 := Lib.hid (O12.out.trans o13)))
        have P14 := Lib.hid (hpp.out.trans (P13.out.trans (o14.wide dlt)))
        have O14 := Lib.hid (O13.out.trans (o14.wide dlt))
        have K14 := Lib.hid k14
        clear k12 o12 k13 o13 k14 o14 P12 P13 O12 O13
        go_roundw
        case rel => exact ⟨k + 1, d'.crash cs, by go_num, by omega, by omega, HI, K14, O14, P14⟩
        case measure => simp [intOf]; omega
    · have hend : fs.length ≤ k ∨ k < fs.length ∧ 8 ≤ k := by omega
      obtain ⟨j, d', g', ho⟩ := hI.out.1.end_ F0 F1 hI.out.2.1 60
      have hac := hI.out.1.acc
      have hrm := hI.out.2.2
      have cO := Lib.hid (fun wx (kx : DkAt wx h d) hx => open_ok wx h d B 2 60 _ _ _ ho kx hx hB hB4 hac (by decide) (by rw [hrm]; decide))
      have hpre : prefixB (X0 ++ X1.take j) X0 X1 = true := by
        unfold prefixB
        exact decide_eq_true ⟨by rw [List.length_append]; omega, by rw [List.length_append, List.length_take]; omega, List.prefix_iff_eq_take.1 ((List.prefix_append_right_inj _).2 (List.take_prefix j X1))⟩
      have HPRE := Lib.hid hpre
      obtain ⟨G, hG⟩ : ∃ G, G = X0 ++ X1.take j := ⟨_, rfl⟩
      rw [← hG] at cO HPRE
      have q0 := hpp.out.kc.buf Q0.out nl_rec
      have q1 := hpp.out.kc.buf Q1.out nl_rec
      have hbw : Below w.heap.size w wr := by have := hoo.out.bel; rwa [hBe] at this
      have kk := hkk.out
      have EE := Lib.hid (HEX.out _ hoo.out.bel)
      clear hG hpre ho hac hrm hI hgo
      rcases hend with hend | ⟨hend1, hend2⟩
      all_goals
        go_wp2_with (first
          | (go_at_call 20; refine (prefix_any _ _ _ G X0 X1 w13 (SlAt.of_buf hgot) (SlAt.of_buf (o13.kc.buf q0 nl_rec)) (SlAt.of_buf (o13.kc.buf q1 nl_rec)) (by omega) (by omega)).mono ?_; rw [HPRE.out]; rintro e w14 ⟨rfl, hb14⟩)
          | (go_at_call 12; refine (cO.out wr kk EE.out).mono ?_; rintro e w13 ⟨L2, A4, cp4, rfl, _, _, _, o13, hgot⟩))
        go_ret
        have hb13 : Below w.heap.size w w13 := by have := (hoo.out.trans o13).bel; rwa [hBe] at this
        exact ⟨rfl, below_trans hb13 hb14⟩
set_option maxHeartbeats 8000000 in
set_option maxRecDepth 100000 in
theorem walRecovers_lifted (os : Os) (started : os.Started) (H : Type) (enc : TypeId × Value → H) :
    ReturnsInHanded {} Tryz.checked os 4 .any (fun w args => (Rows.walRecoversSpec.pre enc Tryz.prog Tryz.f4 [] false w args ∧ laidMetH Tryz.prog [("math/bits.deBruijn32tab", Rows.laid_math_bits_deBruijn32tab), ("math/bits.deBruijn64tab", Rows.laid_math_bits_deBruijn64tab), ("internal/strconv.uint64pow10", Rows.laid_internal_strconv_uint64pow10), ("strconv.ErrRange", Rows.laid_strconv_ErrRange), ("strconv.ErrSyntax", Rows.laid_strconv_ErrSyntax)] w) ∧ sizedMet enc Tryz.prog Tryz.f4 (OpenSpec.ofChange Rows.walRecoversSpec) false w args)
      (Rows.walRecoversSpec.post enc Tryz.prog Tryz.f4 false true false false) := by
  refine returnsInHanded_of_change_and (C := Tryz.checked) (X := fun w _ => laidMetH Tryz.prog [("math/bits.deBruijn32tab", Rows.laid_math_bits_deBruijn32tab), ("math/bits.deBruijn64tab", Rows.laid_math_bits_deBruijn64tab), ("internal/strconv.uint64pow10", Rows.laid_internal_strconv_uint64pow10), ("strconv.ErrRange", Rows.laid_strconv_ErrRange), ("strconv.ErrSyntax", Rows.laid_strconv_ErrSyntax)] w) (fun _ _ _ hh h => h.of_heap hh) law_own started (by kernel_rfl) Tryz.func4
    (ChangeSpec.witness_shaped (enc := enc) (C := Tryz.checked) (os := os) (X := fun w _ => laidMetH Tryz.prog [("math/bits.deBruijn32tab", Rows.laid_math_bits_deBruijn32tab), ("math/bits.deBruijn64tab", Rows.laid_math_bits_deBruijn64tab), ("internal/strconv.uint64pow10", Rows.laid_internal_strconv_uint64pow10), ("strconv.ErrRange", Rows.laid_strconv_ErrRange), ("strconv.ErrSyntax", Rows.laid_strconv_ErrSyntax)] w) false (World.laidAll Tryz.prog os [("math/bits.deBruijn32tab", Rows.laid_math_bits_deBruijn32tab), ("math/bits.deBruijn64tab", Rows.laid_math_bits_deBruijn64tab), ("internal/strconv.uint64pow10", Rows.laid_internal_strconv_uint64pow10), ("strconv.ErrRange", Rows.laid_strconv_ErrRange), ("strconv.ErrSyntax", Rows.laid_strconv_ErrSyntax)]) #[.slice none 0 0, .slice none 0 0, .slice none 0 0, .slice none 0 0] 8 (World.laidAll_os _ _ _)
      (World.shaped_of_ZipB (by kernel_rfl) (by kernel_rfl)) (by kernel_rfl) (by kernel_rfl) (by kernel_rfl) (door_met os _)) ?_
  intro W base args ds gs before hval0 hW _ _ hL _
  have hval : ∀ (j : Nat) t v, Tryz.f4.params[j]? = some t → args[j]? = some v → Value.okWide Tryz.prog W .any base t v := hval0
  have hW' := hW
  obtain ⟨p, q, hA0, hV, rfl, _, _⟩ := hW
  have hA : DataW.TrodAll enc Tryz.prog W 0 (fun _ => true) true Tryz.f4.params.toList args.toList ds p := hA0
  rw [Tryz.params4] at hA hval
  obtain ⟨v0, vs0, d0, ds0, p0, q0, hargs, rfl, rfl, h0, r0⟩ := trodAll_cons hA
  obtain ⟨v1, vs1, d1, ds1, p1, q1, rfl, rfl, rfl, h1, r1⟩ := trodAll_cons r0
  obtain ⟨v2, vs2, d2, ds2, p2, q2, rfl, rfl, rfl, h2, r2⟩ := trodAll_cons r1
  obtain ⟨v3, vs3, d3, ds3, p3, q3, rfl, rfl, rfl, h3, r3⟩ := trodAll_cons r2
  obtain ⟨rfl, rfl, rfl⟩ := trodAll_nil r3
  obtain rfl : args = #[v0, v1, v2, v3] := by cases args; simp_all
  obtain ⟨rfl, rfl⟩ := trodVars_none hV
  obtain ⟨ts0, hts0⟩ := open_recs (hval 0 23 v0 rfl rfl) h0
  obtain ⟨ts1, hts1⟩ := open_recs (hval 1 23 v1 rfl rfl) h1
  obtain ⟨ts2, hts2⟩ := open_ints_ (hval 2 38 v2 rfl rfl) h2
  obtain ⟨ts3, hts3⟩ := open_ints_ (hval 3 38 v3 rfl rfl) h3
  refine (walRecovers_walk0 v0 ts0 v1 ts1 v2 ts2 v3 ts3 W hts0 hts1 hts2 hts3 (of_laid hL)).mono fun e W' ⟨he, hb⟩ => ?_
  subst he
  exact ⟨_, rfl, law_post law_laid (by intro t ht; rw [Tryz.params4] at ht; simp only [List.mem_cons, List.not_mem_nil, or_false] at ht; rcases ht with rfl | rfl | rfl | rfl <;> exact ⟨by kernel_rfl, of_decide_eq_true (by kernel_rfl)⟩) rfl Tryz.underlying4 rfl rfl hW' hb⟩

theorem walRecovers_holds : Rows.WalRecoversSaid :=
  OpenClaim.holds_of_wide 4 Tryz.f4 rfl rfl rfl rfl rfl rfl rfl ⟨rfl, rfl, rfl, rfl, rfl⟩ rfl rfl rfl rfl rfl (by kernel_rfl) Tryz.func4 (by kernel_rfl)
    (of_decide_eq_true (by kernel_rfl)) (by unfold Func.isWrapper; first | (rw [if_pos (by decide +kernel)]; kernel_rfl) | (rw [if_neg (by decide +kernel)]; exact ⟨rfl, rfl⟩))
    (fun os started H enc _ => walRecovers_lifted os started H enc)

theorem walRecovers_card : Rows.WalRecoversCardSaid :=
  Claim7.holds_tied_plain_at .later [] [.data, .data, .data, .sentinel, .sentinel] true (true, "35d3756c6aaeeb34e9de177c5e9e73e9b2e83cd5c1c91c172043f2b2604cd02a") true
    walRecovers_holds (fun _ h => by cases h) (by kernel_rfl) (fun _ h => by cases h) walRecovers_row_tie rfl ⟨rfl, rfl⟩ (by kernel_rfl) rfl
    (fun f fn hf hfn => by
      obtain rfl : f = 4 := Option.some.inj ((show Tryz.prog.funcNamed "barograph/barographlaw11.WalRecovers" = some 4 by kernel_rfl).symm.trans hf) |>.symm
      obtain rfl : fn = Tryz.f4 := (Option.some.inj (Tryz.func4.symm.trans hfn)).symm
      exact ⟨by kernel_rfl, fun j t ht => by
        rw [Tryz.params4] at ht
        rcases j with _ | j
        · obtain rfl : t = 23 := by simpa using ht.symm
          exact (show Tryz.prog.wantsStandIn 23 = false by kernel_rfl)
        rcases j with _ | j
        · obtain rfl : t = 23 := by simpa using ht.symm
          exact (show Tryz.prog.wantsStandIn 23 = false by kernel_rfl)
        rcases j with _ | j
        · obtain rfl : t = 38 := by simpa using ht.symm
          exact (show Tryz.prog.wantsStandIn 38 = false by kernel_rfl)
        rcases j with _ | j
        · obtain rfl : t = 38 := by simpa using ht.symm
          exact (show Tryz.prog.wantsStandIn 38 = false by kernel_rfl)
        simp at ht⟩)
    (by kernel_rfl)

end Go.Proofs.YtcopknopifbebaaGreatDoor
