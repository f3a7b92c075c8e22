/-
  A block of which a byte of a file is another one, or is wanting, is not read (Files.Table): of any samples, at any place. No condition.
-/
import Derived.Test.YtgabmfibfikdbaaGreatDoorZBokJ
import Derived.Test.YtgabmfibfikdbaaGreatDoorZFrmM
import Derived.Test.YtgabmfibfikdbaaGreatDoorZLib29
import Derived.Test.YtgabmfibfikdbaaGreatDoorTie
import Derived.Test.YtgabmfibfikdbaaGreatDoorCards

namespace Go.Proofs.YtgabmfibfikdbaaGreatDoor
open Go.RowKit Go.Bar Go.Bar.Leb Go.Bar.Frm Go.Bar.Lab Go.Bar.Xor Go.Bar.Mrg Go.Bar.Met Go.Bar.Bok Go.ChangeShapes Go.WideShapes Go.ChangeAt

theorem kxor_byte (x y : UInt8) (h : y ≠ 0) : x ^^^ y ≠ x := by
  intro he
  apply h
  have := congrArg (x ^^^ ·) he
  simpa [← UInt8.xor_assoc] using this
theorem ku8_xor_byte (x y : UInt8) : bits .xor .u8 (x.toNat : Int) (y.toNat : Int) = ((x ^^^ y).toNat : Int) := by
  rw [u8_xor_nat _ _ (UInt8.toNat_lt x) (UInt8.toNat_lt y), UInt8.toNat_xor]
theorem bent_holds {L : List UInt8} {p : Nat} {x y : UInt8} (hx : L[p]? = some x) (hy : y ≠ 0) (nm : List UInt8) : holdsB ⟨nm, L.length, Frm.sum L⟩ (L.set p (x ^^^ y)) = false := by
  obtain ⟨hpl, h2⟩ := List.getElem?_eq_some_iff.1 hx
  have hsp : L = L.take p ++ x :: L.drop (p + 1) := by
    rw [← h2, ← List.drop_eq_getElem_cons hpl, List.take_append_drop]
  have hset : L.set p (x ^^^ y) = L.take p ++ (x ^^^ y) :: L.drop (p + 1) := List.set_eq_take_append_cons_drop.trans (by rw [if_pos hpl])
  have hs : Frm.sum L ≠ Frm.sum (L.set p (x ^^^ y)) := by
    have h3 := sum_byte (L.take p) (L.drop (p + 1)) x (x ^^^ y) (fun h => kxor_byte x y hy h.symm)
    rw [← hset, ← hsp] at h3
    exact h3
  unfold holdsB
  rw [Bool.and_eq_false_iff]
  exact .inr (by simpa using hs)
theorem cut_holds {L : List UInt8} {p : Nat} (h : p < L.length) (nm : List UInt8) : holdsB ⟨nm, L.length, Frm.sum L⟩ (L.take p) = false := by
  unfold holdsB
  rw [Bool.and_eq_false_iff]
  refine .inl ?_
  rw [beq_eq_false_iff_ne, List.length_take]
  show (L.length : Int) ≠ _
  omega
/-- a file that is not what its meta says -/
def RetT4 (w : World) (e : Ending) (w' : World) : Prop := ∃ v, e = .returned (.tuple #[v, .int .i64 4]) ∧ Below w.heap.size w w'
theorem table_bad (f0 f1 : Fl) (id : List UInt8) (a b lv sr sm : Int) (F S : Option Addr) (fc sc : Nat) (C I : List UInt8) (w : World) (hW : WidthsAt w) (hF : FlsAt w (.slice F 2 fc) [f0, f1]) (hC : C.length ≤ 1048576) (hI : I.length ≤ 2097152) (hb : holdsB f0 C = false ∨ holdsB f1 I = false) :
    Calls Tryz.prog 27 #[.agg #[.string (bs id), .int .i64 a, .int .i64 b, .int .i64 lv, .int .i64 sr, .int .i64 sm, .slice F 2 fc, .slice S 0 sc, .string (bs C), .string (bs I)]] w (RetT4 w) := by
  refine (ktable_any ⟨id, a, b, lv, sr, sm, [f0, f1], []⟩ f0 f1 rfl (.slice F 2 fc) (.slice S 0 sc) C I w hW hF hC hI).mono ?_
  rw [tableR_bent (m := ⟨id, a, b, lv, sr, sm, [f0, f1], []⟩) hb]
  rintro e w' ⟨v, t, rfl, ht, _⟩
  exact ⟨v, rfl, ht.1.below⟩

/-- ten stores into one block -/
theorem blk10 {w : World} {B : Nat} {T : TypeId} {a0 a1 a2 a3 a4 a5 a6 a7 a8 a9 v0 v1 v2 v3 v4 v5 v6 v7 v8 v9 : Value} (h : Blk w B T #[a0, a1, a2, a3, a4, a5, a6, a7, a8, a9]) : Blk ((((((((((w.setCell ⟨B, 0, none⟩ v0).setCell ⟨B, 1, none⟩ v1).setCell ⟨B, 2, none⟩ v2).setCell ⟨B, 3, none⟩ v3).setCell ⟨B, 4, none⟩ v4).setCell ⟨B, 5, none⟩ v5).setCell ⟨B, 6, none⟩ v6).setCell ⟨B, 7, none⟩ v7).setCell ⟨B, 8, none⟩ v8).setCell ⟨B, 9, none⟩ v9) B T #[v0, v1, v2, v3, v4, v5, v6, v7, v8, v9] := by
  have := (((((((((h.set 0 v0).set 1 v1).set 2 v2).set 3 v3).set 4 v4).set 5 v5).set 6 v6).set 7 v7).set 8 v8).set 9 v9
  simpa using this
theorem fr10 (w : World) (B : Nat) (v0 v1 v2 v3 v4 v5 v6 v7 v8 v9 : Value) : Fr (fun k _ => k = B) w ((((((((((w.setCell ⟨B, 0, none⟩ v0).setCell ⟨B, 1, none⟩ v1).setCell ⟨B, 2, none⟩ v2).setCell ⟨B, 3, none⟩ v3).setCell ⟨B, 4, none⟩ v4).setCell ⟨B, 5, none⟩ v5).setCell ⟨B, 6, none⟩ v6).setCell ⟨B, 7, none⟩ v7).setCell ⟨B, 8, none⟩ v8).setCell ⟨B, 9, none⟩ v9) := ((((((((((Fr.refl _ _).setCell (k := B) (i := 0) (fun _ => rfl) v0).setCell (k := B) (i := 1) (fun _ => rfl) v1).setCell (k := B) (i := 2) (fun _ => rfl) v2).setCell (k := B) (i := 3) (fun _ => rfl) v3).setCell (k := B) (i := 4) (fun _ => rfl) v4).setCell (k := B) (i := 5) (fun _ => rfl) v5).setCell (k := B) (i := 6) (fun _ => rfl) v6).setCell (k := B) (i := 7) (fun _ => rfl) v7).setCell (k := B) (i := 8) (fun _ => rfl) v8).setCell (k := B) (i := 9) (fun _ => rfl) v9

set_option maxHeartbeats 16000000 in
set_option maxRecDepth 10000 in
theorem blockBent_walk0 (v : Value) (l : List On3) (at_ : Int) (_ : (Lit.int .i64 at_).wf = true) (by_ : Int) (hby : (Lit.int .u8 by_).wf = true) (index : Bool) (W : World) (h : O3Arg W v l) (hW : WidthsAt W) :
    Calls Tryz.prog 7 #[v, .int .i64 at_, .int .u8 by_, .bool index] W (RetBelow W (.bool true)) := by
  have hm : ∀ w, Calls Tryz.prog 30 #[.int .i64 2, .int .i64 2] w (RetBelow w (.tuple #[.string (bs (Idt.mk 2 2)), .int .i64 0])) := fun w => make_ok 2 2 w ⟨by decide, by decide⟩ ⟨by decide, by decide⟩
  have hbb := bounds_u8 hby
  have HTB := Lib.hid (fun w (hb : Below W.heap.size W w) => table_any v l w (O3At.below h.1 hb))
  have hs1 := tab3_small l (fun z hz => (h.2 z hz).2.2)
  obtain ⟨R, hR⟩ : ∃ R, R = tab3 l := ⟨_, rfl⟩
  rw [← hR] at hs1 HTB
  obtain ⟨I, hI⟩ : ∃ I, I = Idt.mk 2 2 := ⟨_, rfl⟩
  rw [← hI] at hm
  have hbu1 := fun tv T w hW hT he => built 2 2 1000 3 tv T R w hW hT he hs1 (by decide) (by decide) (by decide) (by decide) (by decide) (by decide)
  rw [← hI] at hbu1
  unfold RetF bMt at hbu1
  dsimp only at hbu1
  have hcl := hs1.ch (Int.le_refl _) (by decide)
  have hxl := hs1.idxB (Int.le_refl _) (by decide)
  obtain ⟨C1, hC1⟩ : ∃ C, C = bCh R := ⟨_, rfl⟩
  obtain ⟨X1, hX1⟩ : ∃ X, X = idxB (bEn R 0) := ⟨_, rfl⟩
  rw [← hC1, ← hX1] at hbu1
  rw [← hC1] at hcl
  rw [← hX1] at hxl
  have BU1 := Lib.hid hbu1
  have HW := Lib.hid hW
  have HAW := Lib.hid (fun w (hb : Below W.heap.size W w) => awake16_any w (hW.below hb))
  clear h hs1 hR hI hbu1 hC1 hX1 hW hby
  go_enter Tryz.func7, Tryz.ntmps7
  go_wp2_with fail
  refine (hm _).mono ?_
  rintro e w1 ⟨rfl, b1⟩
  have HT := Lib.hid (HTB.out _ b1)
  have B1 := Lib.hid b1
  clear b1 hm HTB
  go_wp2_with fail
  refine HT.out.mono ?_
  rintro e w2 ⟨v1, u1, t1, s1, rfl, d1, x1, m1, n1⟩
  have B2 := Lib.hid (below_trans B1.out d1.n.below)
  have hbu := BU1.out v1 t1 w2 (HW.out.below B2.out) (d1.rtb (Below.refl _ _)).tb m1
  have HBU := Lib.hid hbu
  clear d1 x1 m1 n1 HT B1 hbu BU1
  go_wp2_with fail
  refine HBU.out.mono ?_
  rintro e w3 ⟨F, fc, S, sc, rfl, hf, hb⟩
  have F3 := Lib.hid hf
  have B3 := Lib.hid (below_trans B2.out hb)
  clear hf hb HBU B2
  go_upto_region 4 with fail
  obtain ⟨w4, hwz⟩ : ∃ wz, wz = w3.alloc (.cells #[.string (bs I), .int .i64 0, .int .i64 1000, .int .i64 3, .int .i64 (R.length : Nat), .int .i64 (cntR R : Nat), .slice F 2 fc, .slice S 0 sc, .string (bs C1), .string (bs X1)] 64) := ⟨_, rfl⟩
  have Y4 : Hid (Blk w4 w3.heap.size 64 #[.string (bs I), .int .i64 0, .int .i64 1000, .int .i64 3, .int .i64 (R.length : Nat), .int .i64 (cntR R : Nat), .slice F 2 fc, .slice S 0 sc, .string (bs C1), .string (bs X1)]) := Lib.hid (by rw [hwz]; exact Blk.new _ _ _)
  have c4 : Below w3.heap.size w3 w4 := by rw [hwz]; exact below_al _ _
  obtain ⟨Q, hQ⟩ : ∃ Q, Q = w3.heap.size := ⟨_, rfl⟩
  rw [← hwz, ← hQ]
  rw [← hQ] at Y4
  clear hwz hQ
  obtain ⟨RL, hRL⟩ : ∃ z : Int, z = (R.length : Nat) := ⟨_, rfl⟩
  obtain ⟨RC, hRC⟩ : ∃ z : Int, z = (cntR R : Nat) := ⟨_, rfl⟩
  rw [← hRL, ← hRC] at Y4 ⊢
  clear hRL hRC
  have B4 := Lib.hid (below_trans B3.out c4)
  have F4 := Lib.hid (F3.out.below c4)
  clear B3 F3 c4
  have HA := Lib.hid (HAW.out _ B4.out)
  by_cases hsk : by_ = 0 ∨ at_ < 0
  · have hcase : (by_ == 0) = true ∨ ((by_ == 0) = false ∧ decide (at_ < 0) = true) := by
      by_cases h0 : by_ = 0
      · exact .inl (by rw [beq_iff_eq]; exact h0)
      · exact .inr ⟨by rw [beq_eq_false_iff_ne]; exact h0, decide_eq_true (hsk.resolve_left h0)⟩
    clear hsk Y4 F4
    rcases hcase with hc | ⟨hc, hc2⟩
    all_goals
      go_wp2_with fail
      refine HA.out.mono ?_
      rintro e w5 ⟨rfl, b5⟩
      have B5 := Lib.hid (below_trans B4.out b5)
      have HA2 := Lib.hid (HAW.out _ B5.out)
      clear b5
      go_wp2_with fail
      refine HA2.out.mono ?_
      rintro e w6 ⟨rfl, b6⟩
      have B6 := Lib.hid (below_trans B5.out b6)
      clear b6
      go_wp2_with fail
      go_ret
      exact ⟨rfl, B6.out⟩
  · obtain ⟨y, rfl⟩ : ∃ y : UInt8, by_ = (y.toNat : Nat) := ⟨UInt8.ofNat by_.toNat, by simp; omega⟩
    obtain ⟨p, rfl⟩ : ∃ p : Nat, at_ = p := ⟨at_.toNat, by omega⟩
    have hy : y ≠ 0 := fun e => hsk (.inl (by rw [e]; rfl))
    have hc : (((y.toNat : Nat) : Int) == 0) = false := by
      rw [beq_eq_false_iff_ne]
      exact fun e => hsk (.inl e)
    have hc2 : decide ((p : Int) < 0) = false := decide_eq_false (by omega)
    have HY := Lib.hid hy
    clear hsk hy hbb
    go_upto_region 6 with fail
    refine HA.out.mono ?_
    rintro e w5 ⟨rfl, b5⟩
    have B5 := Lib.hid (below_trans B4.out b5)
    have F5 := Lib.hid (F4.out.below b5)
    have Y5 := Lib.hid (Y4.out.below b5)
    clear b5 HA HAW Y4 F4 B4
    go_upto_region 6 with fail
    obtain ⟨k0, k1, k2, k3, k4, k5, k6, k7, k8, k9⟩ := Y5.out.c10
    rcases index with _ | _
    · by_cases hpl : p < C1.length
      · obtain ⟨x, hx⟩ : ∃ x, C1[p]? = some x := ⟨_, List.getElem?_eq_getElem hpl⟩
        have HX := Lib.hid hx
        have hxor := ku8_xor_byte x y
        have hltk : ¬ (C1.length : Int) ≤ (p : Int) := by omega
        have hplen : (p : Int) < (C1.length : Int) := by omega
        have hple : p ≤ C1.length := by omega
        clear hx
        go_upto_region 13 with ((with_reducible refine wpList_bytes rfl (.tmp 58) 96 9 rfl bytes_ty Tryz.underlying9 (bs C1) rfl (by rw [bs_size]; unfold maxLen; omega) ?_); intro b w6 hb hlb hown; rw [bs_data] at hb; obtain ⟨B, o, c, rfl, hB, hcL, hcell, hfz⟩ := Buf.at_ hb (by omega); have HBU := Lib.hid hb; have hcut := BBuf.string bytes_ty (BBuf.prefix_ hb p (by omega)) 9 Tryz.underlying9; have hck := hcell p hpl; rw [bcs, List.getElem?_map, HX.out] at hck; replace hck : w6.cell? ⟨B, o + p, none⟩ = some (.int .u8 x.toNat) := hck; have hfk := hfz p hpl; clear hcell hfz)
        have hBe : B = w5.heap.size := by simpa [Value.ownBlock] using hown
        have hbS : Below w5.heap.size w5 (w6.setCell ⟨B, o + p, none⟩ (.int .u8 ((x.toNat ^^^ y.toNat : Nat) : Int))) := hlb.setCell (p := ⟨B, o + p, none⟩) (by rw [hBe]; exact Nat.le_refl _) _
        have hst : BBuf (w6.setCell ⟨B, o + p, none⟩ (.int .u8 ((x.toNat ^^^ y.toNat : Nat) : Int))) 5 (.slice (some ⟨B, o, none⟩) C1.length c) (C1.set p (x ^^^ y)) := by
          have := Buf.store HBU.out hpl (.int .u8 ((x.toNat ^^^ y.toNat : Nat) : Int))
          unfold BBuf
          rw [List.length_set, bcs, List.map_set, UInt8.toNat_xor]
          exact this
        obtain ⟨w8, hw8⟩ : ∃ w, w = w6.setCell ⟨B, o + p, none⟩ (.int .u8 ((x.toNat ^^^ y.toNat : Nat) : Int)) := ⟨_, rfl⟩
        rw [← hw8] at hbS hst ⊢
        have Y8 := Lib.hid (Y5.out.below hbS)
        have F8 := Lib.hid (F5.out.below hbS)
        have B8 := Lib.hid (below_trans B5.out hbS)
        have HST := Lib.hid hst
        clear hw8 hbS hst hBe hown hlb hb HBU hcut hck hfk Y5 F5 B5 k0 k1 k2 k3 k4 k5 k6 k7 k8 k9
        obtain ⟨z0, z1, z2, z3, z4, z5, z6, z7, z8, z9⟩ := Y8.out.c10
        refine Dv.wp_region_chain (fun kQ => List.lookup kQ [(0, fun v => v = .agg #[.string (bs I), .int .i64 0, .int .i64 1000, .int .i64 3, .int .i64 RL, .int .i64 RC, .slice F 2 fc, .slice S 0 sc, .string (bs C1), .string (bs X1)]), (1, fun v => v = .agg #[.string (bs I), .int .i64 0, .int .i64 1000, .int .i64 3, .int .i64 RL, .int .i64 RC, .slice F 2 fc, .slice S 0 sc, .string (bs C1), .string (bs X1)]), (2, fun v => ∃ B, v = .pointer (some ⟨B, 0, none⟩)), (3, fun v => ∃ B, v = .pointer (some ⟨B, 0, none⟩)), (4, fun _ => True), (5, fun _ => True)])
          (X2 w8.drew 64 cF0 #[.string (bs I), .int .i64 0, .int .i64 1000, .int .i64 3, .int .i64 RL, .int .i64 RC, .slice F 2 fc, .slice S 0 sc, .string (bs C1), .string (bs X1)] #[.string (bs I), .int .i64 0, .int .i64 1000, .int .i64 3, .int .i64 RL, .int .i64 RC, .slice F 2 fc, .slice S 0 sc, .string (bs C1), .string (bs X1)]) (by kernel_rfl) 108 (by kernel_rfl) rfl ?_ X2.congr ?_ (X2.start _ _ _ _ _ _) ?_
        · apply Dk.lookup_all (p := fun _ (g : Value → Prop) => ∃ v, g v)
          simp only [List.forall_mem_cons, List.not_mem_nil, false_imp_iff, implies_true, and_true]
          exact ⟨⟨_, rfl⟩, ⟨_, rfl⟩, ⟨_, 0, rfl⟩, ⟨_, 0, rfl⟩, ⟨undef, trivial⟩, ⟨undef, trivial⟩⟩
        · intro i vs D w v hi hX
          rcases (show 5 < i ∨ i = 0 ∨ i = 1 ∨ i = 2 ∨ i = 3 ∨ i = 4 ∨ i = 5 by omega) with h | h | h | h | h | h | h
          · exact hX.low (.inr h) (Below.refl _ _) v
          all_goals (rw [h] at hi; exact (Option.some_ne_none _ hi).elim)
        refine Dv.Chain.make _ rfl rfl rfl (fun vs D wx hx hD hp hv => ?_) (fun u0 hu0 a' ha => ?_)
        focus
          obtain ⟨g0, g1, g2, g3, g4, g5, g6, g7, g8, g9⟩ := (Y8.out.drew.below hx.bel).c10
          go_simp
          first | exact ⟨rfl, hx.low (i := 0) (.inl (by decide)) (Below.refl _ _) _⟩ | exact hx.low (i := 0) (.inl (by decide)) (Below.refl _ _) _
        subst hu0
        simp only [Act.put, List.setIfInBounds_toArray, List.set_cons_succ, List.set_cons_zero] at ha
        subst ha
        refine Dv.Chain.make _ rfl rfl rfl (fun vs D wx hx hD hp hv => ?_) (fun u1 hu1 a' ha => ?_)
        focus
          obtain ⟨g0, g1, g2, g3, g4, g5, g6, g7, g8, g9⟩ := (Y8.out.drew.below hx.bel).c10
          go_simp
          first | exact ⟨rfl, hx.low (i := 1) (.inl (by decide)) (Below.refl _ _) _⟩ | exact hx.low (i := 1) (.inl (by decide)) (Below.refl _ _) _
        subst hu1
        simp only [Act.put, List.setIfInBounds_toArray, List.set_cons_succ, List.set_cons_zero] at ha
        subst ha
        refine Dv.Chain.make _ rfl rfl rfl (fun vs D wx hx hD hp hv => ?_) (fun u2 hu2 a' ha => ?_)
        focus
          go_simp
          first | exact ⟨⟨_, rfl⟩, hx.two hD⟩ | exact ⟨_, hx.two hD⟩ | exact hx.two hD
        obtain ⟨P2, rfl⟩ := hu2
        simp only [Act.put, List.setIfInBounds_toArray, List.set_cons_succ, List.set_cons_zero] at ha
        subst ha
        refine Dv.Chain.make _ rfl rfl rfl (fun vs D wx hx hD hp hv => ?_) (fun u3 hu3 a' ha => ?_)
        focus
          go_simp
          first | exact ⟨⟨_, rfl⟩, hx.three hD⟩ | exact ⟨_, hx.three hD⟩ | exact hx.three hD
        obtain ⟨P3, rfl⟩ := hu3
        simp only [Act.put, List.setIfInBounds_toArray, List.set_cons_succ, List.set_cons_zero] at ha
        subst ha
        refine Dv.Chain.make _ rfl rfl rfl (fun vs D wx hx hD hp hv => ?_) (fun u4 hu4 a' ha => ?_)
        focus
          have h2 := hp 2 (by kernel_rfl)
          have hv2 := hv 2 _ (by kernel_rfl) rfl
          obtain ⟨hN, g2, _⟩ := hx.fst _ h2 hv2
          have hz := g2 hD
          obtain ⟨g0, g1, g2, g3, g4, g5, g6, g7, g8, g9⟩ := hz.c10
          have hfz := hz.free
          have f0 := hfz 0
          have f1 := hfz 1
          have f2 := hfz 2
          have f3 := hfz 3
          have f4 := hfz 4
          have f5 := hfz 5
          have f6 := hfz 6
          have f7 := hfz 7
          have f8 := hfz 8
          have f9 := hfz 9
          clear hfz
          go_simp
          first | exact ⟨trivial, hx.four h2 hv2 (fr10 _ _ _ _ _ _ _ _ _ _ _ _) (blk10 hz) _⟩ | exact ⟨undef, hx.four h2 hv2 (fr10 _ _ _ _ _ _ _ _ _ _ _ _) (blk10 hz) _⟩ | exact hx.four h2 hv2 (fr10 _ _ _ _ _ _ _ _ _ _ _ _) (blk10 hz) _
        simp only [Act.put] at ha
        subst ha
        refine Dv.Chain.make _ rfl rfl rfl (fun vs D wx hx hD hp hv => ?_) (fun u5 hu5 a' ha => ?_)
        focus
          have h3 := hp 3 (by kernel_rfl)
          have hv3 := hv 3 _ (by kernel_rfl) rfl
          obtain ⟨hN, g2, _⟩ := hx.snd _ h3 hv3
          have hz := g2 hD
          obtain ⟨g0, g1, g2, g3, g4, g5, g6, g7, g8, g9⟩ := hz.c10
          have hfz := hz.free
          have f0 := hfz 0
          have f1 := hfz 1
          have f2 := hfz 2
          have f3 := hfz 3
          have f4 := hfz 4
          have f5 := hfz 5
          have f6 := hfz 6
          have f7 := hfz 7
          have f8 := hfz 8
          have f9 := hfz 9
          clear hfz
          go_simp
          first | exact ⟨trivial, hx.five h3 hv3 (fr10 _ _ _ _ _ _ _ _ _ _ _ _) (blk10 hz) _⟩ | exact ⟨undef, hx.five h3 hv3 (fr10 _ _ _ _ _ _ _ _ _ _ _ _) (blk10 hz) _⟩ | exact hx.five h3 hv3 (fr10 _ _ _ _ _ _ _ _ _ _ _ _) (blk10 hz) _
        simp only [Act.put] at ha
        subst ha
        refine Dv.Chain.end_ (fun vs D w9 hDD hX hv => ?_)
        have hv2 := hv 2 _ rfl
        have hv3 := hv 3 _ rfl
        obtain ⟨gx1, _, gx⟩ := hX.fst _ (hDD 2 (by decide)) hv2
        obtain ⟨gy1, _, gy⟩ := hX.snd _ (hDD 3 (by decide)) hv3
        have hne := hX.ne _ _ (hDD 2 (by decide)) (hDD 3 (by decide)) hv2 hv3
        have gx := gx (hDD 4 (by decide))
        have gy := gy (hDD 5 (by decide))
        have hb9 : Below w8.heap.size w8 w9 := below_trans (Below.refl _ _).drew hX.bel
        have hst9 := HST.out.below hb9
        obtain ⟨LB, hLB⟩ : ∃ LB, LB = C1.set p (x ^^^ y) := ⟨_, rfl⟩
        obtain ⟨LC, hLC⟩ : ∃ LC, LC = C1.take p := ⟨_, rfl⟩
        have hbad1 := bent_holds HX.out HY.out chunksN
        have hbad2 := cut_holds hpl chunksN
        have hlB : LB.length ≤ 400000 := by rw [hLB, List.length_set]; omega
        have hlC : LC.length ≤ 400000 := by rw [hLC, List.length_take]; omega
        have hll : C1.length = LB.length := by rw [hLB, List.length_set]
        rw [← hLB] at hst9 hbad1
        rw [← hLC] at hbad2 ⊢
        rw [hll] at hst9 ⊢
        have hcv : ∀ w, BBuf w 5 (.slice (some ⟨B, o, none⟩) LB.length c) LB → (convert 96 9 (.slice (some ⟨B, o, none⟩) LB.length c)).run Tryz.prog w = .ok (.string (bs LB)) w := fun w h => BBuf.string bytes_ty h 9 Tryz.underlying9
        have hcv9 := hcv w9 hst9
        obtain ⟨x0, x1, x2, x3, x4, x5, x6, x7, x8, x9⟩ := gx.c10
        obtain ⟨y0, y1, y2, y3, y4, y5, y6, y7, y8, y9⟩ := gy.c10
        have fx := gx.free 8
        have fy := gy.free 8
        have fy2 : (w9.setCell ⟨P2, 8, none⟩ (.string (bs LB))).frozen? ⟨P3, 8, none⟩ = false := (gy.other (fun e => hne e.symm) 8 _).free 8
        have cy2 : (w9.setCell ⟨P2, 8, none⟩ (.string (bs LB))).cell? ⟨P3, 8, none⟩ = some (.string (bs C1)) := (gy.other (fun e => hne e.symm) 8 _).cell (i := 8) rfl
        have GX : Blk ((w9.setCell ⟨P2, 8, none⟩ (.string (bs LB))).setCell ⟨P3, 8, none⟩ (.string (bs LC))) P2 64 #[.string (bs I), .int .i64 0, .int .i64 1000, .int .i64 3, .int .i64 RL, .int .i64 RC, .slice F 2 fc, .slice S 0 sc, .string (bs LB), .string (bs X1)] := by have := ((gx.set 8 (.string (bs LB))).other hne 8 (.string (bs LC))); simpa using this
        have GY : Blk ((w9.setCell ⟨P2, 8, none⟩ (.string (bs LB))).setCell ⟨P3, 8, none⟩ (.string (bs LC))) P3 64 #[.string (bs I), .int .i64 0, .int .i64 1000, .int .i64 3, .int .i64 RL, .int .i64 RC, .slice F 2 fc, .slice S 0 sc, .string (bs LC), .string (bs X1)] := by have := ((gy.other (fun e => hne e.symm) 8 (.string (bs LB))).set 8 (.string (bs LC))); simpa using this
        have gx1 : w8.heap.size ≤ P2 := gx1
        have gy1 : w8.heap.size ≤ P3 := gy1
        have hbX : Below w8.heap.size w8 ((w9.setCell ⟨P2, 8, none⟩ (.string (bs LB))).setCell ⟨P3, 8, none⟩ (.string (bs LC))) := (hb9.setCell (p := ⟨P2, 8, none⟩) gx1 _).setCell (p := ⟨P3, 8, none⟩) gy1 _
        have FX := Lib.hid (F8.out.below hbX)
        have BX := Lib.hid (below_trans B8.out hbX)
        have HGX := Lib.hid GX
        have HGY := Lib.hid GY
        have HLL := Lib.hid hll
        have HB1 := Lib.hid hbad1
        have HB2 := Lib.hid hbad2
        have HNE := Lib.hid hne
        clear hv2 hv3 hv gx gy hb9 hst9 hLB hLC GX GY hbX hX hDD hll hbad1 hbad2 hcv hne HX HST Y8 F8 B8
        go_upto_region 17 with fail
        obtain ⟨wx, hwx⟩ : ∃ wx, wx = (w9.setCell ⟨P2, 8, none⟩ (.string (bs LB))).setCell ⟨P3, 8, none⟩ (.string (bs LC)) := ⟨_, rfl⟩
        rw [← hwx] at FX BX HGX HGY ⊢
        clear hwx
        have T1 := Lib.hid (table_bad ⟨chunksN, C1.length, Frm.sum C1⟩ ⟨indexN, X1.length, Frm.sum X1⟩ I 0 1000 3 RL RC F S fc sc LB X1 wx (HW.out.below BX.out) FX.out (by omega) (by omega) (.inl HB1.out))
        have T2 := Lib.hid (fun w (hw : Below wx.heap.size wx w) => table_bad ⟨chunksN, C1.length, Frm.sum C1⟩ ⟨indexN, X1.length, Frm.sum X1⟩ I 0 1000 3 RL RC F S fc sc LC X1 w (HW.out.below (below_trans BX.out hw)) (FX.out.below hw) (by omega) (by omega) (.inl HB2.out))
        clear x0 x1 x2 x3 x4 x5 x6 x7 x8 x9 y0 y1 y2 y3 y4 y5 y6 y7 y8 y9 fx fy fy2 cy2 hcv9
        obtain ⟨x0, x1, x2, x3, x4, x5, x6, x7, x8, x9⟩ := HGX.out.c10
        go_wp2_with fail
        refine T1.out.mono ?_
        rintro e wy ⟨vy, rfl, by1⟩
        obtain ⟨y0, y1, y2, y3, y4, y5, y6, y7, y8, y9⟩ := (HGY.out.below by1).c10
        have T3 := Lib.hid (T2.out _ by1)
        have BY1 := Lib.hid (below_trans BX.out by1)
        clear x0 x1 x2 x3 x4 x5 x6 x7 x8 x9 T1 T2 by1
        go_wp2_with fail
        refine T3.out.mono ?_
        rintro e wq ⟨vq, rfl, bq⟩
        have BQ := Lib.hid (below_trans BY1.out bq)
        clear bq T3
        go_wp2_with fail
        go_ret
        exact ⟨rfl, BQ.out⟩
      · have hlt : (C1.length : Int) ≤ (p : Int) := by omega
        go_wp2_with ((with_reducible refine wpList_bytes rfl (.tmp 58) 96 9 rfl bytes_ty Tryz.underlying9 (bs C1) rfl (by rw [bs_size]; unfold maxLen; omega) ?_); intro b w6 hb hlb hown; rw [bs_data] at hb; obtain ⟨A1, c1, rfl, _⟩ := Buf.shape hb; have BZ := Lib.hid (below_trans B5.out hlb); clear hb hlb hown)
        go_ret
        exact ⟨rfl, BZ.out⟩
    · by_cases hpl : p < X1.length
      · obtain ⟨x, hx⟩ : ∃ x, X1[p]? = some x := ⟨_, List.getElem?_eq_getElem hpl⟩
        have HX := Lib.hid hx
        have hxor := ku8_xor_byte x y
        have hltk : ¬ (X1.length : Int) ≤ (p : Int) := by omega
        have hplen : (p : Int) < (X1.length : Int) := by omega
        have hple : p ≤ X1.length := by omega
        clear hx
        go_upto_region 8 with ((with_reducible refine wpList_bytes rfl (.tmp 58) 96 9 rfl bytes_ty Tryz.underlying9 (bs C1) rfl (by rw [bs_size]; unfold maxLen; omega) ?_); intro b0 w6 hb0 hl6 hown0; rw [bs_data] at hb0; obtain ⟨A0, c0, rfl, _⟩ := Buf.shape hb0; have Y6 := Lib.hid (Y5.out.below hl6); have F6 := Lib.hid (F5.out.below hl6); have B6 := Lib.hid (below_trans B5.out hl6); obtain ⟨q0, q1, q2, q3, q4, q5, q6, q7, q8, q9⟩ := Y6.out.c10; clear hb0 hl6 hown0)
        go_upto_region 13 with ((with_reducible refine wpList_bytes rfl (.tmp 62) 96 9 rfl bytes_ty Tryz.underlying9 (bs X1) rfl (by rw [bs_size]; unfold maxLen; omega) ?_); intro b w7 hb hlb hown; rw [bs_data] at hb; obtain ⟨B, o, c, rfl, hB, hcL, hcell, hfz⟩ := Buf.at_ hb (by omega); have HBU := Lib.hid hb; have hcut := BBuf.string bytes_ty (BBuf.prefix_ hb p (by omega)) 9 Tryz.underlying9; have hck := hcell p hpl; rw [bcs, List.getElem?_map, HX.out] at hck; replace hck : w7.cell? ⟨B, o + p, none⟩ = some (.int .u8 x.toNat) := hck; have hfk := hfz p hpl; clear hcell hfz)
        have hBe : B = w6.heap.size := by simpa [Value.ownBlock] using hown
        have hbS : Below w6.heap.size w6 (w7.setCell ⟨B, o + p, none⟩ (.int .u8 ((x.toNat ^^^ y.toNat : Nat) : Int))) := hlb.setCell (p := ⟨B, o + p, none⟩) (by rw [hBe]; exact Nat.le_refl _) _
        have hst : BBuf (w7.setCell ⟨B, o + p, none⟩ (.int .u8 ((x.toNat ^^^ y.toNat : Nat) : Int))) 5 (.slice (some ⟨B, o, none⟩) X1.length c) (X1.set p (x ^^^ y)) := by
          have := Buf.store HBU.out hpl (.int .u8 ((x.toNat ^^^ y.toNat : Nat) : Int))
          unfold BBuf
          rw [List.length_set, bcs, List.map_set, UInt8.toNat_xor]
          exact this
        obtain ⟨w8, hw8⟩ : ∃ w, w = w7.setCell ⟨B, o + p, none⟩ (.int .u8 ((x.toNat ^^^ y.toNat : Nat) : Int)) := ⟨_, rfl⟩
        rw [← hw8] at hbS hst ⊢
        have Y8 := Lib.hid (Y6.out.below hbS)
        have F8 := Lib.hid (F6.out.below hbS)
        have B8 := Lib.hid (below_trans B6.out hbS)
        have HST := Lib.hid hst
        clear hw8 hbS hst hBe hown hlb hb HBU hcut hck hfk Y6 F6 B6 q0 q1 q2 q3 q4 q5 q6 q7 q8 q9
        obtain ⟨z0, z1, z2, z3, z4, z5, z6, z7, z8, z9⟩ := Y8.out.c10
        refine Dv.wp_region_chain (fun kQ => List.lookup kQ [(0, fun v => v = .agg #[.string (bs I), .int .i64 0, .int .i64 1000, .int .i64 3, .int .i64 RL, .int .i64 RC, .slice F 2 fc, .slice S 0 sc, .string (bs C1), .string (bs X1)]), (1, fun v => v = .agg #[.string (bs I), .int .i64 0, .int .i64 1000, .int .i64 3, .int .i64 RL, .int .i64 RC, .slice F 2 fc, .slice S 0 sc, .string (bs C1), .string (bs X1)]), (2, fun v => ∃ B, v = .pointer (some ⟨B, 0, none⟩)), (3, fun v => ∃ B, v = .pointer (some ⟨B, 0, none⟩)), (4, fun _ => True), (5, fun _ => True)])
          (X2 w8.drew 64 cF0 #[.string (bs I), .int .i64 0, .int .i64 1000, .int .i64 3, .int .i64 RL, .int .i64 RC, .slice F 2 fc, .slice S 0 sc, .string (bs C1), .string (bs X1)] #[.string (bs I), .int .i64 0, .int .i64 1000, .int .i64 3, .int .i64 RL, .int .i64 RC, .slice F 2 fc, .slice S 0 sc, .string (bs C1), .string (bs X1)]) (by kernel_rfl) 108 (by kernel_rfl) rfl ?_ X2.congr ?_ (X2.start _ _ _ _ _ _) ?_
        · apply Dk.lookup_all (p := fun _ (g : Value → Prop) => ∃ v, g v)
          simp only [List.forall_mem_cons, List.not_mem_nil, false_imp_iff, implies_true, and_true]
          exact ⟨⟨_, rfl⟩, ⟨_, rfl⟩, ⟨_, 0, rfl⟩, ⟨_, 0, rfl⟩, ⟨undef, trivial⟩, ⟨undef, trivial⟩⟩
        · intro i vs D w v hi hX
          rcases (show 5 < i ∨ i = 0 ∨ i = 1 ∨ i = 2 ∨ i = 3 ∨ i = 4 ∨ i = 5 by omega) with h | h | h | h | h | h | h
          · exact hX.low (.inr h) (Below.refl _ _) v
          all_goals (rw [h] at hi; exact (Option.some_ne_none _ hi).elim)
        refine Dv.Chain.make _ rfl rfl rfl (fun vs D wx hx hD hp hv => ?_) (fun u0 hu0 a' ha => ?_)
        focus
          obtain ⟨g0, g1, g2, g3, g4, g5, g6, g7, g8, g9⟩ := (Y8.out.drew.below hx.bel).c10
          go_simp
          first | exact ⟨rfl, hx.low (i := 0) (.inl (by decide)) (Below.refl _ _) _⟩ | exact hx.low (i := 0) (.inl (by decide)) (Below.refl _ _) _
        subst hu0
        simp only [Act.put, List.setIfInBounds_toArray, List.set_cons_succ, List.set_cons_zero] at ha
        subst ha
        refine Dv.Chain.make _ rfl rfl rfl (fun vs D wx hx hD hp hv => ?_) (fun u1 hu1 a' ha => ?_)
        focus
          obtain ⟨g0, g1, g2, g3, g4, g5, g6, g7, g8, g9⟩ := (Y8.out.drew.below hx.bel).c10
          go_simp
          first | exact ⟨rfl, hx.low (i := 1) (.inl (by decide)) (Below.refl _ _) _⟩ | exact hx.low (i := 1) (.inl (by decide)) (Below.refl _ _) _
        subst hu1
        simp only [Act.put, List.setIfInBounds_toArray, List.set_cons_succ, List.set_cons_zero] at ha
        subst ha
        refine Dv.Chain.make _ rfl rfl rfl (fun vs D wx hx hD hp hv => ?_) (fun u2 hu2 a' ha => ?_)
        focus
          go_simp
          first | exact ⟨⟨_, rfl⟩, hx.two hD⟩ | exact ⟨_, hx.two hD⟩ | exact hx.two hD
        obtain ⟨P2, rfl⟩ := hu2
        simp only [Act.put, List.setIfInBounds_toArray, List.set_cons_succ, List.set_cons_zero] at ha
        subst ha
        refine Dv.Chain.make _ rfl rfl rfl (fun vs D wx hx hD hp hv => ?_) (fun u3 hu3 a' ha => ?_)
        focus
          go_simp
          first | exact ⟨⟨_, rfl⟩, hx.three hD⟩ | exact ⟨_, hx.three hD⟩ | exact hx.three hD
        obtain ⟨P3, rfl⟩ := hu3
        simp only [Act.put, List.setIfInBounds_toArray, List.set_cons_succ, List.set_cons_zero] at ha
        subst ha
        refine Dv.Chain.make _ rfl rfl rfl (fun vs D wx hx hD hp hv => ?_) (fun u4 hu4 a' ha => ?_)
        focus
          have h2 := hp 2 (by kernel_rfl)
          have hv2 := hv 2 _ (by kernel_rfl) rfl
          obtain ⟨hN, g2, _⟩ := hx.fst _ h2 hv2
          have hz := g2 hD
          obtain ⟨g0, g1, g2, g3, g4, g5, g6, g7, g8, g9⟩ := hz.c10
          have hfz := hz.free
          have f0 := hfz 0
          have f1 := hfz 1
          have f2 := hfz 2
          have f3 := hfz 3
          have f4 := hfz 4
          have f5 := hfz 5
          have f6 := hfz 6
          have f7 := hfz 7
          have f8 := hfz 8
          have f9 := hfz 9
          clear hfz
          go_simp
          first | exact ⟨trivial, hx.four h2 hv2 (fr10 _ _ _ _ _ _ _ _ _ _ _ _) (blk10 hz) _⟩ | exact ⟨undef, hx.four h2 hv2 (fr10 _ _ _ _ _ _ _ _ _ _ _ _) (blk10 hz) _⟩ | exact hx.four h2 hv2 (fr10 _ _ _ _ _ _ _ _ _ _ _ _) (blk10 hz) _
        simp only [Act.put] at ha
        subst ha
        refine Dv.Chain.make _ rfl rfl rfl (fun vs D wx hx hD hp hv => ?_) (fun u5 hu5 a' ha => ?_)
        focus
          have h3 := hp 3 (by kernel_rfl)
          have hv3 := hv 3 _ (by kernel_rfl) rfl
          obtain ⟨hN, g2, _⟩ := hx.snd _ h3 hv3
          have hz := g2 hD
          obtain ⟨g0, g1, g2, g3, g4, g5, g6, g7, g8, g9⟩ := hz.c10
          have hfz := hz.free
          have f0 := hfz 0
          have f1 := hfz 1
          have f2 := hfz 2
          have f3 := hfz 3
          have f4 := hfz 4
          have f5 := hfz 5
          have f6 := hfz 6
          have f7 := hfz 7
          have f8 := hfz 8
          have f9 := hfz 9
          clear hfz
          go_simp
          first | exact ⟨trivial, hx.five h3 hv3 (fr10 _ _ _ _ _ _ _ _ _ _ _ _) (blk10 hz) _⟩ | exact ⟨undef, hx.five h3 hv3 (fr10 _ _ _ _ _ _ _ _ _ _ _ _) (blk10 hz) _⟩ | exact hx.five h3 hv3 (fr10 _ _ _ _ _ _ _ _ _ _ _ _) (blk10 hz) _
        simp only [Act.put] at ha
        subst ha
        refine Dv.Chain.end_ (fun vs D w9 hDD hX hv => ?_)
        have hv2 := hv 2 _ rfl
        have hv3 := hv 3 _ rfl
        obtain ⟨gx1, _, gx⟩ := hX.fst _ (hDD 2 (by decide)) hv2
        obtain ⟨gy1, _, gy⟩ := hX.snd _ (hDD 3 (by decide)) hv3
        have hne := hX.ne _ _ (hDD 2 (by decide)) (hDD 3 (by decide)) hv2 hv3
        have gx := gx (hDD 4 (by decide))
        have gy := gy (hDD 5 (by decide))
        have hb9 : Below w8.heap.size w8 w9 := below_trans (Below.refl _ _).drew hX.bel
        have hst9 := HST.out.below hb9
        obtain ⟨LB, hLB⟩ : ∃ LB, LB = X1.set p (x ^^^ y) := ⟨_, rfl⟩
        obtain ⟨LC, hLC⟩ : ∃ LC, LC = X1.take p := ⟨_, rfl⟩
        have hbad1 := bent_holds HX.out HY.out indexN
        have hbad2 := cut_holds hpl indexN
        have hlB : LB.length ≤ 400000 := by rw [hLB, List.length_set]; omega
        have hlC : LC.length ≤ 400000 := by rw [hLC, List.length_take]; omega
        have hll : X1.length = LB.length := by rw [hLB, List.length_set]
        rw [← hLB] at hst9 hbad1
        rw [← hLC] at hbad2 ⊢
        rw [hll] at hst9 ⊢
        have hcv : ∀ w, BBuf w 5 (.slice (some ⟨B, o, none⟩) LB.length c) LB → (convert 96 9 (.slice (some ⟨B, o, none⟩) LB.length c)).run Tryz.prog w = .ok (.string (bs LB)) w := fun w h => BBuf.string bytes_ty h 9 Tryz.underlying9
        have hcv9 := hcv w9 hst9
        obtain ⟨x0, x1, x2, x3, x4, x5, x6, x7, x8, x9⟩ := gx.c10
        obtain ⟨y0, y1, y2, y3, y4, y5, y6, y7, y8, y9⟩ := gy.c10
        have fx := gx.free 9
        have fy := gy.free 9
        have fy2 : (w9.setCell ⟨P2, 9, none⟩ (.string (bs LB))).frozen? ⟨P3, 9, none⟩ = false := (gy.other (fun e => hne e.symm) 9 _).free 9
        have cy2 : (w9.setCell ⟨P2, 9, none⟩ (.string (bs LB))).cell? ⟨P3, 9, none⟩ = some (.string (bs X1)) := (gy.other (fun e => hne e.symm) 9 _).cell (i := 9) rfl
        have GX : Blk ((w9.setCell ⟨P2, 9, none⟩ (.string (bs LB))).setCell ⟨P3, 9, none⟩ (.string (bs LC))) P2 64 #[.string (bs I), .int .i64 0, .int .i64 1000, .int .i64 3, .int .i64 RL, .int .i64 RC, .slice F 2 fc, .slice S 0 sc, .string (bs C1), .string (bs LB)] := by have := ((gx.set 9 (.string (bs LB))).other hne 9 (.string (bs LC))); simpa using this
        have GY : Blk ((w9.setCell ⟨P2, 9, none⟩ (.string (bs LB))).setCell ⟨P3, 9, none⟩ (.string (bs LC))) P3 64 #[.string (bs I), .int .i64 0, .int .i64 1000, .int .i64 3, .int .i64 RL, .int .i64 RC, .slice F 2 fc, .slice S 0 sc, .string (bs C1), .string (bs LC)] := by have := ((gy.other (fun e => hne e.symm) 9 (.string (bs LB))).set 9 (.string (bs LC))); simpa using this
        have gx1 : w8.heap.size ≤ P2 := gx1
        have gy1 : w8.heap.size ≤ P3 := gy1
        have hbX : Below w8.heap.size w8 ((w9.setCell ⟨P2, 9, none⟩ (.string (bs LB))).setCell ⟨P3, 9, none⟩ (.string (bs LC))) := (hb9.setCell (p := ⟨P2, 9, none⟩) gx1 _).setCell (p := ⟨P3, 9, none⟩) gy1 _
        have FX := Lib.hid (F8.out.below hbX)
        have BX := Lib.hid (below_trans B8.out hbX)
        have HGX := Lib.hid GX
        have HGY := Lib.hid GY
        have HLL := Lib.hid hll
        have HB1 := Lib.hid hbad1
        have HB2 := Lib.hid hbad2
        have HNE := Lib.hid hne
        clear hv2 hv3 hv gx gy hb9 hst9 hLB hLC GX GY hbX hX hDD hll hbad1 hbad2 hcv hne HX HST Y8 F8 B8
        go_upto_region 17 with fail
        obtain ⟨wx, hwx⟩ : ∃ wx, wx = (w9.setCell ⟨P2, 9, none⟩ (.string (bs LB))).setCell ⟨P3, 9, none⟩ (.string (bs LC)) := ⟨_, rfl⟩
        rw [← hwx] at FX BX HGX HGY ⊢
        clear hwx
        have T1 := Lib.hid (table_bad ⟨chunksN, C1.length, Frm.sum C1⟩ ⟨indexN, X1.length, Frm.sum X1⟩ I 0 1000 3 RL RC F S fc sc C1 LB wx (HW.out.below BX.out) FX.out (by omega) (by omega) (.inr HB1.out))
        have T2 := Lib.hid (fun w (hw : Below wx.heap.size wx w) => table_bad ⟨chunksN, C1.length, Frm.sum C1⟩ ⟨indexN, X1.length, Frm.sum X1⟩ I 0 1000 3 RL RC F S fc sc C1 LC w (HW.out.below (below_trans BX.out hw)) (FX.out.below hw) (by omega) (by omega) (.inr HB2.out))
        clear x0 x1 x2 x3 x4 x5 x6 x7 x8 x9 y0 y1 y2 y3 y4 y5 y6 y7 y8 y9 fx fy fy2 cy2 hcv9
        obtain ⟨x0, x1, x2, x3, x4, x5, x6, x7, x8, x9⟩ := HGX.out.c10
        go_wp2_with fail
        refine T1.out.mono ?_
        rintro e wy ⟨vy, rfl, by1⟩
        obtain ⟨y0, y1, y2, y3, y4, y5, y6, y7, y8, y9⟩ := (HGY.out.below by1).c10
        have T3 := Lib.hid (T2.out _ by1)
        have BY1 := Lib.hid (below_trans BX.out by1)
        clear x0 x1 x2 x3 x4 x5 x6 x7 x8 x9 T1 T2 by1
        go_wp2_with fail
        refine T3.out.mono ?_
        rintro e wq ⟨vq, rfl, bq⟩
        have BQ := Lib.hid (below_trans BY1.out bq)
        clear bq T3
        go_wp2_with fail
        go_ret
        exact ⟨rfl, BQ.out⟩
      · have hlt : (X1.length : Int) ≤ (p : Int) := by omega
        go_upto_region 8 with ((with_reducible refine wpList_bytes rfl (.tmp 58) 96 9 rfl bytes_ty Tryz.underlying9 (bs C1) rfl (by rw [bs_size]; unfold maxLen; omega) ?_); intro b0 w6 hb0 hl6 hown0; rw [bs_data] at hb0; obtain ⟨A0, c0, rfl, _⟩ := Buf.shape hb0; have Y6 := Lib.hid (Y5.out.below hl6); have F6 := Lib.hid (F5.out.below hl6); have B6 := Lib.hid (below_trans B5.out hl6); obtain ⟨q0, q1, q2, q3, q4, q5, q6, q7, q8, q9⟩ := Y6.out.c10; clear hb0 hl6 hown0)
        go_wp2_with ((with_reducible refine wpList_bytes rfl (.tmp 62) 96 9 rfl bytes_ty Tryz.underlying9 (bs X1) rfl (by rw [bs_size]; unfold maxLen; omega) ?_); intro b w7 hb hlb hown; rw [bs_data] at hb; obtain ⟨A1, c1, rfl, _⟩ := Buf.shape hb; have BZ := Lib.hid (below_trans B6.out hlb); clear hb hlb hown)
        go_ret
        exact ⟨rfl, BZ.out⟩
set_option maxHeartbeats 8000000 in
set_option maxRecDepth 100000 in
theorem blockBent_lifted (os : Os) (started : os.Started) (H : Type) (enc : TypeId × Value → H) :
    ReturnsInHanded {} Tryz.checked os 7 .any (fun w args => (Rows.blockBentSpec.pre enc Tryz.prog Tryz.f7 [] false w args ∧ laidMetH Tryz.prog [("barograph/xor.widths", Rows.laid_barograph_xor_widths), ("unicode/utf8.acceptRanges", Rows.laid_unicode_utf8_acceptRanges), ("unicode/utf8.first", Rows.laid_unicode_utf8_first)] w) ∧ sizedMet enc Tryz.prog Tryz.f7 (OpenSpec.ofChange Rows.blockBentSpec) false w args)
      (Rows.blockBentSpec.post enc Tryz.prog Tryz.f7 false true false false) := by
  refine returnsInHanded_of_change_and (C := Tryz.checked) (X := fun w _ => laidMetH Tryz.prog [("barograph/xor.widths", Rows.laid_barograph_xor_widths), ("unicode/utf8.acceptRanges", Rows.laid_unicode_utf8_acceptRanges), ("unicode/utf8.first", Rows.laid_unicode_utf8_first)] w) (fun _ _ _ hh h => h.of_heap hh) law_own started (by kernel_rfl) Tryz.func7
    (ChangeSpec.witness_shaped (enc := enc) (C := Tryz.checked) (os := os) (X := fun w _ => laidMetH Tryz.prog [("barograph/xor.widths", Rows.laid_barograph_xor_widths), ("unicode/utf8.acceptRanges", Rows.laid_unicode_utf8_acceptRanges), ("unicode/utf8.first", Rows.laid_unicode_utf8_first)] w) false (World.laidAll Tryz.prog os [("barograph/xor.widths", Rows.laid_barograph_xor_widths), ("unicode/utf8.acceptRanges", Rows.laid_unicode_utf8_acceptRanges), ("unicode/utf8.first", Rows.laid_unicode_utf8_first)]) #[.slice none 0 0, .int .i64 0, .int .u8 0, .bool false] 8 (World.laidAll_os _ _ _)
      (World.shaped_of_ZipB (by kernel_rfl) (by kernel_rfl)) (by kernel_rfl) (by kernel_rfl) (by kernel_rfl) (door_met os _)) ?_
  intro W base args ds gs before hval0 hW _ _ hL _
  have hval : ∀ (j : Nat) t v, Tryz.f7.params[j]? = some t → args[j]? = some v → Value.okWide Tryz.prog W .any base t v := hval0
  have hW' := hW
  obtain ⟨p, q, hA0, hV, rfl, _, _⟩ := hW
  have hA : DataW.TrodAll enc Tryz.prog W 0 (fun _ => true) true Tryz.f7.params.toList args.toList ds p := hA0
  rw [Tryz.params7] at hA hval
  obtain ⟨v0, vs0, d0, ds0, p0, q0, hargs, rfl, rfl, h0, r0⟩ := trodAll_cons hA
  obtain ⟨v1, vs1, d1, ds1, p1, q1, rfl, rfl, rfl, h1, r1⟩ := trodAll_cons r0
  obtain ⟨v2, vs2, d2, ds2, p2, q2, rfl, rfl, rfl, h2, r2⟩ := trodAll_cons r1
  obtain ⟨v3, vs3, d3, ds3, p3, q3, rfl, rfl, rfl, h3, r3⟩ := trodAll_cons r2
  obtain ⟨rfl, rfl, rfl⟩ := trodAll_nil r3
  obtain rfl : args = #[v0, v1, v2, v3] := by cases args; simp_all
  obtain ⟨rfl, rfl⟩ := trodVars_none hV
  obtain ⟨a1, rfl, rfl, rfl, w1⟩ := open_int Tryz.underlying3 (hval 1 3 v1 rfl rfl) h1
  obtain ⟨a2, rfl, rfl, rfl, w2⟩ := open_int Tryz.underlying5 (hval 2 5 v2 rfl rfl) h2
  obtain ⟨a3, rfl, rfl, rfl⟩ := open_bool Tryz.underlying4 (hval 3 4 v3 rfl rfl) h3
  obtain ⟨ts0, hts0⟩ := open_arg14 (hval 0 54 v0 rfl rfl) h0
  refine (blockBent_walk0 v0 ts0 a1 w1 a2 w2 a3 W hts0 (of_laid hL)).mono fun e W' ⟨he, hb⟩ => ?_
  subst he
  exact ⟨_, rfl, law_post law_laid (by intro t ht; rw [Tryz.params7] at ht; simp only [List.mem_cons, List.not_mem_nil, or_false] at ht; rcases ht with rfl | rfl | rfl | rfl <;> exact ⟨by kernel_rfl, of_decide_eq_true (by kernel_rfl)⟩) rfl Tryz.underlying4 rfl rfl hW' hb⟩

theorem blockBent_holds : Rows.BlockBentSaid :=
  OpenClaim.holds_of_wide 7 Tryz.f7 rfl rfl rfl rfl rfl rfl rfl ⟨rfl, rfl, rfl, rfl, rfl⟩ rfl rfl rfl rfl rfl (by kernel_rfl) Tryz.func7 (by kernel_rfl)
    (of_decide_eq_true (by kernel_rfl)) (by unfold Func.isWrapper; first | (rw [if_pos (by decide +kernel)]; kernel_rfl) | (rw [if_neg (by decide +kernel)]; exact ⟨rfl, rfl⟩))
    (fun os started H enc _ => blockBent_lifted os started H enc)

theorem blockBent_card : Rows.BlockBentCardSaid :=
  Claim7.holds_tied_plain_at .later [] [.data, .data, .pinned] true (true, "10e313c21d0b0161e13f8cfea311ebe3f966d34302896ab44c490f8946b68ccf") false
    blockBent_holds (fun _ h => by cases h) (by kernel_rfl) (fun _ h => by cases h) blockBent_row_tie rfl ⟨rfl, rfl⟩ (by kernel_rfl) rfl
    (fun f fn hf hfn => by
      obtain rfl : f = 7 := Option.some.inj ((show Tryz.prog.funcNamed "barograph/barographlaw16.BlockBent" = some 7 by kernel_rfl).symm.trans hf) |>.symm
      obtain rfl : fn = Tryz.f7 := (Option.some.inj (Tryz.func7.symm.trans hfn)).symm
      exact ⟨by kernel_rfl, fun j t ht => by
        rw [Tryz.params7] at ht
        rcases j with _ | j
        · obtain rfl : t = 54 := by simpa using ht.symm
          exact (show Tryz.prog.wantsStandIn 54 = false by kernel_rfl)
        rcases j with _ | j
        · obtain rfl : t = 3 := by simpa using ht.symm
          exact (show Tryz.prog.wantsStandIn 3 = false by kernel_rfl)
        rcases j with _ | j
        · obtain rfl : t = 5 := by simpa using ht.symm
          exact (show Tryz.prog.wantsStandIn 5 = false by kernel_rfl)
        rcases j with _ | j
        · obtain rfl : t = 4 := by simpa using ht.symm
          exact (show Tryz.prog.wantsStandIn 4 = false by kernel_rfl)
        simp at ht⟩)
    (by kernel_rfl)

end Go.Proofs.YtgabmfibfikdbaaGreatDoor
