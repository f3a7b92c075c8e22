/-
  BarographWritten: the walk.
-/
import Derived.Test.YtcopknopifbebaaGreatDoorZWalLC
import Derived.Test.YtcopknopifbebaaGreatDoorZWalEH
import Derived.Test.YtcopknopifbebaaGreatDoorZLib4
import Derived.Test.YtcopknopifbebaaGreatDoorZLib2
import Derived.Test.YtcopknopifbebaaGreatDoorZShelf
import Derived.Test.YtcopknopifbebaaGreatDoorRows
import Derived.LaidMore
import Derived.Lay
import Derived.Stop.Joined
import Derived.Stop.LaidErr
import Derived.ChangeSame
import Derived.OpenShut
import Derived.Test.YtcopknopifbebaaGreatDoorTie
import Derived.Test.YtcopknopifbebaaGreatDoorCards

namespace Go.Proofs.YtcopknopifbebaaGreatDoor
open Go.RowKit Go.Bar Go.Bar.Wal Go.Bar.Leb Go.Bar.Frm Go.Conc
attribute [local go_sem] Oper.semAt_some
theorem nbStore {w wr : World} {e : TypeId} {sz n b o c : Nat} {xs : List Value} (h : NBuf w wr e sz (.slice (some ⟨b, o, none⟩) n c) n xs) {j : Nat} (hj : j < n * sz) (hb : w.heap.size ≤ b) (u : Value) : NBuf w (wr.setCell ⟨b, o + j, none⟩ u) e sz (.slice (some ⟨b, o, none⟩) n c) n (xs.set j u) :=
  ⟨h.buf.storeN hj u, h.below.setCell hb u, h.new⟩

set_option maxHeartbeats 8000000 in
set_option maxRecDepth 10000 in
theorem written_walk0 (nv tv mv : Value) (ns ts : List (List UInt8)) (ms : List Rc) (w : World) (hN : StrsAt w nv ns) (hT : StrsAt w tv ts) (hM : RecsAt w mv ms ∧ ∀ r ∈ ms, r.2.length ≤ maxLen) (hE : EnvAt w) :
    Calls Tryz.prog 3 #[nv, tv, mv] w (RetBelow w (.bool true)) := by
  have hB4 := hE.four
  have hE0 := Lib.hid hE
  -- plain
  obtain ⟨X, hX⟩ : ∃ X, X = few ms := ⟨_, rfl⟩
  have X6 : X.length ≤ 6 := by rw [hX]; exact few_len ms
  have X60 : ∀ r ∈ X, r.2.length ≤ 60 := by rw [hX]; exact few_short ms
  obtain ⟨Y, hY⟩ : ∃ Y, Y = X.map mskR := ⟨_, rfl⟩
  have YX : Y.length = X.length := by rw [hY, List.length_map]
  have Y60 : ∀ r ∈ Y, r.2.length ≤ 60 ∧ r.1 ≠ 255 := fun r hr => by
    rw [hY] at hr
    obtain ⟨q, hq, rfl⟩ := List.mem_map.1 hr
    exact ⟨X60 q hq, and127_ne _⟩
  have F : Wal.Few Y := ⟨fun r hr => Nat.le_trans (Y60 r hr).1 (by decide), fun r hr => (Y60 r hr).2⟩
  have T := laid_short Y (fun r hr => (Y60 r hr).1)
  obtain ⟨d1, g1, e1, R1⟩ := (RstI.start 100).app F (by omega) (by decide) (by decide)
  obtain ⟨d2, g2, e2, _⟩ := R1.open_ 100
  rw [List.nil_append, F.since] at e2
  have acc1 : Wal.Acc 1 d1 := R1.acc
  have rm1 := R1.rm
  have hnew := Lib.hid (fun wx => new_any wx 1048576)
  have cO1 := Lib.hid (fun wx h B (hB4 : 4 ≤ B) (kx : DkAt wx h (Ds.new 1048576)) hx (hB : h.Hi B) => open_ok wx h _ B 0 100 _ _ _ (open_new 1048576 100).1 kx hx hB hB4 (Acc.new _) (by decide) (by decide))
  have cA1 := Lib.hid (fun wx L h v B (hB4 : 4 ≤ B) (kx : DkAt wx h (Ds.new 1048576)) (lx : LgAt wx L h ⟨max 100 1, 1, 0, false⟩) hx (hB : h.Hi B) (hL : B ≤ L) (hv : RecsAt wx v Y) => append_ok wx L h _ _ B 0 v Y _ _ _ e1 kx lx hx hB hL hB4 (Acc.new _) (by decide) (by decide) hv (by omega) (fun r hr => Nat.le_trans (Y60 r hr).1 (by decide)) (by decide) (by decide) (by decide) (by decide))
  have cO2 := Lib.hid (fun wx h B (hB4 : 4 ≤ B) (kx : DkAt wx h d1) hx (hB : h.Hi B) => open_ok wx h d1 B 1 100 _ _ _ e2 kx hx hB hB4 acc1 (by decide) (by rw [rm1]; decide))
  have hWR := Lib.hid (fun wx (hb : Below w.heap.size w wx) => walReads_any nv tv ns ts 100 wx ⟨SlAt.below hN.1 hb, hN.2⟩ ⟨SlAt.below hT.1 hb, hT.2⟩ (hE.below hb))
  have hFW := Lib.hid (fun wx (hb : Below w.heap.size w wx) => few_nb mv ms wx (RecsAt.below hM.1 hb) hM.2)
  rw [← hX] at hFW
  have hsm : sameR Y Y = 0 := by unfold sameR; rw [if_pos rfl]
  have hall : mskJ X.length X = Y := by rw [mskJ_all, hY]
  have HALL := Lib.hid hall
  have HSM := Lib.hid hsm
  have Y6 : Y.length ≤ 6 := by omega
  have HYX := Lib.hid YX
  have hEx : ∀ wx, Below w.heap.size w wx → EnvAt wx := fun wx hb => hE.below hb
  have HEX := Lib.hid hEx
  clear hE hEx hX X60 hY YX Y60 F T e1 R1 e2 acc1 rm1 hN hT hM hsm hall hB4
  go_enter Tryz.func3, Tryz.ntmps3
  go_upto_region 6 with (first
    | (go_at_call 9; refine (live_any w).mono ?_; rintro e w1 ⟨rfl, hb1⟩)
    | (go_at_call 10; refine (hWR.out w1 hb1).mono ?_; rintro e w2 ⟨rfl, hb2⟩; have HB2 := Lib.hid (below_trans hb1 hb2))
    | (go_at_call 11; refine (hnew.out w2).mono ?_; rintro e w3 ⟨h, rfl, k3, hB, hb3⟩; have HB3 := Lib.hid (below_trans HB2.out hb3))
    | (go_at_call 12; refine (cO1.out w3 h w2.heap.size (Nat.le_trans hE0.out.four HB2.out.size) k3 (HEX.out _ HB3.out) hB).mono ?_; rintro e w4 ⟨L, A4, c4, rfl, k4, l4, hL, o4, _⟩; have HB4 := Lib.hid (below_trans HB2.out (hb3.trans o4.bel)))
    | (go_at_call 13; refine (hFW.out w4 HB4.out).mono ?_; rintro e w5 ⟨v5, rfl, n5⟩))
  obtain ⟨A5, c5, rfl, hlc5, hcm5⟩ := n5.slice.shape
  unfold maxLen at hcm5
  have NB0 : Hid (NBuf w4 w5 34 2 (.slice A5 X.length c5) X.length (frcs (mskJ 0 X))) := by rw [mskJ_zero]; exact n5
  have K4 := Lib.hid k4
  have L4 := Lib.hid l4
  have HB := hB
  have O4 := Lib.hid ((show Off LTs w2.heap.size w2 w3 from ⟨Kc.of_below hb3, hb3⟩).trans o4)
  have HS4 := Lib.hid (Nat.le_trans hE0.out.four HB2.out.size)
  clear n5 k3 k4 l4 hb1 hb3 o4 hnew cO1 hFW hWR
  go_wp2_with fail
  go_loopw [34] (fun i wr => ∃ k : Nat, i = .int .i64 k ∧ k ≤ X.length ∧ Hid (NBuf w4 wr 34 2 (.slice A5 X.length c5) X.length (frcs (mskJ k X)))) (fun i _ => X.length - (intOf i).toNat)
  case atStart => exact ⟨0, rfl, Nat.zero_le _, NB0⟩
  case round =>
    obtain ⟨k, rfl, hk, hs⟩ := hrel
    by_cases hgo : k < X.length
    · obtain ⟨⟨kd, d⟩, hki⟩ : ∃ r, X[k]? = some r := ⟨_, List.getElem?_eq_getElem hgo⟩
      obtain ⟨b, o, rfl, hlt⟩ := Buf.some_at hs.out.buf (by omega)
      have hbn : w4.heap.size ≤ b := hs.out.new b rfl
      obtain ⟨c0, f0⟩ := Buf.cellN hs.out.buf (j := k * 2) (by omega)
      replace c0 := c0.trans (flat2 (fun r : Rc => Value.int .u8 r.1.toNat) (fun r => .string (bs r.2)) (mskJ k X) k _ (mskJ_at hki)).1
      simp only at c0
      have hand := and127 kd
      have hci : (0 : Int) ≤ (k : Int) := by omega
      have hci2 : (k : Int) < X.length := by omega
      have hs2 := nbStore hs.out (j := k * 2) (by omega) hbn (.int .u8 (kd &&& 127).toNat)
      rw [mskJ_set hki] at hs2
      have HS2 := Lib.hid hs2
      clear hki hlt hs2
      go_wp2_with fail
      go_roundw
      case rel => exact ⟨k + 1, by go_num, by omega, HS2⟩
      case measure => simp [intOf]; omega
    · obtain rfl : k = X.length := by omega
      have hyb := hs.out.buf
      rw [HALL.out] at hyb
      have HYB := Lib.hid hyb
      have hv : Hid (RecsAt wr (.slice A5 X.length c5) Y) := by
        have h1 := SlAt.of_buf hyb
        show SlAt wr 2 _ Y.length _
        rw [HYX.out]; exact h1
      have OZ := Lib.hid (O4.out.trans (Off.of_below hs.out.below (by have := O4.out.size; exact this)))
      have KZ := K4.out.below hs.out.below
      have LZ := L4.out.below hs.out.below
      have EZ := Lib.hid (HEX.out _ (below_trans HB2.out OZ.out.bel))
      clear hgo hyb
      go_wp2_with (first
        | (go_at_call 14; refine (cA1.out wr L h _ w2.heap.size HS4.out KZ LZ EZ.out HB hL hv.out).mono ?_; rintro e w9 ⟨rfl, k9, _, o9⟩; have OY := Lib.hid (OZ.out.trans o9))
        | (go_at_call 12; refine (cO2.out w9 h w2.heap.size HS4.out k9 (HEX.out _ (below_trans HB2.out OY.out.bel)) HB).mono ?_; rintro e w10 ⟨L6, A6, c6, rfl, _, _, _, o10, b10⟩; have OX := Lib.hid (OY.out.trans o10))
        | (go_at_call 15; refine (same11_any _ _ Y Y w10 (SlAt.of_buf b10) (show RecsAt w10 _ Y by
            have h1 := SlAt.of_buf (o10.kc.buf (o9.kc.buf HYB.out nl_rec) nl_rec)
            show SlAt w10 2 _ Y.length _
            rw [HYX.out]; exact h1)).mono ?_; rw [HSM.out]; rintro e w11 ⟨rfl, n11, rfl⟩))
      go_ret
      exact ⟨rfl, below_trans (below_trans HB2.out OX.out.bel) (below_draws w10 n11)⟩
end Go.Proofs.YtcopknopifbebaaGreatDoor

namespace Go.Bar
open Go.RowKit Go.ChangeShapes Go.WideShapes Go.Deep

section
variable {H : Type} {enc : TypeId × Value → H} {P : Program} {w : World} {base : Nat} {spare : Nat → Bool} {held : Bool}
theorem open_ones_raw {t e : TypeId} {x : Value} {y : DataW H × List MemPlace} {fuel : Nat} (ht : P.underlying t = some (.slice e)) (hC : P.cellsOf e = 1) (hf : DataW.trod enc P w base spare held fuel t [x] = some y) :
    ∃ (A : Option Addr) (n c : Nat), x = .slice A n c ∧ n ≤ c ∧ c ≤ maxLen ∧ (0 < n → ∃ b o, A = some ⟨b, o, none⟩ ∧ b < w.heap.size ∧
      ∀ i, i < n → ∃ (x : Value) (y : DataW H × List MemPlace) (k : Nat), w.cell? ⟨b, o + i, none⟩ = some x ∧ DataW.trod enc P w base spare held k e [x] = some y) := by
  rcases open_slice ht hf with ⟨hcs, _⟩ | ⟨a, len, cap, m, n, D, Pl, hcs, _, hlc, hcm, hm, _, hi⟩
  · simp only [List.cons.injEq, and_true] at hcs
    subst hcs
    exact ⟨none, 0, 0, rfl, Nat.le_refl _, by decide, fun h => absurd h (Nat.lt_irrefl _)⟩
  · simp only [List.cons.injEq, and_true] at hcs
    subst hcs
    refine ⟨some a, len, cap, rfl, hlc, hcm, fun h0 => ?_⟩
    obtain ⟨b, o, spot⟩ := a
    have hread : ∀ i, i < len → ∃ (x : Value) (y : DataW H × List MemPlace) (k : Nat), w.cell? (Addr.add ⟨b, o, spot⟩ i) = some x ∧ DataW.trod enc P w base spare held k e [x] = some y := by
      intro i hil
      obtain ⟨cs, hc, hr⟩ := hi i (by rw [hm]; split <;> omega)
      rw [hC, Nat.mul_one] at hc
      obtain ⟨_, hcl, hat⟩ := World.cells?_some hc
      match cs, hcl with
      | [c0], _ =>
        have := hat 0 (by omega)
        rw [show (Addr.add ⟨b, o, spot⟩ i).add 0 = Addr.add ⟨b, o, spot⟩ i by simp [Addr.add]] at this
        exact ⟨c0, _, _, this, hr⟩
    have hspot : spot = none := by
      obtain ⟨x, y, k, hat, _⟩ := hread 0 h0
      rw [show (Addr.add ⟨b, o, spot⟩ 0) = (⟨b, o, spot⟩ : Addr) by simp [Addr.add]] at hat
      exact World.cell?_spot hat
    subst hspot
    have hlt : b < w.heap.size := by
      obtain ⟨x, y, k, hat, _⟩ := hread 0 h0
      rw [addr_add] at hat
      exact World.block_lt_of_cell? _ _ hat
    refine ⟨b, o, rfl, hlt, fun i hil => ?_⟩
    obtain ⟨x, y, k, hat, hr⟩ := hread i hil
    rw [addr_add] at hat
    exact ⟨x, y, k, hat, hr⟩
end
end Go.Bar

namespace Go.Proofs.YtcopknopifbebaaGreatDoor
open Go.RowKit Go.Bar Go.ChangeShapes Go.WideShapes Go.ChangeAt Go.Deep
theorem g_pow10 : Tryz.prog.globalNamed "internal/strconv.uint64pow10" = some 0 := by kernel_rfl
theorem t_pow10 : (Tryz.prog.globals[0]?).map (·.type) = some 199 := by kernel_rfl
theorem t_range : (Tryz.prog.globals[3]?).map (·.type) = some 130 := by kernel_rfl
theorem t_syntax : (Tryz.prog.globals[2]?).map (·.type) = some 130 := by kernel_rfl
theorem iface_laid {W : World} {n nm : String} {d : DataW Unit} {r : List (String × DataW Unit)} {g : Nat} (h : laidMet Tryz.prog ((n, .iface nm d) :: r) W) (hg : Tryz.prog.globalNamed n = some g) (ht : (Tryz.prog.globals[g]?).map (·.type) = some 130) : ∃ tp p, W.var? Tryz.prog n = some #[.iface tp p] := by
  obtain ⟨ps, ⟨g0, t0, cs0, f0, p0, q0, hg0, ht0, hv0, hd0, _, _⟩, _, _⟩ := h
  obtain rfl := Option.some.inj (ht.symm.trans ((congrArg (fun g => (Tryz.prog.globals[g]?).map (·.type)) (Option.some.inj (hg.symm.trans hg0))).trans ht0))
  obtain ⟨_, u, v, e, _, _⟩ := iface_of_trod Tryz.underlying130 hd0
  refine ⟨u, v, hv0.trans (congrArg some ?_)⟩
  rw [← Array.toList_inj, e]
set_option maxRecDepth 100000 in
theorem of_laid {W : World} (h : laidMetH Tryz.prog [("math/bits.deBruijn32tab", Rows.laid_math_bits_deBruijn32tab), ("math/bits.deBruijn64tab", Rows.laid_math_bits_deBruijn64tab), ("internal/strconv.uint64pow10", Rows.laid_internal_strconv_uint64pow10), ("strconv.ErrRange", Rows.laid_strconv_ErrRange), ("strconv.ErrSyntax", Rows.laid_strconv_ErrSyntax)] W) : EnvAt W := by
  rw [MakeChecks.laidMetH_plain _ _ _ (by kernel_rfl)] at h
  have h2 := h.tail.tail
  exact ⟨Lib.tabIs_of_head g_pow10 t_pow10 Tryz.underlying199 Tryz.underlying70 (by kernel_rfl) (by kernel_rfl) h2, iface_laid h2.tail.tail (by kernel_rfl) t_syntax, iface_laid h2.tail (by kernel_rfl) t_range⟩

theorem door_met (os : Os) (args : Array Value) : laidMetH Tryz.prog [("math/bits.deBruijn32tab", Rows.laid_math_bits_deBruijn32tab), ("math/bits.deBruijn64tab", Rows.laid_math_bits_deBruijn64tab), ("internal/strconv.uint64pow10", Rows.laid_internal_strconv_uint64pow10), ("strconv.ErrRange", Rows.laid_strconv_ErrRange), ("strconv.ErrSyntax", Rows.laid_strconv_ErrSyntax)] ((World.laidAll Tryz.prog os [("math/bits.deBruijn32tab", Rows.laid_math_bits_deBruijn32tab), ("math/bits.deBruijn64tab", Rows.laid_math_bits_deBruijn64tab), ("internal/strconv.uint64pow10", Rows.laid_internal_strconv_uint64pow10), ("strconv.ErrRange", Rows.laid_strconv_ErrRange), ("strconv.ErrSyntax", Rows.laid_strconv_ErrSyntax)]).forCall (fun _ _ => 0) ⟨#[], args, []⟩).memory := by
  rw [MakeChecks.laidMetH_plain _ _ _ (by kernel_rfl)]; exact laidMet_laidAll _ (by kernel_rfl) (by kernel_rfl)

end Go.Proofs.YtcopknopifbebaaGreatDoor

namespace Go.Proofs.YtcopknopifbebaaGreatDoor
open Go.RowKit Go.Bar Go.Bar.Wal Go.Bar.Leb Go.Bar.Frm Go.Conc Go.ChangeShapes Go.WideShapes Go.ChangeAt Go.Deep
set_option maxRecDepth 100000 in
theorem open_strs {H : Type} {enc : TypeId × Value → H} {W : World} {base b0 : Nat} {spare : Nat → Bool} {held : Bool} {r : Reach} {v : Value} {d : DataW H} {p : List MemPlace} (hval : Value.okWide Tryz.prog W r b0 22 v)
    (h : DataW.Trod enc Tryz.prog W base spare held 22 v d p) : ∃ ss, StrsAt W v ss := by
  obtain ⟨A, len, cap, rfl⟩ := okWide_slice Tryz.underlying22 hval
  obtain ⟨k, hk⟩ := h
  have e : (Value.slice A len cap).cells.toList = [.slice A len cap] := by simp [Value.cells]
  rw [e] at hk
  obtain ⟨A, n, c, he, hnc, hcm, hx⟩ := open_ones_raw Tryz.underlying22 (by kernel_rfl) hk
  rw [he]
  rcases Nat.eq_zero_or_pos n with h0 | h0
  · subst h0
    exact ⟨[], ⟨rfl, A, c, rfl, hnc, hcm, fun h => absurd h (by simp)⟩, by simp⟩
  · obtain ⟨b, o, rfl, hb, hf⟩ := hx h0
    obtain ⟨rs, hl, ht⟩ := list_of (fun i (x : List UInt8) => W.cell? ⟨b, o + i, none⟩ = some (.string (bs x)) ∧ x.length ≤ maxLen) n (fun i hi => by
      obtain ⟨x0, y0, k0, c0, t0⟩ := hf i hi
      obtain ⟨s1, e1, e2, ws⟩ := DataW.trod_string Tryz.underlying9 t0
      replace e1 : x0 = _ := (List.cons.inj e1).1
      subst e1
      exact ⟨s1.data.toList, c0, ws⟩)
    refine ⟨rs, ⟨by simp [scs], some ⟨b, o, none⟩, c, by rw [hl], by rw [hl]; exact hnc, hcm, fun _ => ⟨b, o, rfl, hb, fun j hj => ?_⟩⟩, fun x hx => by obtain ⟨i, hi⟩ := List.mem_iff_getElem?.1 hx; exact (ht i x hi).2⟩
    have hlt : j < rs.length := by omega
    have hg := List.getElem?_eq_getElem hlt
    refine ((ht j _ hg).1).trans ?_
    unfold scs
    rw [List.getElem?_map, hg]
    rfl

theorem barographWritten_walk0 (v0 : Value) (ns : List (List UInt8)) (v1 : Value) (ts : List (List UInt8)) (v2 : Value) (ms : List Rc) (w : World) (h0 : StrsAt w v0 ns) (h1 : StrsAt w v1 ts) (h2 : RecsAt w v2 ms ∧ ∀ r ∈ ms, r.2.length ≤ maxLen) (hE : EnvAt w) :
    Calls Tryz.prog 3 #[v0, v1, v2] w (RetBelow w (.bool true)) := written_walk0 v0 v1 v2 ns ts ms w h0 h1 h2 hE

set_option maxHeartbeats 8000000 in
set_option maxRecDepth 100000 in
theorem barographWritten_lifted (os : Os) (started : os.Started) (H : Type) (enc : TypeId × Value → H) :
    ReturnsInHanded {} Tryz.checked os 3 .any (fun w args => (Rows.barographWrittenSpec.pre enc Tryz.prog Tryz.f3 [] false w args ∧ laidMetH Tryz.prog [("math/bits.deBruijn32tab", Rows.laid_math_bits_deBruijn32tab), ("math/bits.deBruijn64tab", Rows.laid_math_bits_deBruijn64tab), ("internal/strconv.uint64pow10", Rows.laid_internal_strconv_uint64pow10), ("strconv.ErrRange", Rows.laid_strconv_ErrRange), ("strconv.ErrSyntax", Rows.laid_strconv_ErrSyntax)] w) ∧ sizedMet enc Tryz.prog Tryz.f3 (OpenSpec.ofChange Rows.barographWrittenSpec) false w args)
      (Rows.barographWrittenSpec.post enc Tryz.prog Tryz.f3 false true false false) := by
  refine returnsInHanded_of_change_and (C := Tryz.checked) (X := fun w _ => laidMetH Tryz.prog [("math/bits.deBruijn32tab", Rows.laid_math_bits_deBruijn32tab), ("math/bits.deBruijn64tab", Rows.laid_math_bits_deBruijn64tab), ("internal/strconv.uint64pow10", Rows.laid_internal_strconv_uint64pow10), ("strconv.ErrRange", Rows.laid_strconv_ErrRange), ("strconv.ErrSyntax", Rows.laid_strconv_ErrSyntax)] w) (fun _ _ _ hh h => h.of_heap hh) law_own started (by kernel_rfl) Tryz.func3
    (ChangeSpec.witness_shaped (enc := enc) (C := Tryz.checked) (os := os) (X := fun w _ => laidMetH Tryz.prog [("math/bits.deBruijn32tab", Rows.laid_math_bits_deBruijn32tab), ("math/bits.deBruijn64tab", Rows.laid_math_bits_deBruijn64tab), ("internal/strconv.uint64pow10", Rows.laid_internal_strconv_uint64pow10), ("strconv.ErrRange", Rows.laid_strconv_ErrRange), ("strconv.ErrSyntax", Rows.laid_strconv_ErrSyntax)] w) false (World.laidAll Tryz.prog os [("math/bits.deBruijn32tab", Rows.laid_math_bits_deBruijn32tab), ("math/bits.deBruijn64tab", Rows.laid_math_bits_deBruijn64tab), ("internal/strconv.uint64pow10", Rows.laid_internal_strconv_uint64pow10), ("strconv.ErrRange", Rows.laid_strconv_ErrRange), ("strconv.ErrSyntax", Rows.laid_strconv_ErrSyntax)]) #[.slice none 0 0, .slice none 0 0, .slice none 0 0] 8 (World.laidAll_os _ _ _)
      (World.shaped_of_ZipB (by kernel_rfl) (by kernel_rfl)) (by kernel_rfl) (by kernel_rfl) (by kernel_rfl) (door_met os _)) ?_
  intro W base args ds gs before hval0 hW _ _ hL _
  have hval : ∀ (j : Nat) t v, Tryz.f3.params[j]? = some t → args[j]? = some v → Value.okWide Tryz.prog W .any base t v := hval0
  have hW' := hW
  obtain ⟨p, q, hA0, hV, rfl, _, _⟩ := hW
  have hA : DataW.TrodAll enc Tryz.prog W 0 (fun _ => true) true Tryz.f3.params.toList args.toList ds p := hA0
  rw [Tryz.params3] at hA hval
  obtain ⟨v0, vs0, d0, ds0, p0, q0, hargs, rfl, rfl, h0, r0⟩ := trodAll_cons hA
  obtain ⟨v1, vs1, d1, ds1, p1, q1, rfl, rfl, rfl, h1, r1⟩ := trodAll_cons r0
  obtain ⟨v2, vs2, d2, ds2, p2, q2, rfl, rfl, rfl, h2, r2⟩ := trodAll_cons r1
  obtain ⟨rfl, rfl, rfl⟩ := trodAll_nil r2
  obtain rfl : args = #[v0, v1, v2] := by cases args; simp_all
  obtain ⟨rfl, rfl⟩ := trodVars_none hV
  obtain ⟨ts0, hts0⟩ := open_strs (hval 0 22 v0 rfl rfl) h0
  obtain ⟨ts1, hts1⟩ := open_strs (hval 1 22 v1 rfl rfl) h1
  obtain ⟨ts2, hts2⟩ := open_recs (hval 2 23 v2 rfl rfl) h2
  refine (barographWritten_walk0 v0 ts0 v1 ts1 v2 ts2 W hts0 hts1 hts2 (of_laid hL)).mono fun e W' ⟨he, hb⟩ => ?_
  subst he
  exact ⟨_, rfl, law_post law_laid (by intro t ht; rw [Tryz.params3] at ht; simp only [List.mem_cons, List.not_mem_nil, or_false] at ht; rcases ht with rfl | rfl | rfl <;> exact ⟨by kernel_rfl, of_decide_eq_true (by kernel_rfl)⟩) rfl Tryz.underlying4 rfl rfl hW' hb⟩

theorem barographWritten_holds : Rows.BarographWrittenSaid :=
  OpenClaim.holds_of_wide 3 Tryz.f3 rfl rfl rfl rfl rfl rfl rfl ⟨rfl, rfl, rfl, rfl, rfl⟩ rfl rfl rfl rfl rfl (by kernel_rfl) Tryz.func3 (by kernel_rfl)
    (of_decide_eq_true (by kernel_rfl)) (by unfold Func.isWrapper; first | (rw [if_pos (by decide +kernel)]; kernel_rfl) | (rw [if_neg (by decide +kernel)]; exact ⟨rfl, rfl⟩))
    (fun os started H enc _ => barographWritten_lifted os started H enc)

theorem barographWritten_card : Rows.BarographWrittenCardSaid :=
  Claim7.holds_tied_plain_at .later [] [.data, .data, .data, .sentinel, .sentinel] true (true, "35d3756c6aaeeb34e9de177c5e9e73e9b2e83cd5c1c91c172043f2b2604cd02a") true
    barographWritten_holds (fun _ h => by cases h) (by kernel_rfl) (fun _ h => by cases h) barographWritten_row_tie rfl ⟨rfl, rfl⟩ (by kernel_rfl) rfl
    (fun f fn hf hfn => by
      obtain rfl : f = 3 := Option.some.inj ((show Tryz.prog.funcNamed "barograph/barographtop.BarographWritten" = some 3 by kernel_rfl).symm.trans hf) |>.symm
      obtain rfl : fn = Tryz.f3 := (Option.some.inj (Tryz.func3.symm.trans hfn)).symm
      exact ⟨by kernel_rfl, fun j t ht => by
        rw [Tryz.params3] at ht
        rcases j with _ | j
        · obtain rfl : t = 22 := by simpa using ht.symm
          exact (show Tryz.prog.wantsStandIn 22 = false by kernel_rfl)
        rcases j with _ | j
        · obtain rfl : t = 22 := by simpa using ht.symm
          exact (show Tryz.prog.wantsStandIn 22 = false by kernel_rfl)
        rcases j with _ | j
        · obtain rfl : t = 23 := by simpa using ht.symm
          exact (show Tryz.prog.wantsStandIn 23 = false by kernel_rfl)
        simp at ht⟩)
    (by kernel_rfl)

end Go.Proofs.YtcopknopifbebaaGreatDoor
