/-
  Layer 7: awake; what the laws' premise on 'widths' gives; samples as arguments.
-/
import Derived.Test.YtmoocomlcbalbaaDoorXorD
import Derived.Test.YtmoocomlcbalbaaDoorLib2
import Derived.Test.YtmoocomlcbalbaaDoorRows
import Derived.LaidMore
import Derived.Stop.Joined
import Derived.ChangeSame
namespace Go.Proofs.YtmoocomlcbalbaaDoor
open Go.RowKit Go.Bar Go.Bar.Bit Go.Bar.Leb Go.Bar.Xor Go.ChangeShapes Go.WideShapes Go.ChangeAt

def l3 : List Sm := [(10, 7), (20, 7), (30, 7)]
theorem w20 : width 20 = 5 := by simp [width]
theorem l3_of : ∃ s : St, ofS St.zero l3 = (s, 0) ∧ ∃ pk : List UInt8, pk.length = 15 ∧ text s = 3 :: 117 :: pk := by
  have k20 : kind 20 = 1 := by unfold kind; rw [w20]; decide
  have k0 : kind 0 = 0 := by unfold kind; rw [width_zero]; decide
  have h1 : ofS St.zero l3 = ((((St.zero.put (10, 7)).put (20, 7)).put (30, 7)), 0) := by
    have e1 : err St.zero (10, 7) = 0 := by decide
    have e2 : err (St.zero.put (10, 7)) (20, 7) = 0 := by
      unfold err
      obtain ⟨a, b, c⟩ := put_n St.zero (10, 7)
      rw [a, b]; decide
    have e3 : err ((St.zero.put (10, 7)).put (20, 7)) (30, 7) = 0 := by
      unfold err
      obtain ⟨a, b, c⟩ := put_n (St.zero.put (10, 7)) (20, 7)
      obtain ⟨a', b', c'⟩ := put_n St.zero (10, 7)
      rw [a, b, a']; decide
    unfold l3
    rw [ofS, if_pos e1, ofS, if_pos e2, ofS, if_pos e3, ofS]
  refine ⟨_, h1, ?_⟩
  obtain ⟨hb, hn⟩ := ofS_more l3 _ _ h1
  have hn3 : (((St.zero.put (10, 7)).put (20, 7)).put (30, 7)).n = 3 := by rw [hn]; rfl
  have hlen : (((St.zero.put (10, 7)).put (20, 7)).put (30, 7)).bits.length = 117 := by
    have f20 : fold (20 - 10 - 0) = 20 := by decide
    have f0 : fold (30 - 20 - (20 - 10)) = 0 := by decide
    have x7 : 7 ^^^ 7 = 0 := by decide
    have t20 : (timeB 20).length = 9 := by unfold timeB; rw [k20, List.length_append, bitsOf_length]; decide
    have t0 : (timeB 0).length = 1 := by unfold timeB; rw [k0, List.length_append, bitsOf_length]; decide
    have i1 : (inc St.zero (10, 7)).length = 105 := by show (bitsOf _ 41 ++ bitsOf _ 64).length = 105; rw [List.length_append, bitsOf_length, bitsOf_length]
    have i2 : (inc (St.zero.put (10, 7)) (20, 7)).length = 10 := by
      show (timeB (fold (20 - 10 - 0)) ++ valB 0 0 (7 ^^^ 7)).length = 10
      rw [f20, x7, List.length_append, t20]; rfl
    have i3 : (inc ((St.zero.put (10, 7)).put (20, 7)) (30, 7)).length = 2 := by
      have e1 : ((St.zero.put (10, 7)).put (20, 7)).step = 10 := rfl
      obtain ⟨a, b, c⟩ := put_n (St.zero.put (10, 7)) (20, 7)
      unfold inc
      rw [if_neg (by rw [a]; omega), b, c, e1, List.length_append]
      show (timeB (fold (30 - 20 - 10))).length + (valB _ _ (7 ^^^ 7)).length = 2
      rw [show fold (30 - 20 - 10) = 0 by decide, x7, t0]
      unfold valB
      rw [if_pos rfl]
      rfl
    rw [hb]
    show (more St.zero [(10, 7), (20, 7), (30, 7)]).length = 117
    rw [more, more, more, more, List.length_append, List.length_append, List.length_append, i1, i2, i3]
    rfl
  unfold text
  rw [hn3, hlen]
  obtain ⟨pk, hpk⟩ : ∃ pk, pk = pack (((St.zero.put (10, 7)).put (20, 7)).put (30, 7)).bits := ⟨_, rfl⟩
  rw [← hpk]
  refine ⟨pk, by rw [hpk, pack_length, hlen], ?_⟩
  rw [u_lt (by omega), u_lt (by omega)]
  rfl

theorem lits {w : World} {l : List Sm} (hl : l.length ≤ 1000) : SmsAt (w.alloc (.cells (smc l).toArray 38)) (.slice (some ⟨w.heap.size, 0, none⟩) l.length l.length) l :=
  SlAt.of_buf (Buf.lit w 38 2 l.length (smc l) (flat2_length _ _ l) (by simp only [maxLen]; omega))

set_option maxHeartbeats 4000000 in
set_option maxRecDepth 10000 in
theorem awake7_any (w : World) (hW : WidthsAt w) : Calls Tryd.prog 13 #[] w (RetBelow w (.bool true)) := by
  obtain ⟨s, h1, pk, h2, h3⟩ := l3_of
  have hx : ∀ x ∈ l3, x.2 < 18446744073709551616 := by intro x hx; simp [l3] at hx; rcases hx with rfl | rfl | rfl <;> decide
  have hsm : samplesR (3 :: 117 :: pk) = (l3, 0) := by rw [← h3]; exact samplesR_of h1 hx
  have HOF := Lib.hid (fun v w' (h : SmsAt w' v l3) hW => (show Calls Tryd.prog 16 #[v] w' (RetBelow w' (.tuple #[.string (bs (3 :: 117 :: pk)), .int .i64 0])) by
    have := of_any l3 v w' h hW hx
    rw [h1, ofTx_ok rfl] at this
    simp only at this
    rw [h3] at this
    exact this))
  have HSA := Lib.hid (fun w' hW => (show Calls Tryd.prog 11 #[.string (bs (3 :: 117 :: pk))] w' (RetSm w' (l3, 0)) by
    rw [← hsm]
    exact samples_any _ w' hW (by simp; omega)))
  have hlen : (3 :: 117 :: pk : List UInt8).length = 17 := by simp [h2]
  obtain ⟨tx, htx⟩ : ∃ tx : List UInt8, tx = 3 :: 117 :: pk := ⟨_, rfl⟩
  rw [← htx] at HOF HSA hlen
  have g0 : tx[0]? = some 3 := by rw [htx]; rfl
  have g1 : tx[1]? = some 117 := by rw [htx]; rfl
  have hx0 := index_bs (P := Tryd.prog) Tryd.underlying9 .i64 tx 0 0 3 rfl g0
  have hx1 := index_bs (P := Tryd.prog) Tryd.underlying9 .i64 tx 1 1 117 rfl g1
  have HX0 := Lib.hid hx0
  have HX1 := Lib.hid hx1
  have HL := Lib.hid hlen
  have hlt := lits (w := w) (l := l3) (by decide)
  have hba := ba1 w (.cells (smc l3).toArray 38)
  have HLT := Lib.hid hlt
  have HWA := Lib.hid (hW.below hba)
  have HBA := Lib.hid hba
  clear h1 h2 h3 hx hsm hlen htx g0 g1 hx0 hx1 hlt hba
  go_enter Tryd.func13, Tryd.ntmps13
  go_wp2_with fail
  refine (HOF.out _ _ HLT.out HWA.out).mono ?_
  rintro e w1 ⟨rfl, hb1⟩
  have HB1 := Lib.hid (below_trans HBA.out hb1)
  clear hb1
  go_wp2_with fail
  refine (HSA.out _ (hW.below HB1.out)).mono ?_
  rintro e w2 ⟨v, rfl, _, hF, hb2⟩
  have hF := (hF rfl).slice
  obtain ⟨A, c, rfl, hc3⟩ := SmsAt.shape hF
  obtain ⟨b, o, rfl, hbb, c0, c1⟩ := SmsAt.at_ (i := 2) (x := (30, 7)) hF rfl
  have HB2 := Lib.hid (below_trans HB1.out hb2)
  have hx0 := HX0.out
  have hx1 := HX1.out
  have hlen := HL.out
  clear hF hb2
  go_wp2_with fail
  go_ret
  exact ⟨rfl, HB2.out⟩

theorem law_own : ownKnob Tryd.prog.godebug = none := by kernel_rfl
theorem law_laid : laidOutB Tryd.prog = true := by kernel_rfl
theorem g_widths : Tryd.prog.globalNamed "barograph/xor.widths" = some 0 := by kernel_rfl
theorem t_widths : (Tryd.prog.globals[0]?).map (·.type) = some 94 := by kernel_rfl
/-- WHAT THE PREMISE GIVES: the cells of 'widths' -/
theorem of_laid {W : World} (h : laidMetH Tryd.prog [("barograph/xor.widths", Rows.laid_barograph_xor_widths)] W) : WidthsAt W := by
  rw [MakeChecks.laidMetH_plain _ _ _ (by kernel_rfl)] at h
  obtain ⟨ps, ⟨g0, t0, cs0, f0, p0, q0, hg0, ht0, hv0, hd0, _, _⟩, _, _⟩ := h
  obtain rfl := Option.some.inj (g_widths.symm.trans hg0)
  obtain rfl := Option.some.inj (t_widths.symm.trans ht0)
  obtain ⟨xs, m1, rfl, hx1, hlen, hn3, hel⟩ := DataW.trod_array Tryd.underlying94 hd0
  have c3 : Tryd.prog.cellsOf 3 = 1 := by kernel_rfl
  have c94 : Tryd.prog.cellsOf 94 = 5 := by kernel_rfl
  rw [c94] at hlen
  obtain ⟨l, hcs⟩ : ∃ l, cs0.toList = l := ⟨_, rfl⟩
  rw [hcs] at hlen hel
  simp only [Prod.mk.injEq] at hx1
  have hx := hx1.1
  match xs, hn3, hx, hel with
  | [x0, x1, x2, x3, x4], _, hx, hel =>
    match l, hlen, hcs, hel with
    | [a0, a1, a2, a3, a4], _, hcs, hel =>
      simp only [Rows.laid_barograph_xor_widths, DataW.agg.injEq, List.map_cons, List.map_nil, List.cons.injEq, and_true] at hx
      obtain ⟨y0, y1, y2, y3, y4⟩ := hx
      have hcell : ∀ i, W.cell? ⟨0, i, none⟩ = [a0, a1, a2, a3, a4][i]? := fun i => by
        have := World.var?_cell hg0 hv0 i
        rw [← hcs, Array.getElem?_toList]
        exact this
      have h0 := hel 0 (by decide)
      have h1 := hel 1 (by decide)
      have h2 := hel 2 (by decide)
      have h3 := hel 3 (by decide)
      have h4 := hel 4 (by decide)
      rw [c3] at h0 h1 h2 h3 h4
      have val : ∀ (a : Value) (x : DataW Unit × List MemPlace) (k : Int), DataW.trod (fun _ => ()) Tryd.prog W 0 (fun _ => true) false m1 3 [a] = some x → DataW.lit (.int .i64 k) = x.1 → a = .int .i64 k := fun a x k hd hk => by
        obtain ⟨z, e1, e2, _⟩ := DataW.trod_int Tryd.underlying3 hd
        rw [e2] at hk
        simp only [DataW.lit.injEq, Lit.int.injEq, true_and] at hk
        subst hk
        simpa using e1
      refine ⟨fun k hk => ?_⟩
      rw [hcell]
      rcases (show k = 0 ∨ k = 1 ∨ k = 2 ∨ k = 3 ∨ k = 4 by omega) with rfl | rfl | rfl | rfl | rfl
      · exact congrArg some (val a0 x0 0 h0 y0)
      · exact congrArg some (val a1 x1 7 h1 y1)
      · exact congrArg some (val a2 x2 12 h2 y2)
      · exact congrArg some (val a3 x3 20 h3 y3)
      · exact congrArg some (val a4 x4 64 h4 y4)

/-- the door's own heap meets the premise -/
theorem door_met (os : Os) (args : Array Value) : laidMetH Tryd.prog [("barograph/xor.widths", Rows.laid_barograph_xor_widths)] ((World.doorLaid Tryd.prog 400 os).forCall (fun _ _ => 0) ⟨#[], args, []⟩).memory :=
  laidMetH_of_parts3 (fuel := 8) (laidMet_of_run' 8 (by kernel_rfl) (by kernel_rfl)) (by kernel_rfl) (by kernel_rfl)

end Go.Proofs.YtmoocomlcbalbaaDoor
