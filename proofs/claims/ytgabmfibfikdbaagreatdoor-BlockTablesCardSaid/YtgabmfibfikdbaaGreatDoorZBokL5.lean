/-
 Any files are the table that they are, or refused, as the document says (Files.Table). No condition.
-/
import Derived.Test.YtgabmfibfikdbaaGreatDoorZBokS
import Derived.Test.YtgabmfibfikdbaaGreatDoorZBokI
import Derived.Test.YtgabmfibfikdbaaGreatDoorZBokO
import Derived.Test.YtgabmfibfikdbaaGreatDoorZMetU
import Derived.Test.YtgabmfibfikdbaaGreatDoorZBokM
import Derived.Test.YtgabmfibfikdbaaGreatDoorTie
import Derived.Test.YtgabmfibfikdbaaGreatDoorCards

namespace Go.Proofs.YtgabmfibfikdbaaGreatDoor
open Go.RowKit Go.Bar Go.Bar.Leb Go.Bar.Frm Go.Bar.Lab Go.Bar.Xor Go.Bar.Mrg Go.Bar.Met Go.Bar.Bok Go.ChangeShapes Go.WideShapes Go.ChangeAt
open Go.ChangeMaps (open_string shut_string)

theorem tableR_len (m : Mt) (C I : List UInt8) : (tableR m C I).1.length ≤ 10000 ∧ ∀ r ∈ (tableR m C I).1, r.1.length ≤ 8 := by
 have h1 := entriesR_ok I
 have h2 := tRows_len m.mn m.mx C (entriesR I).1 0 [] h1.1 (fun r hr => by cases hr)
 have h0 : ([] : List Row).length ≤ 10000 ∧ ∀ r ∈ ([] : List Row), r.1.length ≤ 8 := ⟨Nat.zero_le _, fun r hr => by cases hr⟩
 unfold tableR
 split
 ·exact h0
 ·split
  ·exact h0
  ·split
   ·exact h0
   ·split
    ·exact h0
    ·refine ⟨?_, fun r hr => (h2.2 r hr).1⟩
     have h3 := h2.1
     rw [List.length_nil] at h3
     show (tRows _ _ _ _ _ _).1.length ≤ _
     omega

set_option maxHeartbeats 16000000 in
set_option maxRecDepth 10000 in
theorem blockTables_walk0 (fr : Int) (_ : (Lit.int .i64 fr).wf = true) (to_ : Int) (_ : (Lit.int .i64 to_).wf = true) (lv : Int) (_ : (Lit.int .i64 lv).wf = true) (se : Int) (_ : (Lit.int .i64 se).wf = true) (sa : Int) (_ : (Lit.int .i64 sa).wf = true)
  (s5 : ByteArray) (h5 : s5.size ≤ maxLen) (s6 : ByteArray) (h6 : s6.size ≤ maxLen) (W : World) (hW : WidthsAt W) :
  Calls Tryz.prog 5 #[.int .i64 fr, .int .i64 to_, .int .i64 lv, .int .i64 se, .int .i64 sa, .string s5, .string s6] W (RetBelow W (.bool true)) := by
 have hm : ∀ w, Calls Tryz.prog 30 #[.int .i64 3, .int .i64 3] w (RetBelow w (.tuple #[.string (bs (Idt.mk 3 3)), .int .i64 0])) := fun w => make_ok 3 3 w ⟨by decide, by decide⟩ ⟨by decide, by decide⟩
 have hil : (Idt.mk 3 3).length = 16 := Idt.mk_length 3 3
 obtain ⟨ID, hID⟩ : ∃ I, I = Idt.mk 3 3 := ⟨_, rfl⟩
 rw [← hID] at hm hil
 have c5 := fun w => cut_any s5 300 w (by omega) (by omega) h5
 have c6 := fun w => cut_any s6 300 w (by omega) (by omega) h6
 obtain ⟨C, hC⟩ : ∃ S, S = s5.data.toList.take (300 : Int).toNat := ⟨_, rfl⟩
 obtain ⟨I, hI⟩ : ∃ S, S = s6.data.toList.take (300 : Int).toNat := ⟨_, rfl⟩
 rw [← hC] at c5
 rw [← hI] at c6
 have hCl : C.length ≤ 300 := by rw [hC, List.length_take]; exact Nat.min_le_left _ _
 have hIl : I.length ≤ 300 := by rw [hI, List.length_take]; exact Nat.min_le_left _ _
 have hof1 : ∀ w', Calls Tryz.prog 31 #[.string { data := #[99, 104, 117, 110, 107, 115] }, .string (bs C)] w' (RetBelow w' (.agg #[.string (bs chunksN), .int .i64 (C.length : Nat), .int .u32 (Frm.sum C)])) := fun w' => mof_any chunksN C w' (by omega)
 have hof2 : ∀ w', Calls Tryz.prog 31 #[.string { data := #[105, 110, 100, 101, 120] }, .string (bs I)] w' (RetBelow w' (.agg #[.string (bs indexN), .int .i64 (I.length : Nat), .int .u32 (Frm.sum I)])) := fun w' => mof_any indexN I w' (by omega)
 obtain ⟨f0, hf0⟩ : ∃ f : Fl, f = ⟨chunksN, C.length, Frm.sum C⟩ := ⟨_, rfl⟩
 obtain ⟨f1, hf1⟩ : ∃ f : Fl, f = ⟨indexN, I.length, Frm.sum I⟩ := ⟨_, rfl⟩
 obtain ⟨M, hM⟩ : ∃ M : Mt, M = ⟨ID, fr, to_, lv, se, sa, [f0, f1], []⟩ := ⟨_, rfl⟩
 have hchk : ∀ fv w, FlsAt w fv [f0, f1] → Calls Tryz.prog 32 #[.agg #[.string (bs ID), .int .i64 fr, .int .i64 to_, .int .i64 lv, .int .i64 se, .int .i64 sa, fv, .slice none 0 0]] w (RetBelow w (.int .i64 (chk M))) := fun fv w hf => by
  rw [hM]
  exact mcheck_any ⟨ID, fr, to_, lv, se, sa, [f0, f1], []⟩ fv (.slice none 0 0) w hf (SlAt.none0 w 1) (by show ID.length ≤ _; omega) (fun s hs => by cases hs)
 have hk : ∀ fv w, WidthsAt w → FlsAt w fv [f0, f1] → Calls Tryz.prog 27 #[.agg #[.string (bs ID), .int .i64 fr, .int .i64 to_, .int .i64 lv, .int .i64 se, .int .i64 sa, fv, .slice none 0 0, .string (bs C), .string (bs I)]] w (RetTbE w (tableR M C I)) := fun fv w hw hf => by
  rw [hM]
  exact ktable_any ⟨ID, fr, to_, lv, se, sa, [f0, f1], []⟩ f0 f1 rfl fv (.slice none 0 0) C I w hw hf (by omega) (by omega)
 have hr : ∀ fv w, FlsAt w fv [f0, f1] → Calls Tryz.prog 33 #[.agg #[.string (bs ID), .int .i64 fr, .int .i64 to_, .int .i64 lv, .int .i64 se, .int .i64 sa, fv, .slice none 0 0, .string (bs C), .string (bs I)]] w (RetTbF w (tableR M C I)) := fun fv w hf => by
  rw [hM]
  exact rtable_any ⟨ID, fr, to_, lv, se, sa, [f0, f1], []⟩ f0 f1 rfl fv (.slice none 0 0) C I w hf (by omega) (by omega)
 have htd : ∀ fv w, FlsAt w fv [f0, f1] → Calls Tryz.prog 26 #[.agg #[.string (bs ID), .int .i64 fr, .int .i64 to_, .int .i64 lv, .int .i64 se, .int .i64 sa, fv, .slice none 0 0]] w fun e w' => ∃ fv', e = .returned (.agg #[.string (bs ID), .int .i64 fr, .int .i64 to_, .int .i64 lv, .int .i64 se, .int .i64 sa, fv', .slice none 0 0]) ∧ FlsAt w' fv' [f0, f1] ∧ Below w.heap.size w w' := fun fv w hf =>
  (told_any ⟨ID, fr, to_, lv, se, sa, [f0, f1], []⟩ fv (.slice none 0 0) w hf (SlAt.none0 w 1) (by show 2 ≤ 1000; decide)).mono (by
   rintro e w' ⟨fv', rfl, hfb, hb⟩
   exact ⟨fv', rfl, SlAt.of_buf hfb.buf, hb⟩)
 have hlen := tableR_len M C I
 obtain ⟨⟨R, re⟩, hR⟩ : ∃ R, tableR M C I = R := ⟨_, rfl⟩
 rw [hR] at hk hr hlen
 unfold RetTbE at hk
 unfold RetTbF at hr
 dsimp only at hk hr hlen
 have C5 := Lib.hid c5
 have C6 := Lib.hid c6
 have OF1 := Lib.hid hof1
 have OF2 := Lib.hid hof2
 have CHK := Lib.hid hchk
 have KT := Lib.hid hk
 have RT := Lib.hid hr
 have TD := Lib.hid htd
 have HL := Lib.hid hlen
 have HF0 := Lib.hid hf0
 have HF1 := Lib.hid hf1
 have AW := Lib.hid (fun w (hb : Below W.heap.size W w) => awake16_any w (hW.below hb))
 have HW := Lib.hid hW
 clear c5 c6 hof1 hof2 hchk hk hr htd hlen hR hM hf0 hf1 hC hI hID hil hW
 go_enter Tryz.func5, Tryz.ntmps5
 go_wp2_with fail
 refine (hm _).mono ?_
 rintro e w1 ⟨rfl, b1⟩
 have B1 := Lib.hid b1
 clear b1 hm
 go_wp2_with fail
 refine (C5.out _).mono ?_
 rintro e w' ⟨rfl, rfl⟩
 go_wp2_with fail
 refine (C6.out _).mono ?_
 rintro e w' ⟨rfl, rfl⟩
 go_wp2_with fail
 refine (OF1.out _).mono ?_
 rintro e w2 ⟨rfl, b2⟩
 have B2 := Lib.hid (below_trans B1.out b2)
 clear b2 B1
 go_wp2_with fail
 refine (OF2.out _).mono ?_
 rintro e w3 ⟨rfl, b3⟩
 have B3 := Lib.hid (below_trans B2.out b3)
 clear b3 B2 C5 C6 OF1 OF2
 go_upto_region 4 with fail
 obtain ⟨fc, hfc⟩ : ∃ o : Obj, o = .cells #[.string (bs chunksN), .int .i64 (C.length : Nat), .int .u32 (Frm.sum C), .string (bs indexN), .int .i64 (I.length : Nat), .int .u32 (Frm.sum I)] 86 := ⟨_, rfl⟩
 obtain ⟨G, hG⟩ : ∃ G, G = w3.heap.size := ⟨_, rfl⟩
 obtain ⟨X, hX⟩ : ∃ X, X = w3.heap.size + 1 := ⟨_, rfl⟩
 obtain ⟨wB, hwB⟩ : ∃ wB, wB = (w3.alloc fc).alloc (.cells #[.string (bs ID), .int .i64 fr, .int .i64 to_, .int .i64 lv, .int .i64 se, .int .i64 sa, .slice (some ⟨w3.heap.size, 0, none⟩) 2 2, .slice none 0 0] 53) := ⟨_, rfl⟩
 have hfl : FlsAt wB (.slice (some ⟨w3.heap.size, 0, none⟩) 2 2) [f0, f1] := by
  rw [hwB, hfc, HF0.out, HF1.out]
  exact SlAt.of_buf ((Buf.lit w3 86 3 2 (fcs [⟨chunksN, C.length, Frm.sum C⟩, ⟨indexN, I.length, Frm.sum I⟩]) rfl (by decide)).alloc _)
 have hbk : Blk wB X 53 #[.string (bs ID), .int .i64 fr, .int .i64 to_, .int .i64 lv, .int .i64 se, .int .i64 sa, .slice (some ⟨w3.heap.size, 0, none⟩) 2 2, .slice none 0 0] := by
  have h := Blk.new (w3.alloc fc) #[.string (bs ID), .int .i64 fr, .int .i64 to_, .int .i64 lv, .int .i64 se, .int .i64 sa, .slice (some ⟨w3.heap.size, 0, none⟩) 2 2, .slice none 0 0] 53
  rw [show (w3.alloc fc).heap.size = w3.heap.size + 1 by simp] at h
  rw [hwB, hX]
  exact h
 have hbB : Below w3.heap.size w3 wB := by rw [hwB]; exact below_trans (below_al _ _) (below_al _ _)
 have B4 := Lib.hid (below_trans B3.out hbB)
 rw [← hfc, ← hwB]
 rw [← hX]
 rw [← hG] at hfl hbk ⊢
 have FL4 := Lib.hid hfl
 have HB4 := Lib.hid hbk
 clear hfl hbk hbB hwB hfc hX hG B3 HF0 HF1
 go_wp2_with fail
 refine (AW.out _ B4.out).mono ?_
 rintro e w5 ⟨rfl, b5⟩
 have B5 := Lib.hid (below_trans B4.out b5)
 have FL5 := Lib.hid (FL4.out.below b5)
 have HB5 := Lib.hid (HB4.out.below b5)
 obtain ⟨k0, k1, k2, k3, k4, k5, k6, k7⟩ := HB5.out.c8
 clear b5 B4 FL4 HB4
 by_cases hok : Met.Ok M
 rotate_left 1
 ·rw [chk_no hok] at CHK
  clear hok
  go_wp2_with fail
  refine (CHK.out _ _ FL5.out).mono ?_
  rintro e w6 ⟨rfl, b6⟩
  have B6 := Lib.hid (below_trans B5.out b6)
  clear b6 B5 FL5 HB5 k0 k1 k2 k3 k4 k5 k6 k7
  go_wp2_with fail
  refine (AW.out _ B6.out).mono ?_
  rintro e w7 ⟨rfl, b7⟩
  have B7 := Lib.hid (below_trans B6.out b7)
  clear b7 B6
  go_wp2_with fail
  go_ret
  exact ⟨rfl, B7.out⟩
 ·rw [chk_ok hok] at CHK
  clear hok
  go_wp2_with fail
  refine (CHK.out _ _ FL5.out).mono ?_
  rintro e w6 ⟨rfl, b6⟩
  have B6 := Lib.hid (below_trans B5.out b6)
  have FL6 := Lib.hid (FL5.out.below b6)
  have HB6 := Lib.hid (HB5.out.below b6)
  clear b6 B5 FL5 HB5 k0 k1 k2 k3 k4 k5 k6 k7
  obtain ⟨k0, k1, k2, k3, k4, k5, k6, k7⟩ := HB6.out.c8
  go_wp2_with fail
  refine (KT.out _ _ (HW.out.below B6.out) FL6.out).mono ?_
  rintro e w7 ⟨v7, t7, rfl, r7, m7⟩
  have B7 := Lib.hid (below_trans B6.out r7.1.below)
  have T7 := Lib.hid r7.tb
  have FL7 := Lib.hid (FL6.out.below r7.1.below)
  have HB7 := Lib.hid (HB6.out.below r7.1.below)
  have M7 := Lib.hid m7
  obtain ⟨tA, tc, rfl, htc, htm⟩ := T7.out.shape
  clear r7 m7 B6 FL6 HB6 k0 k1 k2 k3 k4 k5 k6 k7 KT
  obtain ⟨k0, k1, k2, k3, k4, k5, k6, k7⟩ := HB7.out.c8
  go_wp2_with fail
  refine (TD.out _ _ FL7.out).mono ?_
  rintro e w8 ⟨fv8, rfl, fl8, b8⟩
  have B8 := Lib.hid (below_trans B7.out b8)
  have T8 := Lib.hid (T7.out.below b8)
  have FL8 := Lib.hid fl8
  obtain ⟨fA, fc8, rfl, _, _⟩ := FL8.out.shape
  clear fl8 b8 B7 T7 FL7 HB7 k0 k1 k2 k3 k4 k5 k6 k7 TD
  go_wp2_with fail
  refine (RT.out _ _ FL8.out).mono ?_
  rintro e w9 ⟨v9, t9, rfl, r9, m9⟩
  have B9 := Lib.hid (below_trans B8.out r9.1.below)
  have U9 := Lib.hid r9.tb
  have T9 := Lib.hid (T8.out.below r9.1.below)
  have M9 := Lib.hid m9
  obtain ⟨uA, uc, rfl, _, _⟩ := U9.out.shape
  have hree : ((re : Int) == (re : Int)) = true := by simp
  have htl : t7.length ≤ 10000 := by have h1 := HL.out.1; rw [← M7.out, List.length_map] at h1; exact h1
  have hls : ∀ x ∈ t7, x.ls.length ≤ 1000000 := fun x hx => by
   have h1 := HL.out.2 (plR x) (by rw [← M7.out]; exact List.mem_map_of_mem hx)
   have h2 : x.ls.length ≤ 8 := h1
   omega
  have TL := Lib.hid (told14_any _ t7 w9 T9.out (by omega) hls)
  clear r9 m9 B8 T8 FL8 RT htl hls HL
  go_wp2_with fail
  refine TL.out.mono ?_
  rintro e w10 ⟨v10, t10, rfl, d10, m10⟩
  have B10 := Lib.hid (below_trans B9.out d10.n.below)
  have SA := Lib.hid (rsame_any _ _ t10 t9 w10 (d10.rtb (Below.refl _ _)).tb (U9.out.below d10.n.below) (by rw [m10, M7.out, M9.out]))
  obtain ⟨vA, vc, rfl, _⟩ := d10.n.buf.shape
  clear d10 m10 B9 U9 T9 TL
  go_wp2_with fail
  refine SA.out.mono ?_
  rintro e w11 ⟨rfl, b11⟩
  have B11 := Lib.hid (below_trans B10.out b11)
  clear b11 B10 SA
  go_wp2_with fail
  go_ret
  exact ⟨rfl, B11.out⟩

set_option maxHeartbeats 8000000 in
set_option maxRecDepth 100000 in
theorem blockTables_lifted (os : Os) (started : os.Started) (H : Type) (enc : TypeId × Value → H) :
  ReturnsInHanded {} Tryz.checked os 5 .any (fun w args => (Rows.blockTablesSpec.pre enc Tryz.prog Tryz.f5 [] false w args ∧ laidMetH Tryz.prog [("barograph/xor.widths", Rows.laid_barograph_xor_widths), ("unicode/utf8.acceptRanges", Rows.laid_unicode_utf8_acceptRanges), ("unicode/utf8.first", Rows.laid_unicode_utf8_first)] w) ∧ sizedMet enc Tryz.prog Tryz.f5 (OpenSpec.ofChange Rows.blockTablesSpec) false w args)
   (Rows.blockTablesSpec.post enc Tryz.prog Tryz.f5 false true false false) := by
 refine returnsInHanded_of_change_and (C := Tryz.checked) (X := fun w _ => laidMetH Tryz.prog [("barograph/xor.widths", Rows.laid_barograph_xor_widths), ("unicode/utf8.acceptRanges", Rows.laid_unicode_utf8_acceptRanges), ("unicode/utf8.first", Rows.laid_unicode_utf8_first)] w) (fun _ _ _ hh h => h.of_heap hh) law_own started (by kernel_rfl) Tryz.func5
  (ChangeSpec.witness_shaped (enc := enc) (C := Tryz.checked) (os := os) (X := fun w _ => laidMetH Tryz.prog [("barograph/xor.widths", Rows.laid_barograph_xor_widths), ("unicode/utf8.acceptRanges", Rows.laid_unicode_utf8_acceptRanges), ("unicode/utf8.first", Rows.laid_unicode_utf8_first)] w) false (World.laidAll Tryz.prog os [("barograph/xor.widths", Rows.laid_barograph_xor_widths), ("unicode/utf8.acceptRanges", Rows.laid_unicode_utf8_acceptRanges), ("unicode/utf8.first", Rows.laid_unicode_utf8_first)]) #[.int .i64 0, .int .i64 0, .int .i64 0, .int .i64 0, .int .i64 0, .string ByteArray.empty, .string ByteArray.empty] 8 (World.laidAll_os _ _ _)
   (World.shaped_of_ZipB (by kernel_rfl) (by kernel_rfl)) (by kernel_rfl) (by kernel_rfl) (by kernel_rfl) (door_met os _)) ?_
 intro W base args ds gs before hval0 hW _ _ hL _
 have hval : ∀ (j : Nat) t v, Tryz.f5.params[j]? = some t → args[j]? = some v → Value.okWide Tryz.prog W .any base t v := hval0
 have hW' := hW
 obtain ⟨p, q, hA0, hV, rfl, _, _⟩ := hW
 have hA : DataW.TrodAll enc Tryz.prog W 0 (fun _ => true) true Tryz.f5.params.toList args.toList ds p := hA0
 rw [Tryz.params5] at hA hval
 obtain ⟨v0, vs0, d0, ds0, p0, q0, hargs, rfl, rfl, h0, r0⟩ := trodAll_cons hA
 obtain ⟨v1, vs1, d1, ds1, p1, q1, rfl, rfl, rfl, h1, r1⟩ := trodAll_cons r0
 obtain ⟨v2, vs2, d2, ds2, p2, q2, rfl, rfl, rfl, h2, r2⟩ := trodAll_cons r1
 obtain ⟨v3, vs3, d3, ds3, p3, q3, rfl, rfl, rfl, h3, r3⟩ := trodAll_cons r2
 obtain ⟨v4, vs4, d4, ds4, p4, q4, rfl, rfl, rfl, h4, r4⟩ := trodAll_cons r3
 obtain ⟨v5, vs5, d5, ds5, p5, q5, rfl, rfl, rfl, h5, r5⟩ := trodAll_cons r4
 obtain ⟨v6, vs6, d6, ds6, p6, q6, rfl, rfl, rfl, h6, r6⟩ := trodAll_cons r5
 obtain ⟨rfl, rfl, rfl⟩ := trodAll_nil r6
 obtain rfl : args = #[v0, v1, v2, v3, v4, v5, v6] := by cases args; simp_all
 obtain ⟨rfl, rfl⟩ := trodVars_none hV
 obtain ⟨a0, rfl, rfl, rfl, w0⟩ := open_int Tryz.underlying2 (hval 0 2 v0 rfl rfl) h0
 obtain ⟨a1, rfl, rfl, rfl, w1⟩ := open_int Tryz.underlying2 (hval 1 2 v1 rfl rfl) h1
 obtain ⟨a2, rfl, rfl, rfl, w2⟩ := open_int Tryz.underlying3 (hval 2 3 v2 rfl rfl) h2
 obtain ⟨a3, rfl, rfl, rfl, w3⟩ := open_int Tryz.underlying3 (hval 3 3 v3 rfl rfl) h3
 obtain ⟨a4, rfl, rfl, rfl, w4⟩ := open_int Tryz.underlying3 (hval 4 3 v4 rfl rfl) h4
 obtain ⟨a5, rfl, rfl, rfl, w5⟩ := open_string Tryz.underlying9 (hval 5 9 v5 rfl rfl) h5
 obtain ⟨a6, rfl, rfl, rfl, w6⟩ := open_string Tryz.underlying9 (hval 6 9 v6 rfl rfl) h6
 refine (blockTables_walk0 a0 w0 a1 w1 a2 w2 a3 w3 a4 w4 a5 w5 a6 w6 W  (of_laid hL)).mono fun e W' ⟨he, hb⟩ => ?_
 subst he
 exact ⟨_, rfl, law_post law_laid (by intro t ht; rw [Tryz.params5] at ht; simp only [List.mem_cons, List.not_mem_nil, or_false] at ht; rcases ht with rfl | rfl | rfl | rfl | rfl | rfl | rfl <;> exact ⟨by kernel_rfl, of_decide_eq_true (by kernel_rfl)⟩) rfl Tryz.underlying4 rfl rfl hW' hb⟩

theorem blockTables_holds : Rows.BlockTablesSaid :=
 OpenClaim.holds_of_wide 5 Tryz.f5 rfl rfl rfl rfl rfl rfl rfl ⟨rfl, rfl, rfl, rfl, rfl⟩ rfl rfl rfl rfl rfl (by kernel_rfl) Tryz.func5 (by kernel_rfl)
  (of_decide_eq_true (by kernel_rfl)) (by unfold Func.isWrapper; first | (rw [if_pos (by decide +kernel)]; kernel_rfl) | (rw [if_neg (by decide +kernel)]; exact ⟨rfl, rfl⟩))
  (fun os started H enc _ => blockTables_lifted os started H enc)

theorem blockTables_card : Rows.BlockTablesCardSaid :=
 Claim7.holds_tied_plain_at .later [] [.data, .data, .pinned] true (true, "10e313c21d0b0161e13f8cfea311ebe3f966d34302896ab44c490f8946b68ccf") false
  blockTables_holds (fun _ h => by cases h) (by kernel_rfl) (fun _ h => by cases h) blockTables_row_tie rfl ⟨rfl, rfl⟩ (by kernel_rfl) rfl
  (fun f fn hf hfn => by
   obtain rfl : f = 5 := Option.some.inj ((show Tryz.prog.funcNamed "barograph/barographlaw16.BlockTables" = some 5 by kernel_rfl).symm.trans hf) |>.symm
   obtain rfl : fn = Tryz.f5 := (Option.some.inj (Tryz.func5.symm.trans hfn)).symm
   exact ⟨by kernel_rfl, fun j t ht => by
    rw [Tryz.params5] at ht
    rcases j with _ | j
    ·obtain rfl : t = 2 := by simpa using ht.symm
     exact (show Tryz.prog.wantsStandIn 2 = false by kernel_rfl)
    rcases j with _ | j
    ·obtain rfl : t = 2 := by simpa using ht.symm
     exact (show Tryz.prog.wantsStandIn 2 = false by kernel_rfl)
    rcases j with _ | j
    ·obtain rfl : t = 3 := by simpa using ht.symm
     exact (show Tryz.prog.wantsStandIn 3 = false by kernel_rfl)
    rcases j with _ | j
    ·obtain rfl : t = 3 := by simpa using ht.symm
     exact (show Tryz.prog.wantsStandIn 3 = false by kernel_rfl)
    rcases j with _ | j
    ·obtain rfl : t = 3 := by simpa using ht.symm
     exact (show Tryz.prog.wantsStandIn 3 = false by kernel_rfl)
    rcases j with _ | j
    ·obtain rfl : t = 9 := by simpa using ht.symm
     exact (show Tryz.prog.wantsStandIn 9 = false by kernel_rfl)
    rcases j with _ | j
    ·obtain rfl : t = 9 := by simpa using ht.symm
     exact (show Tryz.prog.wantsStandIn 9 = false by kernel_rfl)
    simp at ht⟩)
  (by kernel_rfl)

end Go.Proofs.YtgabmfibfikdbaaGreatDoor
