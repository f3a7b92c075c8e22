/-
  Layer 9: MetaBent: a byte of a meta's or a mark's record that is another one is told.
-/
import Derived.Test.YtdmhjejjgcfplaaMetO
import Derived.Test.YtdmhjejjgcfplaaRows
namespace Go.Proofs.Ytdmhjejjgcfplaa
open Go.RowKit Go.Bar Go.Bar.Leb Go.Bar.Frm Go.Bar.Idt Go.Bar.Met Go.ChangeShapes Go.WideShapes Go.ChangeAt
open Go.ChangeMaps (open_string shut_string)

theorem xor_byte (x y : UInt8) (h : y ≠ 0) : x ^^^ y ≠ x := by
  intro he
  apply h
  have := congrArg (x ^^^ ·) he
  simpa [← UInt8.xor_assoc] using this
theorem u8_xor_byte (x y : UInt8) : bits .xor .u8 (x.toNat : Int) (y.toNat : Int) = ((x ^^^ y).toNat : Int) := by
  rw [u8_xor_nat _ _ (UInt8.toNat_lt x) (UInt8.toNat_lt y), UInt8.toNat_xor]
theorem bent_no {r : Rc} {p s : List UInt8} {x y : UInt8} (h : rec r = p ++ x :: s) (hxy : x ≠ y) : (∀ m, ¬ Dec (p ++ y :: s) m) ∧ (decodeMark (p ++ y :: s)).2.2 ≠ 0 := by
  refine ⟨fun m ⟨d, h1, _⟩ => only_bent h hxy 1 (by rw [h1]), fun he => ?_⟩
  have h2 := only_bent h hxy 2
  unfold decodeMark at he
  obtain ⟨a, b, h8⟩ : ∃ a b, only (p ++ y :: s) 2 = (a, b) := ⟨_, _, rfl⟩
  rw [h8] at he h2
  simp only at he h2
  rw [tText_err 16 a b h2] at he
  simp only at he
  rw [tNum_err 1099511627776 a b h2] at he
  simp only at he
  rw [if_pos h2] at he
  exact h2 he

set_option maxHeartbeats 8000000 in
set_option maxRecDepth 10000 in
theorem metaBent_walk1 (mark : Bool) (m : Mt) (fv sv : Value) (tick seq place : Int) (y : UInt8) (w : World) (hm : MetaAt w m fv sv) (l : List UInt8) (hl : l = if mark then markB (made m tick seq).id (seq % 65536) else encode (made m tick seq)) (bad : Bool) (hbad : (bad = true ∧ (place < 0 ∨ (0 ≤ place ∧ (l.length : Int) ≤ place) ∨ (0 ≤ place ∧ place < l.length ∧ y = 0))) ∨ (bad = false ∧ 0 ≤ place ∧ place < l.length ∧ y ≠ 0)) :
    Calls Try.prog 6 #[mtV m fv sv, .int .i64 tick, .int .i64 seq, .int .i64 place, .int .u8 y.toNat, .bool mark] w (RetBelow w (.bool true)) := by
  unfold mtV
  have hsh1 := hm.fl.shape
  have hsh2 := hm.sr.shape
  obtain ⟨A0, c0, rfl, _, _⟩ := hsh1
  obtain ⟨A02, c02, rfl, _, _⟩ := hsh2
  have hok := made_ok m tick seq
  have hfl := made_len m tick seq
  have hsum := made_sum m tick seq
  have hmade := fun w' (h1 : FlsAt w' (.slice A0 m.fs.length c0) m.fs) (h2 : SrcAt w' (.slice A02 m.ss.length c02) m.ss) => made_any m tick seq _ _ w' h1 h2 hm.id
  obtain ⟨mm, hmm⟩ : ∃ mm, mm = made m tick seq := ⟨_, rfl⟩
  rw [← hmm] at hok hfl hsum hmade hl
  have hidl := idOk_len hok.1.1
  obtain ⟨n, hn, hn'⟩ := and65535_of seq
  have hen : ∀ fv sv w, FlsAt w fv mm.fs → SrcAt w sv mm.ss → Calls Try.prog 16 #[.agg #[.string (bs mm.id), .int .i64 mm.mn, .int .i64 mm.mx, .int .i64 mm.lv, .int .i64 mm.sr, .int .i64 mm.sm, fv, sv]] w (RetBelow w (.string (bs (encode mm)))) := fun fv sv w hf hs =>
    encode_any mm fv sv w hf hs (by omega) hsum
  obtain ⟨E, hE⟩ : ∃ E, E = encode mm := ⟨_, rfl⟩
  rw [← hE] at hen hl
  have hem : ∀ w, Calls Try.prog 25 #[.string (bs mm.id), .int .i64 n] w (RetBelow w (.string (bs (markB mm.id n)))) := fun w => encodeMark_any mm.id n w (by omega) (by omega) (by omega)
  rw [← hn'] at hl
  obtain ⟨K, hK⟩ : ∃ K, K = markB mm.id n := ⟨_, rfl⟩
  rw [← hK] at hem hl
  have hrec : ∃ r, rec r = l := by
    rcases mark with _ | _
    · exact ⟨(1, fields mm), by rw [hl, hE]; rfl⟩
    · exact ⟨(2, markF mm.id n), by rw [hl, hK]; rfl⟩
  have hll : l.length ≤ 2000 := by
    rcases mark with _ | _
    · have := encode_len mm (by omega)
      rw [hl]
      simp only [Bool.false_eq_true, if_false]
      rw [hE]; omega
    · rw [hl]
      simp only [if_true]
      rw [hK]
      unfold markB
      rw [rec_len]
      have h1 : (markF mm.id n).length ≤ 36 := by
        unfold markF txt
        have := u_len mm.id.length (by omega)
        have := u_len (w64 (max (n : Int) 0)) (w64_lt _)
        simp only [List.length_append]; omega
      have := u_len (markF mm.id n).length (by omega)
      simp only
      omega
  have HMADE := Lib.hid hmade
  have HEN := Lib.hid hen
  have HEM := Lib.hid hem
  have HREC := Lib.hid hrec
  have hfs := hm.fl
  have hss := hm.sr
  clear hmade hen hem hrec hok hfl hsum hmm hE hK hn' hidl
  have HFS := Lib.hid hfs
  have HSS := Lib.hid hss
  clear hfs hss
  rcases hbad with ⟨rfl, hbad⟩ | ⟨rfl, hp1, hp2, hy⟩
  · rcases mark with _ | _
    · simp only [Bool.false_eq_true, if_false] at hl
      subst hl
      rcases hbad with h1 | ⟨h1, h2⟩ | ⟨h1, h2, rfl⟩
      all_goals
        go_enter Try.func6, Try.ntmps6
        go_wp2_with fail
        have hba := below_alloc1 w (.cells #[.string (bs m.id), .int .i64 m.mn, .int .i64 m.mx, .int .i64 m.lv, .int .i64 m.sr, .int .i64 m.sm, .slice A0 m.fs.length c0, .slice A02 m.ss.length c02] 25)
        refine (HMADE.out _ (HFS.out.below hba) (HSS.out.below hba)).mono ?_
        rintro e w1 ⟨fv, sv, rfl, hf1, hs1, hb1⟩
        have hb1 := below_trans hba hb1
        obtain ⟨A, c, rfl, hlc⟩ := hf1.buf.shape
        obtain ⟨A2, c2, rfl, hlc2⟩ := hs1.buf.shape
        clear hba
        go_wp2_with fail
        have hba2 := below_alloc1 w1 (.cells #[.string (bs mm.id), .int .i64 mm.mn, .int .i64 mm.mx, .int .i64 mm.lv, .int .i64 mm.sr, .int .i64 mm.sm, .slice A mm.fs.length c, .slice A2 mm.ss.length c2] 25)
        have hX := Blk.new w1 #[.string (bs mm.id), .int .i64 mm.mn, .int .i64 mm.mx, .int .i64 mm.lv, .int .i64 mm.sr, .int .i64 mm.sm, .slice A mm.fs.length c, .slice A2 mm.ss.length c2] 25
        refine (HEN.out _ _ _ (FlsAt.below hf1.slice hba2) (SrcAt.below hs1.slice hba2)).mono ?_
        rintro e w3 ⟨rfl, hb3⟩
        have hX := hX.below hb3
        clear hf1 hs1 hba2
        have hbl := below_trans (below_trans hb1 (below_alloc1 _ _)) hb3
        clear hX hb1 hb3
        go_wp2_with fail
        refine (awake9_any _).mono ?_
        rintro e w4 ⟨rfl, hb4⟩
        go_wp2_with fail
        refine (awake9_any _).mono ?_
        rintro e w5 ⟨rfl, hb5⟩
        go_wp2_with fail
        go_ret
        exact ⟨rfl, below_trans (below_trans hbl hb4) hb5⟩
    · simp only [if_true] at hl
      subst hl
      rcases hbad with h1 | ⟨h1, h2⟩ | ⟨h1, h2, rfl⟩
      all_goals
        go_enter Try.func6, Try.ntmps6
        go_wp2_with fail
        have hba := below_alloc1 w (.cells #[.string (bs m.id), .int .i64 m.mn, .int .i64 m.mx, .int .i64 m.lv, .int .i64 m.sr, .int .i64 m.sm, .slice A0 m.fs.length c0, .slice A02 m.ss.length c02] 25)
        refine (HMADE.out _ (HFS.out.below hba) (HSS.out.below hba)).mono ?_
        rintro e w1 ⟨fv, sv, rfl, hf1, hs1, hb1⟩
        have hb1 := below_trans hba hb1
        obtain ⟨A, c, rfl, hlc⟩ := hf1.buf.shape
        obtain ⟨A2, c2, rfl, hlc2⟩ := hs1.buf.shape
        clear hba
        go_wp2_with fail
        have hba2 := below_alloc1 w1 (.cells #[.string (bs mm.id), .int .i64 mm.mn, .int .i64 mm.mx, .int .i64 mm.lv, .int .i64 mm.sr, .int .i64 mm.sm, .slice A mm.fs.length c, .slice A2 mm.ss.length c2] 25)
        have hX := Blk.new w1 #[.string (bs mm.id), .int .i64 mm.mn, .int .i64 mm.mx, .int .i64 mm.lv, .int .i64 mm.sr, .int .i64 mm.sm, .slice A mm.fs.length c, .slice A2 mm.ss.length c2] 25
        refine (HEN.out _ _ _ (FlsAt.below hf1.slice hba2) (SrcAt.below hs1.slice hba2)).mono ?_
        rintro e w3 ⟨rfl, hb3⟩
        have hX := hX.below hb3
        clear hf1 hs1 hba2
        have x0 : w3.cell? ⟨w1.heap.size, 0, none⟩ = some (.string (bs mm.id)) := hX.cell (i := 0) rfl
        go_wp2_with fail
        refine (HEM.out _).mono ?_
        rintro e w3' ⟨rfl, hb3'⟩
        have hbl := below_trans (below_trans (below_trans hb1 (below_alloc1 _ _)) hb3) hb3'
        clear hX hb1 hb3
        go_wp2_with fail
        refine (awake9_any _).mono ?_
        rintro e w4 ⟨rfl, hb4⟩
        go_wp2_with fail
        refine (awake9_any _).mono ?_
        rintro e w5 ⟨rfl, hb5⟩
        go_wp2_with fail
        go_ret
        exact ⟨rfl, below_trans (below_trans hbl hb4) hb5⟩
  · obtain ⟨p, rfl⟩ : ∃ p : Nat, place = p := ⟨place.toNat, by omega⟩
    have hpl : p < l.length := by omega
    have hyb : ((y.toNat : Int) == 0) = false := by
      rw [beq_eq_false_iff_ne]
      intro he
      apply hy
      apply UInt8.toNat_inj.1
      simp; omega
    obtain ⟨x, hx⟩ : ∃ x, l[p]? = some x := ⟨_, List.getElem?_eq_getElem hpl⟩
    have hsp : l = l.take p ++ x :: l.drop (p + 1) := by
      obtain ⟨h1, h2⟩ := List.getElem?_eq_some_iff.1 hx
      rw [← h2, ← List.drop_eq_getElem_cons h1, List.take_append_drop]
    have hset : l.set p (x ^^^ y) = l.take p ++ (x ^^^ y) :: l.drop (p + 1) := List.set_eq_take_append_cons_drop.trans (by rw [if_pos hpl])
    obtain ⟨r, hr⟩ := HREC.out
    obtain ⟨hno, hdm⟩ := bent_no (hr.trans hsp) (fun h => xor_byte x y hy h.symm)
    rw [← hset] at hno hdm
    have HDN := Lib.hid (decode_no hno)
    obtain ⟨id2, n2, er2, hd2⟩ : ∃ a b c, decodeMark (l.set p (x ^^^ y)) = (a, b, c) := ⟨_, _, _, rfl⟩
    have hdma := decodeMark_any (l.set p (x ^^^ y))
    rw [hd2] at hdma hdm
    simp only at hdma hdm
    have HDM := Lib.hid hdma
    have he2 : ((er2 : Int) != 0) = true := by rw [bne_iff_ne]; omega
    have HX := Lib.hid hx
    have hxor := u8_xor_byte x y
    clear hx hsp hset hno hdm hdma hd2 hr hy HREC
    rcases mark with _ | _
    · simp only [Bool.false_eq_true, if_false] at hl
      subst hl
      go_enter Try.func6, Try.ntmps6
      go_wp2_with fail
      have hba := below_alloc1 w (.cells #[.string (bs m.id), .int .i64 m.mn, .int .i64 m.mx, .int .i64 m.lv, .int .i64 m.sr, .int .i64 m.sm, .slice A0 m.fs.length c0, .slice A02 m.ss.length c02] 25)
      refine (HMADE.out _ (HFS.out.below hba) (HSS.out.below hba)).mono ?_
      rintro e w1 ⟨fv, sv, rfl, hf1, hs1, hb1⟩
      have hb1 := below_trans hba hb1
      obtain ⟨A, c, rfl, hlc⟩ := hf1.buf.shape
      obtain ⟨A2, c2, rfl, hlc2⟩ := hs1.buf.shape
      clear hba
      go_wp2_with fail
      have hba2 := below_alloc1 w1 (.cells #[.string (bs mm.id), .int .i64 mm.mn, .int .i64 mm.mx, .int .i64 mm.lv, .int .i64 mm.sr, .int .i64 mm.sm, .slice A mm.fs.length c, .slice A2 mm.ss.length c2] 25)
      have hX := Blk.new w1 #[.string (bs mm.id), .int .i64 mm.mn, .int .i64 mm.mx, .int .i64 mm.lv, .int .i64 mm.sr, .int .i64 mm.sm, .slice A mm.fs.length c, .slice A2 mm.ss.length c2] 25
      refine (HEN.out _ _ _ (FlsAt.below hf1.slice hba2) (SrcAt.below hs1.slice hba2)).mono ?_
      rintro e w3 ⟨rfl, hb3⟩
      have hX := hX.below hb3
      clear hf1 hs1 hba2
      have hbl := below_trans (below_trans hb1 (below_alloc1 _ _)) hb3
      clear hX hb1 hb3
      go_wp2_with fail
      refine (awake9_any _).mono ?_
      rintro e w4 ⟨rfl, hb4⟩
      have hbl := below_trans hbl hb4
      clear hb4
      go_wp2_with ((with_reducible refine wpList_bytes rfl (.tmp 50) 41 9 rfl bytes_ty Try.underlying9 (bs l) rfl (by rw [bs_size]; unfold maxLen; omega) ?_); intro b w5 hb5 hl5 hown; rw [bs_data] at hb5; obtain ⟨B, o, c', rfl, hB, hc', hcell, hfz⟩ := Buf.at_ hb5 (by omega); have hck := hcell p hpl; rw [bcs, List.getElem?_map, HX.out] at hck; have hck : w5.cell? ⟨B, o + p, none⟩ = some (.int .u8 x.toNat) := hck; have hfk := hfz p hpl; have hst : BBuf (w5.setCell ⟨B, o + p, none⟩ (.int .u8 ((x.toNat ^^^ y.toNat : Nat) : Int))) 5 (.slice (some ⟨B, o, none⟩) l.length c') (l.set p (x ^^^ y)) := (by
        have := Buf.store hb5 hpl (.int .u8 ((x.toNat ^^^ y.toNat : Nat) : Int))
        unfold BBuf
        rw [List.length_set, bcs, List.map_set, UInt8.toNat_xor]
        exact this); have hcv := BBuf.string bytes_ty hst 9 Try.underlying9; clear hcell hfz)
      have hBe : B = w4.heap.size := by simpa [Value.ownBlock] using hown
      have hBs : Below w.heap.size w (w5.setCell ⟨B, o + p, none⟩ (.int .u8 ((x.toNat ^^^ y.toNat : Nat) : Int))) := (below_trans hbl hl5).setCell (by rw [hBe]; exact hbl.size) _
      clear hBe hown hbl hl5
      have hst' := Lib.hid hst
      clear hst
      go_wp2_with fail
      refine (HDN.out _ (by rw [List.length_set]; omega)).mono ?_
      rintro e w6 ⟨er, her, rfl, hb6⟩
      have he1 : ((er : Int) != 0) = true := by rw [bne_iff_ne]; omega
      have hcv2 := BBuf.string bytes_ty ((hst'.out.below hb6).alloc (.cells #[.string { data := #[] }, .int .i64 0, .int .i64 0, .int .i64 0, .int .i64 0, .int .i64 0, .slice none 0 0, .slice none 0 0] 25)) 9 Try.underlying9
      clear her hcv
      go_wp2_with fail
      refine (HDM.out _ (by rw [List.length_set]; omega)).mono ?_
      rintro e w7 ⟨rfl, hb7⟩
      go_wp2_with fail
      go_ret
      exact ⟨rfl, below_trans (below_trans (below_trans hBs hb6) (below_alloc1 _ _)) hb7⟩

    · simp only [if_true] at hl
      subst hl
      go_enter Try.func6, Try.ntmps6
      go_wp2_with fail
      have hba := below_alloc1 w (.cells #[.string (bs m.id), .int .i64 m.mn, .int .i64 m.mx, .int .i64 m.lv, .int .i64 m.sr, .int .i64 m.sm, .slice A0 m.fs.length c0, .slice A02 m.ss.length c02] 25)
      refine (HMADE.out _ (HFS.out.below hba) (HSS.out.below hba)).mono ?_
      rintro e w1 ⟨fv, sv, rfl, hf1, hs1, hb1⟩
      have hb1 := below_trans hba hb1
      obtain ⟨A, c, rfl, hlc⟩ := hf1.buf.shape
      obtain ⟨A2, c2, rfl, hlc2⟩ := hs1.buf.shape
      clear hba
      go_wp2_with fail
      have hba2 := below_alloc1 w1 (.cells #[.string (bs mm.id), .int .i64 mm.mn, .int .i64 mm.mx, .int .i64 mm.lv, .int .i64 mm.sr, .int .i64 mm.sm, .slice A mm.fs.length c, .slice A2 mm.ss.length c2] 25)
      have hX := Blk.new w1 #[.string (bs mm.id), .int .i64 mm.mn, .int .i64 mm.mx, .int .i64 mm.lv, .int .i64 mm.sr, .int .i64 mm.sm, .slice A mm.fs.length c, .slice A2 mm.ss.length c2] 25
      refine (HEN.out _ _ _ (FlsAt.below hf1.slice hba2) (SrcAt.below hs1.slice hba2)).mono ?_
      rintro e w3 ⟨rfl, hb3⟩
      have hX := hX.below hb3
      clear hf1 hs1 hba2
      have x0 : w3.cell? ⟨w1.heap.size, 0, none⟩ = some (.string (bs mm.id)) := hX.cell (i := 0) rfl
      go_wp2_with fail
      refine (HEM.out _).mono ?_
      rintro e w3' ⟨rfl, hb3'⟩
      have hbl := below_trans (below_trans (below_trans hb1 (below_alloc1 _ _)) hb3) hb3'
      clear hX hb1 hb3
      go_wp2_with fail
      refine (awake9_any _).mono ?_
      rintro e w4 ⟨rfl, hb4⟩
      have hbl := below_trans hbl hb4
      clear hb4
      go_wp2_with ((with_reducible refine wpList_bytes rfl (.tmp 50) 41 9 rfl bytes_ty Try.underlying9 (bs l) rfl (by rw [bs_size]; unfold maxLen; omega) ?_); intro b w5 hb5 hl5 hown; rw [bs_data] at hb5; obtain ⟨B, o, c', rfl, hB, hc', hcell, hfz⟩ := Buf.at_ hb5 (by omega); have hck := hcell p hpl; rw [bcs, List.getElem?_map, HX.out] at hck; have hck : w5.cell? ⟨B, o + p, none⟩ = some (.int .u8 x.toNat) := hck; have hfk := hfz p hpl; have hst : BBuf (w5.setCell ⟨B, o + p, none⟩ (.int .u8 ((x.toNat ^^^ y.toNat : Nat) : Int))) 5 (.slice (some ⟨B, o, none⟩) l.length c') (l.set p (x ^^^ y)) := (by
        have := Buf.store hb5 hpl (.int .u8 ((x.toNat ^^^ y.toNat : Nat) : Int))
        unfold BBuf
        rw [List.length_set, bcs, List.map_set, UInt8.toNat_xor]
        exact this); have hcv := BBuf.string bytes_ty hst 9 Try.underlying9; clear hcell hfz)
      have hBe : B = w4.heap.size := by simpa [Value.ownBlock] using hown
      have hBs : Below w.heap.size w (w5.setCell ⟨B, o + p, none⟩ (.int .u8 ((x.toNat ^^^ y.toNat : Nat) : Int))) := (below_trans hbl hl5).setCell (by rw [hBe]; exact hbl.size) _
      clear hBe hown hbl hl5
      have hst' := Lib.hid hst
      clear hst
      go_wp2_with fail
      refine (HDN.out _ (by rw [List.length_set]; omega)).mono ?_
      rintro e w6 ⟨er, her, rfl, hb6⟩
      have he1 : ((er : Int) != 0) = true := by rw [bne_iff_ne]; omega
      have hcv2 := BBuf.string bytes_ty ((hst'.out.below hb6).alloc (.cells #[.string { data := #[] }, .int .i64 0, .int .i64 0, .int .i64 0, .int .i64 0, .int .i64 0, .slice none 0 0, .slice none 0 0] 25)) 9 Try.underlying9
      clear her hcv
      go_wp2_with fail
      refine (HDM.out _ (by rw [List.length_set]; omega)).mono ?_
      rintro e w7 ⟨rfl, hb7⟩
      go_wp2_with fail
      go_ret
      exact ⟨rfl, below_trans (below_trans (below_trans hBs hb6) (below_alloc1 _ _)) hb7⟩

theorem metaBent_walk0 (v : Value) (x : Mt × Value × Value) (tick : Int) (_h1 : (Lit.int .i64 tick).wf = true) (seq : Int) (_h2 : (Lit.int .i64 seq).wf = true) (place : Int) (_h3 : (Lit.int .i64 place).wf = true) (by0 : Int) (h4 : (Lit.int .u8 by0).wf = true) (mark : Bool) (w : World) (hx : MetaArg w v x) :
    Calls Try.prog 6 #[v, .int .i64 tick, .int .i64 seq, .int .i64 place, .int .u8 by0, .bool mark] w (RetBelow w (.bool true)) := by
  obtain ⟨m, fv, sv⟩ := x
  obtain ⟨rfl, hm⟩ := hx
  obtain ⟨hb1, hb2⟩ := bounds_u8 h4
  obtain ⟨y, rfl⟩ : ∃ y : UInt8, by0 = y.toNat := ⟨UInt8.ofNat by0.toNat, by simp; omega⟩
  obtain ⟨l, hl⟩ : ∃ l, l = if mark then markB (made m tick seq).id (seq % 65536) else encode (made m tick seq) := ⟨_, rfl⟩
  by_cases hg : 0 ≤ place ∧ place < l.length ∧ y ≠ 0
  · exact metaBent_walk1 mark m fv sv tick seq place y w hm l hl false (.inr ⟨rfl, hg.1, hg.2.1, hg.2.2⟩)
  · refine metaBent_walk1 mark m fv sv tick seq place y w hm l hl true (.inl ⟨rfl, ?_⟩)
    by_cases h1 : 0 ≤ place
    · by_cases h2 : place < l.length
      · by_cases h3 : y = 0
        · exact .inr (.inr ⟨h1, h2, h3⟩)
        · exact absurd ⟨h1, h2, h3⟩ hg
      · exact .inr (.inl ⟨h1, by omega⟩)
    · exact .inl (by omega)

set_option maxRecDepth 100000 in
theorem metaBent_lifted (os : Os) (started : os.Started) (H : Type) (enc : TypeId × Value → H) :
    ReturnsInHanded {} Try.checked os 6 .any (Rows.metaBentSpec.pre6 enc Try.prog Try.f6 Rows.metaBentRow.domain false) (Rows.metaBentSpec.post enc Try.prog Try.f6 false true false false) := by
  refine returnsInHanded_of_change_sized (C := Try.checked) law_own started (by kernel_rfl) Try.func6
    (ChangeSpec.witness6 (enc := enc) (C := Try.checked) false ⟨#[], #[.agg #[.string ByteArray.empty, .int .i64 0, .int .i64 0, .int .i64 0, .int .i64 0, .int .i64 0, .slice none 0 0, .slice none 0 0], .int .i64 0, .int .i64 0, .int .i64 0, .int .u8 0, .bool false], []⟩ 8 (by kernel_rfl) (by kernel_rfl) (by kernel_rfl) (by kernel_rfl)) ?_
  intro W base args ds gs before hval0 hW _ hsz0 _
  have hval : ∀ (j : Nat) t v, Try.f6.params[j]? = some t → args[j]? = some v → Value.okWide Try.prog W .any base t v := hval0
  have hsz : (DataW.weightsEach Try.prog (Try.f6.params.toList ++ Rows.metaBentSpec.plain.varTypes Try.prog) (ds ++ gs)).all (· ≤ reachBytes) = true := hsz0
  have hW' := hW
  obtain ⟨p, q, hA0, hV, rfl, _, _⟩ := hW
  have hA : DataW.TrodAll enc Try.prog W 0 (fun _ => true) true Try.f6.params.toList args.toList ds p := hA0
  rw [Try.params6] at hA hval hsz
  obtain ⟨v0, vs0, d0, ds0, p0, q0, hargs, rfl, rfl, h0, r0⟩ := trodAll_cons hA
  obtain ⟨v1, vs1, d1, ds1, p1, q1, rfl, rfl, rfl, h1, r1⟩ := trodAll_cons r0
  obtain ⟨v2, vs2, d2, ds2, p2, q2, rfl, rfl, rfl, h2, r2⟩ := trodAll_cons r1
  obtain ⟨v3, vs3, d3, ds3, p3, q3, rfl, rfl, rfl, h3, r3⟩ := trodAll_cons r2
  obtain ⟨v4, vs4, d4, ds4, p4, q4, rfl, rfl, rfl, h4, r4⟩ := trodAll_cons r3
  obtain ⟨v5, vs5, d5, ds5, p5, q5, rfl, rfl, rfl, h5, r5⟩ := trodAll_cons r4
  obtain ⟨rfl, rfl, rfl⟩ := trodAll_nil r5
  obtain rfl : args = #[v0, v1, v2, v3, v4, v5] := by cases args; simp_all
  obtain ⟨rfl, rfl⟩ := trodVars_none hV
  obtain ⟨a1, rfl, rfl, rfl, w1⟩ := open_int Try.underlying3 (hval 1 3 v1 rfl rfl) h1
  obtain ⟨a2, rfl, rfl, rfl, w2⟩ := open_int Try.underlying3 (hval 2 3 v2 rfl rfl) h2
  obtain ⟨a3, rfl, rfl, rfl, w3⟩ := open_int Try.underlying3 (hval 3 3 v3 rfl rfl) h3
  obtain ⟨a4, rfl, rfl, rfl, w4⟩ := open_int Try.underlying5 (hval 4 5 v4 rfl rfl) h4
  obtain ⟨a5, rfl, rfl, rfl⟩ := open_bool Try.underlying4 (hval 5 4 v5 rfl rfl) h5
  obtain ⟨ts0, hts0⟩ := open_metaV (hval 0 25 v0 rfl rfl) h0
  refine (metaBent_walk0 v0 ts0 a1 w1 a2 w2 a3 w3 a4 w4 a5 W hts0).mono fun e W' ⟨he, hb⟩ => ?_
  subst he
  exact ⟨_, rfl, law_post law_laid (by intro t ht; rw [Try.params6] at ht; simp only [List.mem_cons, List.not_mem_nil, or_false] at ht; rcases ht with rfl | rfl | rfl | rfl | rfl | rfl <;> exact ⟨by kernel_rfl, of_decide_eq_true (by kernel_rfl)⟩) rfl Try.underlying4 rfl rfl hW' hb⟩

theorem metaBent_holds : Rows.MetaBentSaid :=
  OpenClaim.holds_of_wide 6 Try.f6 rfl rfl rfl rfl rfl rfl rfl ⟨rfl, rfl, rfl, rfl, rfl⟩ rfl rfl rfl rfl rfl (by kernel_rfl) Try.func6 (by kernel_rfl)
    (of_decide_eq_true (by kernel_rfl)) (by unfold Func.isWrapper; first | (rw [if_pos (by decide +kernel)]; kernel_rfl) | (rw [if_neg (by decide +kernel)]; exact ⟨rfl, rfl⟩))
    (fun os started H enc _ => metaBent_lifted os started H enc)

end Go.Proofs.Ytdmhjejjgcfplaa
