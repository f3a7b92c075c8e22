/-
  Layer 9: MetaBack: metas and marks go as bytes, and come back.
-/
import Derived.Test.YtdmhjejjgcfplaaMetO
import Derived.Test.YtdmhjejjgcfplaaMetR
import Derived.Test.YtdmhjejjgcfplaaRows
namespace Go.Proofs.Ytdmhjejjgcfplaa
open Go.RowKit Go.Bar Go.Bar.Leb Go.Bar.Frm Go.Bar.Idt Go.Bar.Met Go.ChangeShapes Go.WideShapes Go.ChangeAt
open Go.ChangeMaps (open_string shut_string)

theorem dec_encode (m : Mt) (h : Ok m) (hs : ∀ f ∈ m.fs, f.sum < 4294967296) (hl : (fields m).length ≤ 1048576) : Dec (encode m) m := by
  have h1 := tFields_fields m [] h (fun f hf => by have := hs f hf; omega)
  rw [List.append_nil] at h1
  exact ⟨fields m, only_rec 1 _ hl, h1, h⟩

set_option maxHeartbeats 16000000 in
set_option maxRecDepth 10000 in
theorem metaBack_walk1 (m : Mt) (fv sv : Value) (tick seq : Int) (t0 : ByteArray) (ht0 : t0.size ≤ maxLen) (w : World) (hm : MetaAt w m fv sv) :
    Calls Try.prog 7 #[mtV m fv sv, .int .i64 tick, .int .i64 seq, .string t0] w (RetBelow w (.bool true)) := by
  unfold mtV
  have hsh1 := hm.fl.shape
  have hsh2 := hm.sr.shape
  obtain ⟨A0, c0, rfl, _, _⟩ := hsh1
  obtain ⟨A02, c02, rfl, _, _⟩ := hsh2
  have hok := made_ok m tick seq
  have hfl := made_len m tick seq
  have hsum := made_sum m tick seq
  have hfs2 : (made m tick seq).fs.length = 2 := rfl
  have hmade := fun w' (h1 : FlsAt w' (.slice A0 m.fs.length c0) m.fs) (h2 : SrcAt w' (.slice A02 m.ss.length c02) m.ss) => made_any m tick seq _ _ w' h1 h2 hm.id
  obtain ⟨mm, hmm⟩ : ∃ mm, mm = made m tick seq := ⟨_, rfl⟩
  rw [← hmm] at hok hfl hsum hmade hfs2
  have hidl := idOk_len hok.1.1
  obtain ⟨n, hn, hn'⟩ := and65535_of tick
  obtain ⟨tl, htl⟩ : ∃ l, l = t0.data.toList.take 20 := ⟨_, rfl⟩
  have htll : tl.length ≤ 20 := by rw [htl]; exact List.length_take_le _ _
  have HTL := Lib.hid htl
  have hsrc := hok.src
  have hdec := dec_encode mm hok hsum (by omega)
  have htake := tFields_fields mm tl hok (fun f hf => by have := hsum f hf; omega)
  obtain ⟨E, hE⟩ : ∃ E, E = encode mm := ⟨_, rfl⟩
  obtain ⟨F, hF⟩ : ∃ F, F = fields mm := ⟨_, rfl⟩
  obtain ⟨K, hK⟩ : ∃ K, K = markB mm.id n := ⟨_, rfl⟩
  have hEl : E.length ≤ 2000 := by rw [hE]; have := encode_len mm (by omega); omega
  have hFl : F.length ≤ 1000 := by rw [hF]; exact hfl
  have hKl : K.length ≤ 2000 := by
    rw [hK]
    unfold markB
    rw [rec_len]
    have h1 : (markF mm.id n).length ≤ 36 := by
      unfold markF txt
      have := u_len mm.id.length (by omega)
      have := u_len (w64 (max (n : Int) 0)) (w64_lt _)
      simp only [List.length_append]; omega
    have := u_len (markF mm.id n).length (by omega)
    simp only
    omega
  have hen : ∀ fv sv w, FlsAt w fv mm.fs → SrcAt w sv mm.ss → Calls Try.prog 16 #[.agg #[.string (bs mm.id), .int .i64 mm.mn, .int .i64 mm.mx, .int .i64 mm.lv, .int .i64 mm.sr, .int .i64 mm.sm, fv, sv]] w (RetBelow w (.string (bs E))) := fun fv sv w hf hs => by
    rw [hE]; exact encode_any mm fv sv w hf hs (by omega) hsum
  have hde : ∀ w, Calls Try.prog 23 #[.string (bs E)] w (RetDec w mm) := fun w => decode_good (by rw [hE]; exact hdec) w (by omega)
  have hpu : ∀ fv sv w, FlsAt w fv mm.fs → SrcAt w sv mm.ss → Calls Try.prog 18 #[.slice none 0 0, .agg #[.string (bs mm.id), .int .i64 mm.mn, .int .i64 mm.mx, .int .i64 mm.lv, .int .i64 mm.sr, .int .i64 mm.sm, fv, sv]] w (fun en w' => ∃ v, en = .returned v ∧ NBuf w w' 5 1 v F.length (bcs F)) := fun fv sv w hf hs => by
    have := put_any mm fv sv w w (.slice none 0 0) [] (NBuf.nil (Below.refl _ _) _ _) hf hs (by simp; omega) hsum
    rw [List.nil_append, ← hF] at this
    exact this
  have hta : ∀ w, Calls Try.prog 26 #[.string (bs (F ++ tl))] w (RetMeta w mm tl) := fun w => take_good (by rw [hF]; exact htake) hok w (by rw [List.length_append]; omega)
  have hem : ∀ w, Calls Try.prog 25 #[.string (bs mm.id), .int .i64 n] w (RetBelow w (.string (bs K))) := fun w => by
    rw [hK]; exact encodeMark_any mm.id n w (by omega) (by omega) (by omega)
  have hdm : ∀ w, Calls Try.prog 24 #[.string (bs K)] w (RetBelow w (.tuple #[.string (bs mm.id), .int .i64 n, .int .i64 0])) := fun w => by
    have := decodeMark_any K w (by omega)
    rw [hK, decodeMark_mark mm.id n hok.1.1 (by omega), ← hK] at this
    exact this
  have hch : ∀ fv sv w, FlsAt w fv mm.fs → SrcAt w sv mm.ss → Calls Try.prog 14 #[.agg #[.string (bs mm.id), .int .i64 mm.mn, .int .i64 mm.mx, .int .i64 mm.lv, .int .i64 mm.sr, .int .i64 mm.sm, fv, sv]] w (RetBelow w (.int .i64 0)) := fun fv sv w hf hs => by
    have := mcheck_any mm fv sv w hf hs (by omega) (fun s h => by have := hsrc s h; omega)
    rwa [chk_ok hok] at this
  have hto : ∀ fv sv w, FlsAt w fv mm.fs → SrcAt w sv mm.ss → Calls Try.prog 13 #[.agg #[.string (bs mm.id), .int .i64 mm.mn, .int .i64 mm.mx, .int .i64 mm.lv, .int .i64 mm.sr, .int .i64 mm.sm, fv, sv]] w (RetT w mm sv) := fun fv sv w hf hs => told_any mm fv sv w hf hs (by omega)
  have hsa : ∀ fv sv fv' sv' w, FlsAt w fv mm.fs → SrcAt w sv mm.ss → FlsAt w fv' mm.fs → SrcAt w sv' mm.ss → Calls Try.prog 27 #[.agg #[.string (bs mm.id), .int .i64 mm.mn, .int .i64 mm.mx, .int .i64 mm.lv, .int .i64 mm.sr, .int .i64 mm.sm, fv, sv], .agg #[.string (bs mm.id), .int .i64 mm.mn, .int .i64 mm.mx, .int .i64 mm.lv, .int .i64 mm.sr, .int .i64 mm.sm, fv', sv']] w (RetBelow w (.bool true)) := fun fv sv fv' sv' w h1 h2 h3 h4 => metaSame_any mm fv sv fv' sv' w h1 h2 h3 h4
  have hcu : ∀ w, Calls Try.prog 12 #[.string t0, .int .i64 20] w fun e w' => e = .returned (.string (bs tl)) ∧ w = w' := fun w => by
    rw [htl]; exact cut_any t0 20 w (by omega) (by omega) ht0
  have hnl : ¬ 9223372036854775807 < F.length + tl.length := by omega
  have HMADE := Lib.hid hmade
  have HEN := Lib.hid hen
  have HDE := Lib.hid hde
  have HPU := Lib.hid hpu
  have HTA := Lib.hid hta
  have HEM := Lib.hid hem
  have HDM := Lib.hid hdm
  have HCH := Lib.hid hch
  have HTO := Lib.hid hto
  have HSA := Lib.hid hsa
  have HCU := Lib.hid hcu
  have HNN := Lib.hid hn
  have hfs := hm.fl
  have hss := hm.sr
  clear hmade hen hde hpu hta hem hdm hch hto hsa hcu hok hfl hsum hmm hE hF hK hn' hidl htl hsrc hdec htake hfs2 hm
  have HFS := Lib.hid hfs
  have HSS := Lib.hid hss
  clear hfs hss
  go_enter Try.func7, Try.ntmps7
  go_wp2_with fail
  have hba := below_alloc1 w (.cells #[.string (bs m.id), .int .i64 m.mn, .int .i64 m.mx, .int .i64 m.lv, .int .i64 m.sr, .int .i64 m.sm, .slice A0 m.fs.length c0, .slice A02 m.ss.length c02] 25)
  refine (HMADE.out _ (HFS.out.below hba) (HSS.out.below hba)).mono ?_
  rintro e w1 ⟨fx, sx, rfl, hxf, hxs, hb1⟩
  have hbl := below_trans hba hb1
  obtain ⟨X1, x1, rfl, _⟩ := hxf.buf.shape
  obtain ⟨X2, x2, rfl, _⟩ := hxs.buf.shape
  have hxf := hxf.slice
  have hxs := hxs.slice
  clear hba hb1
  go_wp2_with fail
  refine (HCU.out _).mono ?_
  rintro e w' ⟨rfl, rfl⟩
  go_wp2_with fail
  have hba := below_alloc1 w1 (.cells #[.string (bs mm.id), .int .i64 mm.mn, .int .i64 mm.mx, .int .i64 mm.lv, .int .i64 mm.sr, .int .i64 mm.sm, .slice X1 mm.fs.length x1, .slice X2 mm.ss.length x2] 25)
  have hX := Blk.new w1 #[.string (bs mm.id), .int .i64 mm.mn, .int .i64 mm.mx, .int .i64 mm.lv, .int .i64 mm.sr, .int .i64 mm.sm, .slice X1 mm.fs.length x1, .slice X2 mm.ss.length x2] 25
  have hxf := FlsAt.below hxf hba
  have hxs := SrcAt.below hxs hba
  have hbl := below_trans hbl hba
  clear hba
  refine (HEN.out _ _ _ hxf hxs).mono ?_
  rintro e w2 ⟨rfl, hb2⟩
  have hX := hX.below hb2
  have hxf := FlsAt.below hxf hb2
  have hxs := SrcAt.below hxs hb2
  have hbl := below_trans hbl hb2
  clear hb2
  go_wp2_with fail
  refine (HDE.out _).mono ?_
  rintro e w3 ⟨fy, sy, rfl, hyf, hys, hb3⟩
  obtain ⟨Y1, y1, rfl, _⟩ := hyf.buf.shape
  obtain ⟨Y2, y2, rfl, _⟩ := hys.buf.shape
  have hyf := hyf.slice
  have hys := hys.slice
  have hba := below_trans hb3 (below_alloc1 w3 (.cells #[.string (bs mm.id), .int .i64 mm.mn, .int .i64 mm.mx, .int .i64 mm.lv, .int .i64 mm.sr, .int .i64 mm.sm, .slice Y1 mm.fs.length y1, .slice Y2 mm.ss.length y2] 25))
  have hX := hX.below hba
  have hxf := FlsAt.below hxf hba
  have hxs := SrcAt.below hxs hba
  have hbl := below_trans hbl hba
  have hyf := FlsAt.below hyf (below_alloc1 w3 (.cells #[.string (bs mm.id), .int .i64 mm.mn, .int .i64 mm.mx, .int .i64 mm.lv, .int .i64 mm.sr, .int .i64 mm.sm, .slice Y1 mm.fs.length y1, .slice Y2 mm.ss.length y2] 25))
  have hys := SrcAt.below hys (below_alloc1 w3 (.cells #[.string (bs mm.id), .int .i64 mm.mn, .int .i64 mm.mx, .int .i64 mm.lv, .int .i64 mm.sr, .int .i64 mm.sm, .slice Y1 mm.fs.length y1, .slice Y2 mm.ss.length y2] 25))
  have hY := Blk.new w3 #[.string (bs mm.id), .int .i64 mm.mn, .int .i64 mm.mx, .int .i64 mm.lv, .int .i64 mm.sr, .int .i64 mm.sm, .slice Y1 mm.fs.length y1, .slice Y2 mm.ss.length y2] 25
  clear hba hb3
  go_upto_region 4 with fail
  obtain ⟨BY, hBY⟩ : ∃ BY, BY = w3.heap.size := ⟨_, rfl⟩
  obtain ⟨w4, hw4⟩ : ∃ w4, w4 = w3.alloc (.cells #[.string (bs mm.id), .int .i64 mm.mn, .int .i64 mm.mx, .int .i64 mm.lv, .int .i64 mm.sr, .int .i64 mm.sm, .slice Y1 mm.fs.length y1, .slice Y2 mm.ss.length y2] 25) := ⟨_, rfl⟩
  rw [← hw4] at hX hxf hxs hbl hyf hys hY ⊢
  rw [← hBY] at hY ⊢
  clear hw4 hBY
  have q0 : w4.cell? ⟨w1.heap.size, 0, none⟩ = some (.string (bs mm.id)) := hX.cell (i := 0) rfl
  have q1 : w4.cell? ⟨w1.heap.size, 1, none⟩ = some (.int .i64 mm.mn) := hX.cell (i := 1) rfl
  have q2 : w4.cell? ⟨w1.heap.size, 2, none⟩ = some (.int .i64 mm.mx) := hX.cell (i := 2) rfl
  have q3 : w4.cell? ⟨w1.heap.size, 3, none⟩ = some (.int .i64 mm.lv) := hX.cell (i := 3) rfl
  have q4 : w4.cell? ⟨w1.heap.size, 4, none⟩ = some (.int .i64 mm.sr) := hX.cell (i := 4) rfl
  have q5 : w4.cell? ⟨w1.heap.size, 5, none⟩ = some (.int .i64 mm.sm) := hX.cell (i := 5) rfl
  have q6 : w4.cell? ⟨w1.heap.size, 6, none⟩ = some (.slice X1 mm.fs.length x1) := hX.cell (i := 6) rfl
  have q7 : w4.cell? ⟨w1.heap.size, 7, none⟩ = some (.slice X2 mm.ss.length x2) := hX.cell (i := 7) rfl
  go_wp2_with fail
  refine (HPU.out _ _ _ hxf hxs).mono ?_
  rintro e w5 ⟨v, rfl, hN⟩
  have hb5 : BBuf w5 5 v F := hN.buf
  have hba := hN.below
  have hcv := hb5.string bytes_ty 9 Try.underlying9
  have hX := hX.below hba
  have hY := hY.below hba
  have hxf := FlsAt.below hxf hba
  have hxs := SrcAt.below hxs hba
  have hyf := FlsAt.below hyf hba
  have hys := SrcAt.below hys hba
  have hbl := below_trans hbl hba
  clear hba hN hb5 q0 q1 q2 q3 q4 q5 q6 q7
  go_wp2_with fail
  refine (HTA.out _).mono ?_
  rintro e w6 ⟨fz, sz, rfl, hzf, hzs, hb6⟩
  obtain ⟨Z1, z1, rfl, _⟩ := hzf.buf.shape
  obtain ⟨Z2, z2, rfl, _⟩ := hzs.buf.shape
  have hzf := FlsAt.below hzf.slice (below_alloc1 w6 (.cells #[.string (bs mm.id), .int .i64 mm.mn, .int .i64 mm.mx, .int .i64 mm.lv, .int .i64 mm.sr, .int .i64 mm.sm, .slice Z1 mm.fs.length z1, .slice Z2 mm.ss.length z2] 25))
  have hzs := SrcAt.below hzs.slice (below_alloc1 w6 (.cells #[.string (bs mm.id), .int .i64 mm.mn, .int .i64 mm.mx, .int .i64 mm.lv, .int .i64 mm.sr, .int .i64 mm.sm, .slice Z1 mm.fs.length z1, .slice Z2 mm.ss.length z2] 25))
  have hba := below_trans hb6 (below_alloc1 w6 (.cells #[.string (bs mm.id), .int .i64 mm.mn, .int .i64 mm.mx, .int .i64 mm.lv, .int .i64 mm.sr, .int .i64 mm.sm, .slice Z1 mm.fs.length z1, .slice Z2 mm.ss.length z2] 25))
  have hX := hX.below hba
  have hY := hY.below hba
  have hxf := FlsAt.below hxf hba
  have hxs := SrcAt.below hxs hba
  have hyf := FlsAt.below hyf hba
  have hys := SrcAt.below hys hba
  have hbl := below_trans hbl hba
  have hZ := Blk.new w6 #[.string (bs mm.id), .int .i64 mm.mn, .int .i64 mm.mx, .int .i64 mm.lv, .int .i64 mm.sr, .int .i64 mm.sm, .slice Z1 mm.fs.length z1, .slice Z2 mm.ss.length z2] 25
  clear hba hb6 hcv
  go_upto_region 5 with fail
  obtain ⟨BZ, hBZ⟩ : ∃ BZ, BZ = w6.heap.size := ⟨_, rfl⟩
  obtain ⟨w7, hw7⟩ : ∃ w7, w7 = w6.alloc (.cells #[.string (bs mm.id), .int .i64 mm.mn, .int .i64 mm.mx, .int .i64 mm.lv, .int .i64 mm.sr, .int .i64 mm.sm, .slice Z1 mm.fs.length z1, .slice Z2 mm.ss.length z2] 25) := ⟨_, rfl⟩
  rw [← hw7] at hX hxf hxs hbl hyf hys hY hzf hzs hZ ⊢
  rw [← hBZ] at hZ ⊢
  clear hw7 hBZ
  have q0 : w7.cell? ⟨w1.heap.size, 0, none⟩ = some (.string (bs mm.id)) := hX.cell (i := 0) rfl
  go_wp2_with fail
  refine (HEM.out _).mono ?_
  rintro e w8 ⟨rfl, hb8⟩
  clear q0
  go_wp2_with fail
  refine (HDM.out _).mono ?_
  rintro e w9 ⟨rfl, hb9⟩
  have hba := below_trans hb8 hb9
  have hX := Lib.hid (hX.below hba)
  have hY := Lib.hid (hY.below hba)
  have hZ := Lib.hid (hZ.below hba)
  have hxf := Lib.hid (FlsAt.below hxf hba)
  have hxs := Lib.hid (SrcAt.below hxs hba)
  have hyf := Lib.hid (FlsAt.below hyf hba)
  have hys := Lib.hid (SrcAt.below hys hba)
  have hzf := Lib.hid (FlsAt.below hzf hba)
  have hzs := Lib.hid (SrcAt.below hzs hba)
  have hbl := Lib.hid (below_trans hbl hba)
  clear hba hb8 hb9
  go_upto_region 6 with fail
  refine wp_region_facts [(0, (isV (.bool true), noFact)), (2, (isV (.agg #[.string (bs mm.id), .int .i64 mm.mn, .int .i64 mm.mx, .int .i64 mm.lv, .int .i64 mm.sr, .int .i64 mm.sm, .slice X1 mm.fs.length x1, .slice X2 mm.ss.length x2]), noFact)), (3, (isV (.int .i64 0), noFact)), (19, (isV (.agg #[.string (bs mm.id), .int .i64 mm.mn, .int .i64 mm.mx, .int .i64 mm.lv, .int .i64 mm.sr, .int .i64 mm.sm, .slice Y1 mm.fs.length y1, .slice Y2 mm.ss.length y2]), noFact)), (20, ((fun v => ∃ A c, v = .agg #[.string (bs mm.id), .int .i64 mm.mn, .int .i64 mm.mx, .int .i64 mm.lv, .int .i64 mm.sr, .int .i64 mm.sm, .slice A mm.fs.length c, .slice Y2 mm.ss.length y2]), (fun v w => ∀ A c, v = .agg #[.string (bs mm.id), .int .i64 mm.mn, .int .i64 mm.mx, .int .i64 mm.lv, .int .i64 mm.sr, .int .i64 mm.sm, .slice A mm.fs.length c, .slice Y2 mm.ss.length y2] → FlsAt w (.slice A mm.fs.length c) mm.fs))), (21, (isV (.agg #[.string (bs mm.id), .int .i64 mm.mn, .int .i64 mm.mx, .int .i64 mm.lv, .int .i64 mm.sr, .int .i64 mm.sm, .slice X1 mm.fs.length x1, .slice X2 mm.ss.length x2]), noFact)), (22, ((fun v => ∃ A c, v = .agg #[.string (bs mm.id), .int .i64 mm.mn, .int .i64 mm.mx, .int .i64 mm.lv, .int .i64 mm.sr, .int .i64 mm.sm, .slice A mm.fs.length c, .slice X2 mm.ss.length x2]), (fun v w => ∀ A c, v = .agg #[.string (bs mm.id), .int .i64 mm.mn, .int .i64 mm.mx, .int .i64 mm.lv, .int .i64 mm.sr, .int .i64 mm.sm, .slice A mm.fs.length c, .slice X2 mm.ss.length x2] → FlsAt w (.slice A mm.fs.length c) mm.fs))), (23, (isV (.bool true), noFact)), (26, (isV (.agg #[.string (bs mm.id), .int .i64 mm.mn, .int .i64 mm.mx, .int .i64 mm.lv, .int .i64 mm.sr, .int .i64 mm.sm, .slice Z1 mm.fs.length z1, .slice Z2 mm.ss.length z2]), noFact)), (27, ((fun v => ∃ A c, v = .agg #[.string (bs mm.id), .int .i64 mm.mn, .int .i64 mm.mx, .int .i64 mm.lv, .int .i64 mm.sr, .int .i64 mm.sm, .slice A mm.fs.length c, .slice Z2 mm.ss.length z2]), (fun v w => ∀ A c, v = .agg #[.string (bs mm.id), .int .i64 mm.mn, .int .i64 mm.mx, .int .i64 mm.lv, .int .i64 mm.sr, .int .i64 mm.sm, .slice A mm.fs.length c, .slice Z2 mm.ss.length z2] → FlsAt w (.slice A mm.fs.length c) mm.fs))), (28, (isV (.agg #[.string (bs mm.id), .int .i64 mm.mn, .int .i64 mm.mx, .int .i64 mm.lv, .int .i64 mm.sr, .int .i64 mm.sm, .slice X1 mm.fs.length x1, .slice X2 mm.ss.length x2]), noFact)), (29, ((fun v => ∃ A c, v = .agg #[.string (bs mm.id), .int .i64 mm.mn, .int .i64 mm.mx, .int .i64 mm.lv, .int .i64 mm.sr, .int .i64 mm.sm, .slice A mm.fs.length c, .slice X2 mm.ss.length x2]), (fun v w => ∀ A c, v = .agg #[.string (bs mm.id), .int .i64 mm.mn, .int .i64 mm.mx, .int .i64 mm.lv, .int .i64 mm.sr, .int .i64 mm.sm, .slice A mm.fs.length c, .slice X2 mm.ss.length x2] → FlsAt w (.slice A mm.fs.length c) mm.fs))), (30, (isV (.bool true), noFact)), (40, (isV (.string (bs mm.id)), noFact))] (by kernel_rfl) 99 (by kernel_rfl) rfl ?_ ?_ ?_
  · apply lookup_ne
    simp only [List.forall_mem_cons, List.not_mem_nil, false_imp_iff, implies_true, and_true]
    exact ⟨⟨_, rfl⟩, ⟨_, rfl⟩, ⟨_, rfl⟩, ⟨_, rfl⟩, ⟨_, none, 0, rfl⟩, ⟨_, rfl⟩, ⟨_, none, 0, rfl⟩, ⟨_, rfl⟩, ⟨_, rfl⟩, ⟨_, none, 0, rfl⟩, ⟨_, rfl⟩, ⟨_, none, 0, rfl⟩, ⟨_, rfl⟩, ⟨_, rfl⟩⟩
  · apply lookup_st
    simp only [List.forall_mem_cons, List.not_mem_nil, false_imp_iff, implies_true, and_true]
    refine ⟨?_, ?_, ?_, ?_, ?_, ?_, ?_, ?_, ?_, ?_, ?_, ?_, ?_, ?_⟩
    all_goals first
      | exact fun _ _ _ _ _ => trivial
      | exact fun v w w' hb hv A c he => FlsAt.below (hv A c he) hb
  repeat
    first
    | (refine Chain.step (v := ?_) (a' := ?_) rfl rfl rfl ?_ ?_ ?_
       rotate_left 2
       focus (intro w; go_simp; try with_reducible rfl)
       focus (simp only [Act.put, List.setIfInBounds_toArray, List.set_cons_succ, List.set_cons_zero]; try rfl))
    | (refine Chain.call' (a' := ?_) _ rfl rfl rfl rfl (fun w hw hF => ?_) ?_ ?_
       rotate_left 1
       focus
         first
         | (go_simp; (with_reducible refine (awake9_any _).mono ?_); exact (fun e w' ⟨h1, h2⟩ => by subst h1; exact ⟨rfl, h2⟩))
         | (go_simp; (with_reducible refine (HCH.out _ _ _ (FlsAt.below hxf.out hw) (SrcAt.below hxs.out hw)).mono ?_); exact (fun e w' ⟨h1, h2⟩ => by subst h1; exact ⟨rfl, h2⟩))
         | (go_simp
            with_reducible refine (HSA.out _ _ _ _ _ ?_ ?_ ?_ ?_).mono ?_
            · exact (hF 20 (by kernel_rfl)) _ _ rfl
            · exact SrcAt.below hys.out hw
            · exact (hF 22 (by kernel_rfl)) _ _ rfl
            · exact SrcAt.below hxs.out hw
            · exact (fun e w' ⟨h1, h2⟩ => by subst h1; exact ⟨rfl, h2⟩))
         | (go_simp
            with_reducible refine (HSA.out _ _ _ _ _ ?_ ?_ ?_ ?_).mono ?_
            · exact (hF 27 (by kernel_rfl)) _ _ rfl
            · exact SrcAt.below hzs.out hw
            · exact (hF 29 (by kernel_rfl)) _ _ rfl
            · exact SrcAt.below hxs.out hw
            · exact (fun e w' ⟨h1, h2⟩ => by subst h1; exact ⟨rfl, h2⟩))
         | (have hh := hX.out.below hw
            have g0 : w.cell? ⟨w1.heap.size, 0, none⟩ = some (.string (bs mm.id)) := hh.cell (i := 0) rfl
            have g1 : w.cell? ⟨w1.heap.size, 1, none⟩ = some (.int .i64 mm.mn) := hh.cell (i := 1) rfl
            have g2 : w.cell? ⟨w1.heap.size, 2, none⟩ = some (.int .i64 mm.mx) := hh.cell (i := 2) rfl
            have g3 : w.cell? ⟨w1.heap.size, 3, none⟩ = some (.int .i64 mm.lv) := hh.cell (i := 3) rfl
            have g4 : w.cell? ⟨w1.heap.size, 4, none⟩ = some (.int .i64 mm.sr) := hh.cell (i := 4) rfl
            have g5 : w.cell? ⟨w1.heap.size, 5, none⟩ = some (.int .i64 mm.sm) := hh.cell (i := 5) rfl
            have g6 : w.cell? ⟨w1.heap.size, 6, none⟩ = some (.slice X1 mm.fs.length x1) := hh.cell (i := 6) rfl
            have g7 : w.cell? ⟨w1.heap.size, 7, none⟩ = some (.slice X2 mm.ss.length x2) := hh.cell (i := 7) rfl
            clear hh
            go_simp
            exact Below.refl _ _)
         | (have hh := hY.out.below hw
            have g0 : w.cell? ⟨BY, 0, none⟩ = some (.string (bs mm.id)) := hh.cell (i := 0) rfl
            have g1 : w.cell? ⟨BY, 1, none⟩ = some (.int .i64 mm.mn) := hh.cell (i := 1) rfl
            have g2 : w.cell? ⟨BY, 2, none⟩ = some (.int .i64 mm.mx) := hh.cell (i := 2) rfl
            have g3 : w.cell? ⟨BY, 3, none⟩ = some (.int .i64 mm.lv) := hh.cell (i := 3) rfl
            have g4 : w.cell? ⟨BY, 4, none⟩ = some (.int .i64 mm.sr) := hh.cell (i := 4) rfl
            have g5 : w.cell? ⟨BY, 5, none⟩ = some (.int .i64 mm.sm) := hh.cell (i := 5) rfl
            have g6 : w.cell? ⟨BY, 6, none⟩ = some (.slice Y1 mm.fs.length y1) := hh.cell (i := 6) rfl
            have g7 : w.cell? ⟨BY, 7, none⟩ = some (.slice Y2 mm.ss.length y2) := hh.cell (i := 7) rfl
            clear hh
            go_simp
            exact Below.refl _ _)
         | (have hh := hZ.out.below hw
            have g0 : w.cell? ⟨BZ, 0, none⟩ = some (.string (bs mm.id)) := hh.cell (i := 0) rfl
            have g1 : w.cell? ⟨BZ, 1, none⟩ = some (.int .i64 mm.mn) := hh.cell (i := 1) rfl
            have g2 : w.cell? ⟨BZ, 2, none⟩ = some (.int .i64 mm.mx) := hh.cell (i := 2) rfl
            have g3 : w.cell? ⟨BZ, 3, none⟩ = some (.int .i64 mm.lv) := hh.cell (i := 3) rfl
            have g4 : w.cell? ⟨BZ, 4, none⟩ = some (.int .i64 mm.sr) := hh.cell (i := 4) rfl
            have g5 : w.cell? ⟨BZ, 5, none⟩ = some (.int .i64 mm.sm) := hh.cell (i := 5) rfl
            have g6 : w.cell? ⟨BZ, 6, none⟩ = some (.slice Z1 mm.fs.length z1) := hh.cell (i := 6) rfl
            have g7 : w.cell? ⟨BZ, 7, none⟩ = some (.slice Z2 mm.ss.length z2) := hh.cell (i := 7) rfl
            clear hh
            go_simp
            exact Below.refl _ _)
       focus (simp only [Act.put, List.setIfInBounds_toArray, List.set_cons_succ, List.set_cons_zero]; try rfl))
    | (refine Chain.make _ _ rfl rfl rfl (fun w hw hF => ?_) (fun v hv a' ha => ?_)
       focus
         go_simp
         (first | (with_reducible refine (HTO.out _ _ _ (FlsAt.below hyf.out hw) (SrcAt.below hys.out hw)).mono ?_) | (with_reducible refine (HTO.out _ _ _ (FlsAt.below hxf.out hw) (SrcAt.below hxs.out hw)).mono ?_) | (with_reducible refine (HTO.out _ _ _ (FlsAt.below hzf.out hw) (SrcAt.below hzs.out hw)).mono ?_))
         rintro e w' ⟨ft, rfl, hft, hbt⟩
         obtain ⟨T, tc, rfl, _⟩ := hft.buf.shape
         exact ⟨hbt, ⟨T, tc, rfl⟩, fun A c he => by simp at he; obtain ⟨rfl, rfl⟩ := he; exact hft.slice⟩
       obtain ⟨T, tc, rfl⟩ := hv
       simp only [Act.put, List.setIfInBounds_toArray, List.set_cons_succ, List.set_cons_zero] at ha
       subst ha)
  refine Chain.end_ (fun wz hwz _ => ?_)
  go_wp2_with fail
  go_ret
  exact ⟨rfl, below_trans hbl.out hwz⟩

theorem metaBack_walk0 (v : Value) (x : Mt × Value × Value) (tick : Int) (_h1 : (Lit.int .i64 tick).wf = true) (seq : Int) (_h2 : (Lit.int .i64 seq).wf = true) (t0 : ByteArray) (ht0 : t0.size ≤ maxLen) (w : World) (hx : MetaArg w v x) :
    Calls Try.prog 7 #[v, .int .i64 tick, .int .i64 seq, .string t0] w (RetBelow w (.bool true)) := by
  obtain ⟨m, fv, sv⟩ := x
  obtain ⟨rfl, hm⟩ := hx
  exact metaBack_walk1 m fv sv tick seq t0 ht0 w hm

set_option maxRecDepth 100000 in
theorem metaBack_lifted (os : Os) (started : os.Started) (H : Type) (enc : TypeId × Value → H) :
    ReturnsInHanded {} Try.checked os 7 .any (Rows.metaBackSpec.pre6 enc Try.prog Try.f7 Rows.metaBackRow.domain false) (Rows.metaBackSpec.post enc Try.prog Try.f7 false true false false) := by
  refine returnsInHanded_of_change_sized (C := Try.checked) law_own started (by kernel_rfl) Try.func7
    (ChangeSpec.witness6 (enc := enc) (C := Try.checked) false ⟨#[], #[.agg #[.string ByteArray.empty, .int .i64 0, .int .i64 0, .int .i64 0, .int .i64 0, .int .i64 0, .slice none 0 0, .slice none 0 0], .int .i64 0, .int .i64 0, .string ByteArray.empty], []⟩ 8 (by kernel_rfl) (by kernel_rfl) (by kernel_rfl) (by kernel_rfl)) ?_
  intro W base args ds gs before hval0 hW _ hsz0 _
  have hval : ∀ (j : Nat) t v, Try.f7.params[j]? = some t → args[j]? = some v → Value.okWide Try.prog W .any base t v := hval0
  have hsz : (DataW.weightsEach Try.prog (Try.f7.params.toList ++ Rows.metaBackSpec.plain.varTypes Try.prog) (ds ++ gs)).all (· ≤ reachBytes) = true := hsz0
  have hW' := hW
  obtain ⟨p, q, hA0, hV, rfl, _, _⟩ := hW
  have hA : DataW.TrodAll enc Try.prog W 0 (fun _ => true) true Try.f7.params.toList args.toList ds p := hA0
  rw [Try.params7] at hA hval hsz
  obtain ⟨v0, vs0, d0, ds0, p0, q0, hargs, rfl, rfl, h0, r0⟩ := trodAll_cons hA
  obtain ⟨v1, vs1, d1, ds1, p1, q1, rfl, rfl, rfl, h1, r1⟩ := trodAll_cons r0
  obtain ⟨v2, vs2, d2, ds2, p2, q2, rfl, rfl, rfl, h2, r2⟩ := trodAll_cons r1
  obtain ⟨v3, vs3, d3, ds3, p3, q3, rfl, rfl, rfl, h3, r3⟩ := trodAll_cons r2
  obtain ⟨rfl, rfl, rfl⟩ := trodAll_nil r3
  obtain rfl : args = #[v0, v1, v2, v3] := by cases args; simp_all
  obtain ⟨rfl, rfl⟩ := trodVars_none hV
  obtain ⟨a1, rfl, rfl, rfl, w1⟩ := open_int Try.underlying3 (hval 1 3 v1 rfl rfl) h1
  obtain ⟨a2, rfl, rfl, rfl, w2⟩ := open_int Try.underlying3 (hval 2 3 v2 rfl rfl) h2
  obtain ⟨a3, rfl, rfl, rfl, w3⟩ := open_string Try.underlying9 (hval 3 9 v3 rfl rfl) h3
  obtain ⟨ts0, hts0⟩ := open_metaV (hval 0 25 v0 rfl rfl) h0
  refine (metaBack_walk0 v0 ts0 a1 w1 a2 w2 a3 w3 W hts0).mono fun e W' ⟨he, hb⟩ => ?_
  subst he
  exact ⟨_, rfl, law_post law_laid (by intro t ht; rw [Try.params7] at ht; simp only [List.mem_cons, List.not_mem_nil, or_false] at ht; rcases ht with rfl | rfl | rfl | rfl <;> exact ⟨by kernel_rfl, of_decide_eq_true (by kernel_rfl)⟩) rfl Try.underlying4 rfl rfl hW' hb⟩

theorem metaBack_holds : Rows.MetaBackSaid :=
  OpenClaim.holds_of_wide 7 Try.f7 rfl rfl rfl rfl rfl rfl rfl ⟨rfl, rfl, rfl, rfl, rfl⟩ rfl rfl rfl rfl rfl (by kernel_rfl) Try.func7 (by kernel_rfl)
    (of_decide_eq_true (by kernel_rfl)) (by unfold Func.isWrapper; first | (rw [if_pos (by decide +kernel)]; kernel_rfl) | (rw [if_neg (by decide +kernel)]; exact ⟨rfl, rfl⟩))
    (fun os started H enc _ => metaBack_lifted os started H enc)

end Go.Proofs.Ytdmhjejjgcfplaa
