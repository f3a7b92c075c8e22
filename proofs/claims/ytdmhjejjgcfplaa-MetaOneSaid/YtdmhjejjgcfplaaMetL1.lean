/-
  Layer 9: MetaOne: bytes that are a meta, or a mark, are its bytes.
-/
import Derived.Test.YtdmhjejjgcfplaaMetE
import Derived.Test.YtdmhjejjgcfplaaLebR
import Derived.Test.YtdmhjejjgcfplaaLib2
import Derived.Test.YtdmhjejjgcfplaaRows
namespace Go.Proofs.Ytdmhjejjgcfplaa
open Go.RowKit Go.Bar Go.Bar.Leb Go.Bar.Frm Go.Bar.Idt Go.Bar.Met Go.ChangeShapes Go.WideShapes Go.ChangeAt
open Go.ChangeMaps (open_string shut_string)

theorem law_own : ownKnob Try.prog.godebug = none := by kernel_rfl
theorem law_laid : laidOutB Try.prog = true := by kernel_rfl

theorem Dec.one {s : List UInt8} {m : Mt} (h : Dec s m) : encode m = s ∧ (∀ f ∈ m.fs, f.sum < 4294967296) ∧ (decodeMark s).2.2 ≠ 0 := by
  obtain ⟨d, h1, h2, _⟩ := h
  obtain ⟨h3, h4⟩ := only_one h1
  obtain ⟨_, h5, h6⟩ := tFields_one h2
  rw [List.append_nil] at h5
  refine ⟨by rw [h3, h5]; rfl, h6, ?_⟩
  have h7 := only_other 1 2 d h4 (by decide)
  rw [← h3] at h7
  intro he
  unfold decodeMark at he
  obtain ⟨x, y, h8⟩ : ∃ x y, only s 2 = (x, y) := ⟨_, _, rfl⟩
  rw [h8] at he h7
  simp only at he h7
  subst h7
  rw [tText_err 16 x 3 (by simp)] at he
  simp only at he
  rw [tNum_err 1099511627776 x 3 (by simp)] at he
  simp at he

set_option maxHeartbeats 4000000 in
set_option maxRecDepth 10000 in
theorem metaOne_walk (s0 : ByteArray) (hs0 : s0.size ≤ maxLen) (w : World) :
    Calls Try.prog 5 #[.string s0] w (RetBelow w (.bool true)) := by
  obtain ⟨l, hl⟩ : ∃ l, l = s0.data.toList.take 400 := ⟨_, rfl⟩
  have hlen : l.length ≤ 400 := by rw [hl]; exact List.length_take_le _ _
  have HL := Lib.hid hl
  clear hl
  have hdm := decodeMark_any l
  obtain ⟨id, n, f, hd⟩ : ∃ a b c, decodeMark l = (a, b, c) := ⟨_, _, _, rfl⟩
  rw [hd] at hdm
  simp only at hdm
  have HM := Lib.hid hdm
  clear hdm
  by_cases hdec : ∃ m, Dec l m
  · obtain ⟨m, hm⟩ := hdec
    obtain ⟨h1, h2, h3⟩ := hm.one
    rw [hd] at h3
    simp only at h3
    have hb1 : ((f : Int) != 0) = true := by rw [bne_iff_ne]; omega
    have hfl : (fields m).length ≤ 400 := by
      have := congrArg List.length h1
      unfold encode at this
      rw [rec_len] at this
      simp only at this
      omega
    have HD := Lib.hid (decode_good hm)
    have he : ∀ fv sv w, FlsAt w fv m.fs → SrcAt w sv m.ss → Calls Try.prog 16 #[.agg #[.string (bs m.id), .int .i64 m.mn, .int .i64 m.mx, .int .i64 m.lv, .int .i64 m.sr, .int .i64 m.sm, fv, sv]] w (RetBelow w (.string (bs l))) := fun fv sv w hf hs => by
      rw [← h1]; exact encode_any m fv sv w hf hs (by omega) h2
    have HE := Lib.hid he
    clear he h1 h2 h3 hm hd
    go_enter Try.func5, Try.ntmps5
    go_wp2_with fail
    refine (cut_any s0 400 _ (by omega) (by omega) hs0).mono ?_
    rintro e w' ⟨rfl, rfl⟩
    rw [show ((400 : Int)).toNat = 400 from rfl, ← HL.out]
    go_wp2_with fail
    refine (HD.out _ (by omega)).mono ?_
    rintro e w1 ⟨fv, sv, rfl, hf, hs, hb⟩
    obtain ⟨A, c, rfl, hlc⟩ := hf.buf.shape
    obtain ⟨A2, c2, rfl, hlc2⟩ := hs.buf.shape
    go_wp2_with fail
    have hM := Blk.new w1 #[.string (bs m.id), .int .i64 m.mn, .int .i64 m.mx, .int .i64 m.lv, .int .i64 m.sr, .int .i64 m.sm, .slice A m.fs.length c, .slice A2 m.ss.length c2] 25
    have hba := below_alloc1 w1 (.cells #[.string (bs m.id), .int .i64 m.mn, .int .i64 m.mx, .int .i64 m.lv, .int .i64 m.sr, .int .i64 m.sm, .slice A m.fs.length c, .slice A2 m.ss.length c2] 25)
    refine (HM.out _ (by omega)).mono ?_
    rintro e w2 ⟨rfl, hb2⟩
    go_wp2_with fail
    refine (awake9_any _).mono ?_
    rintro e w3 ⟨rfl, hb3⟩
    have hM := (hM.below hb2).below hb3
    have hb14 := below_trans (below_trans hba hb2) hb3
    have hf := (hf.below hb14).slice
    have hs := (hs.below hb14).slice
    have hbl := below_trans hb hb14
    clear hb hb14 hba hb2 hb3
    have m0 : w3.cell? ⟨w1.heap.size, 0, none⟩ = some (.string (bs m.id)) := hM.cell (i := 0) rfl
    have m1 : w3.cell? ⟨w1.heap.size, 1, none⟩ = some (.int .i64 m.mn) := hM.cell (i := 1) rfl
    have m2 : w3.cell? ⟨w1.heap.size, 2, none⟩ = some (.int .i64 m.mx) := hM.cell (i := 2) rfl
    have m3 : w3.cell? ⟨w1.heap.size, 3, none⟩ = some (.int .i64 m.lv) := hM.cell (i := 3) rfl
    have m4 : w3.cell? ⟨w1.heap.size, 4, none⟩ = some (.int .i64 m.sr) := hM.cell (i := 4) rfl
    have m5 : w3.cell? ⟨w1.heap.size, 5, none⟩ = some (.int .i64 m.sm) := hM.cell (i := 5) rfl
    have m6 : w3.cell? ⟨w1.heap.size, 6, none⟩ = some (.slice A m.fs.length c) := hM.cell (i := 6) rfl
    have m7 : w3.cell? ⟨w1.heap.size, 7, none⟩ = some (.slice A2 m.ss.length c2) := hM.cell (i := 7) rfl
    clear hM
    go_wp2_with fail
    refine (HE.out _ _ _ hf hs).mono ?_
    rintro e w4 ⟨rfl, hb4⟩
    go_wp2_with fail
    go_ret
    exact ⟨rfl, below_trans hbl hb4⟩
  · have HD := Lib.hid (decode_no (s := l) (fun m h => hdec ⟨m, h⟩))
    clear hdec
    by_cases hf : f = 0
    · subst hf
      have hn := decodeMark_one hd
      have hidl : id.length ≤ 400 := by
        have := congrArg List.length hn
        unfold markB at this
        rw [rec_len] at this
        simp only at this
        unfold markF txt at this
        simp only [List.length_append] at this
        omega
      have hn64 : n ≤ 1099511627776 := by
        have := decodeMark_le l
        rw [hd] at this
        exact this
      have he : ∀ w, Calls Try.prog 25 #[.string (bs id), .int .i64 n] w (RetBelow w (.string (bs l))) := fun w => by
        rw [hn]; exact encodeMark_any id n w (by omega) (by omega) (by omega)
      have HE := Lib.hid he
      clear he hn hd
      go_enter Try.func5, Try.ntmps5
      go_wp2_with fail
      refine (cut_any s0 400 _ (by omega) (by omega) hs0).mono ?_
      rintro e w' ⟨rfl, rfl⟩
      rw [show ((400 : Int)).toNat = 400 from rfl, ← HL.out]
      go_wp2_with fail
      refine (HD.out _ (by omega)).mono ?_
      rintro e w1 ⟨er, her, rfl, hb⟩
      have hb1 : ((er : Int) != 0) = true := by rw [bne_iff_ne]; omega
      clear her
      go_wp2_with fail
      refine (HM.out _ (by omega)).mono ?_
      rintro e w2 ⟨rfl, hb2⟩
      go_wp2_with fail
      refine (awake9_any _).mono ?_
      rintro e w3 ⟨rfl, hb3⟩
      go_wp2_with fail
      refine (HE.out _).mono ?_
      rintro e w4 ⟨rfl, hb4⟩
      go_wp2_with fail
      go_ret
      exact ⟨rfl, below_trans (below_trans (below_trans (below_trans hb (below_alloc1 _ _)) hb2) hb3) hb4⟩
    · have hb0 : ((f : Int) != 0) = true := by rw [bne_iff_ne]; omega
      clear hf hd
      go_enter Try.func5, Try.ntmps5
      go_wp2_with fail
      refine (cut_any s0 400 _ (by omega) (by omega) hs0).mono ?_
      rintro e w' ⟨rfl, rfl⟩
      rw [show ((400 : Int)).toNat = 400 from rfl, ← HL.out]
      go_wp2_with fail
      refine (HD.out _ (by omega)).mono ?_
      rintro e w1 ⟨er, her, rfl, hb⟩
      have hb1 : ((er : Int) != 0) = true := by rw [bne_iff_ne]; omega
      clear her
      go_wp2_with fail
      refine (HM.out _ (by omega)).mono ?_
      rintro e w2 ⟨rfl, hb2⟩
      go_wp2_with fail
      refine (awake9_any _).mono ?_
      rintro e w3 ⟨rfl, hb3⟩
      go_wp2_with fail
      go_ret
      exact ⟨rfl, below_trans (below_trans (below_trans hb (below_alloc1 _ _)) hb2) hb3⟩

set_option maxRecDepth 100000 in
theorem metaOne_lifted (os : Os) (started : os.Started) (H : Type) (enc : TypeId × Value → H) :
    ReturnsInHanded {} Try.checked os 5 .any (Rows.metaOneSpec.pre6 enc Try.prog Try.f5 Rows.metaOneRow.domain false) (Rows.metaOneSpec.post enc Try.prog Try.f5 false true false false) := by
  refine returnsInHanded_of_change_sized (C := Try.checked) law_own started (by kernel_rfl) Try.func5
    (ChangeSpec.witness6 (enc := enc) (C := Try.checked) false ⟨#[], #[.string ByteArray.empty], []⟩ 8 (by kernel_rfl) (by kernel_rfl) (by kernel_rfl) (by kernel_rfl)) ?_
  intro W base args ds gs before hval0 hW _ hsz0 _
  have hval : ∀ (j : Nat) t v, Try.f5.params[j]? = some t → args[j]? = some v → Value.okWide Try.prog W .any base t v := hval0
  have hsz : (DataW.weightsEach Try.prog (Try.f5.params.toList ++ Rows.metaOneSpec.plain.varTypes Try.prog) (ds ++ gs)).all (· ≤ reachBytes) = true := hsz0
  have hW' := hW
  obtain ⟨p, q, hA0, hV, rfl, _, _⟩ := hW
  have hA : DataW.TrodAll enc Try.prog W 0 (fun _ => true) true Try.f5.params.toList args.toList ds p := hA0
  rw [Try.params5] at hA hval hsz
  obtain ⟨v0, vs0, d0, ds0, p0, q0, hargs, rfl, rfl, h0, r0⟩ := trodAll_cons hA
  obtain ⟨rfl, rfl, rfl⟩ := trodAll_nil r0
  obtain rfl : args = #[v0] := by cases args; simp_all
  obtain ⟨rfl, rfl⟩ := trodVars_none hV
  obtain ⟨a0, rfl, rfl, rfl, w0⟩ := open_string Try.underlying9 (hval 0 9 v0 rfl rfl) h0
  refine (metaOne_walk a0 w0 W).mono fun e W' ⟨he, hb⟩ => ?_
  subst he
  exact ⟨_, rfl, law_post law_laid (by intro t ht; rw [Try.params5] at ht; simp only [List.mem_cons, List.not_mem_nil, or_false] at ht; rcases ht with rfl <;> exact ⟨by kernel_rfl, of_decide_eq_true (by kernel_rfl)⟩) rfl Try.underlying4 rfl rfl hW' hb⟩

theorem metaOne_holds : Rows.MetaOneSaid :=
  OpenClaim.holds_of_wide 5 Try.f5 rfl rfl rfl rfl rfl rfl rfl ⟨rfl, rfl, rfl, rfl, rfl⟩ rfl rfl rfl rfl rfl (by kernel_rfl) Try.func5 (by kernel_rfl)
    (of_decide_eq_true (by kernel_rfl)) (by unfold Func.isWrapper; first | (rw [if_pos (by decide +kernel)]; kernel_rfl) | (rw [if_neg (by decide +kernel)]; exact ⟨rfl, rfl⟩))
    (fun os started H enc _ => metaOne_lifted os started H enc)

end Go.Proofs.Ytdmhjejjgcfplaa
