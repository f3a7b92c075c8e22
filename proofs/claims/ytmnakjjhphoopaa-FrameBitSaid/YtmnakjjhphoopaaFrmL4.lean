/-
  Layer 2: FrameBit: texts unlike in one byte have unlike sums.
-/
import Derived.Test.YtmnakjjhphoopaaFrmL
import Derived.Test.YtmnakjjhphoopaaRows
namespace Go.Proofs.Ytmnakjjhphoopaa
open Go.RowKit Go.Bar Go.Bar.Leb Go.Bar.Frm Go.ChangeShapes Go.WideShapes Go.ChangeAt
open Go.ChangeMaps (open_string shut_string)

theorem xor_byte (x y : UInt8) (h : y ≠ 0) : x ^^^ y ≠ x := by
  intro he
  apply h
  have := congrArg (x ^^^ ·) he
  simpa [← UInt8.xor_assoc] using this
theorem u8_xor_byte (x y : UInt8) : bits .xor .u8 (x.toNat : Int) (y.toNat : Int) = ((x ^^^ y).toNat : Int) := by
  rw [u8_xor_nat _ _ (UInt8.toNat_lt x) (UInt8.toNat_lt y), UInt8.toNat_xor]

set_option maxHeartbeats 4000000 in
set_option maxRecDepth 10000 in
theorem frameBit_walk (s0 : ByteArray) (hs0 : s0.size ≤ maxLen) (at0 : Int) (hat0 : (Lit.int .i64 at0).wf = true) (by0 : Int) (hby0 : (Lit.int .u8 by0).wf = true) (w : World) :
    Calls Try.prog 4 #[.string s0, .int .i64 at0, .int .u8 by0] w (RetBelow w (.bool true)) := by
  obtain ⟨ha1, ha2⟩ := bounds_i64 hat0
  obtain ⟨hb1, hb2⟩ := bounds_u8 hby0
  obtain ⟨y, rfl⟩ : ∃ y : UInt8, by0 = y.toNat := ⟨UInt8.ofNat by0.toNat, by simp; omega⟩
  obtain ⟨l, hl⟩ : ∃ l, l = s0.data.toList.take 200 := ⟨_, rfl⟩
  have hlen : l.length ≤ 200 := by rw [hl]; exact List.length_take_le _ _
  have HL := Lib.hid hl
  clear hl hat0 hby0
  by_cases hgo : 0 ≤ at0 ∧ at0 < l.length ∧ y ≠ 0
  · obtain ⟨hg1, hg2, hg3⟩ := hgo
    obtain ⟨p, rfl⟩ : ∃ p : Nat, at0 = p := ⟨at0.toNat, by omega⟩
    have hpl : p < l.length := by omega
    have hy : ((y.toNat : Int) == 0) = false := by
      rw [beq_eq_false_iff_ne]
      intro he
      apply hg3
      apply UInt8.toNat_inj.1
      simp; omega
    obtain ⟨x, hx⟩ : ∃ x, l[p]? = some x := ⟨_, List.getElem?_eq_getElem hpl⟩
    have hsp : l = l.take p ++ x :: l.drop (p + 1) := by
      obtain ⟨h1, h2⟩ := List.getElem?_eq_some_iff.1 hx
      rw [← h2, ← List.drop_eq_getElem_cons h1, List.take_append_drop]
    have hset : l.set p (x ^^^ y) = l.take p ++ (x ^^^ y) :: l.drop (p + 1) := List.set_eq_take_append_cons_drop.trans (by rw [if_pos hpl])
    have hne : sum (l.set p (x ^^^ y)) ≠ sum l := by
      rw [hset]
      conv => rhs; rw [hsp]
      exact sum_byte _ _ _ _ (xor_byte x y hg3)
    have HX := Lib.hid hx
    have HN := Lib.hid hne
    have hxor := u8_xor_byte x y
    clear hx hsp hset hne hg3
    go_enter Try.func4, Try.ntmps4
    go_wp2_with fail
    refine (cut_any s0 200 _ (by omega) (by omega) hs0).mono ?_
    rintro e w' ⟨rfl, rfl⟩
    rw [show ((200 : Int)).toNat = 200 from rfl, ← HL.out]
    go_wp2_with fail
    refine (awake2_any _).mono ?_
    rintro e w1 ⟨rfl, hl1⟩
    go_wp2_with ((with_reducible refine wpList_bytes rfl (.tmp 27) 28 9 rfl bytes_ty Try.underlying9 (bs l) rfl (by rw [bs_size]; unfold maxLen; omega) ?_); intro b w2 hb2 hl2 hown; rw [bs_data] at hb2; obtain ⟨B, o, c, rfl, hB, hc, hcell, hfz⟩ := Buf.at_ hb2 (by omega); have hck := hcell p hpl; rw [bcs, List.getElem?_map, HX.out] at hck; have hck : w2.cell? ⟨B, o + p, none⟩ = some (.int .u8 x.toNat) := hck; have hfk := hfz p hpl; have hst : BBuf (w2.setCell ⟨B, o + p, none⟩ (.int .u8 ((x.toNat ^^^ y.toNat : Nat) : Int))) 5 (.slice (some ⟨B, o, none⟩) l.length c) (l.set p (x ^^^ y)) := (by
      have := Buf.store hb2 hpl (.int .u8 ((x.toNat ^^^ y.toNat : Nat) : Int))
      unfold BBuf
      rw [List.length_set, bcs, List.map_set, UInt8.toNat_xor]
      exact this); have hcv := BBuf.string bytes_ty hst 9 Try.underlying9; clear hcell hfz)
    have hlp : (l.set p (x ^^^ y)).length = l.length := List.length_set
    go_wp2_with fail
    refine (sum_any (bs (l.set p (x ^^^ y))) _ (by rw [bs_size, hlp]; unfold maxLen; omega)).mono ?_
    rintro e w' ⟨rfl, rfl⟩
    go_wp2_with fail
    refine (sum_any (bs l) _ (by rw [bs_size]; unfold maxLen; omega)).mono ?_
    rintro e w' ⟨rfl, rfl⟩
    have hcmp : (((sum (bs (l.set p (x ^^^ y))).data.toList : Nat) : Int) != ((sum (bs l).data.toList : Nat) : Int)) = true := by
      rw [bne_iff_ne]
      have := HN.out
      rw [bs_data, bs_data]
      omega
    go_wp2_with fail
    go_ret
    have hBe : B = w1.heap.size := by simpa [Value.ownBlock] using hown
    exact ⟨rfl, (below_trans hl1 hl2).setCell (by rw [hBe]; exact hl1.size) _⟩
  · have hend : at0 < 0 ∨ 0 ≤ at0 ∧ (l.length : Int) ≤ at0 ∨ 0 ≤ at0 ∧ at0 < l.length ∧ y = 0 := by
      by_cases h1 : 0 ≤ at0
      · by_cases h2 : at0 < l.length
        · by_cases h3 : y = 0
          · exact .inr (.inr ⟨h1, h2, h3⟩)
          · exact absurd ⟨h1, h2, h3⟩ hgo
        · exact .inr (.inl ⟨h1, by omega⟩)
      · exact .inl (by omega)
    clear hgo
    rcases hend with h1 | ⟨h1, h2⟩ | ⟨h1, h2, rfl⟩
    all_goals
      go_enter Try.func4, Try.ntmps4
      go_wp2_with fail
      refine (cut_any s0 200 _ (by omega) (by omega) hs0).mono ?_
      rintro e w' ⟨rfl, rfl⟩
      rw [show ((200 : Int)).toNat = 200 from rfl, ← HL.out]
      go_wp2_with fail
      refine (awake2_any _).mono ?_
      rintro e w1 ⟨rfl, hl1⟩
      go_wp2_with fail
      refine (awake2_any _).mono ?_
      rintro e w2 ⟨rfl, hl2⟩
      go_wp2_with fail
      go_ret
      exact ⟨rfl, below_trans hl1 hl2⟩

set_option maxRecDepth 100000 in
theorem frameBit_lifted (os : Os) (started : os.Started) (H : Type) (enc : TypeId × Value → H) :
    ReturnsInHanded {} Try.checked os 4 .any (Rows.frameBitSpec.pre6 enc Try.prog Try.f4 Rows.frameBitRow.domain false) (Rows.frameBitSpec.post enc Try.prog Try.f4 false true false false) := by
  refine returnsInHanded_of_change_sized (C := Try.checked) law_own started (by kernel_rfl) Try.func4
    (ChangeSpec.witness6 (enc := enc) (C := Try.checked) false ⟨#[], #[.string ByteArray.empty, .int .i64 0, .int .u8 0], []⟩ 8 (by kernel_rfl) (by kernel_rfl) (by kernel_rfl) (by kernel_rfl)) ?_
  intro W base args ds gs before hval0 hW _ hsz0 _
  have hval : ∀ (j : Nat) t v, Try.f4.params[j]? = some t → args[j]? = some v → Value.okWide Try.prog W .any base t v := hval0
  have hsz : (DataW.weightsEach Try.prog (Try.f4.params.toList ++ Rows.frameBitSpec.plain.varTypes Try.prog) (ds ++ gs)).all (· ≤ reachBytes) = true := hsz0
  have hW' := hW
  obtain ⟨p, q, hA0, hV, rfl, _, _⟩ := hW
  have hA : DataW.TrodAll enc Try.prog W 0 (fun _ => true) true Try.f4.params.toList args.toList ds p := hA0
  rw [Try.params4] at hA hval hsz
  obtain ⟨v0, vs0, d0, ds0, p0, q0, hargs, rfl, rfl, h0, r0⟩ := trodAll_cons hA
  obtain ⟨v1, vs1, d1, ds1, p1, q1, rfl, rfl, rfl, h1, r1⟩ := trodAll_cons r0
  obtain ⟨v2, vs2, d2, ds2, p2, q2, rfl, rfl, rfl, h2, r2⟩ := trodAll_cons r1
  obtain ⟨rfl, rfl, rfl⟩ := trodAll_nil r2
  obtain rfl : args = #[v0, v1, v2] := by cases args; simp_all
  obtain ⟨rfl, rfl⟩ := trodVars_none hV
  obtain ⟨a0, rfl, rfl, rfl, w0⟩ := open_string Try.underlying9 (hval 0 9 v0 rfl rfl) h0
  obtain ⟨a1, rfl, rfl, rfl, w1⟩ := open_int Try.underlying3 (hval 1 3 v1 rfl rfl) h1
  obtain ⟨a2, rfl, rfl, rfl, w2⟩ := open_int Try.underlying5 (hval 2 5 v2 rfl rfl) h2
  refine (frameBit_walk a0 w0 a1 w1 a2 w2 W).mono fun e W' ⟨he, hb⟩ => ?_
  subst he
  exact ⟨_, rfl, law_post law_laid (by intro t ht; rw [Try.params4] at ht; simp only [List.mem_cons, List.not_mem_nil, or_false] at ht; rcases ht with rfl | rfl | rfl <;> exact ⟨by kernel_rfl, of_decide_eq_true (by kernel_rfl)⟩) rfl Try.underlying4 rfl rfl hW' hb⟩

theorem frameBit_holds : Rows.FrameBitSaid :=
  OpenClaim.holds_of_wide 4 Try.f4 rfl rfl rfl rfl rfl rfl rfl ⟨rfl, rfl, rfl, rfl, rfl⟩ rfl rfl rfl rfl rfl (by kernel_rfl) Try.func4 (by kernel_rfl)
    (of_decide_eq_true (by kernel_rfl)) (by unfold Func.isWrapper; first | (rw [if_pos (by decide +kernel)]; kernel_rfl) | (rw [if_neg (by decide +kernel)]; exact ⟨rfl, rfl⟩))
    (fun os started H enc _ => frameBit_lifted os started H enc)

end Go.Proofs.Ytmnakjjhphoopaa
