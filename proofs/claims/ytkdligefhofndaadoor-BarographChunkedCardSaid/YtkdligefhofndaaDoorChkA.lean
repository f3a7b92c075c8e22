/-
  Top 09: the walks of live and what it calls.
-/
import Derived.Test.YtkdligefhofndaaDoorLebA
import Derived.Test.YtkdligefhofndaaDoorFrmA
import Derived.Test.YtkdligefhofndaaDoorIdtA
import Derived.Test.YtkdligefhofndaaDoorLib11
import Derived.Test.YtkdligefhofndaaDoorLib14
import Derived.Test.YtkdligefhofndaaDoorLib16
import Derived.Test.YtkdligefhofndaaDoorShelf
import Derived.Deep.QuietTactic
import Derived.BigQuiet
import Derived.Lib.BufferMore
namespace Go.Proofs.YtkdligefhofndaaDoor
open Go.RowKit Go.Bar Go.Bar.Leb Go.Bar.Frm Go.Bar.Idt

theorem int_ty : ElemTy Tryd.prog 44 3 (.int .i64 0) 1 8 :=
  ⟨Tryd.underlying44, info_parts (show (Tryd.prog.info? 3).map (fun i => (i.zero, i.size, i.bytes)) = some (some (.int .i64 0), 1, 8) by kernel_rfl), rfl⟩

theorem mk33 : mk 33 1 = [48, 48, 48, 48, 48, 48, 49, 49, 48, 48, 48, 48, 48, 48, 48, 49] := by decide

set_option maxHeartbeats 1000000 in
theorem name16_any (w : World) : Calls Tryd.prog 8 #[] w (RetBelow w (.tuple #[.string (bs [48, 48, 48, 48, 48, 48, 49, 49, 48, 48, 48, 48, 48, 48, 48, 49]), .bool true])) := by
  have h := fun w => make_ok 33 1 w (by constructor <;> decide) (by constructor <;> decide)
  rw [show mk (33 : Int).toNat (1 : Int).toNat = [48, 48, 48, 48, 48, 48, 49, 49, 48, 48, 48, 48, 48, 48, 48, 49] from mk33] at h
  have HC := Lib.hid h
  clear h
  go_enter Tryd.func8, Tryd.ntmps8
  go_wp2_with fail
  refine (HC.out _).mono ?_
  rintro e w1 ⟨rfl, hb⟩
  go_wp2_with fail
  go_ret2
  exact ⟨rfl, hb⟩

theorem dec7 : (⟨(Lib.decDigits 7).toArray⟩ : ByteArray) = bs [55] := by rw [show Lib.decDigits 7 = [55] by decide +kernel]; rfl
theorem rep7 : (⟨(Lib.repeatL [48] 7).toArray⟩ : ByteArray) = bs [48, 48, 48, 48, 48, 48, 48] := by rw [show Lib.repeatL [48] 7 = [48, 48, 48, 48, 48, 48, 48] by decide +kernel]; rfl

set_option maxHeartbeats 1000000 in
theorem walName7_any (w : World) : Calls Tryd.prog 12 #[.int .i64 7] w (RetBelow w (.string (bs [119, 97, 108, 45, 48, 48, 48, 48, 48, 48, 48, 55]))) := by
  have h1 := fun w => Tryd.strconv_Itoa_small 7 (by decide) w
  rw [dec7] at h1
  have h2 := fun w => Tryd.strings_Repeat (bs [48]) 7 w (by decide) (by decide)
  rw [bs_data, rep7] at h2
  have H1 := Lib.hid h1
  have H2 := Lib.hid h2
  clear h1 h2
  go_enter Tryd.func12, Tryd.ntmps12
  go_wp2_with fail
  refine (H1.out _).mono ?_
  rintro e w' ⟨rfl, rfl⟩
  go_wp2_with fail
  refine (H2.out _).mono ?_
  rintro e w1 ⟨rfl, hb⟩
  go_wp2_with fail
  go_ret
  exact ⟨rfl, hb⟩

set_option maxHeartbeats 1000000 in
set_option maxRecDepth 10000 in
theorem iclone_any (v : Value) (n : Nat) (xs : List Value) (w : World) (h : SlAt w 1 v n xs) (h0 : 0 < n) (hl : n ≤ 1000000) (h1 : ∀ u ∈ xs, u.oneCell' = true) :
    Calls Tryd.prog 19 #[v] w fun e w' => ∃ v', e = .returned v' ∧ NBuf w w' 3 1 v' n xs := by
  obtain ⟨A, c, rfl, hlc, hcm⟩ := h.shape
  obtain ⟨b, o, rfl, hb, _⟩ := SlAt.cells h (by omega)
  have hnil := fun w => Lib.run_eql_slice_some_nil (P := Tryd.prog) w (t := 44) ⟨b, o, none⟩ n c Tryd.underlying44
  have hs := fun o => SlAt.src (P := Tryd.prog) (h.below (ba1 w o)) (by omega) (t := 44) Tryd.underlying44 h1
  have HS := Lib.hid hs
  have hnb := NBuf.lit0 (Below.refl w.heap.size w) 3 1
  clear hs
  go_enter Tryd.func19, Tryd.ntmps19
  go_wp2_with (at_builtin; refine wpList_append_el rfl (.tmp 5) (.tmp 6) 44 44 rfl int_ty rfl hnb.buf rfl (HS.out _) (by simp only [maxLen]; omega) (by omega) ?_; intro v' w' hb ha hg; have hn2 := hnb.step hb ha hg; clear hb ha hg)
  go_ret
  rw [Nat.zero_add, List.nil_append] at hn2
  exact ⟨_, rfl, hn2⟩

set_option maxHeartbeats 4000000 in
set_option maxRecDepth 10000 in
theorem meet12_any (va vb : Value) (w : World) (ha : SlAt w 1 va 2 [.int .i64 1, .int .i64 2]) (hb : SlAt w 1 vb 1 [.int .i64 2]) :
    Calls Tryd.prog 20 #[va, vb] w fun e w' => ∃ A c, e = .returned (.slice A 1 c) ∧ Below w.heap.size w w' := by
  obtain ⟨A, c, rfl, hlc, hcm⟩ := ha.shape
  obtain ⟨A', c', rfl, hlc', hcm'⟩ := hb.shape
  obtain ⟨b, o, rfl, hbw, hc⟩ := SlAt.cells ha (by omega)
  obtain ⟨b', o', rfl, hbw', hc'⟩ := SlAt.cells hb (by omega)
  have a0 := hc 0 _ rfl
  have a1 := hc 1 _ rfl
  have d0 := hc' 0 _ rfl
  rw [Nat.add_zero] at a0 d0
  clear hc hc'
  go_enter Tryd.func20, Tryd.ntmps20
  go_wp2_with fail
  go_loopw [6, 7, 5] (fun i k d wr => (∃ q, wr = w.drewN q ∧ d = .slice none 0 0 ∧ k = .int .i64 (0 : Nat) ∧ (i = .int .i64 (0 : Nat) ∨ i = .int .i64 (1 : Nat))) ∨ (i = .int .i64 (2 : Nat) ∧ k = .int .i64 (1 : Nat) ∧ ∃ A c, d = .slice A 1 c ∧ Hid (Below w.heap.size w wr))) (fun i _ _ _ => 2 - (intOf i).toNat)
  case atStart => exact .inl ⟨0, rfl, rfl, rfl, .inl rfl⟩
  case round =>
    rcases hrel with ⟨q, rfl, rfl, rfl, rfl | rfl⟩ | ⟨rfl, rfl, A, cc, rfl, hbl⟩
    · go_wp2_with fail
      go_quiet (fail)
      go_wp2_with fail
      go_roundw
      case rel => exact .inl ⟨_, rfl, rfl, rfl, .inr rfl⟩
      case measure => simp [intOf]
    · have HN := Lib.hid (fun q => NBuf.nil (below_draws w q) 3 1)
      go_wp2_with fail
      go_quiet (fail)
      go_wp2_with fail
      go_quiet (fail)
      go_wp2_with (at_builtin; refine wpList_append_nlit rfl (.tmp 18) (.tmp 23) 44 rfl int_ty rfl (HN.out _) rfl (by simp) rfl (by simp [Value.oneCell']) (by simp only [maxLen]; omega) (by omega) ?_; intro v3 w3 hn3 _; obtain ⟨A3, c3, rfl, _⟩ := hn3.buf.shape; have HN4 := Lib.hid hn3; clear hn3)
      go_roundw
      case rel => exact .inr ⟨rfl, rfl, _, _, rfl, Lib.hid HN4.out.below⟩
      case measure => simp [intOf]
    · go_wp2_with fail
      go_ret
      exact ⟨_, _, rfl, hbl.out⟩

set_option maxHeartbeats 4000000 in
set_option maxRecDepth 10000 in
theorem both12_any (H : Nat) (va vb : Value) (w : World) (h : SlAt w 1 (.slice (some ⟨H, 0, none⟩) 2 2) 2 [va, vb]) (ha : SlAt w 1 va 2 [.int .i64 1, .int .i64 2]) (hb : SlAt w 1 vb 1 [.int .i64 2]) :
    Calls Tryd.prog 11 #[.slice (some ⟨H, 0, none⟩) 2 2] w fun e w' => ∃ A c, e = .returned (.slice A 1 c) ∧ Below w.heap.size w w' := by
  obtain ⟨b, o, he, hbw, hc⟩ := SlAt.cells h (by omega)
  injection he with he
  injection he with e1 e2 _
  subst e1; subst e2
  have a0 := hc 0 _ rfl
  have a1 := hc 1 _ rfl
  rw [Nat.add_zero] at a0
  rw [Nat.zero_add] at a1
  have HCL := Lib.hid (iclone_any va 2 _ w ha (by omega) (by omega) (by simp [Value.oneCell']))
  clear hc
  go_enter Tryd.func11, Tryd.ntmps11
  go_wp2_with fail
  refine HCL.out.mono ?_
  rintro e w1 ⟨c, rfl, hn⟩
  have HN := Lib.hid hn
  have b1 := (hn.below.cell (p := ⟨H, 1, none⟩) hbw).trans a1
  have HB := Lib.hid (hb.below hn.below)
  clear hn
  go_wp2_with fail
  go_loopw [16, 3] (fun i d wr => (wr = w1 ∧ i = .int .i64 (0 : Nat) ∧ d = c) ∨ (i = .int .i64 (1 : Nat) ∧ ∃ A c, d = .slice A 1 c ∧ Hid (Below w.heap.size w wr))) (fun i _ _ => 1 - (intOf i).toNat)
  case atStart => exact .inl ⟨rfl, rfl, rfl⟩
  case round =>
    rcases hrel with ⟨rfl, rfl, rfl⟩ | ⟨rfl, A, cc, rfl, hbl⟩
    · go_wp2_with fail
      refine (meet12_any _ _ _ HN.out.slice HB.out).mono ?_
      rintro e w2 ⟨A, cc, rfl, hb2⟩
      have HB2 := Lib.hid (below_trans HN.out.below hb2)
      clear hb2
      go_wp2_with fail
      go_roundw
      case rel => exact .inr ⟨rfl, _, _, rfl, HB2⟩
      case measure => simp [intOf]
    · go_wp2_with fail
      go_ret
      exact ⟨_, _, rfl, hbl.out⟩

theorem sum9 : sum [49, 50, 51, 52, 53, 54, 55, 56, 57] = 3808858755 := by decide +kernel

set_option maxHeartbeats 4000000 in
set_option maxRecDepth 10000 in
theorem live_any (w : World) : Calls Tryd.prog 4 #[] w (RetBelow w (.bool true)) := by
  have hfa : ∀ w, Calls Tryd.prog 10 #[.string (bs [49, 50, 51, 52, 53, 54, 55, 56, 57])] w fun e w' => e = .returned (.int .u32 3808858755) ∧ w = w' := fun w => by
    have := sum_any (bs [49, 50, 51, 52, 53, 54, 55, 56, 57]) w (by decide)
    rw [bs_data, sum9] at this
    exact this
  have HFA := Lib.hid hfa
  clear hfa
  go_enter Tryd.func4, Tryd.ntmps4
  go_wp2_with fail
  refine (name16_any _).mono ?_
  rintro e w1 ⟨rfl, hb1⟩
  have HB1 := Lib.hid hb1
  clear hb1
  go_wp2_with fail
  refine (uint_any (.slice none 0 0) [] 300 _ (by omega) (by simp) (BBuf.nil _ _)).mono ?_
  rintro e w2 ⟨v1, rfl, h1⟩
  have hc1 := h1.buf.string bytes_ty 9 Tryd.underlying9
  rw [fix3] at hc1
  have HB2 := Lib.hid (below_trans HB1.out h1.nil_below)
  clear h1
  go_wp2_with fail
  refine (HFA.out _).mono ?_
  rintro e w3 ⟨rfl, rfl⟩
  obtain ⟨H, hH⟩ : ∃ H, w2.heap.size = H := ⟨_, rfl⟩
  have s1 := SlAt.of_buf (Buf.lit w2 3 1 2 [.int .i64 1, .int .i64 2] (by simp) (by decide))
  rw [hH] at s1
  obtain ⟨wA, hwA⟩ : ∃ wA, wA = w2.alloc (.cells #[.int .i64 1, .int .i64 2] 3) := ⟨_, rfl⟩
  have s1 : SlAt wA 1 (.slice (some ⟨H, 0, none⟩) 2 2) 2 [.int .i64 1, .int .i64 2] := by rw [hwA]; exact s1
  have hAs : wA.heap.size = H + 1 := by rw [hwA]; simp [World.alloc_eq, hH]
  have s2 := SlAt.of_buf (Buf.lit wA 3 1 1 [.int .i64 2] (by simp) (by decide))
  rw [hAs] at s2
  obtain ⟨wB, hwB⟩ : ∃ wB, wB = wA.alloc (.cells #[.int .i64 2] 3) := ⟨_, rfl⟩
  have s2 : SlAt wB 1 (.slice (some ⟨H + 1, 0, none⟩) 1 1) 1 [.int .i64 2] := by rw [hwB]; exact s2
  have hBs : wB.heap.size = H + 1 + 1 := by rw [hwB]; simp [World.alloc_eq, hAs]
  have s3 := SlAt.of_buf (Buf.lit wB 44 1 2 [.slice (some ⟨H, 0, none⟩) 2 2, .slice (some ⟨H + 1, 0, none⟩) 1 1] (by simp) (by decide))
  rw [hBs] at s3
  obtain ⟨wC, hwC⟩ : ∃ wC, wC = wB.alloc (.cells #[.slice (some ⟨H, 0, none⟩) 2 2, .slice (some ⟨H + 1, 0, none⟩) 1 1] 44) := ⟨_, rfl⟩
  have s3 : SlAt wC 1 (.slice (some ⟨H + 1 + 1, 0, none⟩) 2 2) 2 [.slice (some ⟨H, 0, none⟩) 2 2, .slice (some ⟨H + 1, 0, none⟩) 1 1] := by rw [hwC]; exact s3
  have bAB : Below wA.heap.size wA wB := by rw [hwB]; exact ba1 _ _
  have bBC : Below wB.heap.size wB wC := by rw [hwC]; exact ba1 _ _
  have HBC := Lib.hid (both12_any _ _ _ _ s3 ((s1.below bAB).below bBC) (s2.below bBC))
  have HB3 := Lib.hid (below_trans HB2.out (below_trans (show Below w2.heap.size w2 wA by rw [hwA]; exact ba1 _ _) (below_trans bAB bBC)))
  have HWC := Lib.hid (show wC = ((w2.alloc (.cells #[.int .i64 1, .int .i64 2] 3)).alloc (.cells #[.int .i64 2] 3)).alloc (.cells #[.slice (some ⟨H, 0, none⟩) 2 2, .slice (some ⟨H + 1, 0, none⟩) 1 1] 44) by rw [hwC, hwB, hwA])
  clear s1 s2 s3 hAs hBs bAB bBC hwA hwB hwC
  go_wp2_with fail
  rw [← HWC.out]
  refine HBC.out.mono ?_
  rintro e w4 ⟨A, c, rfl, hb4⟩
  have HB4 := Lib.hid (below_trans HB3.out hb4)
  clear hb4
  go_wp2_with fail
  refine (walName7_any _).mono ?_
  rintro e w5 ⟨rfl, hb5⟩
  have HB5 := Lib.hid (below_trans HB4.out hb5)
  clear hb5
  go_wp2_with fail
  go_ret
  exact ⟨rfl, HB5.out⟩

end Go.Proofs.YtkdligefhofndaaDoor
