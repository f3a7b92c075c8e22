/-
  Layer 8: the walks of ident's functions.
-/
import Derived.Test.YtnoebccoaeiakaaGreatDoorZWalEH
import Derived.Test.YtnoebccoaeiakaaGreatDoorZHdA
import Derived.Test.YtnoebccoaeiakaaGreatDoorZLib1
import Derived.Lib.Strings
import Derived.Test.YtnoebccoaeiakaaGreatDoorZLib4
import Derived.Test.YtnoebccoaeiakaaGreatDoorZLib5
import Derived.Lib.Bytealg
import Derived.BigQuiet
import Derived.Deep.QuietTactic
import Derived.Test.YtnoebccoaeiakaaGreatDoorZHdI
import Derived.Test.YtnoebccoaeiakaaGreatDoorZLib11
import Derived.Test.YtnoebccoaeiakaaGreatDoorZLib14
import Derived.Test.YtnoebccoaeiakaaGreatDoorZLib16
import Derived.Test.YtnoebccoaeiakaaGreatDoorZShelf
import Derived.Lib.BufferMore
import Derived.Test.YtnoebccoaeiakaaGreatDoorZRws
import Derived.Test.YtnoebccoaeiakaaGreatDoorZLabG
import Derived.Test.YtnoebccoaeiakaaGreatDoorZLib22
import Derived.Deep.CutRange

namespace Go.Proofs.YtnoebccoaeiakaaGreatDoor
open Go.RowKit Go.Bar Go.Bar.Idt

theorem sgn_get (k : Nat) (h : k < (bs Go.Bar.Idt.signs).size) : (bs Go.Bar.Idt.signs)[k]'h = sgn k := by
  unfold sgn
  rw [List.getD_eq_getElem?_getD, List.getElem?_eq_getElem h]
  rfl
theorem and31 (n : Nat) (h : n < 9223372036854775808) : bits .and .i64 (n : Int) 31 = ((n % 32 : Nat) : Int) := by
  have := i64_and_nat n 31 h (by omega)
  rw [show n &&& 31 = n % 2 ^ 5 from Nat.and_two_pow_sub_one_eq_mod n 5] at this
  exact this
theorem bcs_set (l : List UInt8) (i : Nat) (c : UInt8) : bcs (l.set i c) = (bcs l).set i (.int .u8 (c.toNat : Int)) := List.map_set

set_option maxHeartbeats 1000000 in
set_option maxRecDepth 10000 in
theorem digits_any (n : Nat) (w : World) (hn : n < 1099511627776) :
    Calls Tryz.prog 87 #[.int .i64 n] w (RetBelow w (.string (bs (dg 8 n)))) := by
  go_enter Tryz.func87, Tryz.ntmps87
  go_wp2_with fail
  go_loopw [0, 4] (fun m i wr => ∃ (q k : Nat) (l : List UInt8), q ≤ 8 ∧ (q = 0 ∧ i = .int .i64 (-1) ∨ ∃ p, q = p + 1 ∧ i = .int .i64 (p : Int)) ∧ m = .int .i64 k ∧ k < 1099511627776 ∧ l.length = 8 ∧ Buf wr 223 1 (.slice (some ⟨w.heap.size, 0, none⟩) 8 8) 8 (bcs l) ∧ Below w.heap.size w wr ∧ Hid (k = n / 32 ^ (8 - q) ∧ l.drop q = dg (8 - q) n))
    (fun _ i _ => (intOf i + 1).toNat)
  case atStart => exact ⟨8, n, List.replicate 8 0, Nat.le_refl _, .inr ⟨7, rfl, rfl⟩, rfl, hn, rfl, Buf.lit w _ 1 8 [.int .u8 0, .int .u8 0, .int .u8 0, .int .u8 0, .int .u8 0, .int .u8 0, .int .u8 0, .int .u8 0] rfl (by decide), (Below.refl _ _).alloc (Nat.le_refl _) _, (by simp : n = n / 32 ^ 0), rfl⟩
  case round =>
    obtain ⟨q, k, l, hq, hi, rfl, hk, hll, hb, hbl, HK⟩ := hrel
    rcases hi with ⟨rfl, rfl⟩ | ⟨p, rfl, rfl⟩
    · have hl : l = dg 8 n := HK.out.2
      have hsl : SlAt wr 1 (.slice (some ⟨w.heap.size, 0, none⟩) l.length 8) l.length (bcs l) := by rw [hll]; exact SlAt.of_buf hb
      have hcv := hsl.string bytes_ty 9 Tryz.underlying9
      rw [hll] at hcv
      have HL := Lib.hid hl
      clear hsl hl hb
      go_wp2_with fail
      go_ret
      rw [← HL.out]
      exact ⟨rfl, hbl⟩
    · have hand := and31 k (by omega)
      have h32 : k % 32 < (bs Go.Bar.Idt.signs).size := by rw [bs_size, signs_length]; omega
      have hst := Buf.store hb (j := p) (by omega) (.int .u8 (((bs Go.Bar.Idt.signs)[k % 32]'h32).toNat : Int))
      obtain ⟨hc1, hc2⟩ := hb.cellAt (j := p) (by omega)
      rw [Nat.zero_add] at hst hc1 hc2
      rw [List.getElem?_eq_getElem (by rw [bcs_length]; omega)] at hc1
      have H32 := Lib.hid h32
      have HST := Lib.hid hst
      clear hb hst
      go_wp2_with fail
      go_roundw
      case rel =>
        refine ⟨p, k / 32, l.set p (sgn (k % 32)), by omega, ?_, by go_num, by omega, by rw [List.length_set]; exact hll, by rw [bcs_set, ← sgn_get _ H32.out]; exact HST.out, hbl.setCell (by simp) _, ?_, ?_⟩
        · rcases p with _ | p
          · exact .inl ⟨rfl, rfl⟩
          · exact .inr ⟨p, rfl, by go_num⟩
        · show k / 32 = n / 32 ^ (8 - p)
          have e8 : 8 - p = (8 - (p + 1)) + 1 := by omega
          rw [HK.out.1, Nat.div_div_eq_div_mul, ← Nat.pow_succ, e8]
        · show (l.set p (sgn (k % 32))).drop p = dg (8 - p) n
          have e8 : 8 - p = (8 - (p + 1)) + 1 := by omega
          have e9 := List.drop_eq_getElem_cons (l := l.set p (sgn (k % 32))) (i := p) (by rw [List.length_set]; omega)
          rw [e8, dg_cons, ← HK.out.2, ← HK.out.1, e9, List.getElem_set_self, List.drop_set_of_lt (by omega)]
      case measure => simp [intOf]

def okT (n : Int) : Prop := 0 ≤ n ∧ n < 1099511627776

theorem digits_int (t : Int) (w : World) (h1 : 0 ≤ t) (h2 : t < 1099511627776) :
    Calls Tryz.prog 87 #[.int .i64 t] w (RetBelow w (.string (bs (dg 8 t.toNat)))) := by
  obtain ⟨n, rfl⟩ := Int.eq_ofNat_of_zero_le h1
  exact digits_any n w (by omega)

set_option maxHeartbeats 1000000 in
set_option maxRecDepth 10000 in
theorem make_ok (t s : Int) (w : World) (ht : okT t) (hs : okT s) :
    Calls Tryz.prog 49 #[.int .i64 t, .int .i64 s] w (RetBelow w (.tuple #[.string (bs (mk t.toNat s.toNat)), .int .i64 0])) := by
  obtain ⟨ht1, ht2⟩ := ht
  obtain ⟨hs1, hs2⟩ := hs
  obtain ⟨x, hx⟩ : ∃ x, dg 8 t.toNat = x := ⟨_, rfl⟩
  obtain ⟨y, hy⟩ : ∃ y, dg 8 s.toNat = y := ⟨_, rfl⟩
  have hl : x.length ≤ 8 ∧ y.length ≤ 8 := by rw [← hx, ← hy, dg_length, dg_length]; omega
  obtain ⟨hl1, hl2⟩ := hl
  have hnl : ¬ 9223372036854775807 < x.length + y.length := by omega
  have H1 := digits_int t
  have H2 := digits_int s
  rw [hx] at H1
  rw [hy] at H2
  have HM : mk t.toNat s.toNat = x ++ y := by rw [mk, hx, hy]
  rw [HM]
  have G1 := Lib.hid H1
  have G2 := Lib.hid H2
  clear H1 H2 HM hx hy
  go_enter Tryz.func49, Tryz.ntmps49
  go_wp2_with fail
  refine (G1.out _ ht1 ht2).mono ?_
  rintro e w1 ⟨rfl, hb1⟩
  go_wp2_with fail
  refine (G2.out _ hs1 hs2).mono ?_
  rintro e w2 ⟨rfl, hb2⟩
  go_wp2_with fail
  go_ret2
  exact ⟨rfl, below_trans hb1 hb2⟩

end Go.Proofs.YtnoebccoaeiakaaGreatDoor

namespace Go.Proofs.YtnoebccoaeiakaaGreatDoor
open Go.RowKit Go.Bar Go.Bar.Leb Go.Bar.Frm Go.Bar.Idt

theorem plistC_ty : ElemTy Tryz.prog 71 3 (.int .i64 0) 1 8 :=
  ⟨Tryz.underlying71, info_parts (show (Tryz.prog.info? 3).map (fun i => (i.zero, i.size, i.bytes)) = some (some (.int .i64 0), 1, 8) by kernel_rfl), rfl⟩

theorem mk33 : mk 33 1 = [48, 48, 48, 48, 48, 48, 49, 49, 48, 48, 48, 48, 48, 48, 48, 49] := by decide

set_option maxHeartbeats 1000000 in
theorem name16_any (w : World) : Calls Tryz.prog 19 #[] w (RetBelow w (.tuple #[.string (bs [48, 48, 48, 48, 48, 48, 49, 49, 48, 48, 48, 48, 48, 48, 48, 49]), .bool true])) := by
  have h := fun w => make_ok 33 1 w (by constructor <;> decide) (by constructor <;> decide)
  rw [show mk (33 : Int).toNat (1 : Int).toNat = [48, 48, 48, 48, 48, 48, 49, 49, 48, 48, 48, 48, 48, 48, 48, 49] from mk33] at h
  have HC := Lib.hid h
  clear h
  go_enter Tryz.func19, Tryz.ntmps19
  go_wp2_with fail
  refine (HC.out _).mono ?_
  rintro e w1 ⟨rfl, hb⟩
  go_wp2_with fail
  go_ret2
  exact ⟨rfl, hb⟩

theorem dec7 : (⟨(Lib.decDigits 7).toArray⟩ : ByteArray) = bs [55] := by rw [show Lib.decDigits 7 = [55] by decide +kernel]; rfl
theorem rep7 : (⟨(Lib.repeatL [48] 7).toArray⟩ : ByteArray) = bs [48, 48, 48, 48, 48, 48, 48] := by rw [show Lib.repeatL [48] 7 = [48, 48, 48, 48, 48, 48, 48] by decide +kernel]; rfl

set_option maxHeartbeats 1000000 in
theorem walName7_any (w : World) : Calls Tryz.prog 23 #[.int .i64 7] w (RetBelow w (.string (bs [119, 97, 108, 45, 48, 48, 48, 48, 48, 48, 48, 55]))) := by
  have h1 := fun w => Tryz.strconv_Itoa_small 7 (by decide) w
  rw [dec7] at h1
  have h2 := fun w => Tryz.strings_Repeat (bs [48]) 7 w (by decide) (by decide)
  rw [bs_data, rep7] at h2
  have H1 := Lib.hid h1
  have H2 := Lib.hid h2
  clear h1 h2
  go_enter Tryz.func23, Tryz.ntmps23
  go_wp2_with fail
  refine (H1.out _).mono ?_
  rintro e w' ⟨rfl, rfl⟩
  go_wp2_with fail
  refine (H2.out _).mono ?_
  rintro e w1 ⟨rfl, hb⟩
  go_wp2_with fail
  go_ret
  exact ⟨rfl, hb⟩

set_option maxHeartbeats 1000000 in
set_option maxRecDepth 10000 in
theorem iclone_any (v : Value) (n : Nat) (xs : List Value) (w : World) (h : SlAt w 1 v n xs) (h0 : 0 < n) (hl : n ≤ 1000000) (h1 : ∀ u ∈ xs, u.oneCell' = true) :
    Calls Tryz.prog 51 #[v] w fun e w' => ∃ v', e = .returned v' ∧ NBuf w w' 3 1 v' n xs := by
  obtain ⟨A, c, rfl, hlc, hcm⟩ := h.shape
  obtain ⟨b, o, rfl, hb, _⟩ := SlAt.cells h (by omega)
  have hnil := fun w => Lib.run_eql_slice_some_nil (P := Tryz.prog) w (t := 71) ⟨b, o, none⟩ n c Tryz.underlying71
  have hs := fun o => SlAt.src (P := Tryz.prog) (h.below (ba1 w o)) (by omega) (t := 71) Tryz.underlying71 h1
  have HS := Lib.hid hs
  have hnb := NBuf.lit0 (Below.refl w.heap.size w) 3 1
  clear hs
  go_enter Tryz.func51, Tryz.ntmps51
  go_wp2_with (at_builtin; refine wpList_append_el rfl (.tmp 5) (.tmp 6) 71 71 rfl plistC_ty rfl hnb.buf rfl (HS.out _) (by simp only [maxLen]; omega) (by omega) ?_; intro v' w' hb ha hg; have hn2 := hnb.step hb ha hg; clear hb ha hg)
  go_ret
  rw [Nat.zero_add, List.nil_append] at hn2
  exact ⟨_, rfl, hn2⟩

set_option maxHeartbeats 4000000 in
set_option maxRecDepth 10000 in
theorem meet12_any (va vb : Value) (w : World) (ha : SlAt w 1 va 2 [.int .i64 1, .int .i64 2]) (hb : SlAt w 1 vb 1 [.int .i64 2]) :
    Calls Tryz.prog 52 #[va, vb] w fun e w' => ∃ A c, e = .returned (.slice A 1 c) ∧ Below w.heap.size w w' := by
  obtain ⟨A, c, rfl, hlc, hcm⟩ := ha.shape
  obtain ⟨A', c', rfl, hlc', hcm'⟩ := hb.shape
  obtain ⟨b, o, rfl, hbw, hc⟩ := SlAt.cells ha (by omega)
  obtain ⟨b', o', rfl, hbw', hc'⟩ := SlAt.cells hb (by omega)
  have a0 := hc 0 _ rfl
  have a1 := hc 1 _ rfl
  have d0 := hc' 0 _ rfl
  rw [Nat.add_zero] at a0 d0
  clear hc hc'
  go_enter Tryz.func52, Tryz.ntmps52
  go_wp2_with fail
  go_loopw [6, 7, 5] (fun i k d wr => (∃ q, wr = w.drewN q ∧ d = .slice none 0 0 ∧ k = .int .i64 (0 : Nat) ∧ (i = .int .i64 (0 : Nat) ∨ i = .int .i64 (1 : Nat))) ∨ (i = .int .i64 (2 : Nat) ∧ k = .int .i64 (1 : Nat) ∧ ∃ A c, d = .slice A 1 c ∧ Hid (Below w.heap.size w wr))) (fun i _ _ _ => 2 - (intOf i).toNat)
  case atStart => exact .inl ⟨0, rfl, rfl, rfl, .inl rfl⟩
  case round =>
    rcases hrel with ⟨q, rfl, rfl, rfl, rfl | rfl⟩ | ⟨rfl, rfl, A, cc, rfl, hbl⟩
    · go_wp2_with fail
      go_quiet (fail)
      go_wp2_with fail
      go_roundw
      case rel => exact .inl ⟨_, rfl, rfl, rfl, .inr rfl⟩
      case measure => simp [intOf]
    · have HN := Lib.hid (fun q => NBuf.nil (below_draws w q) 3 1)
      go_wp2_with fail
      go_quiet (fail)
      go_wp2_with fail
      go_quiet (fail)
      go_wp2_with (at_builtin; refine wpList_append_nlit rfl (.tmp 18) (.tmp 23) 71 rfl plistC_ty rfl (HN.out _) rfl (by simp) rfl (by simp [Value.oneCell']) (by simp only [maxLen]; omega) (by omega) ?_; intro v3 w3 hn3 _; obtain ⟨A3, c3, rfl, _⟩ := hn3.buf.shape; have HN4 := Lib.hid hn3; clear hn3)
      go_roundw
      case rel => exact .inr ⟨rfl, rfl, _, _, rfl, Lib.hid HN4.out.below⟩
      case measure => simp [intOf]
    · go_wp2_with fail
      go_ret
      exact ⟨_, _, rfl, hbl.out⟩

set_option maxHeartbeats 4000000 in
set_option maxRecDepth 10000 in
theorem both12_any (H : Nat) (va vb : Value) (w : World) (h : SlAt w 1 (.slice (some ⟨H, 0, none⟩) 2 2) 2 [va, vb]) (ha : SlAt w 1 va 2 [.int .i64 1, .int .i64 2]) (hb : SlAt w 1 vb 1 [.int .i64 2]) :
    Calls Tryz.prog 22 #[.slice (some ⟨H, 0, none⟩) 2 2] w fun e w' => ∃ A c, e = .returned (.slice A 1 c) ∧ Below w.heap.size w w' := by
  obtain ⟨b, o, he, hbw, hc⟩ := SlAt.cells h (by omega)
  injection he with he
  injection he with e1 e2 _
  subst e1; subst e2
  have a0 := hc 0 _ rfl
  have a1 := hc 1 _ rfl
  rw [Nat.add_zero] at a0
  rw [Nat.zero_add] at a1
  have HCL := Lib.hid (iclone_any va 2 _ w ha (by omega) (by omega) (by simp [Value.oneCell']))
  clear hc
  go_enter Tryz.func22, Tryz.ntmps22
  go_wp2_with fail
  refine HCL.out.mono ?_
  rintro e w1 ⟨c, rfl, hn⟩
  have HN := Lib.hid hn
  have b1 := (hn.below.cell (p := ⟨H, 1, none⟩) hbw).trans a1
  have HB := Lib.hid (hb.below hn.below)
  clear hn
  go_wp2_with fail
  go_loopw [16, 3] (fun i d wr => (wr = w1 ∧ i = .int .i64 (0 : Nat) ∧ d = c) ∨ (i = .int .i64 (1 : Nat) ∧ ∃ A c, d = .slice A 1 c ∧ Hid (Below w.heap.size w wr))) (fun i _ _ => 1 - (intOf i).toNat)
  case atStart => exact .inl ⟨rfl, rfl, rfl⟩
  case round =>
    rcases hrel with ⟨rfl, rfl, rfl⟩ | ⟨rfl, A, cc, rfl, hbl⟩
    · go_wp2_with fail
      refine (meet12_any _ _ _ HN.out.slice HB.out).mono ?_
      rintro e w2 ⟨A, cc, rfl, hb2⟩
      have HB2 := Lib.hid (below_trans HN.out.below hb2)
      clear hb2
      go_wp2_with fail
      go_roundw
      case rel => exact .inr ⟨rfl, _, _, rfl, HB2⟩
      case measure => simp [intOf]
    · go_wp2_with fail
      go_ret
      exact ⟨_, _, rfl, hbl.out⟩

theorem sum9 : sum [49, 50, 51, 52, 53, 54, 55, 56, 57] = 3808858755 := by decide +kernel

set_option maxHeartbeats 4000000 in
set_option maxRecDepth 10000 in
theorem live_any (w : World) : Calls Tryz.prog 4 #[] w (RetBelow w (.bool true)) := by
  have hfa : ∀ w, Calls Tryz.prog 21 #[.string (bs [49, 50, 51, 52, 53, 54, 55, 56, 57])] w fun e w' => e = .returned (.int .u32 3808858755) ∧ w = w' := fun w => by
    have := sum_any (bs [49, 50, 51, 52, 53, 54, 55, 56, 57]) w (by decide)
    rw [bs_data, sum9] at this
    exact this
  have HFA := Lib.hid hfa
  clear hfa
  go_enter Tryz.func4, Tryz.ntmps4
  go_wp2_with fail
  refine (name16_any _).mono ?_
  rintro e w1 ⟨rfl, hb1⟩
  have HB1 := Lib.hid hb1
  clear hb1
  go_wp2_with fail
  refine (uint_any (.slice none 0 0) [] 300 _ (by omega) (by simp) (BBuf.nil _ _)).mono ?_
  rintro e w2 ⟨v1, rfl, h1⟩
  have hc1 := h1.buf.string bytes_ty 9 Tryz.underlying9
  rw [fix3] at hc1
  have HB2 := Lib.hid (below_trans HB1.out h1.nil_below)
  clear h1
  go_wp2_with fail
  refine (HFA.out _).mono ?_
  rintro e w3 ⟨rfl, rfl⟩
  obtain ⟨H, hH⟩ : ∃ H, w2.heap.size = H := ⟨_, rfl⟩
  have s1 := SlAt.of_buf (Buf.lit w2 3 1 2 [.int .i64 1, .int .i64 2] (by simp) (by decide))
  rw [hH] at s1
  obtain ⟨wA, hwA⟩ : ∃ wA, wA = w2.alloc (.cells #[.int .i64 1, .int .i64 2] 3) := ⟨_, rfl⟩
  have s1 : SlAt wA 1 (.slice (some ⟨H, 0, none⟩) 2 2) 2 [.int .i64 1, .int .i64 2] := by rw [hwA]; exact s1
  have hAs : wA.heap.size = H + 1 := by rw [hwA]; simp [hH]
  have s2 := SlAt.of_buf (Buf.lit wA 3 1 1 [.int .i64 2] (by simp) (by decide))
  rw [hAs] at s2
  obtain ⟨wB, hwB⟩ : ∃ wB, wB = wA.alloc (.cells #[.int .i64 2] 3) := ⟨_, rfl⟩
  have s2 : SlAt wB 1 (.slice (some ⟨H + 1, 0, none⟩) 1 1) 1 [.int .i64 2] := by rw [hwB]; exact s2
  have hBs : wB.heap.size = H + 1 + 1 := by rw [hwB]; simp [hAs]
  have s3 := SlAt.of_buf (Buf.lit wB 71 1 2 [.slice (some ⟨H, 0, none⟩) 2 2, .slice (some ⟨H + 1, 0, none⟩) 1 1] (by simp) (by decide))
  rw [hBs] at s3
  obtain ⟨wC, hwC⟩ : ∃ wC, wC = wB.alloc (.cells #[.slice (some ⟨H, 0, none⟩) 2 2, .slice (some ⟨H + 1, 0, none⟩) 1 1] 71) := ⟨_, rfl⟩
  have s3 : SlAt wC 1 (.slice (some ⟨H + 1 + 1, 0, none⟩) 2 2) 2 [.slice (some ⟨H, 0, none⟩) 2 2, .slice (some ⟨H + 1, 0, none⟩) 1 1] := by rw [hwC]; exact s3
  have bAB : Below wA.heap.size wA wB := by rw [hwB]; exact ba1 _ _
  have bBC : Below wB.heap.size wB wC := by rw [hwC]; exact ba1 _ _
  have HBC := Lib.hid (both12_any _ _ _ _ s3 ((s1.below bAB).below bBC) (s2.below bBC))
  have HB3 := Lib.hid (below_trans HB2.out (below_trans (show Below w2.heap.size w2 wA by rw [hwA]; exact ba1 _ _) (below_trans bAB bBC)))
  have HWC := Lib.hid (show wC = ((w2.alloc (.cells #[.int .i64 1, .int .i64 2] 3)).alloc (.cells #[.int .i64 2] 3)).alloc (.cells #[.slice (some ⟨H, 0, none⟩) 2 2, .slice (some ⟨H + 1, 0, none⟩) 1 1] 71) by rw [hwC, hwB, hwA])
  clear s1 s2 s3 hAs hBs bAB bBC hwA hwB hwC
  go_wp2_with fail
  rw [← HWC.out]
  refine HBC.out.mono ?_
  rintro e w4 ⟨A, c, rfl, hb4⟩
  have HB4 := Lib.hid (below_trans HB3.out hb4)
  clear hb4
  go_wp2_with fail
  refine (walName7_any _).mono ?_
  rintro e w5 ⟨rfl, hb5⟩
  have HB5 := Lib.hid (below_trans HB4.out hb5)
  clear hb5
  go_wp2_with fail
  go_ret
  exact ⟨rfl, HB5.out⟩

end Go.Proofs.YtnoebccoaeiakaaGreatDoor

namespace Go.Proofs.YtnoebccoaeiakaaGreatDoor
open Go.RowKit Go.Bar Go.Bar.Leb Go.Bar.Lab Go.Bar.Xor Go.Bar.Mrg

theorem SmsAt.at2 {w : World} {b o n c i : Nat} {l : List Sm} {x : Sm} (h : SmsAt w (.slice (some ⟨b, o, none⟩) n c) l) (hi : l[i]? = some x) : w.cell? ⟨b, o + i * 2, none⟩ = some (.int .i64 x.1) ∧ w.cell? ⟨b, o + i * 2 + 1, none⟩ = some (.int .u64 (x.2 : Nat)) := by
  obtain ⟨b', o', he, _, h1, h2⟩ := h.at_ hi
  injection he with he
  injection he with e1 e2 _
  subst e1; subst e2
  exact ⟨h1, h2⟩

set_option maxHeartbeats 8000000 in
set_option maxRecDepth 10000 in
theorem rsame_any (v v' : Value) (t t' : List Rv) (w : World) (h : TbAt w v t) (h' : TbAt w v' t') (he : t.map plR = t'.map plR) :
    Calls Tryz.prog 18 #[v, v'] w (RetBelow w (.bool true)) := by
  obtain ⟨A, c, rfl, hlc, hcm⟩ := h.shape
  obtain ⟨A', c', rfl, hlc', hcm'⟩ := h'.shape
  unfold maxLen at hcm hcm'
  have hlen : t'.length = t.length := by have := congrArg List.length he; simpa using this.symm
  obtain ⟨n, hn⟩ : ∃ n, n = t.length := ⟨_, rfl⟩
  rw [hlen]
  rw [← hn] at hlc hlen ⊢
  have HT := Lib.hid h
  have HT' := Lib.hid h'
  have HE := Lib.hid he
  have HN := Lib.hid hn
  have HL := Lib.hid hlen
  clear h h' he hn hlen hlc'
  go_enter Tryz.func18, Tryz.ntmps18
  go_wp2_with fail
  go_loopw [14] (fun i wr => ∃ k : Nat, k ≤ n ∧ i = .int .i64 k ∧ Below w.heap.size w wr) (fun i _ => n - (intOf i).toNat)
  case atStart => exact ⟨0, Nat.zero_le _, rfl, Below.refl _ _⟩
  case round =>
    obtain ⟨k, hk, rfl, hb⟩ := hrel
    by_cases hgo : k < n
    · obtain ⟨x, hx⟩ : ∃ x, t[k]? = some x := ⟨_, List.getElem?_eq_getElem (by have := HN.out; omega)⟩
      obtain ⟨y, hy⟩ : ∃ y, t'[k]? = some y := ⟨_, List.getElem?_eq_getElem (by have := HL.out; omega)⟩
      have hxy : plR x = plR y := by
        have h1 : (t.map plR)[k]? = some (plR x) := by rw [List.getElem?_map, hx]; rfl
        have h2 : (t'.map plR)[k]? = some (plR y) := by rw [List.getElem?_map, hy]; rfl
        rw [HE.out, h2] at h1
        injection h1 with h1; exact h1.symm
      obtain ⟨b, o, rfl, _, _, hrx⟩ := (HT.out).at_ hx
      obtain ⟨b', o', rfl, _, _, hry⟩ := (HT'.out).at_ hy
      obtain ⟨L, S, la, lc, sa, sc⟩ := x
      obtain ⟨L', S', la', lc', sa', sc'⟩ := y
      obtain ⟨e1, e2⟩ : L = L' ∧ S = S' := by
        injection hxy with e1 e2
        exact ⟨e1, e2⟩
      clear hxy
      subst e1; subst e2
      have hc := fun w' (hb : Below w.heap.size w w') => rcompare_any (.slice la L.length lc) (.slice la' L.length lc') L L w' (hrx.1.below hb) (hry.1.below hb)
      rw [cmpL_self] at hc
      have HC := Lib.hid hc
      have HX := Lib.hid (fun w' (hb : Below w.heap.size w w') => show w'.cell? ⟨b, o + k * 2, none⟩ = some (.slice la L.length lc) ∧ w'.cell? ⟨b, o + k * 2 + 1, none⟩ = some (.slice sa S.length sc) from ⟨((HT.out.below hb).at2 hx).1, ((HT.out.below hb).at2 hx).2.1⟩)
      have HY := Lib.hid (fun w' (hb : Below w.heap.size w w') => show w'.cell? ⟨b', o' + k * 2, none⟩ = some (.slice la' L.length lc') ∧ w'.cell? ⟨b', o' + k * 2 + 1, none⟩ = some (.slice sa' S.length sc') from ⟨((HT'.out.below hb).at2 hy).1, ((HT'.out.below hb).at2 hy).2.1⟩)
      obtain ⟨_, _, _, hs1, hs2⟩ := hrx.2.shape
      have hsl : (S.length : Int) ≤ 9223372036854775807 := by unfold maxLen at hs2; dsimp only at hs1; omega
      have HS := Lib.hid (show SmsAt w (.slice sa S.length sc) S from hrx.2)
      have HS' := Lib.hid (show SmsAt w (.slice sa' S.length sc') S from hry.2)
      clear hx hy hrx hry hc hs1 hs2
      go_upto_region 6 with fail
      refine wp_region_known [(4, .slice la L.length lc), (9, .slice la' L.length lc'), (10, .int .i64 0), (17, .slice sa S.length sc), (23, .slice sa' S.length sc')] (by kernel_rfl) 72 (by kernel_rfl) rfl ?_
      repeat (first
        | (refine Chain.step (v := ?_) (a' := ?_) rfl rfl rfl ?_ ?_ ?_; rotate_left 2; (focus (intro w; go_simp; try with_reducible rfl)); focus (simp only [Act.put, pqA, pqS, pqZ]; try rfl))
        | (refine Chain.call (i := 4) (a' := ?_) _ rfl rfl rfl (fun wx hw => ?_) ?_ ?_; rotate_left 1; (focus (obtain ⟨g0, g1⟩ := HX.out _ (below_trans hb hw)); (go_simp; first | exact ⟨rfl, Below.refl _ _⟩ | exact Below.refl _ _)); focus (simp only [Act.put, pqA, pqS, pqZ]; try rfl))
        | (refine Chain.call (i := 9) (a' := ?_) _ rfl rfl rfl (fun wx hw => ?_) ?_ ?_; rotate_left 1; (focus (obtain ⟨g0, g1⟩ := HY.out _ (below_trans hb hw)); (go_simp; first | exact ⟨rfl, Below.refl _ _⟩ | exact Below.refl _ _)); focus (simp only [Act.put, pqA, pqS, pqZ]; try rfl))
        | (refine Chain.call (i := 10) (a' := ?_) _ rfl rfl rfl (fun wx hw => ?_) ?_ ?_; rotate_left 1; (focus (go_simp; (with_reducible refine (HC.out _ (below_trans hb hw)).mono ?_); exact (fun e w' ⟨h1, h2⟩ => by subst h1; exact ⟨rfl, h2⟩))); focus (simp only [Act.put, pqA, pqS, pqZ]; try rfl))
        | (refine Chain.call (i := 17) (a' := ?_) _ rfl rfl rfl (fun wx hw => ?_) ?_ ?_; rotate_left 1; (focus (obtain ⟨g0, g1⟩ := HX.out _ (below_trans hb hw)); (go_simp; first | exact ⟨rfl, Below.refl _ _⟩ | exact Below.refl _ _)); focus (simp only [Act.put, pqA, pqS, pqZ]; try rfl))
        | (refine Chain.call (i := 23) (a' := ?_) _ rfl rfl rfl (fun wx hw => ?_) ?_ ?_; rotate_left 1; (focus (obtain ⟨g0, g1⟩ := HY.out _ (below_trans hb hw)); (go_simp; first | exact ⟨rfl, Below.refl _ _⟩ | exact Below.refl _ _)); focus (simp only [Act.put, pqA, pqS, pqZ]; try rfl))
        | (refine Chain.skip (a' := ?_) rfl rfl rfl ?_ ?_; rotate_left 1; focus (simp only [Act.put, pqA, pqS, pqZ]; try rfl)))
      refine Chain.end_ (fun wz hwz _ => ?_)
      have hb2 := below_trans hb hwz
      obtain ⟨g0, g1⟩ := HX.out _ hb2
      clear hb hwz
      go_wp2_with fail
      go_loopw [50] (fun i wy => ∃ j : Nat, j ≤ S.length ∧ i = .int .i64 j ∧ Below w.heap.size w wy) (fun i _ => S.length - (intOf i).toNat)
      case atStart => exact ⟨0, Nat.zero_le _, rfl, hb2⟩
      case round =>
        obtain ⟨j, hj, rfl, hb3⟩ := hrel
        clear g0 g1 hb2
        by_cases hgo2 : j < S.length
        · obtain ⟨z, hz⟩ : ∃ z, S[j]? = some z := ⟨_, List.getElem?_eq_getElem hgo2⟩
          obtain ⟨sb, so, rfl, _⟩ := HS.out.at_ hz
          obtain ⟨sb', so', rfl, _⟩ := HS'.out.at_ hz
          have HZ := Lib.hid hz
          clear hz
          go_upto_region 11 with fail
          refine wp_region_known [(4, .slice (some ⟨sb, so, none⟩) S.length sc), (7, .agg #[.int .i64 z.1, .int .u64 (z.2 : Nat)]), (12, .slice (some ⟨sb', so', none⟩) S.length sc'), (15, .agg #[.int .i64 z.1, .int .u64 (z.2 : Nat)])] (by kernel_rfl) 72 (by kernel_rfl) rfl ?_
          repeat (first
            | (refine Chain.step (v := ?_) (a' := ?_) rfl rfl rfl ?_ ?_ ?_; rotate_left 2; (focus (intro w; go_simp; try with_reducible rfl)); focus (simp only [Act.put, pqA, pqS, pqZ]; try rfl))
            | (refine Chain.call (i := 4) (a' := ?_) _ rfl rfl rfl (fun wx hw => ?_) ?_ ?_; rotate_left 1; (focus (obtain ⟨g0, g1⟩ := HX.out _ (below_trans hb3 hw)); (go_simp; first | exact ⟨rfl, Below.refl _ _⟩ | exact Below.refl _ _)); focus (simp only [Act.put, pqA, pqS, pqZ]; try rfl))
            | (refine Chain.call (i := 7) (a' := ?_) _ rfl rfl rfl (fun wx hw => ?_) ?_ ?_; rotate_left 1; (focus (obtain ⟨g0, g1⟩ := (HS.out.below (below_trans hb3 hw)).at2 HZ.out); (go_simp; first | exact ⟨rfl, Below.refl _ _⟩ | exact Below.refl _ _)); focus (simp only [Act.put, pqA, pqS, pqZ]; try rfl))
            | (refine Chain.call (i := 12) (a' := ?_) _ rfl rfl rfl (fun wx hw => ?_) ?_ ?_; rotate_left 1; (focus (obtain ⟨g0, g1⟩ := HY.out _ (below_trans hb3 hw)); (go_simp; first | exact ⟨rfl, Below.refl _ _⟩ | exact Below.refl _ _)); focus (simp only [Act.put, pqA, pqS, pqZ]; try rfl))
            | (refine Chain.call (i := 15) (a' := ?_) _ rfl rfl rfl (fun wx hw => ?_) ?_ ?_; rotate_left 1; (focus (obtain ⟨g0, g1⟩ := (HS'.out.below (below_trans hb3 hw)).at2 HZ.out); (go_simp; first | exact ⟨rfl, Below.refl _ _⟩ | exact Below.refl _ _)); focus (simp only [Act.put, pqA, pqS, pqZ]; try rfl))
            | (refine Chain.skip (a' := ?_) rfl rfl rfl ?_ ?_; rotate_left 1; focus (simp only [Act.put, pqA, pqS, pqZ]; try rfl)))
          refine Chain.end_ (fun wz2 hwz2 _ => ?_)
          have hb4 := below_trans hb3 hwz2
          clear hb3 hwz2
          go_wp2_with fail
          go_roundw
          case rel => exact ⟨j + 1, by omega, by go_num, hb4⟩
          case measure => simp [intOf]; omega
        · obtain rfl : j = S.length := by omega
          go_wp2_with fail
          go_roundw
          case rel => exact ⟨k + 1, by omega, by go_num, hb3⟩
          case measure => simp [intOf]; omega
    · obtain rfl : k = n := by omega
      go_wp2_with fail
      go_ret
      exact ⟨rfl, hb⟩
end Go.Proofs.YtnoebccoaeiakaaGreatDoor

namespace Go.Proofs.YtnoebccoaeiakaaGreatDoor
open Go.RowKit Go.Bar Go.Bar.Leb Go.Bar.Lab Go.Bar.Xor Go.Bar.Mrg

set_option maxHeartbeats 4000000 in
set_option maxRecDepth 10000 in
theorem rsameNe_any (v v' : Value) (x y : Rv) (w : World) (h : TbAt w v [x]) (h' : TbAt w v' [y]) (hne : x.ls ≠ y.ls) :
    Calls Tryz.prog 18 #[v, v'] w (RetBelow w (.bool false)) := by
  obtain ⟨A, c, rfl, hlc, hcm⟩ := h.shape
  obtain ⟨A', c', rfl, hlc', hcm'⟩ := h'.shape
  unfold maxLen at hcm hcm'
  obtain ⟨b, o, rfl, _, _, hrx⟩ := h.at_ (i := 0) rfl
  obtain ⟨b', o', rfl, _, _, hry⟩ := h'.at_ (i := 0) rfl
  obtain ⟨L, S, la, lc, sa, sc⟩ := x
  obtain ⟨L', S', la', lc', sa', sc'⟩ := y
  simp only at hne
  obtain ⟨Z, hZ⟩ : ∃ Z, Z = cmpL L L' := ⟨_, rfl⟩
  have hZ0 : Z = -1 ∨ Z = 1 := by
    rcases cmpL_three L L' with e | e | e
    · exact .inl (hZ.trans e)
    · exact absurd (cmpL_zero.1 e) hne
    · exact .inr (hZ.trans e)
  have hc := fun w' (hb : Below w.heap.size w w') => rcompare_any (.slice la L.length lc) (.slice la' L'.length lc') L L' w' (hrx.1.below hb) (hry.1.below hb)
  rw [← hZ] at hc
  have HC := Lib.hid hc
  have HX := Lib.hid (fun w' (hb : Below w.heap.size w w') => show w'.cell? ⟨b, o, none⟩ = some (.slice la L.length lc) from by have := ((h.below hb).at2 (i := 0) rfl).1; simpa using this)
  have HY := Lib.hid (fun w' (hb : Below w.heap.size w w') => show w'.cell? ⟨b', o', none⟩ = some (.slice la' L'.length lc') from by have := ((h'.below hb).at2 (i := 0) rfl).1; simpa using this)
  simp only [List.length_singleton] at hlc hlc' ⊢
  clear h h' hne hc hZ hrx hry
  rcases hZ0 with rfl | rfl
  · go_enter Tryz.func18, Tryz.ntmps18
    go_wp2_with fail
    go_loopw [14] (fun i wr => i = .int .i64 0 ∧ Below w.heap.size w wr) (fun i _ => 0)
    case atStart => exact ⟨rfl, Below.refl _ _⟩
    case round =>
      obtain ⟨rfl, hb⟩ := hrel
      go_upto_region 6 with fail
      refine wp_region_known [(4, .slice la L.length lc), (9, .slice la' L'.length lc'), (10, .int .i64 (-1))] (by kernel_rfl) 72 (by kernel_rfl) rfl ?_
      repeat (first
        | (refine Chain.step (v := ?_) (a' := ?_) rfl rfl rfl ?_ ?_ ?_; rotate_left 2; (focus (intro w; go_simp; try with_reducible rfl)); focus (simp only [Act.put, pqA, pqS, pqZ]; try rfl))
        | (refine Chain.call (i := 4) (a' := ?_) _ rfl rfl rfl (fun wx hw => ?_) ?_ ?_; rotate_left 1; (focus (have g0 := HX.out _ (below_trans hb hw)); (go_simp; first | exact ⟨rfl, Below.refl _ _⟩ | exact Below.refl _ _)); focus (simp only [Act.put, pqA, pqS, pqZ]; try rfl))
        | (refine Chain.call (i := 9) (a' := ?_) _ rfl rfl rfl (fun wx hw => ?_) ?_ ?_; rotate_left 1; (focus (have g0 := HY.out _ (below_trans hb hw)); (go_simp; first | exact ⟨rfl, Below.refl _ _⟩ | exact Below.refl _ _)); focus (simp only [Act.put, pqA, pqS, pqZ]; try rfl))
        | (refine Chain.call (i := 10) (a' := ?_) _ rfl rfl rfl (fun wx hw => ?_) ?_ ?_; rotate_left 1; (focus (go_simp; (with_reducible refine (HC.out _ (below_trans hb hw)).mono ?_); exact (fun e w' ⟨h1, h2⟩ => by subst h1; exact ⟨rfl, h2⟩))); focus (simp only [Act.put, pqA, pqS, pqZ]; try rfl))
        | (refine Chain.skip (a' := ?_) rfl rfl rfl ?_ ?_; rotate_left 1; focus (simp only [Act.put, pqA, pqS, pqZ]; try rfl)))
      refine Chain.end_ (fun wz hwz _ => ?_)
      have hb2 := below_trans hb hwz
      go_wp2_with fail
      go_ret
      exact ⟨rfl, hb2⟩
  · go_enter Tryz.func18, Tryz.ntmps18
    go_wp2_with fail
    go_loopw [14] (fun i wr => i = .int .i64 0 ∧ Below w.heap.size w wr) (fun i _ => 0)
    case atStart => exact ⟨rfl, Below.refl _ _⟩
    case round =>
      obtain ⟨rfl, hb⟩ := hrel
      go_upto_region 6 with fail
      refine wp_region_known [(4, .slice la L.length lc), (9, .slice la' L'.length lc'), (10, .int .i64 1)] (by kernel_rfl) 72 (by kernel_rfl) rfl ?_
      repeat (first
        | (refine Chain.step (v := ?_) (a' := ?_) rfl rfl rfl ?_ ?_ ?_; rotate_left 2; (focus (intro w; go_simp; try with_reducible rfl)); focus (simp only [Act.put, pqA, pqS, pqZ]; try rfl))
        | (refine Chain.call (i := 4) (a' := ?_) _ rfl rfl rfl (fun wx hw => ?_) ?_ ?_; rotate_left 1; (focus (have g0 := HX.out _ (below_trans hb hw)); (go_simp; first | exact ⟨rfl, Below.refl _ _⟩ | exact Below.refl _ _)); focus (simp only [Act.put, pqA, pqS, pqZ]; try rfl))
        | (refine Chain.call (i := 9) (a' := ?_) _ rfl rfl rfl (fun wx hw => ?_) ?_ ?_; rotate_left 1; (focus (have g0 := HY.out _ (below_trans hb hw)); (go_simp; first | exact ⟨rfl, Below.refl _ _⟩ | exact Below.refl _ _)); focus (simp only [Act.put, pqA, pqS, pqZ]; try rfl))
        | (refine Chain.call (i := 10) (a' := ?_) _ rfl rfl rfl (fun wx hw => ?_) ?_ ?_; rotate_left 1; (focus (go_simp; (with_reducible refine (HC.out _ (below_trans hb hw)).mono ?_); exact (fun e w' ⟨h1, h2⟩ => by subst h1; exact ⟨rfl, h2⟩))); focus (simp only [Act.put, pqA, pqS, pqZ]; try rfl))
        | (refine Chain.skip (a' := ?_) rfl rfl rfl ?_ ?_; rotate_left 1; focus (simp only [Act.put, pqA, pqS, pqZ]; try rfl)))
      refine Chain.end_ (fun wz hwz _ => ?_)
      have hb2 := below_trans hb hwz
      go_wp2_with fail
      go_ret
      exact ⟨rfl, hb2⟩
end Go.Proofs.YtnoebccoaeiakaaGreatDoor
