/-
  Layer 9: the walks of the reference's Fields and Encode.
-/
import Derived.Test.YtdmhjejjgcfplaaMetR
import Derived.Test.YtdmhjejjgcfplaaFrmR
import Derived.Test.YtdmhjejjgcfplaaIdtR
namespace Go.Proofs.Ytdmhjejjgcfplaa
open Go.RowKit Go.Bar Go.Bar.Leb Go.Bar.Frm Go.Bar.Idt Go.Bar.Met

theorem refUint_w (z : Int) (W : World) : Calls Try.prog 35 #[.int .u64 (IntKind.u64.wrap z)] W (RetBelow W (.string (bs (u (w64 z))))) := by
  rw [wrap_w64]
  exact refUint_any (w64 z) W (w64_lt z)
theorem refUint_z (z : Int) (n : Nat) (W : World) (hz : z = n) (hn : n < 18446744073709551616) : Calls Try.prog 35 #[.int .u64 z] W (RetBelow W (.string (bs (u n)))) := by
  subst hz
  exact refUint_any n W hn
theorem refText_of (l : List UInt8) (W : World) (h : l.length ≤ 1000000000000) : Calls Try.prog 34 #[.string (bs l)] W (RetBelow W (.string (bs (txt l)))) := by
  have := refText_any (bs l) W (by rw [bs_size]; omega)
  exact this

set_option maxHeartbeats 8000000 in
set_option maxRecDepth 10000 in
theorem rfields_any (m : Mt) (fv sv : Value) (w : World) (hf : FlsAt w fv m.fs) (hs : SrcAt w sv m.ss) (hlen : (fields m).length ≤ 100000000000) (hsm : ∀ f ∈ m.fs, f.sum < 4294967296) :
    Calls Try.prog 19 #[.agg #[.string (bs m.id), .int .i64 m.mn, .int .i64 m.mx, .int .i64 m.lv, .int .i64 m.sr, .int .i64 m.sm, fv, sv]] w (RetBelow w (.string (bs (fields m)))) := by
  obtain ⟨A, c, rfl, hlc, hcm⟩ := hf.shape
  obtain ⟨A2, c2, rfl, hlc2, hcm2⟩ := hs.shape
  unfold maxLen at hcm hcm2
  obtain ⟨Z, hZ⟩ : ∃ Z, Z = fields m := ⟨_, rfl⟩
  rw [← hZ]
  have HZ := Lib.hid hZ
  have hlen : (fields m).length ≤ 100000000000 := hlen
  clear hZ
  have hp1 := part1_le m 0
  have hidl : m.id.length ≤ (fields m).length := by unfold fields txt; simp only [List.length_append]; omega
  have hu : ∀ z, (u (w64 z)).length ≤ 10 := fun z => u_len _ (w64_lt z)
  have hx0l : (txt m.id).length ≤ m.id.length + 10 := by
    unfold txt
    have := u_len m.id.length (by omega)
    rw [List.length_append]; omega
  have hl1 := hu m.mn
  have hl2 := hu m.mx
  have hl3 := hu m.lv
  have hl4 := hu m.sr
  have hl5 := hu m.sm
  have k0 : ∀ w, Calls Try.prog 34 #[.string (bs m.id)] w (RetBelow w (.string (bs (txt m.id)))) := fun w => refText_of m.id w (by omega)
  have k1 := refUint_w m.mn
  have k2 := refUint_w m.mx
  have k3 := refUint_w m.lv
  have k4 := refUint_w m.sr
  have k5 := refUint_w m.sm
  obtain ⟨y0, hy0⟩ : ∃ y, y = txt m.id := ⟨_, rfl⟩
  obtain ⟨y1, hy1⟩ : ∃ y, y = u (w64 m.mn) := ⟨_, rfl⟩
  obtain ⟨y2, hy2⟩ : ∃ y, y = u (w64 m.mx) := ⟨_, rfl⟩
  obtain ⟨y3, hy3⟩ : ∃ y, y = u (w64 m.lv) := ⟨_, rfl⟩
  obtain ⟨y4, hy4⟩ : ∃ y, y = u (w64 m.sr) := ⟨_, rfl⟩
  obtain ⟨y5, hy5⟩ : ∃ y, y = u (w64 m.sm) := ⟨_, rfl⟩
  have hP : part1 m 0 = y0 ++ (y1 ++ (y2 ++ (y3 ++ (y4 ++ y5)))) := by rw [hy0, hy1, hy2, hy3, hy4, hy5]; simp [part1]
  rw [← hy0] at k0 hx0l
  rw [← hy1] at k1 hl1
  rw [← hy2] at k2 hl2
  rw [← hy3] at k3 hl3
  rw [← hy4] at k4 hl4
  rw [← hy5] at k5 hl5
  have HP := Lib.hid hP
  have K0 := Lib.hid k0
  have K1 := Lib.hid k1
  have K2 := Lib.hid k2
  have K3 := Lib.hid k3
  have K4 := Lib.hid k4
  have K5 := Lib.hid k5
  clear k0 k1 k2 k3 k4 k5 hy0 hy1 hy2 hy3 hy4 hy5 hP hu
  have n1 : ¬ 9223372036854775807 < y0.length + y1.length := by omega
  have n2 : ¬ 9223372036854775807 < y0.length + y1.length + y2.length := by omega
  have n3 : ¬ 9223372036854775807 < y0.length + y1.length + y2.length + y3.length := by omega
  have n4 : ¬ 9223372036854775807 < y0.length + y1.length + y2.length + y3.length + y4.length := by omega
  have n5 : ¬ 9223372036854775807 < y0.length + y1.length + y2.length + y3.length + y4.length + y5.length := by omega
  have m3 : ¬ 9223372036854775807 < y0.length + (y1.length + y2.length) + y3.length := by omega
  have m4 : ¬ 9223372036854775807 < y0.length + (y1.length + (y2.length + y3.length)) + y4.length := by omega
  have m5 : ¬ 9223372036854775807 < y0.length + (y1.length + (y2.length + (y3.length + y4.length))) + y5.length := by omega
  go_enter Try.func19, Try.ntmps19
  go_upto_region 1 with fail
  have M1 := Blk.new w #[.string (bs m.id), .int .i64 m.mn, .int .i64 m.mx, .int .i64 m.lv, .int .i64 m.sr, .int .i64 m.sm, .slice A m.fs.length c, .slice A2 m.ss.length c2] 34
  have B1 := below_alloc1 w (.cells #[.string (bs m.id), .int .i64 m.mn, .int .i64 m.mx, .int .i64 m.lv, .int .i64 m.sr, .int .i64 m.sm, .slice A m.fs.length c, .slice A2 m.ss.length c2] 34)
  obtain ⟨w1, hw1⟩ : ∃ w1, w1 = w.alloc (.cells #[.string (bs m.id), .int .i64 m.mn, .int .i64 m.mx, .int .i64 m.lv, .int .i64 m.sr, .int .i64 m.sm, .slice A m.fs.length c, .slice A2 m.ss.length c2] 34) := ⟨_, rfl⟩
  rw [← hw1] at M1 B1 ⊢
  clear hw1
  have HM := Lib.hid M1
  have HB := Lib.hid B1
  clear M1 B1
  refine wp_region_known [(1, .string (bs m.id)), (2, .string (bs y0)), (4, .int .i64 m.mn), (6, .string (bs y1)), (9, .int .i64 m.mx), (11, .string (bs y2)), (14, .int .i64 m.lv), (16, .string (bs y3)), (19, .int .i64 m.sr), (21, .string (bs y4)), (24, .int .i64 m.sm), (26, .string (bs y5))] (by kernel_rfl) 79 (by kernel_rfl) rfl ?_
  repeat (first
    | (refine Chain.step (v := ?_) (a' := ?_) rfl rfl rfl ?_ ?_ ?_
       rotate_left 2
       focus (intro w; go_simp; try with_reducible rfl)
       focus (simp only [Act.put, List.setIfInBounds_toArray, List.set_cons_succ, List.set_cons_zero]; try rfl))
    | (refine Chain.call (a' := ?_) _ rfl rfl rfl (fun wx hw => ?_) ?_ ?_
       rotate_left 1
       focus
         first
         | (go_simp; (first | (with_reducible refine (K0.out _).mono ?_) | (with_reducible refine (K1.out _).mono ?_) | (with_reducible refine (K2.out _).mono ?_) | (with_reducible refine (K3.out _).mono ?_) | (with_reducible refine (K4.out _).mono ?_) | (with_reducible refine (K5.out _).mono ?_)); exact (fun e w' ⟨h1, h2⟩ => by subst h1; exact ⟨rfl, h2⟩))
         | (have hh := HM.out.below hw
            have g0 := hh.cell (i := 0) (u := .string (bs m.id)) rfl
            have g1 := hh.cell (i := 1) (u := .int .i64 m.mn) rfl
            have g2 := hh.cell (i := 2) (u := .int .i64 m.mx) rfl
            have g3 := hh.cell (i := 3) (u := .int .i64 m.lv) rfl
            have g4 := hh.cell (i := 4) (u := .int .i64 m.sr) rfl
            have g5 := hh.cell (i := 5) (u := .int .i64 m.sm) rfl
            clear hh
            go_simp
            first | exact ⟨rfl, Below.refl _ _⟩ | exact Below.refl _ _)
       focus (simp only [Act.put, List.setIfInBounds_toArray, List.set_cons_succ, List.set_cons_zero]; try rfl)))
  refine Chain.end_ (fun wz hwz _ => ?_)
  rw [← HP.out]
  have M2 := HM.out.below hwz
  have B2 := below_trans HB.out hwz
  clear n1 n2 n3 n4 n5 m3 m4 m5 hl1 hl2 hl3 hl4 hl5 hx0l hwz
  have c6 : wz.cell? ⟨w.heap.size, 6, none⟩ = some (.slice A m.fs.length c) := M2.cell (i := 6) rfl
  go_wp2_with fail
  clear c6
  go_loopw [3, 39] (fun s i wr => ∃ (k : Nat) (ys : List UInt8), k ≤ m.fs.length ∧ i = .int .i64 k ∧ s = .string (bs ys) ∧ Below wz.heap.size wz wr ∧ Hid (ys = part1 m k)) (fun _ i _ => m.fs.length - (intOf i).toNat)
  case atStart => exact ⟨0, _, Nat.zero_le _, rfl, rfl, Below.refl _ _, rfl⟩
  case round =>
    obtain ⟨k, ys, hk, rfl, rfl, hbz, hy⟩ := hrel
    by_cases hgo : k < m.fs.length
    · obtain ⟨f, hfk⟩ : ∃ f, m.fs[k]? = some f := ⟨_, List.getElem?_eq_getElem hgo⟩
      obtain ⟨b, o, rfl, hbb, f0, f1, f2⟩ := (hf.below (below_trans B2 hbz)).at_ hfk
      have hle := part1_le m (k + 1)
      rw [part1_next m k f hfk, List.length_append, ← hy.out] at hle
      have hfs := hsm f (List.mem_of_getElem? hfk)
      have HFK := Lib.hid hfk
      clear hfk
      have hfl : f.name.length ≤ (flB f).length := by unfold flB txt; simp only [List.length_append]; omega
      have hfe : (flB f).length = (txt f.name).length + ((u (w64 f.size)).length + (u f.sum).length) := by unfold flB; simp only [List.length_append]
      have k0 : ∀ w, Calls Try.prog 34 #[.string (bs f.name)] w (RetBelow w (.string (bs (txt f.name)))) := fun w => refText_of f.name w (by omega)
      have k1 := refUint_w f.size
      have k2 : ∀ z w, z = (f.sum : Int) → Calls Try.prog 35 #[.int .u64 z] w (RetBelow w (.string (bs (u f.sum)))) := fun z w hz => refUint_z z f.sum w hz (by omega)
      obtain ⟨y0, hy0⟩ : ∃ y, y = txt f.name := ⟨_, rfl⟩
      obtain ⟨y1, hy1⟩ : ∃ y, y = u (w64 f.size) := ⟨_, rfl⟩
      obtain ⟨y2, hy2⟩ : ∃ y, y = u f.sum := ⟨_, rfl⟩
      have hP : flB f = y0 ++ (y1 ++ y2) := by rw [hy0, hy1, hy2]; rfl
      rw [← hy0, ← hy1, ← hy2] at hfe
      rw [← hy0] at k0
      rw [← hy1] at k1
      rw [← hy2] at k2
      have HP := Lib.hid hP
      have K0 := Lib.hid k0
      have K1 := Lib.hid k1
      have K2 := Lib.hid k2
      clear k0 k1 k2 hy0 hy1 hy2 hP
      have n1 : ¬ 9223372036854775807 < y0.length + y1.length := by omega
      have n2 : ¬ 9223372036854775807 < y0.length + y1.length + y2.length := by omega
      have n3 : ¬ 9223372036854775807 < ys.length + (y0.length + (y1.length + y2.length)) := by omega
      have HFE := Lib.hid hfe
      clear hfe
      obtain ⟨nm, sz, su⟩ := f
      simp only at f0 f1 f2 K0 K1 K2 hfs
      go_upto_region 5 with fail
      have F1 := Lib.hid (Blk.new wr #[.string (bs nm), .int .i64 sz, .int .u32 su] 60)
      have B3 := Lib.hid (below_trans hbz (below_alloc1 wr (.cells #[.string (bs nm), .int .i64 sz, .int .u32 su] 60)))
      obtain ⟨KX, hKX⟩ : ∃ KX, KX = wr.heap.size := ⟨_, rfl⟩
      obtain ⟨w3, hw3⟩ : ∃ w3, w3 = wr.alloc (.cells #[.string (bs nm), .int .i64 sz, .int .u32 su] 60) := ⟨_, rfl⟩
      rw [← hw3] at F1 B3 ⊢
      rw [← hKX] at F1 ⊢
      clear hw3 hKX f0 f1 f2 hbb
      refine wp_region_known [(2, .string (bs nm)), (3, .string (bs y0)), (5, .int .i64 sz), (7, .string (bs y1)), (10, .int .u32 su), (12, .string (bs y2))] (by kernel_rfl) 79 (by kernel_rfl) rfl ?_
      repeat (first
        | (refine Chain.step (v := ?_) (a' := ?_) rfl rfl rfl ?_ ?_ ?_
           rotate_left 2
           focus (intro w; go_simp; try with_reducible rfl)
           focus (simp only [Act.put, List.setIfInBounds_toArray, List.set_cons_succ, List.set_cons_zero]; try rfl))
        | (refine Chain.call (a' := ?_) _ rfl rfl rfl (fun wx hw => ?_) ?_ ?_
           rotate_left 1
           focus
             first
             | (go_simp; (first | (with_reducible refine (K0.out _).mono ?_) | (with_reducible refine (K1.out _).mono ?_) | (with_reducible refine (K2.out _ _ (by first | rfl | omega | (rw [IntKind.wrap_u64]; omega))).mono ?_)); exact (fun e w' ⟨h1, h2⟩ => by subst h1; exact ⟨rfl, h2⟩))
             | (have hh := F1.out.below hw
                have g0 := hh.cell (i := 0) (u := .string (bs nm)) rfl
                have g1 := hh.cell (i := 1) (u := .int .i64 sz) rfl
                have g2 := hh.cell (i := 2) (u := .int .u32 su) rfl
                clear hh
                go_simp
                first | exact ⟨rfl, Below.refl _ _⟩ | exact Below.refl _ _)
           focus (simp only [Act.put, List.setIfInBounds_toArray, List.set_cons_succ, List.set_cons_zero]; try rfl)))
      refine Chain.end_ (fun w4 hw4 _ => ?_)
      rw [← HP.out]
      go_wp2_with fail
      go_roundw
      case rel => exact ⟨k + 1, _, by omega, by go_num, rfl, below_trans B3.out hw4, Lib.hid (by rw [part1_next m k _ HFK.out, hy.out])⟩
      case measure => simp [intOf]; omega
    · have hkk : k = m.fs.length := by omega
      have hle := part1_le m k
      have hle2 := part2_le m 0
      rw [← hy.out] at hle
      have hys : ys = part1 m m.fs.length := by rw [hy.out, hkk]
      have hp2 : part2 m 0 = ys ++ u m.ss.length := by rw [hys]; simp [part2]
      rw [hp2, List.length_append] at hle2
      have M3 := M2.below hbz
      have B3 := below_trans B2 hbz
      clear M2 B2 hbz hkk hys hy
      have ku := fun w => refUint_any m.ss.length w (by omega)
      obtain ⟨y0, hy0⟩ : ∃ y, y = u m.ss.length := ⟨_, rfl⟩
      rw [← hy0] at ku hp2 hle2
      have HP2 := Lib.hid hp2
      have KU := Lib.hid ku
      clear ku hy0 hp2
      have n1 : ¬ 9223372036854775807 < ys.length + y0.length := by omega
      obtain ⟨wo, rfl⟩ : ∃ wo : World, wo = wr := ⟨_, rfl⟩
      have c7 : wo.cell? ⟨w.heap.size, 7, none⟩ = some (.slice A2 m.ss.length c2) := M3.cell (i := 7) rfl
      go_wp2_with fail
      refine (KU.out _).mono ?_
      rintro e w5 ⟨rfl, hb5⟩
      clear c7
      have M5 := M3.below hb5
      have B5 := below_trans B3 hb5
      clear M3 B3 hb5
      have c7 : w5.cell? ⟨w.heap.size, 7, none⟩ = some (.slice A2 m.ss.length c2) := M5.cell (i := 7) rfl
      go_wp2_with fail
      rw [← HP2.out]
      clear c7 M5 n1
      go_loopw [3, 69] (fun s i wr => ∃ (k : Nat) (ys : List UInt8), k ≤ m.ss.length ∧ i = .int .i64 k ∧ s = .string (bs ys) ∧ Below w.heap.size w wr ∧ Hid (ys = part2 m k)) (fun _ i _ => m.ss.length - (intOf i).toNat)
      case atStart => exact ⟨0, _, Nat.zero_le _, rfl, rfl, B5, rfl⟩
      case round =>
        obtain ⟨k, ys, hk, rfl, rfl, hbz, hy⟩ := hrel
        by_cases hgo : k < m.ss.length
        · obtain ⟨s, hsk⟩ : ∃ s, m.ss[k]? = some s := ⟨_, List.getElem?_eq_getElem hgo⟩
          obtain ⟨b, o, rfl, hbb, f0⟩ := (hs.below hbz).at_ hsk
          have hle := part2_le m (k + 1)
          rw [part2_next m k s hsk, List.length_append, ← hy.out] at hle
          have hsl : s.length ≤ (txt s).length := by unfold txt; rw [List.length_append]; omega
          have HSK := Lib.hid hsk
          have kt := fun w => refText_of s w (by omega)
          obtain ⟨y0, hy0⟩ : ∃ y, y = txt s := ⟨_, rfl⟩
          rw [← hy0] at kt hle
          have KT := Lib.hid kt
          have HY0 := Lib.hid hy0
          clear hsk kt hy0
          have n1 : ¬ 9223372036854775807 < ys.length + y0.length := by omega
          go_wp2_with fail
          refine (KT.out _).mono ?_
          rintro e w6 ⟨rfl, hb6⟩
          go_wp2_with fail
          go_roundw
          case rel => exact ⟨k + 1, _, by omega, by go_num, rfl, below_trans hbz hb6, Lib.hid (by rw [part2_next m k s HSK.out, hy.out, HY0.out])⟩
          case measure => simp [intOf]; omega
        · have he : ys = Z := by rw [hy.out, show k = m.ss.length by omega, part2_all, HZ.out]
          subst he
          go_wp2_with fail
          go_ret
          exact ⟨rfl, hbz⟩

set_option maxHeartbeats 1000000 in
set_option maxRecDepth 10000 in
theorem rencode_any (m : Mt) (fv sv : Value) (w : World) (hf : FlsAt w fv m.fs) (hs : SrcAt w sv m.ss) (hlen : (fields m).length ≤ 10000000000) (hsm : ∀ f ∈ m.fs, f.sum < 4294967296) :
    Calls Try.prog 17 #[.agg #[.string (bs m.id), .int .i64 m.mn, .int .i64 m.mx, .int .i64 m.lv, .int .i64 m.sr, .int .i64 m.sm, fv, sv]] w (RetBelow w (.string (bs (encode m)))) := by
  obtain ⟨A, c, rfl, hlc, hcm⟩ := hf.shape
  obtain ⟨A2, c2, rfl, hlc2, hcm2⟩ := hs.shape
  have h1 := rfields_any m _ _ (w.alloc (.cells #[.string (bs m.id), .int .i64 m.mn, .int .i64 m.mx, .int .i64 m.lv, .int .i64 m.sr, .int .i64 m.sm, .slice A m.fs.length c, .slice A2 m.ss.length c2] 34)) (hf.below (below_alloc1 _ _)) (hs.below (below_alloc1 _ _)) (by omega) hsm
  have h2 := fun w => refBytes_any 1 (fields m) w (by omega)
  have he : encode m = rec (1, fields m) := rfl
  rw [he]
  obtain ⟨y, hy⟩ : ∃ y, y = fields m := ⟨_, rfl⟩
  rw [← hy] at h1 h2 ⊢
  obtain ⟨r, hr⟩ : ∃ r, r = rec (1, y) := ⟨_, rfl⟩
  rw [← hr] at h2 ⊢
  have H1 := Lib.hid h1
  have H2 := Lib.hid h2
  clear h1 h2 he hy hr
  go_enter Try.func17, Try.ntmps17
  go_wp2_with fail
  refine H1.out.mono ?_
  rintro e w1 ⟨rfl, hb1⟩
  go_wp2_with fail
  refine (H2.out _).mono ?_
  rintro e w2 ⟨rfl, hb2⟩
  go_wp2_with fail
  go_ret
  exact ⟨rfl, below_trans (below_trans (below_alloc1 _ _) hb1) hb2⟩

end Go.Proofs.Ytdmhjejjgcfplaa
