/-
  Layer 9: the walk of Made.
-/
import Derived.Test.YtdmhjejjgcfplaaMetE
import Derived.Test.YtdmhjejjgcfplaaLebR
namespace Go.Proofs.Ytdmhjejjgcfplaa
open Go.RowKit Go.Bar Go.Bar.Leb Go.Bar.Frm Go.Bar.Idt Go.Bar.Met

theorem toNat_ofInt64 (t : Int) : (BitVec.ofInt 64 t).toNat = (t % 18446744073709551616).toNat := by rw [BitVec.toNat_ofInt]; rfl
theorem and7_of (t : Int) : ∃ n : Nat, bits .and .i64 t 7 = n ∧ (n : Int) = t % 8 := by
  have e : bits .and .i64 t 7 = IntKind.i64.wrap ((BitVec.ofInt 64 t &&& BitVec.ofInt 64 7).toNat : Int) := rfl
  have h3 : (BitVec.ofInt 64 7).toNat = 2 ^ 3 - 1 := by decide
  rw [BitVec.toNat_and, h3, Nat.and_two_pow_sub_one_eq_mod, IntKind.wrap_i64, toNat_ofInt64] at e
  exact ⟨(t % 8).toNat, by rw [e]; omega, by omega⟩
theorem and1023_of (t : Int) : ∃ n : Nat, bits .and .i64 t 1023 = n ∧ (n : Int) = t % 1024 := by
  have e : bits .and .i64 t 1023 = IntKind.i64.wrap ((BitVec.ofInt 64 t &&& BitVec.ofInt 64 1023).toNat : Int) := rfl
  have h3 : (BitVec.ofInt 64 1023).toNat = 2 ^ 10 - 1 := by decide
  rw [BitVec.toNat_and, h3, Nat.and_two_pow_sub_one_eq_mod, IntKind.wrap_i64, toNat_ofInt64] at e
  exact ⟨(t % 1024).toNat, by rw [e]; omega, by omega⟩
theorem and65535_of (t : Int) : ∃ n : Nat, bits .and .i64 t 65535 = n ∧ (n : Int) = t % 65536 := by
  have e : bits .and .i64 t 65535 = IntKind.i64.wrap ((BitVec.ofInt 64 t &&& BitVec.ofInt 64 65535).toNat : Int) := rfl
  have h3 : (BitVec.ofInt 64 65535).toNat = 2 ^ 16 - 1 := by decide
  rw [BitVec.toNat_and, h3, Nat.and_two_pow_sub_one_eq_mod, IntKind.wrap_i64, toNat_ofInt64] at e
  exact ⟨(t % 65536).toNat, by rw [e]; omega, by omega⟩
theorem and20_of (t : Int) : ∃ n : Nat, bits .and .i64 t 1048575 = n ∧ (n : Int) = t % 1048576 := by
  have e : bits .and .i64 t 1048575 = IntKind.i64.wrap ((BitVec.ofInt 64 t &&& BitVec.ofInt 64 1048575).toNat : Int) := rfl
  have h3 : (BitVec.ofInt 64 1048575).toNat = 2 ^ 20 - 1 := by decide
  rw [BitVec.toNat_and, h3, Nat.and_two_pow_sub_one_eq_mod, IntKind.wrap_i64, toNat_ofInt64] at e
  exact ⟨(t % 1048576).toNat, by rw [e]; omega, by omega⟩

/-- a meta of the call's own -/
def RetM (w : World) (m : Mt) (en : Ending) (w' : World) : Prop :=
  ∃ fv sv, en = .returned (.agg #[.string (bs m.id), .int .i64 m.mn, .int .i64 m.mx, .int .i64 m.lv, .int .i64 m.sr, .int .i64 m.sm, fv, sv]) ∧ FBuf w w' 45 3 fv m.fs.length (fcs m.fs) ∧ FBuf w w' 9 1 sv m.ss.length (scs m.ss) ∧ Below w.heap.size w w'

set_option maxHeartbeats 8000000 in
set_option maxRecDepth 10000 in
theorem made_any (m : Mt) (tick seq : Int) (fv sv : Value) (w : World) (hf : FlsAt w fv m.fs) (hs : SrcAt w sv m.ss) (hid : m.id.length ≤ maxLen) :
    Calls Try.prog 8 #[.agg #[.string (bs m.id), .int .i64 m.mn, .int .i64 m.mx, .int .i64 m.lv, .int .i64 m.sr, .int .i64 m.sm, fv, sv], .int .i64 tick, .int .i64 seq] w (RetM w (made m tick seq)) := by
  obtain ⟨A, c, rfl, hlc, hcm⟩ := hf.shape
  obtain ⟨A2, c2, rfl, hlc2, hcm2⟩ := hs.shape
  unfold maxLen at hcm hcm2
  obtain ⟨a, ha, ha'⟩ := and1023_of tick
  obtain ⟨b, hb, hb'⟩ := and1023_of seq
  obtain ⟨p, hp, hp'⟩ := and20_of m.mn
  obtain ⟨q, hq, hq'⟩ := and65535_of m.mx
  obtain ⟨lv, hv, hv'⟩ := and7_of m.lv
  obtain ⟨sr, hr, hr'⟩ := and1023_of m.sr
  obtain ⟨sm, hsm, hsm'⟩ := and1023_of m.sm
  have la : a < 1024 := by omega
  have lb : b < 1024 := by omega
  have lp : p < 1048576 := by omega
  have lq : q < 65536 := by omega
  have lv2 : lv < 8 := by omega
  have lr : sr < 1024 := by omega
  have lm : sm < 1024 := by omega
  have hmade : made m tick seq = ⟨mk (1 + a) b, p, p + 1 + q, 1 + lv, sr, sr + sm, [⟨chunksN, 1, sum [99]⟩, ⟨indexN, (m.id.take 20).length, sum (m.id.take 20)⟩], (List.range (min m.ss.length 9)).map fun i => mk 0 i⟩ := by
    unfold made
    rw [← ha', ← hb', ← hp', ← hq', ← hv', ← hr', ← hsm']
    simp
  rw [hmade]
  clear hmade ha' hb' hp' hq' hv' hr' hsm'
  have hmk := make_ok (1 + (a : Int)) b
  rw [show (1 + (a : Int)).toNat = 1 + a by omega, Int.toNat_natCast] at hmk
  obtain ⟨id, hid'⟩ : ∃ id, id = mk (1 + a) b := ⟨_, rfl⟩
  rw [← hid'] at hmk ⊢
  obtain ⟨ct, hct⟩ : ∃ ct, ct = m.id.take 20 := ⟨_, rfl⟩
  have hcl : ct.length ≤ 20 := by rw [hct]; exact List.length_take_le _ _
  obtain ⟨s1, hs1⟩ : ∃ s1, s1 = sum [99] := ⟨_, rfl⟩
  obtain ⟨s2, hs2⟩ : ∃ s2, s2 = sum ct := ⟨_, rfl⟩
  obtain ⟨SS, hSS⟩ : ∃ SS, SS = (List.range (min m.ss.length 9)).map fun i => mk 0 i := ⟨_, rfl⟩
  rw [← hct, ← hs1, ← hs2, ← hSS]
  have HCT := Lib.hid hct
  have HS1 := Lib.hid hs1
  have HS2 := Lib.hid hs2
  have HSS := Lib.hid hSS
  clear hct hs1 hs2 hSS
  have HMK := Lib.hid hmk
  clear hmk hid'
  have HA := Lib.hid hv
  clear hv
  have hv := HA.out
  go_enter Try.func8, Try.ntmps8
  go_wp2_with fail
  refine (HMK.out _ ⟨by omega, by omega⟩ ⟨by omega, by omega⟩).mono ?_
  rintro e w1 ⟨rfl, hb1⟩
  have M1 := ((Blk.new w #[.string (bs m.id), .int .i64 m.mn, .int .i64 m.mx, .int .i64 m.lv, .int .i64 m.sr, .int .i64 m.sm, .slice A m.fs.length c, .slice A2 m.ss.length c2] 25).alloc (.cells #[.string { data := #[] }, .int .i64 0, .int .i64 0, .int .i64 0, .int .i64 0, .int .i64 0, .slice none 0 0, .slice none 0 0] 25)).below hb1
  have R1 := (Blk.new (w.alloc (.cells #[.string (bs m.id), .int .i64 m.mn, .int .i64 m.mx, .int .i64 m.lv, .int .i64 m.sr, .int .i64 m.sm, .slice A m.fs.length c, .slice A2 m.ss.length c2] 25)) #[.string { data := #[] }, .int .i64 0, .int .i64 0, .int .i64 0, .int .i64 0, .int .i64 0, .slice none 0 0, .slice none 0 0] 25).below hb1
  have B1 := below_trans (below_trans (below_alloc1 w (.cells #[.string (bs m.id), .int .i64 m.mn, .int .i64 m.mx, .int .i64 m.lv, .int .i64 m.sr, .int .i64 m.sm, .slice A m.fs.length c, .slice A2 m.ss.length c2] 25)) (below_alloc1 _ (.cells #[.string { data := #[] }, .int .i64 0, .int .i64 0, .int .i64 0, .int .i64 0, .int .i64 0, .slice none 0 0, .slice none 0 0] 25))) hb1
  rw [show (w.alloc (.cells #[.string (bs m.id), .int .i64 m.mn, .int .i64 m.mx, .int .i64 m.lv, .int .i64 m.sr, .int .i64 m.sm, .slice A m.fs.length c, .slice A2 m.ss.length c2] 25)).heap.size = w.heap.size + 1 by simp] at R1
  have hlt := R1.lt
  clear hb1
  have c1 : w1.cell? ⟨w.heap.size, 1, none⟩ = some (.int .i64 m.mn) := M1.cell (i := 1) rfl
  have c3 : w1.cell? ⟨w.heap.size, 3, none⟩ = some (.int .i64 m.lv) := M1.cell (i := 3) rfl
  have c4 : w1.cell? ⟨w.heap.size, 4, none⟩ = some (.int .i64 m.sr) := M1.cell (i := 4) rfl
  go_upto_region 3 with fail
  have M2 := M1.alloc (.cells #[.string (bs id), .int .i64 p, .int .i64 0, .int .i64 (1 + (lv : Int)), .int .i64 sr, .int .i64 0, .slice none 0 0, .slice none 0 0] 25)
  have R2 := R1.alloc (.cells #[.string (bs id), .int .i64 p, .int .i64 0, .int .i64 (1 + (lv : Int)), .int .i64 sr, .int .i64 0, .slice none 0 0, .slice none 0 0] 25)
  have X2 := Blk.new w1 #[.string (bs id), .int .i64 p, .int .i64 0, .int .i64 (1 + (lv : Int)), .int .i64 sr, .int .i64 0, .slice none 0 0, .slice none 0 0] 25
  have B2 := below_trans B1 (below_alloc1 w1 (.cells #[.string (bs id), .int .i64 p, .int .i64 0, .int .i64 (1 + (lv : Int)), .int .i64 sr, .int .i64 0, .slice none 0 0, .slice none 0 0] 25))
  obtain ⟨X, hX⟩ : ∃ X, X = w1.heap.size := ⟨_, rfl⟩
  have hX1 : w.heap.size + 2 ≤ X := by omega
  obtain ⟨w2, hw2⟩ : ∃ w2, w2 = w1.alloc (.cells #[.string (bs id), .int .i64 p, .int .i64 0, .int .i64 (1 + (lv : Int)), .int .i64 sr, .int .i64 0, .slice none 0 0, .slice none 0 0] 25) := ⟨_, rfl⟩
  rw [← hw2] at M2 R2 X2 B2 ⊢
  rw [← hX] at X2 ⊢
  clear c1 c3 c4 M1 R1 B1 hlt hX hw2
  have x1 : w2.cell? ⟨X, 1, none⟩ = some (.int .i64 p) := X2.cell (i := 1) rfl
  have x2 : w2.cell? ⟨X, 2, none⟩ = some (.int .i64 0) := X2.cell (i := 2) rfl
  have x4 : w2.cell? ⟨X, 4, none⟩ = some (.int .i64 sr) := X2.cell (i := 4) rfl
  have x5 : w2.cell? ⟨X, 5, none⟩ = some (.int .i64 0) := X2.cell (i := 5) rfl
  have m2 : w2.cell? ⟨w.heap.size, 2, none⟩ = some (.int .i64 m.mx) := M2.cell (i := 2) rfl
  have m5 : w2.cell? ⟨w.heap.size, 5, none⟩ = some (.int .i64 m.sm) := M2.cell (i := 5) rfl
  have y2 := X2.free 2
  have y5 := X2.free 5
  have hne : X ≠ w.heap.size := by omega
  have hne' : w.heap.size ≠ X := by omega
  go_upto_region 5 with fail
  have M3 := (M2.other hne' 2 (.int .i64 ((p : Int) + 1 + q))).other hne' 5 (.int .i64 ((sr : Int) + sm))
  have R3 := (R2.other (show w.heap.size + 1 ≠ X by omega) 2 (.int .i64 ((p : Int) + 1 + q))).other (show w.heap.size + 1 ≠ X by omega) 5 (.int .i64 ((sr : Int) + sm))
  have X3 := (X2.set 2 (.int .i64 ((p : Int) + 1 + q))).set 5 (.int .i64 ((sr : Int) + sm))
  have B3 := (B2.setCell (p := ⟨X, 2, none⟩) (show w.heap.size ≤ X by omega) (.int .i64 ((p : Int) + 1 + q))).setCell (p := ⟨X, 5, none⟩) (show w.heap.size ≤ X by omega) (.int .i64 ((sr : Int) + sm))
  obtain ⟨w3, hw3⟩ : ∃ w3, w3 = (w2.setCell ⟨X, 2, none⟩ (.int .i64 ((p : Int) + 1 + q))).setCell ⟨X, 5, none⟩ (.int .i64 ((sr : Int) + sm)) := ⟨_, rfl⟩
  rw [← hw3] at M3 R3 X3 B3 ⊢
  have X3 : Blk w3 X 25 #[.string (bs id), .int .i64 p, .int .i64 ((p : Int) + 1 + q), .int .i64 (1 + (lv : Int)), .int .i64 sr, .int .i64 ((sr : Int) + sm), .slice none 0 0, .slice none 0 0] := X3
  clear x1 x2 x4 x5 m2 m5 y2 y5 M2 R2 X2 B2 hw3
  have hct := HCT.out
  have hs1 := HS1.out
  have hs2 := HS2.out
  have hof1 : ∀ w, Calls Try.prog 20 #[.string { data := #[99, 104, 117, 110, 107, 115] }, .string { data := #[99] }] w (RetBelow w (.agg #[.string (bs chunksN), .int .i64 1, .int .u32 s1])) := fun w => by
    rw [hs1]; exact of_any chunksN [99] w (by decide)
  have hof2 : ∀ w, Calls Try.prog 20 #[.string { data := #[105, 110, 100, 101, 120] }, .string (bs ct)] w (RetBelow w (.agg #[.string (bs indexN), .int .i64 ct.length, .int .u32 s2])) := fun w => by
    rw [hs2]; exact of_any indexN ct w (by omega)
  have hcut : ∀ w, Calls Try.prog 12 #[.string (bs m.id), .int .i64 20] w fun e w' => e = .returned (.string (bs ct)) ∧ w = w' := fun w => by
    rw [hct]; exact cut_any (bs m.id) 20 w (by omega) (by omega) hid
  have HO1 := Lib.hid hof1
  have HO2 := Lib.hid hof2
  have HCU := Lib.hid hcut
  clear hof1 hof2 hcut hct hs1 hs2 hf hs
  have hM3 : ∀ w', Below w3.heap.size w3 w' → Blk w' w.heap.size 25 #[.string (bs m.id), .int .i64 m.mn, .int .i64 m.mx, .int .i64 m.lv, .int .i64 m.sr, .int .i64 m.sm, .slice A m.fs.length c, .slice A2 m.ss.length c2] := fun w' h => M3.below h
  have HM3 := Lib.hid M3
  have HR3 := Lib.hid R3
  have HX3 := Lib.hid X3
  have HB3 := Lib.hid B3
  clear M3 R3 X3 B3 hM3
  refine Dk.wp_region_chain (fun k => List.lookup k [(0, (isV (.agg #[.string (bs chunksN), .int .i64 1, .int .u32 s1]), Dk.noK)), (2, (isV (.string (bs m.id)), Dk.noK)), (3, (isV (.string (bs ct)), Dk.noK)), (4, (isV (.agg #[.string (bs indexN), .int .i64 ct.length, .int .u32 s2]), Dk.noK)),
      (5, ((fun v => ∃ B, v = .slice (some ⟨B, 0, none⟩) 2 2), Dk.KF 7 (fun v w => ∃ B, v = .slice (some ⟨B, 0, none⟩) 2 2 ∧ w3.heap.size ≤ B ∧ Buf w 45 3 v 2 [.string (bs chunksN), .int .i64 1, .int .u32 s1, .string (bs indexN), .int .i64 ct.length, .int .u32 s2]))),
      (7, (isV undef, Dk.KL (fun _ w' => ∃ B, w3.heap.size ≤ B ∧ Buf w' 45 3 (.slice (some ⟨B, 0, none⟩) 2 2) 2 [.string (bs chunksN), .int .i64 1, .int .u32 s1, .string (bs indexN), .int .i64 ct.length, .int .u32 s2] ∧ Blk w' w.heap.size 25 #[.string (bs m.id), .int .i64 m.mn, .int .i64 m.mx, .int .i64 m.lv, .int .i64 m.sr, .int .i64 m.sm, .slice A m.fs.length c, .slice A2 m.ss.length c2] ∧ Blk w' (w.heap.size + 1) 25 #[.string { data := #[] }, .int .i64 0, .int .i64 0, .int .i64 0, .int .i64 0, .int .i64 0, .slice none 0 0, .slice none 0 0] ∧ Blk w' X 25 #[.string (bs id), .int .i64 p, .int .i64 ((p : Int) + 1 + q), .int .i64 (1 + (lv : Int)), .int .i64 sr, .int .i64 ((sr : Int) + sm), .slice (some ⟨B, 0, none⟩) 2 2, .slice none 0 0] ∧ Below w.heap.size w w')))])
    (Dk.RB 8 [7]) (Dk.SX 7 (fun w => Below w3.heap.size w3 w) (fun wx => Blk wx w.heap.size 25 #[.string (bs m.id), .int .i64 m.mn, .int .i64 m.mx, .int .i64 m.lv, .int .i64 m.sr, .int .i64 m.sm, .slice A m.fs.length c, .slice A2 m.ss.length c2])) (by kernel_rfl) 79 (by kernel_rfl) rfl ?_ ?_ ?_ ?_ ?_ ?_
  · apply Dk.lookup_all (p := fun _ (g : (Value → Prop) × (Value → (Nat → Bool) → World → Prop)) => ∃ v, g.1 v)
    simp only [List.forall_mem_cons, List.not_mem_nil, false_imp_iff, implies_true, and_true]
    exact ⟨⟨_, rfl⟩, ⟨_, rfl⟩, ⟨_, rfl⟩, ⟨_, rfl⟩, ⟨_, 0, rfl⟩, ⟨_, rfl⟩⟩
  · refine Dk.lookup_all ?_
    simp only [List.forall_mem_cons, List.not_mem_nil, false_imp_iff, implies_true, and_true]
    refine ⟨?_, ?_, ?_, ?_, ?_, ?_⟩
    all_goals first
      | exact fun _ _ _ _ _ _ _ _ _ _ _ => trivial
      | exact Dk.KF.keepB (fun v w w' hb ⟨B, h1, h2, h3⟩ => ⟨B, h1, h2, h3.below hb⟩) (by kernel_rfl)
      | exact Dk.KL.keepLast (by kernel_rfl)
  · refine Dk.lookup_all ?_
    simp only [List.forall_mem_cons, List.not_mem_nil, false_imp_iff, implies_true, and_true]
    refine ⟨?_, ?_, ?_, ?_, ?_, ?_⟩
    all_goals first
      | exact fun _ _ _ _ _ _ => trivial
      | exact fun _ _ _ _ _ h => Dk.KF.pure h
      | exact fun _ _ _ _ _ h => h
  · exact Dk.SX.pure rfl
  · exact ⟨fun _ => (Below.refl _ _).drew', HM3.out.drew⟩
  refine Dk.Chain.weaken (F := Dk.atK []) (fun _ _ _ _ => trivial) ?_
  repeat
    first
    | (refine Dk.Chain.step (v := ?_) (a' := ?_) rfl rfl rfl ?_ ?_ ?_
       rotate_left 2
       focus (intro w; go_simp; try with_reducible rfl)
       focus (simp only [Act.put, List.setIfInBounds_toArray, List.set_cons_succ, List.set_cons_zero]; try rfl))
    | (refine Dk.Chain.call (a' := ?_) _ rfl rfl rfl rfl (fun D wx hx hD hF => ?_) ?_ ?_
       rotate_left 1
       focus
         first
         | (go_simp; (first | (with_reducible refine (HO1.out wx).mono ?_) | (with_reducible refine (HO2.out wx).mono ?_)); exact (fun e w' ⟨h1, h2⟩ => by subst h1; exact ⟨rfl, Dk.RB.of (by decide) h2, Dk.SX.call hx (by decide) (fun h => below_trans h h2) (hx.2.below h2)⟩))
         | (go_simp; (with_reducible refine (HCU.out wx).mono ?_); exact (fun e w' ⟨h1, h2⟩ => by subst h1; subst h2; exact ⟨rfl, Dk.RB.of (by decide) (Below.refl _ _), hx.other (by decide)⟩))
         | (have g0 : wx.cell? ⟨w.heap.size, 0, none⟩ = some (.string (bs m.id)) := hx.2.cell (i := 0) rfl
            go_simp
            exact And.intro (Dk.RB.of (by decide) (Below.refl _ _)) (hx.other (by decide)))
       focus (simp only [Act.put, List.setIfInBounds_toArray, List.set_cons_succ, List.set_cons_zero]; try rfl))
    | (refine Dk.Chain.make _ _ rfl rfl rfl (fun D wx hx hD hF => ?_) (fun vk hvk a' ha => ?_)
       focus
         first
         | (go_simp
            exact ⟨Dk.RB.of (by decide) (below_alloc1 _ _), Dk.SX.call hx (by decide) (fun h => below_trans h (below_alloc1 _ _)) (hx.2.alloc _), fun h7 => ⟨_, rfl, (hx.1 (by rwa [Dn.upd_ne D (show (7 : Nat) ≠ 5 by decide)] at h7)).size, Buf.lit wx 45 3 2 [.string (bs chunksN), .int .i64 1, .int .u32 s1, .string (bs indexN), .int .i64 ct.length, .int .u32 s2] rfl (by decide)⟩⟩)
         | (have h0 := hx.1 hD
            obtain ⟨B', hBe, hB', hbuf⟩ := (show Dk.KF 7 (fun v w => ∃ B, v = .slice (some ⟨B, 0, none⟩) 2 2 ∧ w3.heap.size ≤ B ∧ Buf w 45 3 v 2 [.string (bs chunksN), .int .i64 1, .int .u32 s1, .string (bs indexN), .int .i64 ct.length, .int .u32 s2]) (.slice (some ⟨B, 0, none⟩) 2 2) D wx from Dk.atK_get' (hF 5 (by kernel_rfl)).2 rfl) hD
            obtain rfl : B = B' := by simpa using hBe
            have X5 := HX3.out.below h0
            have x6 := X5.cell (i := 6) rfl
            have y6 := X5.free 6
            go_simp
            exact ⟨Dk.RB.yes (by decide) rfl, Dk.SX.first (hx.2.other hne' 6 _), undef, rfl, B, hB', hbuf.set_ne X5 (by decide) 6 _, hx.2.other hne' 6 _, (HR3.out.below h0).other (show w.heap.size + 1 ≠ X by omega) 6 _, X5.set 6 _, (below_trans HB3.out h0).setCell (show w.heap.size ≤ X by omega) _⟩)
       simp only [Act.put, List.setIfInBounds_toArray, List.set_cons_succ, List.set_cons_zero] at ha
       subst ha
       try (obtain ⟨B, rfl⟩ := hvk))
  refine Dk.Chain.end_facts (fun D w9 hX hF => ?_)
  obtain ⟨B', hB', hbuf, M9, R9, X9, B9⟩ := (show Dk.KL (fun _ w' => ∃ B, w3.heap.size ≤ B ∧ Buf w' 45 3 (.slice (some ⟨B, 0, none⟩) 2 2) 2 [.string (bs chunksN), .int .i64 1, .int .u32 s1, .string (bs indexN), .int .i64 ct.length, .int .u32 s2] ∧ Blk w' w.heap.size 25 #[.string (bs m.id), .int .i64 m.mn, .int .i64 m.mx, .int .i64 m.lv, .int .i64 m.sr, .int .i64 m.sm, .slice A m.fs.length c, .slice A2 m.ss.length c2] ∧ Blk w' (w.heap.size + 1) 25 #[.string { data := #[] }, .int .i64 0, .int .i64 0, .int .i64 0, .int .i64 0, .int .i64 0, .slice none 0 0, .slice none 0 0] ∧ Blk w' X 25 #[.string (bs id), .int .i64 p, .int .i64 ((p : Int) + 1 + q), .int .i64 (1 + (lv : Int)), .int .i64 sr, .int .i64 ((sr : Int) + sm), .slice (some ⟨B, 0, none⟩) 2 2, .slice none 0 0] ∧ Below w.heap.size w w') _ D w9 from Dk.atK_get' (hF 7) rfl)
  have hsz3 := HB3.out.size
  clear hX hF
  have F9 : FBuf w w9 45 3 (.slice (some ⟨B', 0, none⟩) 2 2) 2 [.string (bs chunksN), .int .i64 1, .int .u32 s1, .string (bs indexN), .int .i64 ct.length, .int .u32 s2] := ⟨hbuf, fun k hk => by simp [Value.ownBlock] at hk; omega⟩
  obtain ⟨B, hBB⟩ : ∃ B, B = B' := ⟨_, rfl⟩
  rw [← hBB] at F9 X9
  clear hbuf hB' hBB
  go_wp2_with fail
  go_loopw [10] (fun i wr => ∃ (k : Nat) (sv : Value), i = .int .i64 k ∧ k ≤ m.ss.length ∧ k ≤ 9 ∧ Blk wr w.heap.size 25 #[.string (bs m.id), .int .i64 m.mn, .int .i64 m.mx, .int .i64 m.lv, .int .i64 m.sr, .int .i64 m.sm, .slice A m.fs.length c, .slice A2 m.ss.length c2] ∧ Blk wr (w.heap.size + 1) 25 #[.string { data := #[] }, .int .i64 0, .int .i64 0, .int .i64 0, .int .i64 0, .int .i64 0, .slice none 0 0, .slice none 0 0] ∧ Blk wr X 25 #[.string (bs id), .int .i64 p, .int .i64 ((p : Int) + 1 + q), .int .i64 (1 + (lv : Int)), .int .i64 sr, .int .i64 ((sr : Int) + sm), .slice (some ⟨B, 0, none⟩) 2 2, sv] ∧ FBuf w wr 45 3 (.slice (some ⟨B, 0, none⟩) 2 2) 2 [.string (bs chunksN), .int .i64 1, .int .u32 s1, .string (bs indexN), .int .i64 ct.length, .int .u32 s2] ∧ FBuf w wr 9 1 sv k (scs ((List.range k).map fun i => mk 0 i)) ∧ Below w.heap.size w wr) (fun i _ => 9 - (intOf i).toNat)
  case atStart => exact ⟨0, _, rfl, Nat.zero_le _, by omega, M9, R9, X9, F9, FBuf.nil _ _ _ _, B9⟩
  case round =>
    obtain ⟨k, sv, rfl, hk, hk9, hM, hR, hX, hF, hS, hB⟩ := hrel
    clear M9 R9 X9 F9 B9
    have hshape := hS.buf.shape
    obtain ⟨sA, sc, rfl, hsc⟩ := hshape
    have c7 : wr.cell? ⟨w.heap.size, 7, none⟩ = some (.slice A2 m.ss.length c2) := hM.cell (i := 7) rfl
    by_cases hgo : k < m.ss.length ∧ k < 9
    · obtain ⟨hg1, hg2⟩ := hgo
      have hmk := make_ok 0 k
      rw [show (0 : Int).toNat = 0 from rfl, Int.toNat_natCast] at hmk
      obtain ⟨x, hx⟩ : ∃ x, x = mk 0 k := ⟨_, rfl⟩
      rw [← hx] at hmk
      have HMK2 := Lib.hid hmk
      have HX := Lib.hid hx
      clear hmk hx
      go_wp2_with fail
      refine (HMK2.out _ ⟨by omega, by omega⟩ ⟨by omega, by omega⟩).mono ?_
      rintro e w4 ⟨rfl, hb4⟩
      have hM := hM.below hb4
      have hR := hR.below hb4
      have hX := hX.below hb4
      have hF := hF.below hb4
      have hS := hS.below hb4
      have hB := below_trans hB hb4
      clear hb4 c7
      have d : w4.cell? ⟨X, 7, none⟩ = some (.slice sA k sc) := hX.cell (i := 7) rfl
      have df := hX.free 7
      go_wp2_with (at_builtin; refine wpList_append_flit rfl (.tmp 73) (.tmp 75) 23 rfl str_ty rfl hS.buf rfl (by simp) rfl (by simp [Value.oneCell']) (by simp only [maxLen]; omega) (by omega) ?_; intro v3 w5 hb5 ha5 hg5; obtain ⟨gA, gc, rfl, hgc⟩ := hb5.shape; have hM := (hM.alloc _).ap (hS.alloc _).buf ha5 (by decide); have hR := (hR.alloc _).ap (hS.alloc _).buf ha5 (by decide); have hX := (hX.alloc _).ap (hS.alloc _).buf ha5 (by decide); have hF := (hF.alloc _).keep (hS.alloc _).buf ha5 (by decide); have hsz : w.heap.size ≤ (w4.alloc (.cells #[.string (bs x)] 9)).heap.size := Nat.le_trans hB.size (Nat.le_trans (Nat.le_succ _) (Nat.le_of_eq (by simp))); have hB := (below_trans hB (below_alloc1 w4 (.cells #[.string (bs x)] 9))).trans ((hS.alloc (.cells #[.string (bs x)] 9)).belowB hsz ha5); have hS := (hS.alloc (.cells #[.string (bs x)] 9)).step hsz hb5 hg5; clear hb5 ha5 hg5 hsz d df; have d : w5.cell? ⟨X, 7, none⟩ = some (.slice sA k sc) := hX.cell (i := 7) rfl; have df := hX.free 7)
      go_roundw
      case rel => exact ⟨k + 1, _, by go_num, by omega, by omega, hM.other hne' 7 _, hR.other (show w.heap.size + 1 ≠ X by omega) 7 _, hX.set 7 (.slice gA (k + 1) gc), hF.set_ne hX (by decide) 7 _, by rw [List.range_succ, List.map_append, scs_append]; rw [HX.out] at hS; exact hS.set_ne hX (by decide) 7 _, hB.setCell (show w.heap.size ≤ X by omega) _⟩
      case measure => simp [intOf]; omega
    · have hkk : k = min m.ss.length 9 := by omega
      have hend : m.ss.length ≤ k ∨ (k < m.ss.length ∧ 9 ≤ k) := by omega
      have hfs : FBuf w wr 9 1 (.slice sA k sc) SS.length (scs SS) := by
        rw [hkk] at hS ⊢
        rw [← HSS.out] at hS
        have hl : SS.length = min m.ss.length 9 := by rw [HSS.out]; simp
        rw [hl]
        exact hS
      have HS := Lib.hid (FBuf.set_ne2 (FBuf.set_ne2 (FBuf.set_ne2 (FBuf.set_ne2 (FBuf.set_ne2 (FBuf.set_ne2 (FBuf.set_ne2 (FBuf.set_ne2 ⟨hfs, _, hR⟩ (by decide) 0 (.string (bs id))) (by decide) 1 (.int .i64 p)) (by decide) 2 (.int .i64 ((p : Int) + 1 + q))) (by decide) 3 (.int .i64 (1 + (lv : Int)))) (by decide) 4 (.int .i64 sr)) (by decide) 5 (.int .i64 ((sr : Int) + sm))) (by decide) 6 (.slice (some ⟨B, 0, none⟩) 2 2)) (by decide) 7 (.slice sA k sc))
      have HF := Lib.hid (FBuf.set_ne2 (FBuf.set_ne2 (FBuf.set_ne2 (FBuf.set_ne2 (FBuf.set_ne2 (FBuf.set_ne2 (FBuf.set_ne2 (FBuf.set_ne2 ⟨hF, _, hR⟩ (by decide) 0 (.string (bs id))) (by decide) 1 (.int .i64 p)) (by decide) 2 (.int .i64 ((p : Int) + 1 + q))) (by decide) 3 (.int .i64 (1 + (lv : Int)))) (by decide) 4 (.int .i64 sr)) (by decide) 5 (.int .i64 ((sr : Int) + sm))) (by decide) 6 (.slice (some ⟨B, 0, none⟩) 2 2)) (by decide) 7 (.slice sA k sc))
      have HB := Lib.hid hB
      have HG := Lib.hid (frR_set (frR_set (frR_set (frR_set (frR_set (frR_set (frR_set (frR_set (Fr.refl (fun k _ => k = w.heap.size + 1) wr) 0 (.string (bs id))) 1 (.int .i64 p)) 2 (.int .i64 ((p : Int) + 1 + q))) 3 (.int .i64 (1 + (lv : Int)))) 4 (.int .i64 sr)) 5 (.int .i64 ((sr : Int) + sm))) 6 (.slice (some ⟨B, 0, none⟩) 2 2)) 7 (.slice sA k sc))
      clear hgo hkk hfs hF hB hS
      have r0 : wr.cell? ⟨w.heap.size + 1, 0, none⟩ = some (.string { data := #[] }) := hR.cell (i := 0) rfl
      have q0 := hR.free 0
      have r1 : wr.cell? ⟨w.heap.size + 1, 1, none⟩ = some (.int .i64 0) := hR.cell (i := 1) rfl
      have q1 := hR.free 1
      have r2 : wr.cell? ⟨w.heap.size + 1, 2, none⟩ = some (.int .i64 0) := hR.cell (i := 2) rfl
      have q2 := hR.free 2
      have r3 : wr.cell? ⟨w.heap.size + 1, 3, none⟩ = some (.int .i64 0) := hR.cell (i := 3) rfl
      have q3 := hR.free 3
      have r4 : wr.cell? ⟨w.heap.size + 1, 4, none⟩ = some (.int .i64 0) := hR.cell (i := 4) rfl
      have q4 := hR.free 4
      have r5 : wr.cell? ⟨w.heap.size + 1, 5, none⟩ = some (.int .i64 0) := hR.cell (i := 5) rfl
      have q5 := hR.free 5
      have r6 : wr.cell? ⟨w.heap.size + 1, 6, none⟩ = some (.slice none 0 0) := hR.cell (i := 6) rfl
      have q6 := hR.free 6
      have r7 : wr.cell? ⟨w.heap.size + 1, 7, none⟩ = some (.slice none 0 0) := hR.cell (i := 7) rfl
      have q7 := hR.free 7
      have z0 : wr.cell? ⟨X, 0, none⟩ = some (.string (bs id)) := hX.cell (i := 0) rfl
      have z1 : wr.cell? ⟨X, 1, none⟩ = some (.int .i64 p) := hX.cell (i := 1) rfl
      have z2 : wr.cell? ⟨X, 2, none⟩ = some (.int .i64 ((p : Int) + 1 + q)) := hX.cell (i := 2) rfl
      have z3 : wr.cell? ⟨X, 3, none⟩ = some (.int .i64 (1 + (lv : Int))) := hX.cell (i := 3) rfl
      have z4 : wr.cell? ⟨X, 4, none⟩ = some (.int .i64 sr) := hX.cell (i := 4) rfl
      have z5 : wr.cell? ⟨X, 5, none⟩ = some (.int .i64 ((sr : Int) + sm)) := hX.cell (i := 5) rfl
      have z6 : wr.cell? ⟨X, 6, none⟩ = some (.slice (some ⟨B, 0, none⟩) 2 2) := hX.cell (i := 6) rfl
      have z7 : wr.cell? ⟨X, 7, none⟩ = some (.slice sA k sc) := hX.cell (i := 7) rfl
      clear hM hR hX
      rcases hend with h1 | ⟨h1, h2⟩
      all_goals
        go_wp2_with fail
        refine bodyPost_ret (v := .agg #[.string (bs id), .int .i64 p, .int .i64 ((p : Int) + 1 + q), .int .i64 (1 + (lv : Int)), .int .i64 sr, .int .i64 ((sr : Int) + sm), .slice (some ⟨B, 0, none⟩) 2 2, .slice sA k sc]) (by simp [results, Try.results8, go_sem, r0, r1, r2, r3, r4, r5, r6, r7]) rfl ?_
        exact ⟨_, _, rfl, HF.out.1, HS.out.1, HB.out.trans (Fr.below HG.out HB.out.size (fun k i hk h => by have h : k = w.heap.size + 1 := h; omega))⟩

end Go.Proofs.Ytdmhjejjgcfplaa
