/-
  Layer 9: MetaChecks: any meta: may it be said; the bytes of one that may; what it lists, whether it meets times.
-/
import Derived.Test.YtdmhjejjgcfplaaMetP
import Derived.Test.YtdmhjejjgcfplaaMetQ
import Derived.Test.YtdmhjejjgcfplaaMetE
import Derived.Test.YtdmhjejjgcfplaaRows
namespace Go.Proofs.Ytdmhjejjgcfplaa
open Go.RowKit Go.Bar Go.Bar.Leb Go.Bar.Frm Go.Bar.Idt Go.Bar.Met Go.ChangeShapes Go.WideShapes Go.ChangeAt
open Go.ChangeMaps (open_string shut_string)

theorem fewM_facts (m : Mt) (hs : ∀ f ∈ m.fs, f.sum < 4294967296) : (fewM m).id.length ≤ 20 ∧ (fewM m).fs.length ≤ 3 ∧ (fewM m).ss.length ≤ 60 ∧ (∀ s ∈ (fewM m).ss, s.length ≤ 20) ∧ (∀ f ∈ (fewM m).fs, f.name.length ≤ 20 ∧ f.sum < 4294967296) := by
  refine ⟨?_, ?_, ?_, fun s h => ?_, fun f h => ?_⟩
  · exact List.length_take_le _ _
  · unfold fewM; rw [List.length_map]; exact List.length_take_le _ _
  · unfold fewM; rw [List.length_map]; exact List.length_take_le _ _
  · simp only [fewM, List.mem_map] at h
    obtain ⟨x, _, rfl⟩ := h
    exact List.length_take_le _ _
  · simp only [fewM, List.mem_map] at h
    obtain ⟨x, hx, rfl⟩ := h
    exact ⟨List.length_take_le _ _, hs x (List.mem_of_mem_take hx)⟩

/-- is a text among some? -/
def among (x : List UInt8) (ss : List (List UInt8)) (k : Nat) : Bool := (ss.take k).contains x
theorem among_next {x s : List UInt8} {ss : List (List UInt8)} {k : Nat} (h : ss[k]? = some s) : among x ss (k + 1) = (among x ss k || (s == x)) := by
  unfold among
  rw [List.take_add_one, h]
  simp only [Option.toList_some, List.contains_eq_mem, List.mem_append, List.mem_singleton, Bool.decide_or]
  congr 1
  rw [Bool.eq_iff_iff]
  simp only [decide_eq_true_eq, beq_iff_eq]
  exact ⟨fun h => h.symm, fun h => h.symm⟩

set_option maxHeartbeats 16000000 in
set_option maxRecDepth 10000 in
theorem metaChecks_walk1 (m : Mt) (fv0 sv0 : Value) (id0 : ByteArray) (hid0 : id0.size ≤ maxLen) (from_ to_ : Int) (hfr : -9223372036854775808 ≤ from_ ∧ from_ ≤ 9223372036854775807) (hto_ : -9223372036854775808 ≤ to_ ∧ to_ ≤ 9223372036854775807) (d0 : ByteArray) (hd0 : d0.size ≤ maxLen) (w : World) (hm : MetaAt w m fv0 sv0) :
    Calls Try.prog 4 #[mtV m fv0 sv0, .string id0, .int .i64 from_, .int .i64 to_, .string d0] w (RetBelow w (.bool true)) := by
  have hm0 := hm
  unfold mtV
  obtain ⟨A, a1, rfl, _, _⟩ := hm.fl.shape
  obtain ⟨A2, a2, rfl, _, _⟩ := hm.sr.shape
  obtain ⟨f1, f2, f3, f4, f5⟩ := fewM_facts m (fun f h => (hm.nm f h).2.1)
  have hba := below_alloc1 w (.cells #[.string (bs m.id), .int .i64 m.mn, .int .i64 m.mx, .int .i64 m.lv, .int .i64 m.sr, .int .i64 m.sm, .slice A m.fs.length a1, .slice A2 m.ss.length a2] 25)
  have hfew := few9_any m (.slice A m.fs.length a1) (.slice A2 m.ss.length a2) (w.alloc (.cells #[.string (bs m.id), .int .i64 m.mn, .int .i64 m.mx, .int .i64 m.lv, .int .i64 m.sr, .int .i64 m.sm, .slice A m.fs.length a1, .slice A2 m.ss.length a2] 25)) ⟨FlsAt.below hm0.fl hba, SrcAt.below hm0.sr hba, hm0.id, hm0.nm, hm0.ss, hm0.mn, hm0.mx, hm0.lv, hm0.se, hm0.sm⟩
  unfold mtV at hfew
  obtain ⟨mm, hmm⟩ : ∃ mm, mm = fewM m := ⟨_, rfl⟩
  have e1 : (fewM m).mn = mm.mn := by rw [hmm]
  rw [← hmm] at hfew f1 f2 f3 f4 f5
  have hfl := fields_len mm 20 (by omega) f1 f5 f4 (by omega)
  obtain ⟨idl, hidl⟩ : ∃ l, l = id0.data.toList := ⟨_, rfl⟩
  obtain rfl : id0 = bs idl := by rw [hidl]; rfl
  obtain ⟨d, hd⟩ : ∃ l, l = d0.data.toList.take 100 := ⟨_, rfl⟩
  have hdl : d.length ≤ 100 := by rw [hd]; exact List.length_take_le _ _
  have hcu : ∀ w, Calls Try.prog 12 #[.string d0, .int .i64 100] w fun e w' => e = .returned (.string (bs d)) ∧ w = w' := fun w => by
    rw [hd]; exact cut_any d0 100 w (by omega) (by omega) hd0
  have hsum : ∀ f ∈ mm.fs, f.sum < 4294967296 := fun f h => (f5 f h).2
  have hto : ∀ fv sv w, FlsAt w fv mm.fs → SrcAt w sv mm.ss → Calls Try.prog 13 #[.agg #[.string (bs mm.id), .int .i64 mm.mn, .int .i64 mm.mx, .int .i64 mm.lv, .int .i64 mm.sr, .int .i64 mm.sm, fv, sv]] w (RetT w mm sv) := fun fv sv w hf hs => told_any mm fv sv w hf hs (by omega)
  have hch : ∀ fv sv w, FlsAt w fv mm.fs → SrcAt w sv mm.ss → Calls Try.prog 14 #[.agg #[.string (bs mm.id), .int .i64 mm.mn, .int .i64 mm.mx, .int .i64 mm.lv, .int .i64 mm.sr, .int .i64 mm.sm, fv, sv]] w (RetBelow w (.int .i64 (chk mm))) := fun fv sv w hf hs => mcheck_any mm fv sv w hf hs (by omega) (fun s h => by have := f4 s h; omega)
  have hrc : ∀ fv sv w, FlsAt w fv mm.fs → SrcAt w sv mm.ss → Calls Try.prog 15 #[.agg #[.string (bs mm.id), .int .i64 mm.mn, .int .i64 mm.mx, .int .i64 mm.lv, .int .i64 mm.sr, .int .i64 mm.sm, fv, sv]] w (RetBelow w (.bool (chkB mm))) := fun fv sv w hf hs => rcheck_any mm fv sv w hf hs (by omega) (fun s h => by have := f4 s h; omega)
  obtain ⟨E, hE⟩ : ∃ E, E = encode mm := ⟨_, rfl⟩
  obtain ⟨F, hF⟩ : ∃ F, F = fields mm := ⟨_, rfl⟩
  have hFl : F.length ≤ 10000 := by rw [hF]; omega
  have hen : ∀ fv sv w, FlsAt w fv mm.fs → SrcAt w sv mm.ss → Calls Try.prog 16 #[.agg #[.string (bs mm.id), .int .i64 mm.mn, .int .i64 mm.mx, .int .i64 mm.lv, .int .i64 mm.sr, .int .i64 mm.sm, fv, sv]] w (RetBelow w (.string (bs E))) := fun fv sv w hf hs => by
    rw [hE]; exact encode_any mm fv sv w hf hs (by omega) hsum
  have hre : ∀ fv sv w, FlsAt w fv mm.fs → SrcAt w sv mm.ss → Calls Try.prog 17 #[.agg #[.string (bs mm.id), .int .i64 mm.mn, .int .i64 mm.mx, .int .i64 mm.lv, .int .i64 mm.sr, .int .i64 mm.sm, fv, sv]] w (RetBelow w (.string (bs E))) := fun fv sv w hf hs => by
    rw [hE]; exact rencode_any mm fv sv w hf hs (by omega) hsum
  have hrf : ∀ fv sv w, FlsAt w fv mm.fs → SrcAt w sv mm.ss → Calls Try.prog 19 #[.agg #[.string (bs mm.id), .int .i64 mm.mn, .int .i64 mm.mx, .int .i64 mm.lv, .int .i64 mm.sr, .int .i64 mm.sm, fv, sv]] w (RetBelow w (.string (bs F))) := fun fv sv w hf hs => by
    rw [hF]; exact rfields_any mm fv sv w hf hs (by omega) hsum
  have hpu : ∀ fv sv w0 W V, NBuf w0 W 5 1 V [(97 : UInt8)].length (bcs [97]) → FlsAt w0 fv mm.fs → SrcAt w0 sv mm.ss → Calls Try.prog 18 #[V, .agg #[.string (bs mm.id), .int .i64 mm.mn, .int .i64 mm.mx, .int .i64 mm.lv, .int .i64 mm.sr, .int .i64 mm.sm, fv, sv]] W (fun en w' => ∃ v, en = .returned v ∧ NBuf w0 w' 5 1 v (97 :: F).length (bcs (97 :: F))) := fun fv sv w0 W V hN hf hs => by
    rw [hF]; exact put_any mm fv sv w0 W V [97] hN hf hs (by simp; omega) hsum
  have hli : ∀ fv sv w, SrcAt w sv mm.ss → Calls Try.prog 21 #[.agg #[.string (bs mm.id), .int .i64 mm.mn, .int .i64 mm.mx, .int .i64 mm.lv, .int .i64 mm.sr, .int .i64 mm.sm, fv, sv], .string (bs idl)] w (RetBelow w (.bool (mm.ss.contains idl))) := fun fv sv w hs => lists_any mm fv sv idl w hs
  have hme : ∀ fv sv w, Calls Try.prog 10 #[.agg #[.string (bs mm.id), .int .i64 mm.mn, .int .i64 mm.mx, .int .i64 mm.lv, .int .i64 mm.sr, .int .i64 mm.sm, fv, sv], .int .i64 from_, .int .i64 to_] w (RetBelow w (.bool (decide (mm.mn < to_) && decide (from_ < mm.mx)))) := fun fv sv w => meets_any mm fv sv from_ to_ w
  have hof : ∀ w, Calls Try.prog 20 #[.string (bs idl), .string (bs d)] w (RetBelow w (.agg #[.string (bs idl), .int .i64 d.length, .int .u32 (sum d)])) := fun w => of_any idl d w (by omega)
  have hh1 : ∀ w, Calls Try.prog 22 #[.agg #[.string (bs idl), .int .i64 d.length, .int .u32 (sum d)], .string (bs d)] w (RetBelow w (.bool true)) := fun w => by
    have := holds_any idl d d.length (sum d) w (by omega)
    simpa using this
  have hh2 : ∀ w, Calls Try.prog 22 #[.agg #[.string (bs idl), .int .i64 d.length, .int .u32 (sum d)], .string (bs (d ++ [120]))] w (RetBelow w (.bool false)) := fun w => by
    have := holds_any idl (d ++ [120]) d.length (sum d) w (by rw [List.length_append]; simp; omega)
    rw [show ((d.length : Int) == ((d ++ [(120 : UInt8)]).length : Int)) = false by rw [beq_eq_false_iff_ne, List.length_append]; simp; omega, Bool.false_and] at this
    exact this
  have HFEW := Lib.hid hfew
  have HCU := Lib.hid hcu
  have HTO := Lib.hid hto
  have HEN := Lib.hid hen
  have HRE := Lib.hid hre
  have HRF := Lib.hid hrf
  have HPU := Lib.hid hpu
  have HLI := Lib.hid hli
  have HME := Lib.hid hme
  have HOF := Lib.hid hof
  have HH1 := Lib.hid hh1
  have HH2 := Lib.hid hh2
  have HCH := Lib.hid hch
  have HRC := Lib.hid hrc
  clear hfew hcu hto hen hre hrf hpu hli hme hof hh1 hh2 hch hrc hE hF hd hidl hsum hfl e1 hmm hm0 f4 f5 hm hba
  have M0 := Blk.new w #[.string (bs m.id), .int .i64 m.mn, .int .i64 m.mx, .int .i64 m.lv, .int .i64 m.sr, .int .i64 m.sm, .slice A m.fs.length a1, .slice A2 m.ss.length a2] 25
  have B0 := below_alloc1 w (.cells #[.string (bs m.id), .int .i64 m.mn, .int .i64 m.mx, .int .i64 m.lv, .int .i64 m.sr, .int .i64 m.sm, .slice A m.fs.length a1, .slice A2 m.ss.length a2] 25)
  go_enter Try.func4, Try.ntmps4
  go_wp2_with fail
  refine HFEW.out.mono ?_
  rintro e w1 ⟨fv1, sv1, rfl, hfx, hsx, hb1⟩
  obtain ⟨X1, x1, rfl, _⟩ := hfx.buf.shape
  obtain ⟨X2, x2, rfl, _⟩ := hsx.buf.shape
  have M1 := M0.below hb1
  have B1 := below_trans B0 hb1
  have hfx := hfx.st8 (v0 := .string (bs mm.id)) (v1 := .int .i64 mm.mn) (v2 := .int .i64 mm.mx) (v3 := .int .i64 mm.lv) (v4 := .int .i64 mm.sr) (v5 := .int .i64 mm.sm) (v6 := .slice X1 mm.fs.length x1) (v7 := .slice X2 mm.ss.length x2) M1 (by decide)
  have hsx := hsx.st8 (v0 := .string (bs mm.id)) (v1 := .int .i64 mm.mn) (v2 := .int .i64 mm.mx) (v3 := .int .i64 mm.lv) (v4 := .int .i64 mm.sr) (v5 := .int .i64 mm.sm) (v6 := .slice X1 mm.fs.length x1) (v7 := .slice X2 mm.ss.length x2) M1 (by decide)
  have M2 := M1.st8 (v0 := .string (bs mm.id)) (v1 := .int .i64 mm.mn) (v2 := .int .i64 mm.mx) (v3 := .int .i64 mm.lv) (v4 := .int .i64 mm.sr) (v5 := .int .i64 mm.sm) (v6 := .slice X1 mm.fs.length x1) (v7 := .slice X2 mm.ss.length x2)
  have B2 := Below.st8 (v0 := .string (bs mm.id)) (v1 := .int .i64 mm.mn) (v2 := .int .i64 mm.mx) (v3 := .int .i64 mm.lv) (v4 := .int .i64 mm.sr) (v5 := .int .i64 mm.sm) (v6 := .slice X1 mm.fs.length x1) (v7 := .slice X2 mm.ss.length x2) B1 (Nat.le_refl _)
  have c0 := M1.cell (i := 0) (u := .string (bs m.id)) rfl
  have c1 := M1.cell (i := 1) (u := .int .i64 m.mn) rfl
  have c2 := M1.cell (i := 2) (u := .int .i64 m.mx) rfl
  have c3 := M1.cell (i := 3) (u := .int .i64 m.lv) rfl
  have c4 := M1.cell (i := 4) (u := .int .i64 m.sr) rfl
  have c5 := M1.cell (i := 5) (u := .int .i64 m.sm) rfl
  have c6 := M1.cell (i := 6) (u := .slice A m.fs.length a1) rfl
  have c7 := M1.cell (i := 7) (u := .slice A2 m.ss.length a2) rfl
  have q0 := M1.free 0
  have q1 := M1.free 1
  have q2 := M1.free 2
  have q3 := M1.free 3
  have q4 := M1.free 4
  have q5 := M1.free 5
  have q6 := M1.free 6
  have q7 := M1.free 7
  have hfx := Lib.hid hfx.slice
  have hsx := Lib.hid hsx.slice
  have M2 := Lib.hid M2
  have B2 := Lib.hid B2
  clear M0 B0 M1 B1 hb1
  go_upto_region 2 with fail
  obtain ⟨w2, hw2⟩ : ∃ x : World, x = ((((((((w1.setCell ⟨w.heap.size, 0, none⟩ (.string (bs mm.id))).setCell ⟨w.heap.size, 1, none⟩ (.int .i64 mm.mn)).setCell ⟨w.heap.size, 2, none⟩ (.int .i64 mm.mx)).setCell ⟨w.heap.size, 3, none⟩ (.int .i64 mm.lv)).setCell ⟨w.heap.size, 4, none⟩ (.int .i64 mm.sr)).setCell ⟨w.heap.size, 5, none⟩ (.int .i64 mm.sm)).setCell ⟨w.heap.size, 6, none⟩ (.slice X1 mm.fs.length x1)).setCell ⟨w.heap.size, 7, none⟩ (.slice X2 mm.ss.length x2)) := ⟨_, rfl⟩
  have hfx : FlsAt w2 (.slice X1 mm.fs.length x1) mm.fs := by rw [hw2]; exact hfx.out
  have hsx : SrcAt w2 (.slice X2 mm.ss.length x2) mm.ss := by rw [hw2]; exact hsx.out
  have M2 : Blk w2 w.heap.size 25 #[.string (bs mm.id), .int .i64 mm.mn, .int .i64 mm.mx, .int .i64 mm.lv, .int .i64 mm.sr, .int .i64 mm.sm, .slice X1 mm.fs.length x1, .slice X2 mm.ss.length x2] := by rw [hw2]; exact M2.out
  have B2 : Below w.heap.size w w2 := by rw [hw2]; exact B2.out
  rw [← hw2]
  clear hw2 c0 c1 c2 c3 c4 c5 c6 c7 q0 q1 q2 q3 q4 q5 q6 q7
  have g0 := M2.cell (i := 0) (u := .string (bs mm.id)) rfl
  have g1 := M2.cell (i := 1) (u := .int .i64 mm.mn) rfl
  have g2 := M2.cell (i := 2) (u := .int .i64 mm.mx) rfl
  have g3 := M2.cell (i := 3) (u := .int .i64 mm.lv) rfl
  have g4 := M2.cell (i := 4) (u := .int .i64 mm.sr) rfl
  have g5 := M2.cell (i := 5) (u := .int .i64 mm.sm) rfl
  have g6 := M2.cell (i := 6) (u := .slice X1 mm.fs.length x1) rfl
  have g7 := M2.cell (i := 7) (u := .slice X2 mm.ss.length x2) rfl
  go_wp2_with fail
  refine (HCU.out _).mono ?_
  rintro e w' ⟨rfl, rfl⟩
  go_wp2_with fail
  refine (HTO.out _ _ _ hfx hsx).mono ?_
  rintro e w3 ⟨rv, rfl, hrx, hb3⟩
  obtain ⟨R1, r1, rfl, _⟩ := hrx.buf.shape
  clear g0 g1 g2 g3 g4 g5 g6 g7
  have hba := below_alloc1 w3 (.cells #[.string (bs mm.id), .int .i64 mm.mn, .int .i64 mm.mx, .int .i64 mm.lv, .int .i64 mm.sr, .int .i64 mm.sm, .slice R1 mm.fs.length r1, .slice X2 mm.ss.length x2] 34)
  have hb4 := below_trans hb3 hba
  have hfx := FlsAt.below hfx hb4
  have hsx := SrcAt.below hsx hb4
  have hrx := FlsAt.below hrx.slice hba
  have M2 := M2.below hb4
  have B2 := below_trans B2 hb4
  have R2 := Blk.new w3 #[.string (bs mm.id), .int .i64 mm.mn, .int .i64 mm.mx, .int .i64 mm.lv, .int .i64 mm.sr, .int .i64 mm.sm, .slice R1 mm.fs.length r1, .slice X2 mm.ss.length x2] 34
  go_upto_region 4 with fail
  obtain ⟨BR, hBR⟩ : ∃ BR, BR = w3.heap.size := ⟨_, rfl⟩
  obtain ⟨w4, hw4⟩ : ∃ x, x = w3.alloc (.cells #[.string (bs mm.id), .int .i64 mm.mn, .int .i64 mm.mx, .int .i64 mm.lv, .int .i64 mm.sr, .int .i64 mm.sm, .slice R1 mm.fs.length r1, .slice X2 mm.ss.length x2] 34) := ⟨_, rfl⟩
  rw [← hw4] at hfx hsx hrx M2 B2 R2 ⊢
  rw [← hBR] at R2 ⊢
  clear hw4 hBR hba hb3 hb4
  have HX := Lib.hid M2
  have HR := Lib.hid R2
  have HB := Lib.hid B2
  have HFX := Lib.hid hfx
  have HSX := Lib.hid hsx
  have HFR := Lib.hid hrx
  clear M2 R2 B2 hfx hsx hrx
  go_cut [41] (fun s wx => s = .bool false ∧ Below w4.heap.size w4 wx)
  case first =>
    by_cases hok : Ok mm
    · have k1 : ∀ w, FlsAt w (.slice X1 mm.fs.length x1) mm.fs → SrcAt w (.slice X2 mm.ss.length x2) mm.ss → Calls Try.prog 14 #[.agg #[.string (bs mm.id), .int .i64 mm.mn, .int .i64 mm.mx, .int .i64 mm.lv, .int .i64 mm.sr, .int .i64 mm.sm, .slice X1 mm.fs.length x1, .slice X2 mm.ss.length x2]] w (RetBelow w (.int .i64 0)) := fun w h1 h2 => by
        have := HCH.out _ _ w h1 h2
        rwa [chk_ok hok] at this
      have k2 : ∀ w, FlsAt w (.slice R1 mm.fs.length r1) mm.fs → SrcAt w (.slice X2 mm.ss.length x2) mm.ss → Calls Try.prog 15 #[.agg #[.string (bs mm.id), .int .i64 mm.mn, .int .i64 mm.mx, .int .i64 mm.lv, .int .i64 mm.sr, .int .i64 mm.sm, .slice R1 mm.fs.length r1, .slice X2 mm.ss.length x2]] w (RetBelow w (.bool true)) := fun w h1 h2 => by
        have := HRC.out _ _ w h1 h2
        rwa [chkB_ok hok] at this
      have K1 := Lib.hid k1
      have K2 := Lib.hid k2
      clear k1 k2 hok
      refine wp_region_known [(0, .bool true), (3, .agg #[.string (bs mm.id), .int .i64 mm.mn, .int .i64 mm.mx, .int .i64 mm.lv, .int .i64 mm.sr, .int .i64 mm.sm, .slice X1 mm.fs.length x1, .slice X2 mm.ss.length x2]), (4, .int .i64 0), (6, .agg #[.string (bs mm.id), .int .i64 mm.mn, .int .i64 mm.mx, .int .i64 mm.lv, .int .i64 mm.sr, .int .i64 mm.sm, .slice R1 mm.fs.length r1, .slice X2 mm.ss.length x2]), (7, .bool true), (11, .agg #[.string (bs mm.id), .int .i64 mm.mn, .int .i64 mm.mx, .int .i64 mm.lv, .int .i64 mm.sr, .int .i64 mm.sm, .slice X1 mm.fs.length x1, .slice X2 mm.ss.length x2]), (12, .int .i64 0)] (by kernel_rfl) 126 (by kernel_rfl) rfl ?_
      repeat (first
        | (refine Chain.step (v := ?_) (a' := ?_) rfl rfl rfl ?_ ?_ ?_
           rotate_left 2
           focus (intro w; go_simp; try with_reducible rfl)
           focus (simp only [Act.put, List.setIfInBounds_toArray, List.set_cons_succ, List.set_cons_zero]; try rfl))
        | (refine Chain.call (a' := ?_) _ rfl rfl rfl (fun wx hw => ?_) ?_ ?_
           rotate_left 1
           focus
             first
             | (go_simp; (with_reducible refine (awake9_any _).mono ?_); exact (fun e w' ⟨h1, h2⟩ => by subst h1; exact ⟨rfl, h2⟩))
             | (go_simp; (with_reducible refine (K1.out _ (HFX.out.below hw) (HSX.out.below hw)).mono ?_); exact (fun e w' ⟨h1, h2⟩ => by subst h1; exact ⟨rfl, h2⟩))
             | (go_simp; (with_reducible refine (K2.out _ (HFR.out.below hw) (HSX.out.below hw)).mono ?_); exact (fun e w' ⟨h1, h2⟩ => by subst h1; exact ⟨rfl, h2⟩))
             | (have hh := HX.out.below hw; have g0 := hh.cell (i := 0) (u := .string (bs mm.id)) rfl; have g1 := hh.cell (i := 1) (u := .int .i64 mm.mn) rfl; have g2 := hh.cell (i := 2) (u := .int .i64 mm.mx) rfl; have g3 := hh.cell (i := 3) (u := .int .i64 mm.lv) rfl; have g4 := hh.cell (i := 4) (u := .int .i64 mm.sr) rfl; have g5 := hh.cell (i := 5) (u := .int .i64 mm.sm) rfl; have g6 := hh.cell (i := 6) (u := .slice X1 mm.fs.length x1) rfl; have g7 := hh.cell (i := 7) (u := .slice X2 mm.ss.length x2) rfl; clear hh; go_simp; first | exact ⟨rfl, Below.refl _ _⟩ | exact Below.refl _ _)
             | (have hh := HR.out.below hw; have g0 := hh.cell (i := 0) (u := .string (bs mm.id)) rfl; have g1 := hh.cell (i := 1) (u := .int .i64 mm.mn) rfl; have g2 := hh.cell (i := 2) (u := .int .i64 mm.mx) rfl; have g3 := hh.cell (i := 3) (u := .int .i64 mm.lv) rfl; have g4 := hh.cell (i := 4) (u := .int .i64 mm.sr) rfl; have g5 := hh.cell (i := 5) (u := .int .i64 mm.sm) rfl; have g6 := hh.cell (i := 6) (u := .slice R1 mm.fs.length r1) rfl; have g7 := hh.cell (i := 7) (u := .slice X2 mm.ss.length x2) rfl; clear hh; go_simp; first | exact ⟨rfl, Below.refl _ _⟩ | exact Below.refl _ _)
           focus (simp only [Act.put, List.setIfInBounds_toArray, List.set_cons_succ, List.set_cons_zero]; try rfl))
        | (refine Chain.skip (a' := ?_) rfl rfl rfl ?_ ?_
           rotate_left 1
           focus (simp only [Act.put, List.setIfInBounds_toArray, List.set_cons_succ, List.set_cons_zero]; try rfl)))
      refine Chain.end_ (fun wz hwz _ => ?_)
      go_wp2_with fail
      go_meet
      exact ⟨rfl, hwz⟩
    · have k1 : ∀ w, FlsAt w (.slice X1 mm.fs.length x1) mm.fs → SrcAt w (.slice X2 mm.ss.length x2) mm.ss → Calls Try.prog 14 #[.agg #[.string (bs mm.id), .int .i64 mm.mn, .int .i64 mm.mx, .int .i64 mm.lv, .int .i64 mm.sr, .int .i64 mm.sm, .slice X1 mm.fs.length x1, .slice X2 mm.ss.length x2]] w (RetBelow w (.int .i64 3)) := fun w h1 h2 => by
        have := HCH.out _ _ w h1 h2
        rwa [chk_no hok] at this
      have k2 : ∀ w, FlsAt w (.slice R1 mm.fs.length r1) mm.fs → SrcAt w (.slice X2 mm.ss.length x2) mm.ss → Calls Try.prog 15 #[.agg #[.string (bs mm.id), .int .i64 mm.mn, .int .i64 mm.mx, .int .i64 mm.lv, .int .i64 mm.sr, .int .i64 mm.sm, .slice R1 mm.fs.length r1, .slice X2 mm.ss.length x2]] w (RetBelow w (.bool false)) := fun w h1 h2 => by
        have := HRC.out _ _ w h1 h2
        rwa [chkB_no hok] at this
      have K1 := Lib.hid k1
      have K2 := Lib.hid k2
      clear k1 k2 hok
      refine wp_region_known [(0, .bool true), (3, .agg #[.string (bs mm.id), .int .i64 mm.mn, .int .i64 mm.mx, .int .i64 mm.lv, .int .i64 mm.sr, .int .i64 mm.sm, .slice X1 mm.fs.length x1, .slice X2 mm.ss.length x2]), (4, .int .i64 3), (6, .agg #[.string (bs mm.id), .int .i64 mm.mn, .int .i64 mm.mx, .int .i64 mm.lv, .int .i64 mm.sr, .int .i64 mm.sm, .slice R1 mm.fs.length r1, .slice X2 mm.ss.length x2]), (7, .bool false), (11, .agg #[.string (bs mm.id), .int .i64 mm.mn, .int .i64 mm.mx, .int .i64 mm.lv, .int .i64 mm.sr, .int .i64 mm.sm, .slice X1 mm.fs.length x1, .slice X2 mm.ss.length x2]), (12, .int .i64 3), (15, .agg #[.string (bs mm.id), .int .i64 mm.mn, .int .i64 mm.mx, .int .i64 mm.lv, .int .i64 mm.sr, .int .i64 mm.sm, .slice X1 mm.fs.length x1, .slice X2 mm.ss.length x2]), (16, .int .i64 3)] (by kernel_rfl) 126 (by kernel_rfl) rfl ?_
      repeat (first
        | (refine Chain.step (v := ?_) (a' := ?_) rfl rfl rfl ?_ ?_ ?_
           rotate_left 2
           focus (intro w; go_simp; try with_reducible rfl)
           focus (simp only [Act.put, List.setIfInBounds_toArray, List.set_cons_succ, List.set_cons_zero]; try rfl))
        | (refine Chain.call (a' := ?_) _ rfl rfl rfl (fun wx hw => ?_) ?_ ?_
           rotate_left 1
           focus
             first
             | (go_simp; (with_reducible refine (awake9_any _).mono ?_); exact (fun e w' ⟨h1, h2⟩ => by subst h1; exact ⟨rfl, h2⟩))
             | (go_simp; (with_reducible refine (K1.out _ (HFX.out.below hw) (HSX.out.below hw)).mono ?_); exact (fun e w' ⟨h1, h2⟩ => by subst h1; exact ⟨rfl, h2⟩))
             | (go_simp; (with_reducible refine (K2.out _ (HFR.out.below hw) (HSX.out.below hw)).mono ?_); exact (fun e w' ⟨h1, h2⟩ => by subst h1; exact ⟨rfl, h2⟩))
             | (have hh := HX.out.below hw; have g0 := hh.cell (i := 0) (u := .string (bs mm.id)) rfl; have g1 := hh.cell (i := 1) (u := .int .i64 mm.mn) rfl; have g2 := hh.cell (i := 2) (u := .int .i64 mm.mx) rfl; have g3 := hh.cell (i := 3) (u := .int .i64 mm.lv) rfl; have g4 := hh.cell (i := 4) (u := .int .i64 mm.sr) rfl; have g5 := hh.cell (i := 5) (u := .int .i64 mm.sm) rfl; have g6 := hh.cell (i := 6) (u := .slice X1 mm.fs.length x1) rfl; have g7 := hh.cell (i := 7) (u := .slice X2 mm.ss.length x2) rfl; clear hh; go_simp; first | exact ⟨rfl, Below.refl _ _⟩ | exact Below.refl _ _)
             | (have hh := HR.out.below hw; have g0 := hh.cell (i := 0) (u := .string (bs mm.id)) rfl; have g1 := hh.cell (i := 1) (u := .int .i64 mm.mn) rfl; have g2 := hh.cell (i := 2) (u := .int .i64 mm.mx) rfl; have g3 := hh.cell (i := 3) (u := .int .i64 mm.lv) rfl; have g4 := hh.cell (i := 4) (u := .int .i64 mm.sr) rfl; have g5 := hh.cell (i := 5) (u := .int .i64 mm.sm) rfl; have g6 := hh.cell (i := 6) (u := .slice R1 mm.fs.length r1) rfl; have g7 := hh.cell (i := 7) (u := .slice X2 mm.ss.length x2) rfl; clear hh; go_simp; first | exact ⟨rfl, Below.refl _ _⟩ | exact Below.refl _ _)
           focus (simp only [Act.put, List.setIfInBounds_toArray, List.set_cons_succ, List.set_cons_zero]; try rfl))
        | (refine Chain.skip (a' := ?_) rfl rfl rfl ?_ ?_
           rotate_left 1
           focus (simp only [Act.put, List.setIfInBounds_toArray, List.set_cons_succ, List.set_cons_zero]; try rfl)))
      refine Chain.end_ (fun wz hwz _ => ?_)
      go_wp2_with fail
      go_meet
      exact ⟨rfl, hwz⟩
  case rest =>
  obtain ⟨rfl, hb5⟩ := hcut
  have HX := Lib.hid (HX.out.below hb5)
  have HR := Lib.hid (HR.out.below hb5)
  have HB := Lib.hid (below_trans HB.out hb5)
  have HFX := Lib.hid (HFX.out.below hb5)
  have HSX := Lib.hid (HSX.out.below hb5)
  have HFR := Lib.hid (HFR.out.below hb5)
  clear hb5
  go_upto_region 6 with fail
  obtain ⟨w5, hw5⟩ : ∃ x : World, x = wc := ⟨_, rfl⟩
  rw [← hw5] at HX HR HB HFX HSX HFR ⊢
  clear hw5
  go_cut [61] (fun s wx => s = .bool false ∧ Below w5.heap.size w5 wx)
  case first =>
    by_cases hok : Ok mm
    · have k2 : ∀ w, FlsAt w (.slice R1 mm.fs.length r1) mm.fs → SrcAt w (.slice X2 mm.ss.length x2) mm.ss → Calls Try.prog 15 #[.agg #[.string (bs mm.id), .int .i64 mm.mn, .int .i64 mm.mx, .int .i64 mm.lv, .int .i64 mm.sr, .int .i64 mm.sm, .slice R1 mm.fs.length r1, .slice X2 mm.ss.length x2]] w (RetBelow w (.bool true)) := fun w h1 h2 => by
        have := HRC.out _ _ w h1 h2
        rwa [chkB_ok hok] at this
      have K2 := Lib.hid k2
      have happ : { data := #[97] } ++ bs F = bs (97 :: F) := bs_append [97] F
      have hnf : ¬ 9223372036854775807 < 1 + F.length := by omega
      clear k2 hok HCH HRC
      refine Dk.wp_region_chain (fun k => List.lookup k [(0, (isV (.agg #[.string (bs mm.id), .int .i64 mm.mn, .int .i64 mm.mx, .int .i64 mm.lv, .int .i64 mm.sr, .int .i64 mm.sm, .slice R1 mm.fs.length r1, .slice X2 mm.ss.length x2]), Dk.noK)), (1, (isV (.bool true), Dk.noK)), (3, (isV (.agg #[.string (bs mm.id), .int .i64 mm.mn, .int .i64 mm.mx, .int .i64 mm.lv, .int .i64 mm.sr, .int .i64 mm.sm, .slice X1 mm.fs.length x1, .slice X2 mm.ss.length x2]), Dk.noK)), (4, (isV (.string (bs E)), Dk.noK)), (5, (isV (.agg #[.string (bs mm.id), .int .i64 mm.mn, .int .i64 mm.mx, .int .i64 mm.lv, .int .i64 mm.sr, .int .i64 mm.sm, .slice R1 mm.fs.length r1, .slice X2 mm.ss.length x2]), Dk.noK)), (6, (isV (.string (bs E)), Dk.noK)),
          (9, ((fun v => ∃ B, v = .slice (some ⟨B, 0, none⟩) 1 1), Dk.KF 10 (fun v w => ∃ B, v = .slice (some ⟨B, 0, none⟩) 1 1 ∧ w5.heap.size ≤ B ∧ Blk w B 5 #[.int .u8 97]))), (10, ((fun v => ∃ B, v = .slice (some ⟨B, 0, none⟩) 1 1), Dk.KF 12 (fun v w => ∃ B, v = .slice (some ⟨B, 0, none⟩) 1 1 ∧ w5.heap.size ≤ B ∧ BBuf w 5 v [97]))), (11, (isV (.agg #[.string (bs mm.id), .int .i64 mm.mn, .int .i64 mm.mx, .int .i64 mm.lv, .int .i64 mm.sr, .int .i64 mm.sm, .slice X1 mm.fs.length x1, .slice X2 mm.ss.length x2]), Dk.noK)), (12, ((fun v => ∃ A n c, v = .slice A n c), Dk.KF 13 (fun v w => BBuf w 5 v (97 :: F)))), (13, (isV (.string (bs (97 :: F))), Dk.noK)), (14, (isV (.agg #[.string (bs mm.id), .int .i64 mm.mn, .int .i64 mm.mx, .int .i64 mm.lv, .int .i64 mm.sr, .int .i64 mm.sm, .slice R1 mm.fs.length r1, .slice X2 mm.ss.length x2]), Dk.noK)), (15, (isV (.string (bs F)), Dk.noK))])
        (Dk.RB 20 [10, 12]) (fun _ wx => Below w5.heap.size w5 wx) (by kernel_rfl) 126 (by kernel_rfl) rfl ?_ ?_ ?_ ?_ ?_ ?_
      · apply Dk.lookup_all (p := fun _ (g : (Value → Prop) × (Value → (Nat → Bool) → World → Prop)) => ∃ v, g.1 v)
        simp only [List.forall_mem_cons, List.not_mem_nil, false_imp_iff, implies_true, and_true]
        exact ⟨⟨_, rfl⟩, ⟨_, rfl⟩, ⟨_, rfl⟩, ⟨_, rfl⟩, ⟨_, rfl⟩, ⟨_, rfl⟩, ⟨_, 0, rfl⟩, ⟨_, 0, rfl⟩, ⟨_, rfl⟩, ⟨_, none, 0, 0, rfl⟩, ⟨_, rfl⟩, ⟨_, rfl⟩, ⟨_, rfl⟩⟩
      · refine Dk.lookup_all ?_
        simp only [List.forall_mem_cons, List.not_mem_nil, false_imp_iff, implies_true, and_true]
        refine ⟨?_, ?_, ?_, ?_, ?_, ?_, ?_, ?_, ?_, ?_, ?_, ?_, ?_⟩
        all_goals first
          | exact fun _ _ _ _ _ _ _ _ _ _ _ => trivial
          | exact Dk.KF.keepB (fun v w w' hb ⟨B, h1, h2, h3⟩ => ⟨B, h1, h2, h3.below hb⟩) (by kernel_rfl)
          | exact Dk.KF.keepB (fun v w w' hb h => Buf.below h hb) (by kernel_rfl)
      · refine Dk.lookup_all ?_
        simp only [List.forall_mem_cons, List.not_mem_nil, false_imp_iff, implies_true, and_true]
        refine ⟨?_, ?_, ?_, ?_, ?_, ?_, ?_, ?_, ?_, ?_, ?_, ?_, ?_⟩
        all_goals first
          | exact fun _ _ _ _ _ _ => trivial
          | exact fun _ _ _ _ _ h => Dk.KF.pure h
      · exact fun _ _ _ _ h => h
      · exact (Below.refl _ _).drew'
      refine Dk.Chain.weaken (F := Dk.atK []) (fun _ _ _ _ => trivial) ?_
      repeat
        first
        | (refine Dk.Chain.step (v := ?_) (a' := ?_) rfl rfl rfl ?_ ?_ ?_
           rotate_left 2
           focus (intro w; go_simp; try with_reducible rfl)
           focus (simp only [Act.put, List.setIfInBounds_toArray, List.set_cons_succ, List.set_cons_zero]; try rfl))
        | (refine Dk.Chain.call (a' := ?_) _ rfl rfl rfl rfl (fun D wx hx hD hF => ?_) ?_ ?_
           rotate_left 1
           focus
             first
             | (go_simp; (with_reducible refine (K2.out _ (HFR.out.below hx) (HSX.out.below hx)).mono ?_); exact (fun e w' ⟨h1, h2⟩ => by subst h1; exact ⟨rfl, Dk.RB.of (by decide) h2, below_trans hx h2⟩))
             | (go_simp; (with_reducible refine (HEN.out _ _ _ (HFX.out.below hx) (HSX.out.below hx)).mono ?_); exact (fun e w' ⟨h1, h2⟩ => by subst h1; exact ⟨rfl, Dk.RB.of (by decide) h2, below_trans hx h2⟩))
             | (go_simp; (with_reducible refine (HRE.out _ _ _ (HFR.out.below hx) (HSX.out.below hx)).mono ?_); exact (fun e w' ⟨h1, h2⟩ => by subst h1; exact ⟨rfl, Dk.RB.of (by decide) h2, below_trans hx h2⟩))
             | (go_simp; (with_reducible refine (HRF.out _ _ _ (HFR.out.below hx) (HSX.out.below hx)).mono ?_); exact (fun e w' ⟨h1, h2⟩ => by subst h1; exact ⟨rfl, Dk.RB.of (by decide) h2, below_trans hx h2⟩))
             | (have hh := HX.out.below hx; have g0 := hh.cell (i := 0) (u := .string (bs mm.id)) rfl; have g1 := hh.cell (i := 1) (u := .int .i64 mm.mn) rfl; have g2 := hh.cell (i := 2) (u := .int .i64 mm.mx) rfl; have g3 := hh.cell (i := 3) (u := .int .i64 mm.lv) rfl; have g4 := hh.cell (i := 4) (u := .int .i64 mm.sr) rfl; have g5 := hh.cell (i := 5) (u := .int .i64 mm.sm) rfl; have g6 := hh.cell (i := 6) (u := .slice X1 mm.fs.length x1) rfl; have g7 := hh.cell (i := 7) (u := .slice X2 mm.ss.length x2) rfl; clear hh; go_simp; first | exact Dk.RB.of (by decide) (Below.refl _ _) | exact ⟨rfl, Dk.RB.of (by decide) (Below.refl _ _), hx⟩ | exact ⟨Dk.RB.of (by decide) (Below.refl _ _), hx⟩)
             | (have hh := HR.out.below hx; have g0 := hh.cell (i := 0) (u := .string (bs mm.id)) rfl; have g1 := hh.cell (i := 1) (u := .int .i64 mm.mn) rfl; have g2 := hh.cell (i := 2) (u := .int .i64 mm.mx) rfl; have g3 := hh.cell (i := 3) (u := .int .i64 mm.lv) rfl; have g4 := hh.cell (i := 4) (u := .int .i64 mm.sr) rfl; have g5 := hh.cell (i := 5) (u := .int .i64 mm.sm) rfl; have g6 := hh.cell (i := 6) (u := .slice R1 mm.fs.length r1) rfl; have g7 := hh.cell (i := 7) (u := .slice X2 mm.ss.length x2) rfl; clear hh; go_simp; first | exact Dk.RB.of (by decide) (Below.refl _ _) | exact ⟨rfl, Dk.RB.of (by decide) (Below.refl _ _), hx⟩ | exact ⟨Dk.RB.of (by decide) (Below.refl _ _), hx⟩)
             | (have hp12 := (show Dk.KF 13 (fun v w => BBuf w 5 v (97 :: F)) _ D wx from Dk.atK_get' (hF 12 (by kernel_rfl)).2 rfl) hD
                have hcv := BBuf.string bytes_ty hp12 9 Try.underlying9
                go_simp
                first | exact Dk.RB.of (by decide) (Below.refl _ _) | exact ⟨Dk.RB.of (by decide) (Below.refl _ _), hx⟩)
           focus (simp only [Act.put, List.setIfInBounds_toArray, List.set_cons_succ, List.set_cons_zero]; try rfl))
        | (refine Dk.Chain.make _ _ rfl rfl rfl (fun D wx hx hD hF => ?_) (fun vk hvk a' ha => ?_)
           focus
             first
             | (go_simp
                exact ⟨Dk.RB.of (by decide) (below_alloc1 _ _), below_trans hx (below_alloc1 _ _), fun _ => ⟨_, rfl, hx.size, Blk.new wx #[.int .u8 97] 5⟩⟩)
             | (obtain ⟨B', hBe, hB', hblk⟩ := (show Dk.KF 10 (fun v w => ∃ B, v = .slice (some ⟨B, 0, none⟩) 1 1 ∧ w5.heap.size ≤ B ∧ Blk w B 5 #[.int .u8 97]) _ D wx from Dk.atK_get' (hF 9 (by kernel_rfl)).2 rfl) hD
                obtain rfl : B = B' := by simpa using hBe
                obtain ⟨wm, hr, hm, hbm⟩ := mark_lit bytes_ty.slice bytes_ty.byte hblk 1 1
                have hbuf : BBuf wm 5 (.slice (some ⟨B, 0, none⟩) 1 1) [97] := ⟨rfl, _, 1, rfl, Nat.le_refl _, by decide, fun _ => ⟨B, 0, _, _, rfl, hm, by decide, fun i _ hi h => by simp at h hi; omega, fun j hj => by obtain rfl : j = 0 := (by simp at hj; omega); rfl⟩⟩
                have hx2 := hx.trans (hbm _ hB')
                go_simp
                first
                | exact ⟨Dk.RB.yes (by decide) rfl, fun _ => ⟨_, rfl, hB', hbuf⟩⟩
                | exact ⟨Dk.RB.yes (by decide) rfl, hx2, fun _ => ⟨_, rfl, hB', hbuf⟩⟩
                | exact ⟨_, rfl, Dk.RB.yes (by decide) rfl, hx2, ⟨_, rfl⟩, fun _ => ⟨_, rfl, hB', hbuf⟩⟩)
             | (obtain ⟨B', hBe, hB', hbuf⟩ := (show Dk.KF 12 (fun v w => ∃ B, v = .slice (some ⟨B, 0, none⟩) 1 1 ∧ w5.heap.size ≤ B ∧ BBuf w 5 v [97]) _ D wx from Dk.atK_get' (hF 10 (by kernel_rfl)).2 rfl) hD
                obtain rfl : B = B' := by simpa using hBe
                clear hBe
                have hN : NBuf w5 wx 5 1 (.slice (some ⟨B, 0, none⟩) 1 1) [(97 : UInt8)].length (bcs [97]) := ⟨hbuf, hx, by intro k hk; injection (show some B = some k from hk) with hk; omega⟩
                go_simp
                (with_reducible refine (HPU.out _ _ w5 _ _ hN HFX.out HSX.out).mono ?_)
                rintro e w' ⟨v, rfl, hv⟩
                exact ⟨Dk.RB.yes (by decide) rfl, hv.below, (by obtain ⟨A, c, h, _⟩ := hv.buf.shape; exact ⟨A, _, c, h⟩), fun _ => hv.buf⟩)
           simp only [Act.put, List.setIfInBounds_toArray, List.set_cons_succ, List.set_cons_zero] at ha
           subst ha
           (first | (obtain ⟨B, rfl⟩ := hvk) | (obtain ⟨PA, pn, pc, rfl⟩ := hvk)))
      refine Dk.Chain.end_ (fun D wz _ hwz => ?_)
      go_wp2_with fail
      go_meet
      exact ⟨rfl, hwz⟩
    · have k2 : ∀ w, FlsAt w (.slice R1 mm.fs.length r1) mm.fs → SrcAt w (.slice X2 mm.ss.length x2) mm.ss → Calls Try.prog 15 #[.agg #[.string (bs mm.id), .int .i64 mm.mn, .int .i64 mm.mx, .int .i64 mm.lv, .int .i64 mm.sr, .int .i64 mm.sm, .slice R1 mm.fs.length r1, .slice X2 mm.ss.length x2]] w (RetBelow w (.bool false)) := fun w h1 h2 => by
        have := HRC.out _ _ w h1 h2
        rwa [chkB_no hok] at this
      have K2 := Lib.hid k2
      clear k2 hok
      refine wp_region_known [(0, .agg #[.string (bs mm.id), .int .i64 mm.mn, .int .i64 mm.mx, .int .i64 mm.lv, .int .i64 mm.sr, .int .i64 mm.sm, .slice R1 mm.fs.length r1, .slice X2 mm.ss.length x2]), (1, .bool false)] (by kernel_rfl) 126 (by kernel_rfl) rfl ?_
      repeat (first
        | (refine Chain.step (v := ?_) (a' := ?_) rfl rfl rfl ?_ ?_ ?_
           rotate_left 2
           focus (intro w; go_simp; try with_reducible rfl)
           focus (simp only [Act.put, List.setIfInBounds_toArray, List.set_cons_succ, List.set_cons_zero]; try rfl))
        | (refine Chain.call (a' := ?_) _ rfl rfl rfl (fun wx hw => ?_) ?_ ?_
           rotate_left 1
           focus
             first
             | (go_simp; (with_reducible refine (K2.out _ (HFR.out.below hw) (HSX.out.below hw)).mono ?_); exact (fun e w' ⟨h1, h2⟩ => by subst h1; exact ⟨rfl, h2⟩))
             | (have hh := HR.out.below hw; have g0 := hh.cell (i := 0) (u := .string (bs mm.id)) rfl; have g1 := hh.cell (i := 1) (u := .int .i64 mm.mn) rfl; have g2 := hh.cell (i := 2) (u := .int .i64 mm.mx) rfl; have g3 := hh.cell (i := 3) (u := .int .i64 mm.lv) rfl; have g4 := hh.cell (i := 4) (u := .int .i64 mm.sr) rfl; have g5 := hh.cell (i := 5) (u := .int .i64 mm.sm) rfl; have g6 := hh.cell (i := 6) (u := .slice R1 mm.fs.length r1) rfl; have g7 := hh.cell (i := 7) (u := .slice X2 mm.ss.length x2) rfl; clear hh; go_simp; first | exact ⟨rfl, Below.refl _ _⟩ | exact Below.refl _ _)
           focus (simp only [Act.put, List.setIfInBounds_toArray, List.set_cons_succ, List.set_cons_zero]; try rfl))
        | (refine Chain.skip (a' := ?_) rfl rfl rfl ?_ ?_
           rotate_left 1
           focus (simp only [Act.put, List.setIfInBounds_toArray, List.set_cons_succ, List.set_cons_zero]; try rfl)))
      refine Chain.end_ (fun wz hwz _ => ?_)
      go_wp2_with fail
      go_meet
      exact ⟨rfl, hwz⟩
  case rest =>
  obtain ⟨rfl, hb5⟩ := hcut
  have hX := HX.out.below hb5
  have HB := Lib.hid (below_trans HB.out hb5)
  have hSX := HSX.out.below hb5
  clear hb5 HX HR HFX HSX HFR HCH HRC HEN HRE HRF HPU
  obtain ⟨w6, hw6⟩ : ∃ x : World, x = wc := ⟨_, rfl⟩
  rw [← hw6] at hX HB hSX ⊢
  clear hw6
  have c7 : w6.cell? ⟨w.heap.size, 7, none⟩ = some (.slice X2 mm.ss.length x2) := hX.cell (i := 7) rfl
  go_wp2_with fail
  clear c7
  go_loop [12, 65] (fun b i => ∃ k : Nat, k ≤ mm.ss.length ∧ i = .int .i64 k ∧ b = .bool (among idl mm.ss k)) (fun _ i => mm.ss.length - (intOf i).toNat)
  case atStart => exact ⟨0, Nat.zero_le _, rfl, rfl⟩
  case round =>
    obtain ⟨k, hk, rfl, rfl⟩ := hrel
    by_cases hgo : k < mm.ss.length
    · obtain ⟨s, hsk⟩ : ∃ s, mm.ss[k]? = some s := ⟨_, List.getElem?_eq_getElem hgo⟩
      obtain ⟨b', o', rfl, hbb, f0⟩ := hSX.at_ hsk
      have hnx := among_next (x := idl) hsk
      obtain ⟨z, hz⟩ : ∃ z, z = among idl mm.ss k := ⟨_, rfl⟩
      rw [← hz] at hnx ⊢
      have hci : (0 : Int) ≤ (k : Int) := by omega
      have hci2 : (k : Int) < mm.ss.length := by omega
      rcases z with _ | _
      · rw [Bool.false_or] at hnx
        have HN := Lib.hid hnx
        clear hnx hz hsk
        go_wp2_with fail
        go_round
        case rel => exact ⟨k + 1, by omega, by go_num, by rw [HN.out]⟩
        case measure => simp [intOf]; omega
      · rw [Bool.true_or] at hnx
        have HN := Lib.hid hnx
        clear hnx hz hsk
        go_wp2_with fail
        go_round
        case rel => exact ⟨k + 1, by omega, by go_num, by rw [HN.out]⟩
        case measure => simp [intOf]; omega
    · obtain rfl : k = mm.ss.length := by omega
      have ham : among idl mm.ss mm.ss.length = mm.ss.contains idl := by unfold among; rw [List.take_of_length_le (Nat.le_refl _)]
      obtain ⟨z, hz⟩ : ∃ z, z = mm.ss.contains idl := ⟨_, rfl⟩
      rw [ham, ← hz]
      have k1 : ∀ fv sv w, SrcAt w sv mm.ss → Calls Try.prog 21 #[.agg #[.string (bs mm.id), .int .i64 mm.mn, .int .i64 mm.mx, .int .i64 mm.lv, .int .i64 mm.sr, .int .i64 mm.sm, fv, sv], .string (bs idl)] w (RetBelow w (.bool z)) := fun fv sv w h => by
        rw [hz]; exact HLI.out fv sv w h
      have HLI := Lib.hid k1
      clear k1 hz ham hgo hk
      go_wp2_with fail
      refine (HOF.out _).mono ?_
      rintro e w7 ⟨rfl, hb7⟩
      have hbx := below_trans hb7 (below_alloc1 w7 (.cells #[.string (bs idl), .int .i64 d.length, .int .u32 (sum d)] 45))
      have hO := Blk.new w7 #[.string (bs idl), .int .i64 d.length, .int .u32 (sum d)] 45
      have hX := hX.below hbx
      have hSX := SrcAt.below hSX hbx
      have HB := Lib.hid (below_trans HB.out hbx)
      go_upto_region 15 with fail
      obtain ⟨BO, hBO⟩ : ∃ BR, BR = w7.heap.size := ⟨_, rfl⟩
      obtain ⟨w8, hw8⟩ : ∃ x, x = w7.alloc (.cells #[.string (bs idl), .int .i64 d.length, .int .u32 (sum d)] 45) := ⟨_, rfl⟩
      rw [← hw8] at hX hSX HB hO ⊢
      rw [← hBO] at hO ⊢
      have HX := Lib.hid hX
      have HSX := Lib.hid hSX
      have HO := Lib.hid hO
      clear hw8 hBO hb7 hbx hX hSX hO
      have hadd : bs d ++ { data := #[120] } = bs (d ++ [120]) := bs_append d [120]
      have hnl : ¬ 9223372036854775807 < d.length + 1 := by omega
      have hnl2 : ¬ 9223372036854775807 < (bs (d ++ [120])).size := by rw [bs_size, List.length_append]; simp; omega
      rcases h1 : decide (mm.mn < to_) with _ | _
      · have k2 : ∀ fv sv w, Calls Try.prog 10 #[.agg #[.string (bs mm.id), .int .i64 mm.mn, .int .i64 mm.mx, .int .i64 mm.lv, .int .i64 mm.sr, .int .i64 mm.sm, fv, sv], .int .i64 from_, .int .i64 to_] w (RetBelow w (.bool false)) := fun fv sv w => by
          have := HME.out fv sv w
          rwa [h1, Bool.false_and] at this
        have HME := Lib.hid k2
        clear k2
        refine wp_region_known [(0, .agg #[.string (bs mm.id), .int .i64 mm.mn, .int .i64 mm.mx, .int .i64 mm.lv, .int .i64 mm.sr, .int .i64 mm.sm, .slice X1 mm.fs.length x1, .slice X2 mm.ss.length x2]), (2, .bool z), (6, .agg #[.string (bs mm.id), .int .i64 mm.mn, .int .i64 mm.mx, .int .i64 mm.lv, .int .i64 mm.sr, .int .i64 mm.sm, .slice X1 mm.fs.length x1, .slice X2 mm.ss.length x2]), (9, .bool false), (11, .int .i64 mm.mn), (24, .string (bs idl)), (30, .int .i64 d.length), (36, .agg #[.string (bs idl), .int .i64 d.length, .int .u32 (sum d)]), (38, .bool true), (41, .agg #[.string (bs idl), .int .i64 d.length, .int .u32 (sum d)]), (44, .bool false)] (by kernel_rfl) 126 (by kernel_rfl) rfl ?_
        repeat (first
          | (refine Chain.step (v := ?_) (a' := ?_) rfl rfl rfl ?_ ?_ ?_
             rotate_left 2
             focus (intro w; go_simp; try with_reducible rfl)
             focus (simp only [Act.put, List.setIfInBounds_toArray, List.set_cons_succ, List.set_cons_zero]; try rfl))
          | (refine Chain.call (a' := ?_) _ rfl rfl rfl (fun wx hw => ?_) ?_ ?_
             rotate_left 1
             focus
               first
               | (go_simp; (with_reducible refine (HLI.out _ _ _ (HSX.out.below hw)).mono ?_); exact (fun e w' ⟨h1, h2⟩ => by subst h1; exact ⟨rfl, h2⟩))
               | (go_simp; (with_reducible refine (HME.out _ _ _).mono ?_); exact (fun e w' ⟨h1, h2⟩ => by subst h1; exact ⟨rfl, h2⟩))
               | (go_simp; (with_reducible refine (HH1.out _).mono ?_); exact (fun e w' ⟨h1, h2⟩ => by subst h1; exact ⟨rfl, h2⟩))
               | (go_simp; (with_reducible refine (HH2.out _).mono ?_); exact (fun e w' ⟨h1, h2⟩ => by subst h1; exact ⟨rfl, h2⟩))
               | (have hh := HX.out.below hw; have g0 := hh.cell (i := 0) (u := .string (bs mm.id)) rfl; have g1 := hh.cell (i := 1) (u := .int .i64 mm.mn) rfl; have g2 := hh.cell (i := 2) (u := .int .i64 mm.mx) rfl; have g3 := hh.cell (i := 3) (u := .int .i64 mm.lv) rfl; have g4 := hh.cell (i := 4) (u := .int .i64 mm.sr) rfl; have g5 := hh.cell (i := 5) (u := .int .i64 mm.sm) rfl; have g6 := hh.cell (i := 6) (u := .slice X1 mm.fs.length x1) rfl; have g7 := hh.cell (i := 7) (u := .slice X2 mm.ss.length x2) rfl; clear hh; go_simp; first | exact ⟨rfl, Below.refl _ _⟩ | exact Below.refl _ _)
               | (have hh := HO.out.below hw; have g0 := hh.cell (i := 0) (u := .string (bs idl)) rfl; have g1 := hh.cell (i := 1) (u := .int .i64 d.length) rfl; have g2 := hh.cell (i := 2) (u := .int .u32 (sum d)) rfl; clear hh; go_simp; first | exact ⟨rfl, Below.refl _ _⟩ | exact Below.refl _ _)
             focus (simp only [Act.put, List.setIfInBounds_toArray, List.set_cons_succ, List.set_cons_zero]; try rfl))
          | (refine Chain.skip (a' := ?_) rfl rfl rfl ?_ ?_
             rotate_left 1
             focus (simp only [Act.put, List.setIfInBounds_toArray, List.set_cons_succ, List.set_cons_zero]; try rfl)))
        refine Chain.end_ (fun wz hwz _ => ?_)
        go_wp2_with fail
        go_ret
        exact ⟨rfl, below_trans HB.out hwz⟩
      · rcases h2 : decide (from_ < mm.mx) with _ | _
        · have k2 : ∀ fv sv w, Calls Try.prog 10 #[.agg #[.string (bs mm.id), .int .i64 mm.mn, .int .i64 mm.mx, .int .i64 mm.lv, .int .i64 mm.sr, .int .i64 mm.sm, fv, sv], .int .i64 from_, .int .i64 to_] w (RetBelow w (.bool false)) := fun fv sv w => by
            have := HME.out fv sv w
            rwa [h1, h2, Bool.true_and] at this
          have HME := Lib.hid k2
          clear k2
          refine wp_region_known [(0, .agg #[.string (bs mm.id), .int .i64 mm.mn, .int .i64 mm.mx, .int .i64 mm.lv, .int .i64 mm.sr, .int .i64 mm.sm, .slice X1 mm.fs.length x1, .slice X2 mm.ss.length x2]), (2, .bool z), (6, .agg #[.string (bs mm.id), .int .i64 mm.mn, .int .i64 mm.mx, .int .i64 mm.lv, .int .i64 mm.sr, .int .i64 mm.sm, .slice X1 mm.fs.length x1, .slice X2 mm.ss.length x2]), (9, .bool false), (11, .int .i64 mm.mn), (17, .int .i64 mm.mx), (24, .string (bs idl)), (30, .int .i64 d.length), (36, .agg #[.string (bs idl), .int .i64 d.length, .int .u32 (sum d)]), (38, .bool true), (41, .agg #[.string (bs idl), .int .i64 d.length, .int .u32 (sum d)]), (44, .bool false)] (by kernel_rfl) 126 (by kernel_rfl) rfl ?_
          repeat (first
            | (refine Chain.step (v := ?_) (a' := ?_) rfl rfl rfl ?_ ?_ ?_
               rotate_left 2
               focus (intro w; go_simp; try with_reducible rfl)
               focus (simp only [Act.put, List.setIfInBounds_toArray, List.set_cons_succ, List.set_cons_zero]; try rfl))
            | (refine Chain.call (a' := ?_) _ rfl rfl rfl (fun wx hw => ?_) ?_ ?_
               rotate_left 1
               focus
                 first
                 | (go_simp; (with_reducible refine (HLI.out _ _ _ (HSX.out.below hw)).mono ?_); exact (fun e w' ⟨h1, h2⟩ => by subst h1; exact ⟨rfl, h2⟩))
                 | (go_simp; (with_reducible refine (HME.out _ _ _).mono ?_); exact (fun e w' ⟨h1, h2⟩ => by subst h1; exact ⟨rfl, h2⟩))
                 | (go_simp; (with_reducible refine (HH1.out _).mono ?_); exact (fun e w' ⟨h1, h2⟩ => by subst h1; exact ⟨rfl, h2⟩))
                 | (go_simp; (with_reducible refine (HH2.out _).mono ?_); exact (fun e w' ⟨h1, h2⟩ => by subst h1; exact ⟨rfl, h2⟩))
                 | (have hh := HX.out.below hw; have g0 := hh.cell (i := 0) (u := .string (bs mm.id)) rfl; have g1 := hh.cell (i := 1) (u := .int .i64 mm.mn) rfl; have g2 := hh.cell (i := 2) (u := .int .i64 mm.mx) rfl; have g3 := hh.cell (i := 3) (u := .int .i64 mm.lv) rfl; have g4 := hh.cell (i := 4) (u := .int .i64 mm.sr) rfl; have g5 := hh.cell (i := 5) (u := .int .i64 mm.sm) rfl; have g6 := hh.cell (i := 6) (u := .slice X1 mm.fs.length x1) rfl; have g7 := hh.cell (i := 7) (u := .slice X2 mm.ss.length x2) rfl; clear hh; go_simp; first | exact ⟨rfl, Below.refl _ _⟩ | exact Below.refl _ _)
                 | (have hh := HO.out.below hw; have g0 := hh.cell (i := 0) (u := .string (bs idl)) rfl; have g1 := hh.cell (i := 1) (u := .int .i64 d.length) rfl; have g2 := hh.cell (i := 2) (u := .int .u32 (sum d)) rfl; clear hh; go_simp; first | exact ⟨rfl, Below.refl _ _⟩ | exact Below.refl _ _)
               focus (simp only [Act.put, List.setIfInBounds_toArray, List.set_cons_succ, List.set_cons_zero]; try rfl))
            | (refine Chain.skip (a' := ?_) rfl rfl rfl ?_ ?_
               rotate_left 1
               focus (simp only [Act.put, List.setIfInBounds_toArray, List.set_cons_succ, List.set_cons_zero]; try rfl)))
          refine Chain.end_ (fun wz hwz _ => ?_)
          go_wp2_with fail
          go_ret
          exact ⟨rfl, below_trans HB.out hwz⟩
        · have k2 : ∀ fv sv w, Calls Try.prog 10 #[.agg #[.string (bs mm.id), .int .i64 mm.mn, .int .i64 mm.mx, .int .i64 mm.lv, .int .i64 mm.sr, .int .i64 mm.sm, fv, sv], .int .i64 from_, .int .i64 to_] w (RetBelow w (.bool true)) := fun fv sv w => by
            have := HME.out fv sv w
            rwa [h1, h2, Bool.true_and] at this
          have HME := Lib.hid k2
          clear k2
          refine wp_region_known [(0, .agg #[.string (bs mm.id), .int .i64 mm.mn, .int .i64 mm.mx, .int .i64 mm.lv, .int .i64 mm.sr, .int .i64 mm.sm, .slice X1 mm.fs.length x1, .slice X2 mm.ss.length x2]), (2, .bool z), (6, .agg #[.string (bs mm.id), .int .i64 mm.mn, .int .i64 mm.mx, .int .i64 mm.lv, .int .i64 mm.sr, .int .i64 mm.sm, .slice X1 mm.fs.length x1, .slice X2 mm.ss.length x2]), (9, .bool true), (11, .int .i64 mm.mn), (17, .int .i64 mm.mx), (24, .string (bs idl)), (30, .int .i64 d.length), (36, .agg #[.string (bs idl), .int .i64 d.length, .int .u32 (sum d)]), (38, .bool true), (41, .agg #[.string (bs idl), .int .i64 d.length, .int .u32 (sum d)]), (44, .bool false)] (by kernel_rfl) 126 (by kernel_rfl) rfl ?_
          repeat (first
            | (refine Chain.step (v := ?_) (a' := ?_) rfl rfl rfl ?_ ?_ ?_
               rotate_left 2
               focus (intro w; go_simp; try with_reducible rfl)
               focus (simp only [Act.put, List.setIfInBounds_toArray, List.set_cons_succ, List.set_cons_zero]; try rfl))
            | (refine Chain.call (a' := ?_) _ rfl rfl rfl (fun wx hw => ?_) ?_ ?_
               rotate_left 1
               focus
                 first
                 | (go_simp; (with_reducible refine (HLI.out _ _ _ (HSX.out.below hw)).mono ?_); exact (fun e w' ⟨h1, h2⟩ => by subst h1; exact ⟨rfl, h2⟩))
                 | (go_simp; (with_reducible refine (HME.out _ _ _).mono ?_); exact (fun e w' ⟨h1, h2⟩ => by subst h1; exact ⟨rfl, h2⟩))
                 | (go_simp; (with_reducible refine (HH1.out _).mono ?_); exact (fun e w' ⟨h1, h2⟩ => by subst h1; exact ⟨rfl, h2⟩))
                 | (go_simp; (with_reducible refine (HH2.out _).mono ?_); exact (fun e w' ⟨h1, h2⟩ => by subst h1; exact ⟨rfl, h2⟩))
                 | (have hh := HX.out.below hw; have g0 := hh.cell (i := 0) (u := .string (bs mm.id)) rfl; have g1 := hh.cell (i := 1) (u := .int .i64 mm.mn) rfl; have g2 := hh.cell (i := 2) (u := .int .i64 mm.mx) rfl; have g3 := hh.cell (i := 3) (u := .int .i64 mm.lv) rfl; have g4 := hh.cell (i := 4) (u := .int .i64 mm.sr) rfl; have g5 := hh.cell (i := 5) (u := .int .i64 mm.sm) rfl; have g6 := hh.cell (i := 6) (u := .slice X1 mm.fs.length x1) rfl; have g7 := hh.cell (i := 7) (u := .slice X2 mm.ss.length x2) rfl; clear hh; go_simp; first | exact ⟨rfl, Below.refl _ _⟩ | exact Below.refl _ _)
                 | (have hh := HO.out.below hw; have g0 := hh.cell (i := 0) (u := .string (bs idl)) rfl; have g1 := hh.cell (i := 1) (u := .int .i64 d.length) rfl; have g2 := hh.cell (i := 2) (u := .int .u32 (sum d)) rfl; clear hh; go_simp; first | exact ⟨rfl, Below.refl _ _⟩ | exact Below.refl _ _)
               focus (simp only [Act.put, List.setIfInBounds_toArray, List.set_cons_succ, List.set_cons_zero]; try rfl))
            | (refine Chain.skip (a' := ?_) rfl rfl rfl ?_ ?_
               rotate_left 1
               focus (simp only [Act.put, List.setIfInBounds_toArray, List.set_cons_succ, List.set_cons_zero]; try rfl)))
          refine Chain.end_ (fun wz hwz _ => ?_)
          go_wp2_with fail
          go_ret
          exact ⟨rfl, below_trans HB.out hwz⟩

theorem metaChecks_walk0 (v : Value) (x : Mt × Value × Value) (i0 : ByteArray) (hi0 : i0.size ≤ maxLen) (a : Int) (h1 : (Lit.int .i64 a).wf = true) (b : Int) (h2 : (Lit.int .i64 b).wf = true) (t0 : ByteArray) (ht0 : t0.size ≤ maxLen) (w : World) (hx : MetaArg w v x) :
    Calls Try.prog 4 #[v, .string i0, .int .i64 a, .int .i64 b, .string t0] w (RetBelow w (.bool true)) := by
  obtain ⟨m, fv, sv⟩ := x
  obtain ⟨rfl, hm⟩ := hx
  exact metaChecks_walk1 m fv sv i0 hi0 a b (bounds_i64 h1) (bounds_i64 h2) t0 ht0 w hm

set_option maxRecDepth 100000 in
theorem metaChecks_lifted (os : Os) (started : os.Started) (H : Type) (enc : TypeId × Value → H) :
    ReturnsInHanded {} Try.checked os 4 .any (Rows.metaChecksSpec.pre6 enc Try.prog Try.f4 Rows.metaChecksRow.domain false) (Rows.metaChecksSpec.post enc Try.prog Try.f4 false true false false) := by
  refine returnsInHanded_of_change_sized (C := Try.checked) law_own started (by kernel_rfl) Try.func4
    (ChangeSpec.witness6 (enc := enc) (C := Try.checked) false ⟨#[], #[.agg #[.string ByteArray.empty, .int .i64 0, .int .i64 0, .int .i64 0, .int .i64 0, .int .i64 0, .slice none 0 0, .slice none 0 0], .string ByteArray.empty, .int .i64 0, .int .i64 0, .string ByteArray.empty], []⟩ 8 (by kernel_rfl) (by kernel_rfl) (by kernel_rfl) (by kernel_rfl)) ?_
  intro W base args ds gs before hval0 hW _ hsz0 _
  have hval : ∀ (j : Nat) t v, Try.f4.params[j]? = some t → args[j]? = some v → Value.okWide Try.prog W .any base t v := hval0
  have hsz : (DataW.weightsEach Try.prog (Try.f4.params.toList ++ Rows.metaChecksSpec.plain.varTypes Try.prog) (ds ++ gs)).all (· ≤ reachBytes) = true := hsz0
  have hW' := hW
  obtain ⟨p, q, hA0, hV, rfl, _, _⟩ := hW
  have hA : DataW.TrodAll enc Try.prog W 0 (fun _ => true) true Try.f4.params.toList args.toList ds p := hA0
  rw [Try.params4] at hA hval hsz
  obtain ⟨v0, vs0, d0, ds0, p0, q0, hargs, rfl, rfl, h0, r0⟩ := trodAll_cons hA
  obtain ⟨v1, vs1, d1, ds1, p1, q1, rfl, rfl, rfl, h1, r1⟩ := trodAll_cons r0
  obtain ⟨v2, vs2, d2, ds2, p2, q2, rfl, rfl, rfl, h2, r2⟩ := trodAll_cons r1
  obtain ⟨v3, vs3, d3, ds3, p3, q3, rfl, rfl, rfl, h3, r3⟩ := trodAll_cons r2
  obtain ⟨v4, vs4, d4, ds4, p4, q4, rfl, rfl, rfl, h4, r4⟩ := trodAll_cons r3
  obtain ⟨rfl, rfl, rfl⟩ := trodAll_nil r4
  obtain rfl : args = #[v0, v1, v2, v3, v4] := by cases args; simp_all
  obtain ⟨rfl, rfl⟩ := trodVars_none hV
  obtain ⟨a1, rfl, rfl, rfl, w1⟩ := open_string Try.underlying9 (hval 1 9 v1 rfl rfl) h1
  obtain ⟨a2, rfl, rfl, rfl, w2⟩ := open_int Try.underlying2 (hval 2 2 v2 rfl rfl) h2
  obtain ⟨a3, rfl, rfl, rfl, w3⟩ := open_int Try.underlying2 (hval 3 2 v3 rfl rfl) h3
  obtain ⟨a4, rfl, rfl, rfl, w4⟩ := open_string Try.underlying9 (hval 4 9 v4 rfl rfl) h4
  obtain ⟨ts0, hts0⟩ := open_metaV (hval 0 25 v0 rfl rfl) h0
  refine (metaChecks_walk0 v0 ts0 a1 w1 a2 w2 a3 w3 a4 w4 W hts0).mono fun e W' ⟨he, hb⟩ => ?_
  subst he
  exact ⟨_, rfl, law_post law_laid (by intro t ht; rw [Try.params4] at ht; simp only [List.mem_cons, List.not_mem_nil, or_false] at ht; rcases ht with rfl | rfl | rfl | rfl | rfl <;> exact ⟨by kernel_rfl, of_decide_eq_true (by kernel_rfl)⟩) rfl Try.underlying4 rfl rfl hW' hb⟩

theorem metaChecks_holds : Rows.MetaChecksSaid :=
  OpenClaim.holds_of_wide 4 Try.f4 rfl rfl rfl rfl rfl rfl rfl ⟨rfl, rfl, rfl, rfl, rfl⟩ rfl rfl rfl rfl rfl (by kernel_rfl) Try.func4 (by kernel_rfl)
    (of_decide_eq_true (by kernel_rfl)) (by unfold Func.isWrapper; first | (rw [if_pos (by decide +kernel)]; kernel_rfl) | (rw [if_neg (by decide +kernel)]; exact ⟨rfl, rfl⟩))
    (fun os started H enc _ => metaChecks_lifted os started H enc)

end Go.Proofs.Ytdmhjejjgcfplaa
