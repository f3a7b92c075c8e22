/-
  Layer 9: the walks of meta's writers: fields, Put, Encode, EncodeMark.
-/
import Derived.Test.YtdmhjejjgcfplaaMetA
import Derived.Test.YtdmhjejjgcfplaaLib8
namespace Go.Proofs.Ytdmhjejjgcfplaa
open Go.RowKit Go.Bar Go.Bar.Leb Go.Bar.Frm Go.Bar.Idt Go.Bar.Met

theorem text_of (V : Value) (xs l : List UInt8) (W : World) (hx : xs.length + 10 + l.length ≤ 140737488355328) (hb : BBuf W 5 V xs) : Calls Try.prog 42 #[V, .string (bs l)] W (RetB W V 5 xs (txt l)) :=
  text_any V xs (bs l) W (by rw [bs_size]; unfold maxLen; omega) (by rw [bs_size]; exact hx) hb
theorem box_cell {W w : World} {V v : Value} {e T : TypeId} {xs ys : List UInt8} {cells : Array Value} (h : BApp (W.alloc (.cells cells T)) V e xs w v ys) (h0 : BBuf W e V xs) (j : Nat) (u : Value) (hj : cells[j]? = some u) : w.cell? ⟨W.heap.size, j, none⟩ = some u := by
  rw [h.cell_new h0 (Nat.le_refl _) (by simp), World.cell?_alloc_new]
  exact hj
theorem wrap_w64 (z : Int) : IntKind.u64.wrap z = ((w64 z : Nat) : Int) := by
  unfold w64
  rw [IntKind.wrap_u64]
  omega
theorem uint_w (V : Value) (xs : List UInt8) (z : Int) (W : World) (hx : xs.length + 10 ≤ 140737488355328) (hb : BBuf W 5 V xs) : Calls Try.prog 41 #[V, .int .u64 (IntKind.u64.wrap z)] W (RetB W V 5 xs (u (w64 z))) := by
  rw [wrap_w64]
  exact uint_any V xs (w64 z) W (w64_lt z) hx hb
theorem uint_n (V : Value) (xs : List UInt8) (n : Nat) (W : World) (hn : n < 18446744073709551616) (hx : xs.length + 10 ≤ 140737488355328) (hb : BBuf W 5 V xs) : Calls Try.prog 41 #[V, .int .u64 n] W (RetB W V 5 xs (u n)) :=
  uint_any V xs n W hn hx hb
theorem arr5_0 (a b c d e : Value) (w : World) : (Instr.index 87 (.agg #[a, b, c, d, e]) (.int .i64 0)).run Try.prog w = .ok a w := by kernel_rfl
theorem arr5_1 (a b c d e : Value) (w : World) : (Instr.index 87 (.agg #[a, b, c, d, e]) (.int .i64 1)).run Try.prog w = .ok b w := by kernel_rfl
theorem arr5_2 (a b c d e : Value) (w : World) : (Instr.index 87 (.agg #[a, b, c, d, e]) (.int .i64 2)).run Try.prog w = .ok c w := by kernel_rfl
theorem arr5_3 (a b c d e : Value) (w : World) : (Instr.index 87 (.agg #[a, b, c, d, e]) (.int .i64 3)).run Try.prog w = .ok d w := by kernel_rfl
theorem arr5_4 (a b c d e : Value) (w : World) : (Instr.index 87 (.agg #[a, b, c, d, e]) (.int .i64 4)).run Try.prog w = .ok e w := by kernel_rfl
theorem uint_z (V : Value) (xs : List UInt8) (z : Int) (n : Nat) (W : World) (hz : z = n) (hn : n < 18446744073709551616) (hx : xs.length + 10 ≤ 140737488355328) (hb : BBuf W 5 V xs) : Calls Try.prog 41 #[V, .int .u64 z] W (RetB W V 5 xs (u n)) := by
  subst hz
  exact uint_any V xs n W hn hx hb
/-- the beginning of a meta's fields, up to its k-th file -/
def part1 (m : Mt) (k : Nat) : List UInt8 := txt m.id ++ (u (w64 m.mn) ++ (u (w64 m.mx) ++ (u (w64 m.lv) ++ (u (w64 m.sr) ++ (u (w64 m.sm) ++ (m.fs.take k).flatMap flB)))))
def part2 (m : Mt) (k : Nat) : List UInt8 := part1 m m.fs.length ++ (u m.ss.length ++ (m.ss.take k).flatMap txt)
theorem part1_next (m : Mt) (k : Nat) (f : Fl) (h : m.fs[k]? = some f) : part1 m (k + 1) = part1 m k ++ flB f := by
  unfold part1
  rw [List.take_add_one, h]
  simp [List.append_assoc]
theorem part2_next (m : Mt) (k : Nat) (s : List UInt8) (h : m.ss[k]? = some s) : part2 m (k + 1) = part2 m k ++ txt s := by
  unfold part2
  rw [List.take_add_one, h]
  simp [List.append_assoc]
theorem part2_all (m : Mt) : part2 m m.ss.length = fields m := by
  unfold part2 part1 fields
  rw [List.take_of_length_le (Nat.le_refl _), List.take_of_length_le (Nat.le_refl _)]
  simp [List.append_assoc]
theorem flat_take_le {α : Type} (f : α → List UInt8) (l : List α) (k : Nat) : ((l.take k).flatMap f).length ≤ (l.flatMap f).length := by
  conv => rhs; rw [← List.take_append_drop k l, List.flatMap_append, List.length_append]
  omega
theorem part2_le (m : Mt) (k : Nat) : (part2 m k).length ≤ (fields m).length := by
  rw [← part2_all]
  have := flat_take_le txt m.ss k
  unfold part2
  rw [List.take_of_length_le (Nat.le_refl m.ss.length)]
  simp only [List.length_append]
  omega
theorem part1_le (m : Mt) (k : Nat) : (part1 m k).length ≤ (fields m).length := by
  have h2 := part2_le m 0
  have := flat_take_le flB m.fs k
  unfold part2 at h2
  have h3 : (part1 m k).length ≤ (part1 m m.fs.length).length := by
    unfold part1
    rw [List.take_of_length_le (Nat.le_refl m.fs.length)]
    simp only [List.length_append]
    omega
  rw [List.length_append] at h2
  omega

set_option maxHeartbeats 4000000 in
set_option maxRecDepth 100000 in
theorem mfields_any (m : Mt) (fv sv : Value) (w0 W : World) (V : Value) (xs : List UInt8) (hN : NBuf w0 W 5 1 V xs.length (bcs xs)) (hf : FlsAt w0 fv m.fs) (hs : SrcAt w0 sv m.ss) (hlen : xs.length + (fields m).length ≤ 1000000000000) (hsm : ∀ f ∈ m.fs, f.sum < 4294967296) :
    Calls Try.prog 32 #[.agg #[.string (bs m.id), .int .i64 m.mn, .int .i64 m.mx, .int .i64 m.lv, .int .i64 m.sr, .int .i64 m.sm, fv, sv], V] W (fun en w' => ∃ v, en = .returned v ∧ NBuf w0 w' 5 1 v (xs ++ fields m).length (bcs (xs ++ fields m))) := by
  obtain ⟨A, c, rfl, hlc, hcm⟩ := hf.shape
  obtain ⟨A2, c2, rfl, hlc2, hcm2⟩ := hs.shape
  unfold maxLen at hcm hcm2
  have hb0 : BBuf W 5 V xs := hN.buf
  have hl1 : m.id.length ≤ (fields m).length := by unfold fields txt; simp only [List.length_append]; omega
  go_enter Try.func32, Try.ntmps32
  go_wp2_with fail
  refine (text_of V xs m.id _ (by omega) (hb0.alloc _)).mono ?_
  rintro e w1 ⟨v1, rfl, h1⟩
  have c1 : w1.cell? ⟨W.heap.size, 1, none⟩ = some (.int .i64 m.mn) := box_cell h1 hb0 1 _ rfl
  have c2 : w1.cell? ⟨W.heap.size, 2, none⟩ = some (.int .i64 m.mx) := box_cell h1 hb0 2 _ rfl
  have c3 : w1.cell? ⟨W.heap.size, 3, none⟩ = some (.int .i64 m.lv) := box_cell h1 hb0 3 _ rfl
  have c4 : w1.cell? ⟨W.heap.size, 4, none⟩ = some (.int .i64 m.sr) := box_cell h1 hb0 4 _ rfl
  have c5 : w1.cell? ⟨W.heap.size, 5, none⟩ = some (.int .i64 m.sm) := box_cell h1 hb0 5 _ rfl
  go_wp2_with fail
  clear c1 c2 c3 c4 c5
  have hl2 : (txt m.id).length ≤ m.id.length + 10 := by
    unfold txt
    have := u_len m.id.length (by omega)
    rw [List.length_append]; omega
  obtain ⟨BX, hBX⟩ : ∃ BX, BX = W.alloc (.cells #[.string (bs m.id), .int .i64 m.mn, .int .i64 m.mx, .int .i64 m.lv, .int .i64 m.sr, .int .i64 m.sm, .slice A m.fs.length c, .slice A2 m.ss.length c2] 25) := ⟨_, rfl⟩
  rw [← hBX] at h1
  have HBX := Lib.hid hBX
  clear hBX
  have hu : ∀ z, (u (w64 z)).length ≤ 10 := fun z => u_len _ (w64_lt z)
  have hu1 := hu m.mn
  have hu2 := hu m.mx
  have hu3 := hu m.lv
  have hu4 := hu m.sr
  have hu5 := hu m.sm
  clear hu
  go_loopw [1, 31] (fun b i wr => ∃ ys, BApp BX V 5 xs wr b ys ∧ (i = .int .i64 0 ∧ Hid (ys = txt m.id) ∨ i = .int .i64 1 ∧ Hid (ys = txt m.id ++ u (w64 m.mn)) ∨ i = .int .i64 2 ∧ Hid (ys = txt m.id ++ u (w64 m.mn) ++ u (w64 m.mx)) ∨ i = .int .i64 3 ∧ Hid (ys = txt m.id ++ u (w64 m.mn) ++ u (w64 m.mx) ++ u (w64 m.lv)) ∨ i = .int .i64 4 ∧ Hid (ys = txt m.id ++ u (w64 m.mn) ++ u (w64 m.mx) ++ u (w64 m.lv) ++ u (w64 m.sr)) ∨ i = .int .i64 5 ∧ Hid (ys = part1 m 0))) (fun _ i _ => 5 - (intOf i).toNat)
  case atStart => exact ⟨_, h1, .inl ⟨rfl, rfl⟩⟩
  case round =>
    obtain ⟨ys, h, hi⟩ := hrel
    clear h1
    rcases hi with ⟨rfl, hy⟩ | ⟨rfl, hy⟩ | ⟨rfl, hy⟩ | ⟨rfl, hy⟩ | ⟨rfl, hy⟩ | ⟨rfl, hy⟩
    · have hix := arr5_0 (.int .u64 (IntKind.u64.wrap m.mn)) (.int .u64 (IntKind.u64.wrap m.mx)) (.int .u64 (IntKind.u64.wrap m.lv)) (.int .u64 (IntKind.u64.wrap m.sr)) (.int .u64 (IntKind.u64.wrap m.sm))
      have hyl : ys.length ≤ m.id.length + 60 := by rw [hy.out]; omega
      go_wp2_with fail
      refine (uint_w _ (xs ++ ys) _ _ (by rw [List.length_append]; omega) h.buf).mono ?_
      rintro e w2 ⟨v2, rfl, h2⟩
      have h3 := h.trans h2
      clear h h2
      go_wp2_with fail
      go_roundw
      case rel => exact ⟨_, h3, .inr (.inl ⟨by go_num, Lib.hid (by rw [hy.out])⟩)⟩
      case measure => simp [intOf]
    · have hix := arr5_1 (.int .u64 (IntKind.u64.wrap m.mn)) (.int .u64 (IntKind.u64.wrap m.mx)) (.int .u64 (IntKind.u64.wrap m.lv)) (.int .u64 (IntKind.u64.wrap m.sr)) (.int .u64 (IntKind.u64.wrap m.sm))
      have hyl : ys.length ≤ m.id.length + 60 := by rw [hy.out, List.length_append]; omega
      go_wp2_with fail
      refine (uint_w _ (xs ++ ys) _ _ (by rw [List.length_append]; omega) h.buf).mono ?_
      rintro e w2 ⟨v2, rfl, h2⟩
      have h3 := h.trans h2
      clear h h2
      go_wp2_with fail
      go_roundw
      case rel => exact ⟨_, h3, .inr (.inr (.inl ⟨by go_num, Lib.hid (by rw [hy.out])⟩))⟩
      case measure => simp [intOf]
    · have hix := arr5_2 (.int .u64 (IntKind.u64.wrap m.mn)) (.int .u64 (IntKind.u64.wrap m.mx)) (.int .u64 (IntKind.u64.wrap m.lv)) (.int .u64 (IntKind.u64.wrap m.sr)) (.int .u64 (IntKind.u64.wrap m.sm))
      have hyl : ys.length ≤ m.id.length + 60 := by rw [hy.out, List.length_append, List.length_append]; omega
      go_wp2_with fail
      refine (uint_w _ (xs ++ ys) _ _ (by rw [List.length_append]; omega) h.buf).mono ?_
      rintro e w2 ⟨v2, rfl, h2⟩
      have h3 := h.trans h2
      clear h h2
      go_wp2_with fail
      go_roundw
      case rel => exact ⟨_, h3, .inr (.inr (.inr (.inl ⟨by go_num, Lib.hid (by rw [hy.out])⟩)))⟩
      case measure => simp [intOf]
    · have hix := arr5_3 (.int .u64 (IntKind.u64.wrap m.mn)) (.int .u64 (IntKind.u64.wrap m.mx)) (.int .u64 (IntKind.u64.wrap m.lv)) (.int .u64 (IntKind.u64.wrap m.sr)) (.int .u64 (IntKind.u64.wrap m.sm))
      have hyl : ys.length ≤ m.id.length + 60 := by rw [hy.out, List.length_append, List.length_append, List.length_append]; omega
      go_wp2_with fail
      refine (uint_w _ (xs ++ ys) _ _ (by rw [List.length_append]; omega) h.buf).mono ?_
      rintro e w2 ⟨v2, rfl, h2⟩
      have h3 := h.trans h2
      clear h h2
      go_wp2_with fail
      go_roundw
      case rel => exact ⟨_, h3, .inr (.inr (.inr (.inr (.inl ⟨by go_num, Lib.hid (by rw [hy.out])⟩))))⟩
      case measure => simp [intOf]
    · have hix := arr5_4 (.int .u64 (IntKind.u64.wrap m.mn)) (.int .u64 (IntKind.u64.wrap m.mx)) (.int .u64 (IntKind.u64.wrap m.lv)) (.int .u64 (IntKind.u64.wrap m.sr)) (.int .u64 (IntKind.u64.wrap m.sm))
      have hyl : ys.length ≤ m.id.length + 60 := by rw [hy.out, List.length_append, List.length_append, List.length_append, List.length_append]; omega
      go_wp2_with fail
      refine (uint_w _ (xs ++ ys) _ _ (by rw [List.length_append]; omega) h.buf).mono ?_
      rintro e w2 ⟨v2, rfl, h2⟩
      have h3 := h.trans h2
      clear h h2
      go_wp2_with fail
      go_roundw
      case rel => exact ⟨_, h3, .inr (.inr (.inr (.inr (.inr ⟨by go_num, Lib.hid (by rw [hy.out]; simp [part1])⟩))))⟩
      case measure => simp [intOf]
    · clear hu1 hu2 hu3 hu4 hu5 hl2
      have cell : ∀ (w : World) (v : Value) (zs : List UInt8), BApp BX V 5 xs w v zs → w.cell? ⟨W.heap.size, 6, none⟩ = some (.slice A m.fs.length c) ∧ w.cell? ⟨W.heap.size, 7, none⟩ = some (.slice A2 m.ss.length c2) := fun w v zs h => by
        rw [HBX.out] at h
        exact ⟨box_cell h hb0 6 _ rfl, box_cell h hb0 7 _ rfl⟩
      have HC := Lib.hid cell
      have belo : ∀ (w : World) (v : Value) (zs : List UInt8), BApp BX V 5 xs w v zs → NBuf w0 w 5 1 v (xs ++ zs).length (bcs (xs ++ zs)) := fun w v zs h => by
        have h2 := h.buf
        rw [HBX.out] at h
        exact (hN.alloc _).step h2 (App.ap h) (App.grew h)
      have HB := Lib.hid belo
      clear belo
      clear cell
      have c6 := (HC.out _ _ _ h).1
      obtain ⟨wo, rfl⟩ : ∃ wo : World, wo = wr := ⟨_, rfl⟩
      go_wp2_with fail
      clear c6
      go_loopw [1, 41] (fun b i wr => ∃ (k : Nat) (ys : List UInt8), k ≤ m.fs.length ∧ i = .int .i64 k ∧ BApp BX V 5 xs wr b ys ∧ Hid (ys = part1 m k)) (fun _ i _ => m.fs.length - (intOf i).toNat)
      case atStart => exact ⟨0, ys, Nat.zero_le _, rfl, h, hy⟩
      case round =>
        clear h hy
        obtain ⟨k, ys, hk, rfl, h, hy⟩ := hrel
        by_cases hgo : k < m.fs.length
        · obtain ⟨f, hfk⟩ : ∃ f, m.fs[k]? = some f := ⟨_, List.getElem?_eq_getElem hgo⟩
          have hbl : Below w0.heap.size w0 wr := (HB.out _ _ _ h).below
          obtain ⟨b, o, rfl, hbb, f0, f1, f2⟩ := (hf.below hbl).at_ hfk
          have HF := Lib.hid hfk
          clear hfk
          have hfs := hsm f (List.mem_of_getElem? HF.out)
          have hle := part1_le m (k + 1)
          rw [part1_next m k f HF.out, List.length_append, ← hy.out] at hle
          have hfl : f.name.length ≤ (flB f).length := by unfold flB txt; simp only [List.length_append]; omega
          go_wp2_with fail
          clear f0 f1 f2
          have hbx := h.buf
          obtain ⟨q, hq⟩ : ∃ q, q = xs ++ ys := ⟨_, rfl⟩
          rw [← hq] at hbx
          have hql : q.length ≤ xs.length + ys.length := by rw [hq, List.length_append]; omega
          obtain ⟨KX, hKX⟩ : ∃ KX, KX = wr.heap.size := ⟨_, rfl⟩
          obtain ⟨WB, hWB⟩ : ∃ WB, WB = wr.alloc (.cells #[.string (bs f.name), .int .i64 f.size, .int .u32 f.sum] 45) := ⟨_, rfl⟩
          have hstart : BApp WB u1 5 q WB u1 [] := BApp.start' (by rw [hWB]; exact hbx.alloc _)
          have hcell : ∀ w v zs, BApp WB u1 5 q w v zs → w.cell? ⟨KX, 0, none⟩ = some (.string (bs f.name)) ∧ w.cell? ⟨KX, 1, none⟩ = some (.int .i64 f.size) ∧ w.cell? ⟨KX, 2, none⟩ = some (.int .u32 f.sum) := fun w v zs h => by
            rw [hWB] at h
            rw [hKX]
            exact ⟨box_cell h hbx 0 _ rfl, box_cell h hbx 1 _ rfl, box_cell h hbx 2 _ rfl⟩
          have hend : ∀ w v, BApp WB u1 5 q w v (flB f) → BApp BX V 5 xs w v (ys ++ flB f) := fun w v h2 => by
            rw [hWB, hq] at h2
            exact (h.alloc _).trans h2
          rw [← hWB, ← hKX]
          have HCL := Lib.hid hcell
          have HST := Lib.hid hstart
          have HE := Lib.hid hend
          clear hstart hcell hend hKX hWB hq h hbx hbl hbb
          have hw : ∀ a b : List UInt8, (flB f) = a ++ b → a.length ≤ (flB f).length := fun a b h => by rw [h, List.length_append]; omega
          have hl3 : (txt f.name).length ≤ (flB f).length := hw _ _ rfl
          have hl4 : (txt f.name ++ u (w64 f.size)).length ≤ (flB f).length := hw _ (u f.sum) (by unfold flB; rw [List.append_assoc])
          have HFL := Lib.hid (show flB f = (txt f.name ++ u (w64 f.size)) ++ u f.sum by unfold flB; rw [List.append_assoc])
          rw [List.length_append] at hl4
          clear hw
          refine Dk.wp_region_chain (fun k => List.lookup k [(2, (isV (.string (bs f.name)), Dk.noK)), (3, ((fun _ => True), Dk.KF 7 (fun v w => BApp WB u1 5 q w v (txt f.name)))), (5, (isV (.int .i64 f.size), Dk.noK)),
              (7, ((fun _ => True), Dk.KF 11 (fun v w => BApp WB u1 5 q w v (txt f.name ++ u (w64 f.size))))), (9, (isV (.int .u32 f.sum), Dk.noK)), (11, ((fun _ => True), Dk.KL (fun v w => BApp WB u1 5 q w v (flB f))))])
            (Dk.RWs [3, 7, 11]) (Dk.SX 3 (fun w => BApp WB u1 5 q w u1 []) (fun w => w.cell? ⟨KX, 0, none⟩ = some (.string (bs f.name)) ∧ w.cell? ⟨KX, 1, none⟩ = some (.int .i64 f.size) ∧ w.cell? ⟨KX, 2, none⟩ = some (.int .u32 f.sum))) (by kernel_rfl) 76 (by kernel_rfl) rfl ?_ ?_ ?_ ?_ ?_ ?_
          · apply Dk.lookup_all (p := fun _ (g : (Value → Prop) × (Value → (Nat → Bool) → World → Prop)) => ∃ v, g.1 v)
            simp only [List.forall_mem_cons, List.not_mem_nil, false_imp_iff, implies_true, and_true]
            exact ⟨⟨_, rfl⟩, ⟨undef, trivial⟩, ⟨_, rfl⟩, ⟨undef, trivial⟩, ⟨_, rfl⟩, ⟨undef, trivial⟩⟩
          · refine Dk.lookup_all ?_
            simp only [List.forall_mem_cons, List.not_mem_nil, false_imp_iff, implies_true, and_true]
            refine ⟨?_, ?_, ?_, ?_, ?_, ?_⟩
            all_goals first
              | exact fun _ _ _ _ _ _ _ _ _ _ _ => trivial
              | exact Dk.KF.keep (by kernel_rfl)
              | exact Dk.KL.keep (by kernel_rfl)
          · refine Dk.lookup_all ?_
            simp only [List.forall_mem_cons, List.not_mem_nil, false_imp_iff, implies_true, and_true]
            refine ⟨?_, ?_, ?_, ?_, ?_, ?_⟩
            all_goals first
              | exact fun _ _ _ _ _ _ => trivial
              | exact fun _ _ _ _ _ h => Dk.KF.pure h
              | exact fun _ _ _ _ _ h => h
          · exact Dk.SX.pure rfl
          · exact ⟨fun _ => HST.out.drew, HCL.out _ _ _ HST.out.drew⟩
          refine Dk.Chain.weaken (F := Dk.atK []) (fun _ _ _ _ => trivial) ?_
          repeat
            first
            | (refine Dk.Chain.step (v := ?_) (a' := ?_) rfl rfl rfl ?_ ?_ ?_
               rotate_left 2
               focus (intro w; go_simp; try with_reducible rfl)
               focus (simp only [Act.put, List.setIfInBounds_toArray, List.set_cons_succ, List.set_cons_zero]; try rfl))
            | (refine Dk.Chain.call (a' := ?_) _ rfl rfl rfl rfl (fun D wx hx hD hF => ?_) ?_ ?_
               rotate_left 1
               focus
                 obtain ⟨g0, g1, g2⟩ := hx.2
                 go_simp
                 exact ⟨Dk.RWs.no, hx.other (by decide)⟩
               focus (simp only [Act.put, List.setIfInBounds_toArray, List.set_cons_succ, List.set_cons_zero]; try rfl))
            | (refine Dk.Chain.make _ _ rfl rfl rfl (fun D wx hx hD hF => ?_) (fun vk hvk a' ha => ?_)
               focus
                 go_simp
                 first
                 | (have h0 := hx.1 hD
                    have hb0 := h0.buf
                    rw [List.append_nil] at hb0
                    (with_reducible refine (text_of u1 q f.name wx (by omega) hb0).mono ?_)
                    rintro e w' ⟨v3, rfl, h3⟩
                    have h4 := h0.trans (by rw [List.append_nil]; exact h3)
                    rw [List.nil_append] at h4
                    have hX : Dk.SX 3 (fun w => BApp WB u1 5 q w u1 []) (fun w => w.cell? ⟨KX, 0, none⟩ = some (.string (bs f.name)) ∧ w.cell? ⟨KX, 1, none⟩ = some (.int .i64 f.size) ∧ w.cell? ⟨KX, 2, none⟩ = some (.int .u32 f.sum)) (Dn.upd D 3) w' := Dk.SX.first (HCL.out _ _ _ h4)
                    exact And.intro (Dk.RWs.yes rfl) (And.intro hX (fun _ => h4)))
                 | (have h0 := (show Dk.KF 7 (fun v w => BApp WB u1 5 q w v (txt f.name)) vk D wx from Dk.atK_get' (hF 3 (by kernel_rfl)).2 rfl) hD
                    (with_reducible refine (uint_w vk (q ++ txt f.name) f.size wx (by rw [List.length_append]; omega) h0.buf).mono ?_)
                    rintro e w' ⟨v3, rfl, h3⟩
                    have h4 := h0.trans h3
                    exact And.intro (Dk.RWs.yes rfl) (And.intro (Dk.SX.later (hF 3 (by kernel_rfl)).1 (by decide) (HCL.out _ _ _ h4)) (fun _ => h4)))
                 | (have h0 := (show Dk.KF 11 (fun v w => BApp WB u1 5 q w v (txt f.name ++ u (w64 f.size))) vk D wx from Dk.atK_get' (hF 7 (by kernel_rfl)).2 rfl) hD
                    (with_reducible refine (uint_z vk (q ++ (txt f.name ++ u (w64 f.size))) _ f.sum wx (by first | rfl | omega | (rw [IntKind.wrap_u64]; omega)) (by omega) (by rw [List.length_append, List.length_append]; omega) h0.buf).mono ?_)
                    rintro e w' ⟨v3, rfl, h3⟩
                    have h4 := h0.trans h3
                    rw [← HFL.out] at h4
                    exact And.intro (Dk.RWs.yes rfl) (And.intro (Dk.SX.later (hF 3 (by kernel_rfl)).1 (by decide) (HCL.out _ _ _ h4)) h4))
               simp only [Act.put, List.setIfInBounds_toArray, List.set_cons_succ, List.set_cons_zero] at ha
               subst ha)
          refine Dk.Chain.end_facts (fun D w9 hX hF => ?_)
          have h9 := HE.out _ _ (show Dk.KL (fun v w => BApp WB u1 5 q w v (flB f)) vk D w9 from Dk.atK_get' (hF 11) rfl)
          clear hX hF
          go_wp2_with fail
          go_roundw
          case rel => exact ⟨k + 1, _, by omega, by go_num, h9, Lib.hid (by rw [part1_next m k f HF.out, hy.out])⟩
          case measure => simp [intOf]; omega
        · have hkk : k = m.fs.length := by omega
          have hle := part1_le m k
          rw [← hy.out] at hle
          have hy : Hid (ys = part1 m m.fs.length) := Lib.hid (by rw [hy.out, hkk])
          clear hkk
          have c7 := (HC.out _ _ _ h).2
          obtain ⟨wp, rfl⟩ : ∃ wp : World, wp = wr := ⟨_, rfl⟩
          go_wp2_with fail
          refine (uint_z _ (xs ++ ys) _ m.ss.length wp (by first | rfl | omega | (rw [IntKind.wrap_u64]; omega)) (by omega) (by rw [List.length_append]; omega) h.buf).mono ?_
          rintro e w2 ⟨v2, rfl, h2⟩
          have h3 := h.trans h2
          clear h h2 c7
          have c7 := (HC.out _ _ _ h3).2
          have hy3 : Hid (ys ++ u m.ss.length = part2 m 0) := Lib.hid (by rw [hy.out]; simp [part2])
          clear hle hgo
          go_wp2_with fail
          clear c7
          go_loopw [1, 67] (fun b i wr => ∃ (k : Nat) (ys : List UInt8), k ≤ m.ss.length ∧ i = .int .i64 k ∧ BApp BX V 5 xs wr b ys ∧ Hid (ys = part2 m k)) (fun _ i _ => m.ss.length - (intOf i).toNat)
          case atStart => exact ⟨0, _, Nat.zero_le _, rfl, h3, hy3⟩
          case round =>
            clear h3 hy3 hy
            obtain ⟨k, ys, hk, rfl, h, hy⟩ := hrel
            by_cases hgo : k < m.ss.length
            · obtain ⟨s, hsk⟩ : ∃ s, m.ss[k]? = some s := ⟨_, List.getElem?_eq_getElem hgo⟩
              have hbl : Below w0.heap.size w0 wr := (HB.out _ _ _ h).below
              obtain ⟨b, o, rfl, hbb, f0⟩ := (hs.below hbl).at_ hsk
              have hle := part2_le m (k + 1)
              rw [part2_next m k s hsk, List.length_append, ← hy.out] at hle
              have hsl : s.length ≤ (txt s).length := by unfold txt; rw [List.length_append]; omega
              have HSK := Lib.hid hsk
              clear hsk
              go_wp2_with fail
              refine (text_of _ (xs ++ ys) s _ (by rw [List.length_append]; omega) h.buf).mono ?_
              rintro e w2 ⟨v2, rfl, h2⟩
              have h4 := h.trans h2
              clear h h2 f0 hbl hbb
              go_wp2_with fail
              go_roundw
              case rel => exact ⟨k + 1, _, by omega, by go_num, h4, Lib.hid (by rw [part2_next m k s HSK.out, hy.out])⟩
              case measure => simp [intOf]; omega
            · have he : ys = fields m := by rw [hy.out, show k = m.ss.length by omega, part2_all]
              subst he
              go_wp2_with fail
              go_ret
              exact ⟨_, rfl, HB.out _ _ _ h⟩

/-- a new text -/
theorem BBuf.string' {w : World} {v : Value} {l : List UInt8} (h : BBuf w 5 v l) : ∀ w', w' = w → (convert 41 9 v).run Try.prog w' = .ok (.string (bs l)) w' := by
  rintro w' rfl
  exact h.string bytes_ty 9 Try.underlying9

set_option maxHeartbeats 1000000 in
set_option maxRecDepth 10000 in
theorem put_any (m : Mt) (fv sv : Value) (w0 W : World) (V : Value) (xs : List UInt8) (hN : NBuf w0 W 5 1 V xs.length (bcs xs)) (hf : FlsAt w0 fv m.fs) (hs : SrcAt w0 sv m.ss) (hlen : xs.length + (fields m).length ≤ 1000000000000) (hsm : ∀ f ∈ m.fs, f.sum < 4294967296) :
    Calls Try.prog 18 #[V, .agg #[.string (bs m.id), .int .i64 m.mn, .int .i64 m.mx, .int .i64 m.lv, .int .i64 m.sr, .int .i64 m.sm, fv, sv]] W (fun en w' => ∃ v, en = .returned v ∧ NBuf w0 w' 5 1 v (xs ++ fields m).length (bcs (xs ++ fields m))) := by
  go_enter Try.func18, Try.ntmps18
  go_wp2_with fail
  refine (mfields_any m fv sv w0 _ V xs (hN.alloc _) hf hs hlen hsm).mono ?_
  rintro e w' ⟨v, rfl, h⟩
  go_wp2_with fail
  go_ret
  exact ⟨v, rfl, h⟩

theorem encode_len (m : Mt) (hlen : (fields m).length ≤ 100000000000) : (encode m).length ≤ 15 + (fields m).length := by
  unfold encode
  rw [rec_len]
  have := u_len (fields m).length (by omega)
  simp only
  omega

set_option maxHeartbeats 1000000 in
set_option maxRecDepth 10000 in
theorem encode_any (m : Mt) (fv sv : Value) (w : World) (hf : FlsAt w fv m.fs) (hs : SrcAt w sv m.ss) (hlen : (fields m).length ≤ 100000000000) (hsm : ∀ f ∈ m.fs, f.sum < 4294967296) :
    Calls Try.prog 16 #[.agg #[.string (bs m.id), .int .i64 m.mn, .int .i64 m.mx, .int .i64 m.lv, .int .i64 m.sr, .int .i64 m.sm, fv, sv]] w (RetBelow w (.string (bs (encode m)))) := by
  have H1 := Lib.hid (fun W hN => mfields_any m fv sv w W (.slice none 0 0) [] hN hf hs (by simp; omega) hsm)
  obtain ⟨y, hy⟩ : ∃ y, fields m = y := ⟨_, rfl⟩
  have he : encode m = rec (1, y) := by unfold encode; rw [hy]
  rw [hy] at hlen
  rw [he]
  have HE := Lib.hid hy
  clear hy he
  go_enter Try.func16, Try.ntmps16
  go_wp2_with fail
  refine (H1.out _ (NBuf.nil ((Below.refl _ _).alloc (Nat.le_refl _) _) _ _)).mono ?_
  rintro e w1 ⟨v, rfl, h⟩
  rw [List.nil_append, HE.out] at h
  have hb : BBuf w1 5 v y := h.buf
  have hbl := h.below
  have hcv := hb.string bytes_ty 9 Try.underlying9
  clear h hb
  go_wp2_with fail
  refine (append_any (.slice none 0 0) [] 1 (bs y) _ (by rw [bs_size]; simp; omega) (BBuf.nil _ _)).mono ?_
  rintro e w2 ⟨v2, rfl, h2⟩
  have hb2 := h2.buf
  have hbl2 := h2.nil_below
  rw [List.nil_append, bs_data] at hb2
  have hcv2 := hb2.string bytes_ty 9 Try.underlying9
  clear h2 hb2
  go_wp2_with fail
  go_ret
  exact ⟨rfl, below_trans hbl hbl2⟩

set_option maxHeartbeats 1000000 in
set_option maxRecDepth 10000 in
theorem encodeMark_any (id : List UInt8) (z : Int) (w : World) (hlen : id.length ≤ 100000000000) (hz1 : -9223372036854775808 ≤ z) (hz2 : z ≤ 9223372036854775807) :
    Calls Try.prog 25 #[.string (bs id), .int .i64 z] w (RetBelow w (.string (bs (markB id z)))) := by
  obtain ⟨y, hy⟩ : ∃ y, markF id z = y := ⟨_, rfl⟩
  have he : markB id z = rec (2, y) := by unfold markB; rw [hy]
  have hyl : y.length ≤ id.length + 20 := by
    rw [← hy]
    unfold markF txt
    have := u_len id.length (by omega)
    have := u_len (w64 (max z 0)) (w64_lt _)
    rw [List.length_append, List.length_append]; omega
  have htl : (txt id).length ≤ id.length + 10 := by
    unfold txt
    have := u_len id.length (by omega)
    rw [List.length_append]; omega
  obtain ⟨n, hn⟩ : ∃ n : Nat, max z 0 = n := ⟨(max z 0).toNat, by omega⟩
  have hw : w64 (max z 0) = n := by rw [hn, w64_nat n (by omega)]
  have hy2 : txt id ++ u n = y := by rw [← hy, markF, hw]
  have hmx : (0 ≤ z ∧ z = n) ∨ (z < 0 ∧ n ≤ 0) := by omega
  rw [he]
  have HE := Lib.hid hy2
  clear hy he hw hy2 hn
  rcases hmx with ⟨h1, rfl⟩ | ⟨h1, hn0⟩
  all_goals
    go_enter Try.func25, Try.ntmps25
    go_wp2_with fail
    refine (text_of (.slice none 0 0) [] id _ (by simp; omega) (BBuf.nil _ _)).mono ?_
    rintro e w1 ⟨v, rfl, h⟩
    have hb := h.buf
    rw [List.nil_append] at hb
    have hN := (NBuf.nil (Below.refl w.heap.size w) 5 1).step hb h.ap h.grew
    clear h
    go_wp2_with fail
    refine (uint_z _ (txt id) _ n _ (by first | rfl | omega | (rw [IntKind.wrap_u64]; omega)) (by omega) (by omega) hb).mono ?_
    rintro e w2 ⟨v2, rfl, h2⟩
    have hbl2 := (hN.step h2.buf h2.ap h2.grew).below
    have hb2 := h2.buf
    rw [HE.out] at hb2
    have hcv := hb2.string bytes_ty 9 Try.underlying9
    clear h2 hb2 hb
    go_wp2_with fail
    refine (append_any (.slice none 0 0) [] 2 (bs y) _ (by rw [bs_size]; simp; omega) (BBuf.nil _ _)).mono ?_
    rintro e w3 ⟨v3, rfl, h3⟩
    have hb3 := h3.buf
    have hbl3 := h3.nil_below
    rw [List.nil_append, bs_data] at hb3
    have hcv3 := hb3.string bytes_ty 9 Try.underlying9
    clear h3 hb3
    go_wp2_with fail
    go_ret
    exact ⟨rfl, below_trans hbl2 hbl3⟩

end Go.Proofs.Ytdmhjejjgcfplaa
