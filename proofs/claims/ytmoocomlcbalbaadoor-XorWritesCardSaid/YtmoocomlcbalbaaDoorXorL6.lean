/-
  Layer 7: XorWrites: samples are written as the page says.
-/
import Derived.Test.YtmoocomlcbalbaaDoorXorR
import Derived.Test.YtmoocomlcbalbaaDoorLib12
import Derived.Test.YtmoocomlcbalbaaDoorTie
import Derived.Test.YtmoocomlcbalbaaDoorCards
namespace Go.Proofs.YtmoocomlcbalbaaDoor
open Go.RowKit Go.Bar Go.Bar.Bit Go.Bar.Leb Go.Bar.Xor Go.ChangeShapes Go.WideShapes Go.ChangeAt
open Go.ChangeMaps (open_string shut_string)

theorem ofS_snoc {l : List Sm} {s S : St} {x : Sm} (h : ofS s l = (S, 0)) : ofS s (l ++ [x]) = if err S x = 0 then (S.put x, 0) else (S, err S x) := by
  induction l generalizing s with
  | nil => rw [ofS] at h; injection h with h; subst h; rfl
  | cons y l ih =>
    rw [List.cons_append]
    rw [ofS] at h ⊢
    split at h
    · next he => rw [if_pos he]; exact ih h
    · injection h with _ h; omega

theorem smc_one (l : List Sm) : ∀ u ∈ smc l, u.oneCell' = true := by
  intro u hu
  unfold smc at hu
  obtain ⟨x, _, hx⟩ := List.mem_flatMap.1 hu
  simp only [List.mem_cons, List.not_mem_nil, or_false] at hx
  rcases hx with rfl | rfl <;> rfl
theorem snoc_at {w : World} {v : Value} {l : List Sm} {T : Int} {V : Nat} (h : SlAt w 2 v (l.length + 1) (smc l ++ [.int .i64 T, .int .u64 (V : Nat)])) : SmsAt w v (l ++ [(T, V)]) := by
  unfold SmsAt
  rw [List.length_append, smc_append]
  exact h

/-- the samples that went in, beside the chunk -/
structure HV (w0 wr : World) (B : Nat) (v hv : Value) (hl : List Sm) : Prop where
  buf : FBuf w0 wr 38 2 hv hl.length (smc hl)
  lt : ∀ k, hv.ownBlock = some k → k < wr.heap.size
  nb : hv.ownBlock ≠ some B
  ne : ∀ k, hv.ownBlock = some k → v.ownBlock ≠ some k
section
variable {w0 wr w' : World} {B : Nat} {v v' hv : Value} {hl : List Sm} {s : St}
theorem HV.below (h : HV w0 wr B v hv hl) (hb : Below wr.heap.size wr w') : HV w0 w' B v hv hl := ⟨h.buf.below hb, fun k hk => Nat.lt_of_lt_of_le (h.lt k hk) hb.size, h.nb, h.ne⟩
theorem HV.chunk (h : HV w0 wr B v hv hl) (hc : ChCh wr B v w' v' s) : HV w0 w' B v' hv hl := by
  refine ⟨⟨hc.fr.buf h.buf.buf (fun k i hk hS => ?_), h.buf.new⟩, fun k hk => Nat.lt_of_lt_of_le (h.lt k hk) hc.fr.size, h.nb, fun k hk => ?_⟩
  · rcases hS with rfl | hS
    · exact h.nb hk
    · exact h.ne k hk hS
  · rcases hc.mv with e1 | ⟨g, e1, hg⟩
    · rw [e1]; exact h.ne k hk
    · rw [e1]
      intro hh
      injection hh with hh
      have := h.lt k hk
      omega
end

theorem HV.grow {w0 wz w8 : World} {B : Nat} {v hv v3 : Value} {hl : List Sm} {s : St} {T : Int} {V : Nat} {o : Obj} (h : HV w0 wz B v hv hl) (hN : ChN w0 wz B v s)
    (hb : Buf w8 38 2 v3 (hl.length + 1) (smc hl ++ [.int .i64 T, .int .u64 (V : Nat)])) (ha : Ap (wz.alloc o) w8 2 hv) (hg : Grew (wz.alloc o) hv v3) : HV w0 w8 B v v3 (hl ++ [(T, V)]) ∧ ChN w0 w8 B v s := by
  have hba := ba1 wz o
  have h1 := h.below hba
  have hN1 := hN.then_below hba
  have hf : Fr (fun k _ => hv.ownBlock = some k) (wz.alloc o) w8 := Fr.of_ap ha (fun k i hk => hk)
  have hcase : ∀ k, v3.ownBlock = some k → hv.ownBlock = some k ∨ (wz.alloc o).heap.size ≤ k := by
    intro k hk
    rcases hg with ⟨A, n, n', c, rfl, rfl, _⟩ | ⟨g, n', c', rfl, hgg⟩
    · exact .inl (by cases A <;> simp_all [Value.ownBlock])
    · simp [Value.ownBlock] at hk; subst hk; exact .inr hgg
  refine ⟨⟨?_, hb.lt (by omega), fun hk => ?_, fun k hk hv2 => ?_⟩, ⟨hN1.at_.keep hf (fun i hk => h.nb hk) (fun k i hk hk2 => h.ne k hk2 hk), hN1.below.trans (ha.below hN1.below.size h.buf.new), hN1.b_new, hN1.v_new⟩⟩
  · have := h1.buf.grown hN1.below.size hb hg
    rw [smc_append, List.length_append]
    exact this
  · rcases hcase _ hk with h2 | h2
    · exact h.nb h2
    · have := hN1.lt; omega
  · rcases hcase _ hk with h2 | h2
    · exact h.ne k h2 hv2
    · have := hN1.at_.row.lt _ hv2; omega

set_option maxHeartbeats 4000000 in
set_option maxRecDepth 10000 in
theorem xorWrites_walk0 (v : Value) (l0 : List Sm) (w : World) (h : SmsArg w v l0) (hW : WidthsAt w) :
    Calls Tryd.prog 8 #[v] w (RetBelow w (.bool true)) := by
  obtain ⟨l, hl⟩ : ∃ l, l = l0.take 130 := ⟨_, rfl⟩
  obtain ⟨K, hK⟩ : ∃ K : Nat, (K : Int) = min (l0.length : Int) 130 := ⟨(min (l0.length : Int) 130).toNat, by omega⟩
  have hlK : l.length = K := by rw [hl, List.length_take]; omega
  have hKl : K ≤ l0.length := by omega
  have hK130 : K ≤ 130 := by omega
  obtain ⟨A, c, rfl, hcl, hcm⟩ := h.1.shape
  have HG := Lib.hid (show SmsAt w (.slice A K c) l by
    have := SlAt.take h.1 K c hKl (by omega) hcm
    unfold SmsAt
    rw [hlK, show smc l = (smc l0).take (K * 2) by rw [hl, show l0.take 130 = l0.take K by rw [List.take_eq_take_iff]; omega]; exact (flat2_take _ _ l0 K).symm]
    exact this)
  have HV2 := Lib.hid (fun x (hx : x ∈ l) => (h.2 x (by rw [hl] at hx; exact List.mem_of_mem_take hx)).1)
  have HAW := Lib.hid (fun w hW => awake7_any w hW)
  have HK := Lib.hid hK
  have HLK := Lib.hid hlK
  have hba1 := ba1 w (.cells #[.slice none 0 0, .int .i64 0, .int .i64 0, .int .i64 0, .int .u64 0, .int .i64 0, .int .i64 0, .int .i64 0] 43)
  have hN0 := ChN.start (Below.refl w.heap.size w) 43
  obtain ⟨B, hB⟩ : ∃ B, B = w.heap.size := ⟨_, rfl⟩
  unfold maxLen at hcm
  clear hl hK hlK h
  go_enter Tryd.func8, Tryd.ntmps8
  have hmin : (if 130 < (l0.length : Int) then (130 : Int) else (l0.length : Int)) = (K : Int) := by rw [HK.out]; split <;> omega
  go_upto_region 4 with fail
  clear hmin
  have hb2 := ba1 (w.alloc (.cells #[.slice none 0 0, .int .i64 0, .int .i64 0, .int .i64 0, .int .u64 0, .int .i64 0, .int .i64 0, .int .i64 0] 43)) (.cells #[] 38)
  have hN1 := hN0.then_below hb2
  have hF1 : HV w ((w.alloc (.cells #[.slice none 0 0, .int .i64 0, .int .i64 0, .int .i64 0, .int .u64 0, .int .i64 0, .int .i64 0, .int .i64 0] 43)).alloc (.cells #[] 38)) B (.slice none 0 0) (.slice (some ⟨w.heap.size + 1, 0, none⟩) 0 0) [] := by
    refine ⟨⟨?_, fun k hk => by simp [Value.ownBlock] at hk; omega⟩, fun k hk => by simp [Value.ownBlock] at hk; simp; omega, by simp [Value.ownBlock]; omega, fun k hk => by simp [Value.ownBlock]⟩
    have := Buf.lit (w.alloc (.cells #[.slice none 0 0, .int .i64 0, .int .i64 0, .int .i64 0, .int .u64 0, .int .i64 0, .int .i64 0, .int .i64 0] 43)) 38 2 0 [] (by simp) (Nat.zero_le _)
    simpa [smc] using this
  obtain ⟨w1, hw1⟩ : ∃ x : World, x = (w.alloc (.cells #[.slice none 0 0, .int .i64 0, .int .i64 0, .int .i64 0, .int .u64 0, .int .i64 0, .int .i64 0, .int .i64 0] 43)).alloc (.cells #[] 38) := ⟨_, rfl⟩
  rw [← hw1] at hN1 hF1
  rw [← hB] at hN1
  rw [← hw1, ← hB]
  have hX0 : B + 1 = w.heap.size + 1 := by rw [hB]
  rw [← hX0] at hF1
  have HN1 := Lib.hid hN1
  have HF1 := Lib.hid hF1
  have HBE := Lib.hid hB
  clear hN0 hN1 hF1 hw1 hB hb2 hX0 hba1
  go_wp2_with fail
  refine (HAW.out _ (hW.below HN1.out.below)).mono ?_
  rintro e w2 ⟨rfl, hb2⟩
  have HN2 := Lib.hid (HN1.out.then_below hb2)
  have HF2 := Lib.hid (HF1.out.below hb2)
  clear hb2
  go_wp2_with fail
  go_loopw [4, 22] (fun h0 i wr => ∃ (k : Nat) (v : Value) (s : St) (hl : List Sm) (hv : Value), h0 = hv ∧ k ≤ K ∧ i = .int .i64 (k : Int) ∧ hl.length ≤ 120 ∧ Hid (ChN w wr B v s) ∧ Hid s.Ok ∧ Hid (HV w wr B v hv hl) ∧ Hid (ofS St.zero hl = (s, 0)) ∧ Hid (∀ x ∈ hl, x.2 < 18446744073709551616)) (fun _ i _ => K - (intOf i).toNat)
  case atStart => exact ⟨0, _, St.zero, [], _, rfl, Nat.zero_le _, rfl, by simp, HN2, Lib.hid St.zero_ok, HF2, Lib.hid rfl, Lib.hid (by simp)⟩
  case round =>
    obtain ⟨k, v, s, hl, hv, rfl, hk, rfl, hl120, HN, HOK, HF, HO, HLV⟩ := hrel
    by_cases hgo : k < K
    · obtain ⟨x, hxk⟩ : ∃ x, l[k]? = some x := ⟨_, List.getElem?_eq_getElem (by rw [HLK.out]; exact hgo)⟩
      have hx2 := HV2.out x (List.mem_of_getElem? hxk)
      obtain ⟨b, o, rfl, hb, f0, f1⟩ := (HG.out.below HN.out.below).at_ hxk
      have hci : (0 : Int) ≤ (k : Int) := by omega
      obtain ⟨T, V⟩ := x
      simp only at hx2 f0 f1
      have HBX := Lib.hid (ba1 wr (.cells #[.int .i64 T, .int .u64 (V : Nat)] 38))
      have HBK := Lib.hid (Blk.new wr #[.int .i64 T, .int .u64 (V : Nat)] 38)
      have HBn := Lib.hid (show wr.heap.size ≠ B by have := HN.out.lt; omega)
      have HVn := Lib.hid (show v.ownBlock ≠ some wr.heap.size from fun hh => by have := HN.out.at_.row.lt _ hh; omega)
      obtain ⟨X, hX⟩ : ∃ X, X = wr.heap.size := ⟨_, rfl⟩
      obtain ⟨wA, hwA⟩ : ∃ x : World, x = wr.alloc (.cells #[.int .i64 T, .int .u64 (V : Nat)] 38) := ⟨_, rfl⟩
      clear hxk
      go_upto_region 9 with fail
      rw [← hwA, ← hX]
      have HCK := Lib.hid (show Blk wA X 38 #[.int .i64 T, .int .u64 (V : Nat)] by rw [hwA, hX]; exact HBK.out)
      have HBA := Lib.hid (show Below wr.heap.size wr wA by rw [hwA]; exact HBX.out)
      have HNA := Lib.hid (HN.out.then_below HBA.out)
      have HFA := Lib.hid (HF.out.below HBA.out)
      rw [← hX] at HBn HVn
      have x0 : wA.cell? ⟨X, 0, none⟩ = some (.int .i64 T) := HCK.out.cell (i := 0) rfl
      have x1 : wA.cell? ⟨X, 1, none⟩ = some (.int .u64 (V : Nat)) := HCK.out.cell (i := 1) rfl
      clear hwA hX f0 f1
      obtain ⟨E, hE⟩ : ∃ E, E = err s (T, V) := ⟨_, rfl⟩
      have HGD := Lib.hid (fun v w' (h : SmsAt w' v (hl ++ [(T, V)])) => (show Calls Tryd.prog 19 #[v] w' (RetBelow w' (.int .i64 (E : Nat))) by
        have := rgood_any (hl ++ [(T, V)]) v w' h
        rw [ofS_snoc HO.out, ← hE] at this
        split at this
        · next h0 => rw [h0]; exact this
        · exact this))
      have HEE := Lib.hid hE
      by_cases he : E = 0
      · subst he
        have hap := append_ok w B v s (T, V) wA HNA.out hW HOK.out HEE.out.symm hx2
        have HAP := Lib.hid hap
        clear hap hE
        go_wp2_with fail
        refine HAP.out.mono ?_
        rintro e wR ⟨rfl, v2, hch⟩
        have HNr := Lib.hid (HNA.out.next hch)
        have HFr := Lib.hid (HFA.out.chunk hch)
        have HCr := Lib.hid (hch.blk HCK.out HBn.out HVn.out)
        clear hch x0 x1
        go_upto_region 10 with fail
        obtain ⟨hA, hc, rfl, hhc⟩ := HFr.out.buf.buf.shape
        refine Dk.wp_region_chain (fun k => List.lookup k [(0, ((fun v => ∃ g, v = .slice (some ⟨g, 0, none⟩) 0 0), Dk.KF 2 (fun v w => FBuf wR w 38 2 v 0 []))), (2, (isSl hl.length, Dk.KF 5 (fun v w => FBuf wR w 38 2 v hl.length (smc hl)))), (3, (isV (.agg #[.int .i64 T, .int .u64 (V : Nat)]), Dk.noK)), (4, ((fun v => ∃ g, v = .slice (some ⟨g, 0, none⟩) 1 1), Dk.KF 5 (fun v w => FBuf wR w 38 2 v 1 [.int .i64 T, .int .u64 (V : Nat)]))), (5, (isSl (hl.length + 1), Dk.KF 6 (fun v w => FBuf wR w 38 2 v (hl.length + 1) (smc hl ++ [.int .i64 T, .int .u64 (V : Nat)])))), (6, (isV (.int .i64 0), Dk.noK))]) (Dk.RB 8 [5]) (fun _ w => Below wR.heap.size wR w) (by kernel_rfl) 85 (by kernel_rfl) rfl ?_ ?_ ?_ ?_ ?_ ?_
        · apply Dk.lookup_all (p := fun _ (g : (Value → Prop) × (Value → (Nat → Bool) → World → Prop)) => ∃ v, g.1 v)
          simp only [List.forall_mem_cons, List.not_mem_nil, false_imp_iff, implies_true, and_true]
          exact ⟨⟨_, 0, rfl⟩, isSl_some _, ⟨_, rfl⟩, ⟨_, 0, rfl⟩, isSl_some _, ⟨_, rfl⟩⟩
        · refine Dk.lookup_all ?_
          simp only [List.forall_mem_cons, List.not_mem_nil, false_imp_iff, implies_true, and_true]
          refine ⟨?_, ?_, ?_, ?_, ?_, ?_⟩
          · exact Dk.KF.keepB (fun _ _ _ hb h => h.below hb) (by kernel_rfl)
          · exact Dk.KF.keepB (fun _ _ _ hb h => h.below hb) (by kernel_rfl)
          · exact fun _ _ _ _ _ _ _ _ _ _ _ => trivial
          · exact Dk.KF.keepB (fun _ _ _ hb h => h.below hb) (by kernel_rfl)
          · exact Dk.KF.keepB (fun _ _ _ hb h => h.below hb) (by kernel_rfl)
          · exact fun _ _ _ _ _ _ _ _ _ _ _ => trivial
        · refine Dk.lookup_all ?_
          simp only [List.forall_mem_cons, List.not_mem_nil, false_imp_iff, implies_true, and_true]
          refine ⟨?_, ?_, ?_, ?_, ?_, ?_⟩
          · exact fun _ _ _ _ _ h => Dk.KF.pure h
          · exact fun _ _ _ _ _ h => Dk.KF.pure h
          · exact fun _ _ _ _ _ _ => trivial
          · exact fun _ _ _ _ _ h => Dk.KF.pure h
          · exact fun _ _ _ _ _ h => Dk.KF.pure h
          · exact fun _ _ _ _ _ _ => trivial
        · exact fun _ _ _ _ h => h
        · exact Below.drew' (Below.refl _ _)
        refine Dk.Chain.weaken (F := Dk.atK []) (fun _ _ _ _ => trivial) ?_
        repeat (first
          | (refine Dk.Chain.step (v := ?_) (a' := ?_) rfl rfl rfl ?_ ?_ ?_
             rotate_left 2
             focus (intro w; go_simp; try with_reducible rfl)
             focus (simp only [Act.put, List.setIfInBounds_toArray, List.set_cons_succ, List.set_cons_zero]; try rfl))
          | (refine Dk.Chain.skip (a' := ?_) rfl rfl rfl ?_ ?_
             rotate_left 1
             focus (simp only [Act.put, List.setIfInBounds_toArray, List.set_cons_succ, List.set_cons_zero]; try rfl)))
        refine Dk.Chain.make _ _ rfl rfl rfl (fun D wx hx hD hF => ?_) (fun d0 hd0 a' ha => ?_)
        focus
          go_simp
          exact ⟨Dk.RB.of (by decide) (ba1 _ _), below_trans hx (ba1 _ _), fun _ => ⟨Buf.lit wx 38 2 0 [] (by simp) (Nat.zero_le _), fun k hk => by simp [Value.ownBlock] at hk; subst hk; exact hx.size⟩⟩
        obtain ⟨g0, rfl⟩ := hd0
        simp only [Act.put, List.setIfInBounds_toArray, List.set_cons_succ, List.set_cons_zero] at ha
        subst ha
        repeat (first
          | (refine Dk.Chain.step (v := ?_) (a' := ?_) rfl rfl rfl ?_ ?_ ?_
             rotate_left 2
             focus (intro w; go_simp; try with_reducible rfl)
             focus (simp only [Act.put, List.setIfInBounds_toArray, List.set_cons_succ, List.set_cons_zero]; try rfl))
          | (refine Dk.Chain.skip (a' := ?_) rfl rfl rfl ?_ ?_
             rotate_left 1
             focus (simp only [Act.put, List.setIfInBounds_toArray, List.set_cons_succ, List.set_cons_zero]; try rfl)))
        refine Dk.Chain.make _ _ rfl rfl rfl (fun D wx hx hD hF => ?_) (fun d2 hd2 a' ha => ?_)
        focus
          have f0 := (show Dk.KF 2 (fun v w => FBuf wR w 38 2 v 0 []) _ D wx from Dk.atK_get' (hF 0 (by kernel_rfl)).2 rfl) hD
          refine oper_append_buf (.tmp 28) (.tmp 29) 23 rfl sm_ty rfl f0.buf rfl ((HFr.out.below hx).buf.buf.src Tryd.underlying23 (smc_one hl)) (by simp only [maxLen]; omega) (by omega) ?_
          intro v' w' hb ha hg
          rw [Nat.zero_add, List.nil_append] at hb
          have hbl := Ap.below_full ha
          exact ⟨v', rfl, Dk.RB.of (by decide) hbl, below_trans hx hbl, hb.shape, fun _ => f0.grown hx.size hb hg⟩
        obtain ⟨A2, c2, rfl, hc2⟩ := hd2
        simp only [Act.put, List.setIfInBounds_toArray, List.set_cons_succ, List.set_cons_zero] at ha
        subst ha
        repeat (first
          | (refine Dk.Chain.step (v := ?_) (a' := ?_) rfl rfl rfl ?_ ?_ ?_
             rotate_left 2
             focus (intro w; go_simp; try with_reducible rfl)
             focus (simp only [Act.put, List.setIfInBounds_toArray, List.set_cons_succ, List.set_cons_zero]; try rfl))
          | (refine Dk.Chain.skip (a' := ?_) rfl rfl rfl ?_ ?_
             rotate_left 1
             focus (simp only [Act.put, List.setIfInBounds_toArray, List.set_cons_succ, List.set_cons_zero]; try rfl)))
        refine Dk.Chain.call (a' := ?_) _ rfl rfl rfl rfl (fun D wx hx hD hF => ?_) ?_ ?_
        rotate_left 1
        focus
          have x0 := (HCr.out.below hx).cell (i := 0) rfl
          have x1 := (HCr.out.below hx).cell (i := 1) rfl
          go_simp
          first | exact ⟨Dk.RB.of (by decide) (Below.refl _ _), hx⟩ | exact Dk.RB.of (by decide) (Below.refl _ _)
        focus (simp only [Act.put, List.setIfInBounds_toArray, List.set_cons_succ, List.set_cons_zero]; try rfl)
        repeat (first
          | (refine Dk.Chain.step (v := ?_) (a' := ?_) rfl rfl rfl ?_ ?_ ?_
             rotate_left 2
             focus (intro w; go_simp; try with_reducible rfl)
             focus (simp only [Act.put, List.setIfInBounds_toArray, List.set_cons_succ, List.set_cons_zero]; try rfl))
          | (refine Dk.Chain.skip (a' := ?_) rfl rfl rfl ?_ ?_
             rotate_left 1
             focus (simp only [Act.put, List.setIfInBounds_toArray, List.set_cons_succ, List.set_cons_zero]; try rfl)))
        refine Dk.Chain.make _ _ rfl rfl rfl (fun D wx hx hD hF => ?_) (fun d4 hd4 a' ha => ?_)
        focus
          go_simp
          exact ⟨Dk.RB.of (by decide) (ba1 _ _), below_trans hx (ba1 _ _), fun _ => ⟨Buf.lit wx 38 2 1 [.int .i64 T, .int .u64 (V : Nat)] (by simp) (by decide), fun k hk => by simp [Value.ownBlock] at hk; subst hk; exact hx.size⟩⟩
        obtain ⟨g4, rfl⟩ := hd4
        simp only [Act.put, List.setIfInBounds_toArray, List.set_cons_succ, List.set_cons_zero] at ha
        subst ha
        repeat (first
          | (refine Dk.Chain.step (v := ?_) (a' := ?_) rfl rfl rfl ?_ ?_ ?_
             rotate_left 2
             focus (intro w; go_simp; try with_reducible rfl)
             focus (simp only [Act.put, List.setIfInBounds_toArray, List.set_cons_succ, List.set_cons_zero]; try rfl))
          | (refine Dk.Chain.skip (a' := ?_) rfl rfl rfl ?_ ?_
             rotate_left 1
             focus (simp only [Act.put, List.setIfInBounds_toArray, List.set_cons_succ, List.set_cons_zero]; try rfl)))
        refine Dk.Chain.make _ _ rfl rfl rfl (fun D wx hx hD hF => ?_) (fun d5 hd5 a' ha => ?_)
        focus
          have f2 := (show Dk.KF 5 (fun v w => FBuf wR w 38 2 v hl.length (smc hl)) _ D wx from Dk.atK_get' (hF 2 (by kernel_rfl)).2 rfl) hD
          have f4 := (show Dk.KF 5 (fun v w => FBuf wR w 38 2 v 1 [.int .i64 T, .int .u64 (V : Nat)]) _ D wx from Dk.atK_get' (hF 4 (by kernel_rfl)).2 rfl) hD
          refine oper_append_buf (.tmp 30) (.tmp 32) 23 rfl sm_ty rfl f2.buf rfl (f4.buf.src Tryd.underlying23 (smc_one [(T, V)])) (by simp only [maxLen]; omega) (by omega) ?_
          intro v' w' hb ha hg
          have hbl := ha.below hx.size f2.new
          exact ⟨v', rfl, Dk.RB.yes (by decide) rfl, hx.trans hbl, hb.shape, fun _ => f2.grown hx.size hb hg⟩
        obtain ⟨A5, c5, rfl, hc5⟩ := hd5
        simp only [Act.put, List.setIfInBounds_toArray, List.set_cons_succ, List.set_cons_zero] at ha
        subst ha
        repeat (first
          | (refine Dk.Chain.step (v := ?_) (a' := ?_) rfl rfl rfl ?_ ?_ ?_
             rotate_left 2
             focus (intro w; go_simp; try with_reducible rfl)
             focus (simp only [Act.put, List.setIfInBounds_toArray, List.set_cons_succ, List.set_cons_zero]; try rfl))
          | (refine Dk.Chain.skip (a' := ?_) rfl rfl rfl ?_ ?_
             rotate_left 1
             focus (simp only [Act.put, List.setIfInBounds_toArray, List.set_cons_succ, List.set_cons_zero]; try rfl)))
        refine Dk.Chain.call (a' := ?_) _ rfl rfl rfl rfl (fun D wx hx hD hF => ?_) ?_ ?_
        rotate_left 1
        focus
          have f5 := (show Dk.KF 6 (fun v w => FBuf wR w 38 2 v (hl.length + 1) (smc hl ++ [.int .i64 T, .int .u64 (V : Nat)])) _ D wx from Dk.atK_get' (hF 5 (by kernel_rfl)).2 rfl) hD
          have hsm := snoc_at f5.slice
          go_simp
          (with_reducible refine (HGD.out _ _ hsm).mono ?_)
          rintro e w' ⟨rfl, hb⟩
          exact ⟨rfl, Dk.RB.of (by decide) hb, below_trans hx hb⟩
        focus (simp only [Act.put, List.setIfInBounds_toArray, List.set_cons_succ, List.set_cons_zero]; try rfl)
        repeat (first
          | (refine Dk.Chain.step (v := ?_) (a' := ?_) rfl rfl rfl ?_ ?_ ?_
             rotate_left 2
             focus (intro w; go_simp; try with_reducible rfl)
             focus (simp only [Act.put, List.setIfInBounds_toArray, List.set_cons_succ, List.set_cons_zero]; try rfl))
          | (refine Dk.Chain.skip (a' := ?_) rfl rfl rfl ?_ ?_
             rotate_left 1
             focus (simp only [Act.put, List.setIfInBounds_toArray, List.set_cons_succ, List.set_cons_zero]; try rfl)))
        refine Dk.Chain.end_ (fun D wz hD hwz => ?_)
        have HNz := Lib.hid (HNr.out.then_below hwz)
        have HFz := Lib.hid (HFr.out.below hwz)
        have HCz := Lib.hid (HCr.out.below hwz)
        clear hwz hD
        have hlt : hl.length < 120 := by
          have := (err_zero HEE.out.symm).2.2.2
          have hn := HOK.out.n
          rw [ofS_n HO.out] at this hn
          simp only [St.zero] at this hn
          omega
        have hsp : (s.put (T, V)).n = hl.length + 1 := by rw [(put_n _ _).1, ofS_n HO.out]; simp [St.zero]
        have HSN := Lib.hid hsp
        have x0 := HCz.out.cell (i := 0) rfl
        have x1 := HCz.out.cell (i := 1) rfl
        clear hsp
        have hHC : HV w wz B v2 (.slice hA hl.length hc) hl := HFz.out
        have hbn : FBuf w wz 38 2 (.slice hA hl.length hc) hl.length (smc hl) := hHC.buf
        clear hHC
        go_wp2_with (at_builtin; refine wpList_append_flit rfl (.tmp 40) (.tmp 42) 23 rfl sm_ty rfl hbn.buf rfl (by simp) rfl (by simp [Value.oneCell']) (by simp only [maxLen]; omega) (by omega) ?_; intro v3 w8 hb8 ha8 hg8; have hgr := HFz.out.grow HNz.out hb8 ha8 hg8; have HF8 := Lib.hid hgr.1; have HN8 := Lib.hid hgr.2; clear hgr hb8 ha8 hg8)
        refine (chLen_any B _ _ _ HN8.out.at_).mono ?_
        rintro e w9 ⟨rfl, rfl⟩
        rw [HSN.out]
        obtain ⟨A3, c3, rfl, hc3⟩ := HF8.out.buf.buf.shape
        have HLA := Lib.hid (show (hl ++ [(T, V)]).length = hl.length + 1 from by rw [List.length_append]; rfl)
        have HOK8 := Lib.hid (HOK.out.put HEE.out.symm hx2)
        have HO8 := Lib.hid (show ofS St.zero (hl ++ [(T, V)]) = (s.put (T, V), 0) by rw [ofS_snoc HO.out, if_pos HEE.out.symm])
        have HL8 := Lib.hid (show ∀ x ∈ hl ++ [(T, V)], x.2 < 18446744073709551616 from fun x hx => by rw [List.mem_append, List.mem_singleton] at hx; rcases hx with hx | rfl; exact HLV.out x hx; exact hx2)
        clear x0 x1 hbn
        go_wp2_with fail
        go_roundw
        case rel => exact ⟨k + 1, _, _, hl ++ [(T, V)], _, rfl, by omega, by go_num, by rw [HLA.out]; exact hlt, HN8, HOK8, Lib.hid (by have := HF8.out; rw [HLA.out] at this; exact this), HO8, HL8⟩
        case measure => simp [intOf]; omega
      · have hap := append_err B v s (T, V) wA HNA.out.at_ HOK.out.n (by rw [← hE]; exact he)
        rw [← hE] at hap
        have HAP := Lib.hid hap
        have hne : ((E : Int) == 0) = false := by rw [beq_eq_false_iff_ne]; omega
        have HE := Lib.hid he
        clear hap hE he
        go_wp2_with fail
        refine HAP.out.mono ?_
        rintro e wR ⟨rfl, hbR⟩
        have HNr := Lib.hid (HNA.out.then_below hbR)
        have HFr := Lib.hid (HFA.out.below hbR)
        have HCr := Lib.hid (HCK.out.below hbR)
        clear hbR x0 x1
        go_upto_region 10 with fail
        obtain ⟨hA, hc, rfl, hhc⟩ := HFr.out.buf.buf.shape
        refine Dk.wp_region_chain (fun k => List.lookup k [(0, ((fun v => ∃ g, v = .slice (some ⟨g, 0, none⟩) 0 0), Dk.KF 2 (fun v w => FBuf wR w 38 2 v 0 []))), (2, (isSl hl.length, Dk.KF 5 (fun v w => FBuf wR w 38 2 v hl.length (smc hl)))), (3, (isV (.agg #[.int .i64 T, .int .u64 (V : Nat)]), Dk.noK)), (4, ((fun v => ∃ g, v = .slice (some ⟨g, 0, none⟩) 1 1), Dk.KF 5 (fun v w => FBuf wR w 38 2 v 1 [.int .i64 T, .int .u64 (V : Nat)]))), (5, (isSl (hl.length + 1), Dk.KF 6 (fun v w => FBuf wR w 38 2 v (hl.length + 1) (smc hl ++ [.int .i64 T, .int .u64 (V : Nat)])))), (6, (isV (.int .i64 (E : Nat)), Dk.noK))]) (Dk.RB 8 [5]) (fun _ w => Below wR.heap.size wR w) (by kernel_rfl) 85 (by kernel_rfl) rfl ?_ ?_ ?_ ?_ ?_ ?_
        · apply Dk.lookup_all (p := fun _ (g : (Value → Prop) × (Value → (Nat → Bool) → World → Prop)) => ∃ v, g.1 v)
          simp only [List.forall_mem_cons, List.not_mem_nil, false_imp_iff, implies_true, and_true]
          exact ⟨⟨_, 0, rfl⟩, isSl_some _, ⟨_, rfl⟩, ⟨_, 0, rfl⟩, isSl_some _, ⟨_, rfl⟩⟩
        · refine Dk.lookup_all ?_
          simp only [List.forall_mem_cons, List.not_mem_nil, false_imp_iff, implies_true, and_true]
          refine ⟨?_, ?_, ?_, ?_, ?_, ?_⟩
          · exact Dk.KF.keepB (fun _ _ _ hb h => h.below hb) (by kernel_rfl)
          · exact Dk.KF.keepB (fun _ _ _ hb h => h.below hb) (by kernel_rfl)
          · exact fun _ _ _ _ _ _ _ _ _ _ _ => trivial
          · exact Dk.KF.keepB (fun _ _ _ hb h => h.below hb) (by kernel_rfl)
          · exact Dk.KF.keepB (fun _ _ _ hb h => h.below hb) (by kernel_rfl)
          · exact fun _ _ _ _ _ _ _ _ _ _ _ => trivial
        · refine Dk.lookup_all ?_
          simp only [List.forall_mem_cons, List.not_mem_nil, false_imp_iff, implies_true, and_true]
          refine ⟨?_, ?_, ?_, ?_, ?_, ?_⟩
          · exact fun _ _ _ _ _ h => Dk.KF.pure h
          · exact fun _ _ _ _ _ h => Dk.KF.pure h
          · exact fun _ _ _ _ _ _ => trivial
          · exact fun _ _ _ _ _ h => Dk.KF.pure h
          · exact fun _ _ _ _ _ h => Dk.KF.pure h
          · exact fun _ _ _ _ _ _ => trivial
        · exact fun _ _ _ _ h => h
        · exact Below.drew' (Below.refl _ _)
        refine Dk.Chain.weaken (F := Dk.atK []) (fun _ _ _ _ => trivial) ?_
        repeat (first
          | (refine Dk.Chain.step (v := ?_) (a' := ?_) rfl rfl rfl ?_ ?_ ?_
             rotate_left 2
             focus (intro w; go_simp; try with_reducible rfl)
             focus (simp only [Act.put, List.setIfInBounds_toArray, List.set_cons_succ, List.set_cons_zero]; try rfl))
          | (refine Dk.Chain.skip (a' := ?_) rfl rfl rfl ?_ ?_
             rotate_left 1
             focus (simp only [Act.put, List.setIfInBounds_toArray, List.set_cons_succ, List.set_cons_zero]; try rfl)))
        refine Dk.Chain.make _ _ rfl rfl rfl (fun D wx hx hD hF => ?_) (fun d0 hd0 a' ha => ?_)
        focus
          go_simp
          exact ⟨Dk.RB.of (by decide) (ba1 _ _), below_trans hx (ba1 _ _), fun _ => ⟨Buf.lit wx 38 2 0 [] (by simp) (Nat.zero_le _), fun k hk => by simp [Value.ownBlock] at hk; subst hk; exact hx.size⟩⟩
        obtain ⟨g0, rfl⟩ := hd0
        simp only [Act.put, List.setIfInBounds_toArray, List.set_cons_succ, List.set_cons_zero] at ha
        subst ha
        repeat (first
          | (refine Dk.Chain.step (v := ?_) (a' := ?_) rfl rfl rfl ?_ ?_ ?_
             rotate_left 2
             focus (intro w; go_simp; try with_reducible rfl)
             focus (simp only [Act.put, List.setIfInBounds_toArray, List.set_cons_succ, List.set_cons_zero]; try rfl))
          | (refine Dk.Chain.skip (a' := ?_) rfl rfl rfl ?_ ?_
             rotate_left 1
             focus (simp only [Act.put, List.setIfInBounds_toArray, List.set_cons_succ, List.set_cons_zero]; try rfl)))
        refine Dk.Chain.make _ _ rfl rfl rfl (fun D wx hx hD hF => ?_) (fun d2 hd2 a' ha => ?_)
        focus
          have f0 := (show Dk.KF 2 (fun v w => FBuf wR w 38 2 v 0 []) _ D wx from Dk.atK_get' (hF 0 (by kernel_rfl)).2 rfl) hD
          refine oper_append_buf (.tmp 28) (.tmp 29) 23 rfl sm_ty rfl f0.buf rfl ((HFr.out.below hx).buf.buf.src Tryd.underlying23 (smc_one hl)) (by simp only [maxLen]; omega) (by omega) ?_
          intro v' w' hb ha hg
          rw [Nat.zero_add, List.nil_append] at hb
          have hbl := Ap.below_full ha
          exact ⟨v', rfl, Dk.RB.of (by decide) hbl, below_trans hx hbl, hb.shape, fun _ => f0.grown hx.size hb hg⟩
        obtain ⟨A2, c2, rfl, hc2⟩ := hd2
        simp only [Act.put, List.setIfInBounds_toArray, List.set_cons_succ, List.set_cons_zero] at ha
        subst ha
        repeat (first
          | (refine Dk.Chain.step (v := ?_) (a' := ?_) rfl rfl rfl ?_ ?_ ?_
             rotate_left 2
             focus (intro w; go_simp; try with_reducible rfl)
             focus (simp only [Act.put, List.setIfInBounds_toArray, List.set_cons_succ, List.set_cons_zero]; try rfl))
          | (refine Dk.Chain.skip (a' := ?_) rfl rfl rfl ?_ ?_
             rotate_left 1
             focus (simp only [Act.put, List.setIfInBounds_toArray, List.set_cons_succ, List.set_cons_zero]; try rfl)))
        refine Dk.Chain.call (a' := ?_) _ rfl rfl rfl rfl (fun D wx hx hD hF => ?_) ?_ ?_
        rotate_left 1
        focus
          have x0 := (HCr.out.below hx).cell (i := 0) rfl
          have x1 := (HCr.out.below hx).cell (i := 1) rfl
          go_simp
          first | exact ⟨Dk.RB.of (by decide) (Below.refl _ _), hx⟩ | exact Dk.RB.of (by decide) (Below.refl _ _)
        focus (simp only [Act.put, List.setIfInBounds_toArray, List.set_cons_succ, List.set_cons_zero]; try rfl)
        repeat (first
          | (refine Dk.Chain.step (v := ?_) (a' := ?_) rfl rfl rfl ?_ ?_ ?_
             rotate_left 2
             focus (intro w; go_simp; try with_reducible rfl)
             focus (simp only [Act.put, List.setIfInBounds_toArray, List.set_cons_succ, List.set_cons_zero]; try rfl))
          | (refine Dk.Chain.skip (a' := ?_) rfl rfl rfl ?_ ?_
             rotate_left 1
             focus (simp only [Act.put, List.setIfInBounds_toArray, List.set_cons_succ, List.set_cons_zero]; try rfl)))
        refine Dk.Chain.make _ _ rfl rfl rfl (fun D wx hx hD hF => ?_) (fun d4 hd4 a' ha => ?_)
        focus
          go_simp
          exact ⟨Dk.RB.of (by decide) (ba1 _ _), below_trans hx (ba1 _ _), fun _ => ⟨Buf.lit wx 38 2 1 [.int .i64 T, .int .u64 (V : Nat)] (by simp) (by decide), fun k hk => by simp [Value.ownBlock] at hk; subst hk; exact hx.size⟩⟩
        obtain ⟨g4, rfl⟩ := hd4
        simp only [Act.put, List.setIfInBounds_toArray, List.set_cons_succ, List.set_cons_zero] at ha
        subst ha
        repeat (first
          | (refine Dk.Chain.step (v := ?_) (a' := ?_) rfl rfl rfl ?_ ?_ ?_
             rotate_left 2
             focus (intro w; go_simp; try with_reducible rfl)
             focus (simp only [Act.put, List.setIfInBounds_toArray, List.set_cons_succ, List.set_cons_zero]; try rfl))
          | (refine Dk.Chain.skip (a' := ?_) rfl rfl rfl ?_ ?_
             rotate_left 1
             focus (simp only [Act.put, List.setIfInBounds_toArray, List.set_cons_succ, List.set_cons_zero]; try rfl)))
        refine Dk.Chain.make _ _ rfl rfl rfl (fun D wx hx hD hF => ?_) (fun d5 hd5 a' ha => ?_)
        focus
          have f2 := (show Dk.KF 5 (fun v w => FBuf wR w 38 2 v hl.length (smc hl)) _ D wx from Dk.atK_get' (hF 2 (by kernel_rfl)).2 rfl) hD
          have f4 := (show Dk.KF 5 (fun v w => FBuf wR w 38 2 v 1 [.int .i64 T, .int .u64 (V : Nat)]) _ D wx from Dk.atK_get' (hF 4 (by kernel_rfl)).2 rfl) hD
          refine oper_append_buf (.tmp 30) (.tmp 32) 23 rfl sm_ty rfl f2.buf rfl (f4.buf.src Tryd.underlying23 (smc_one [(T, V)])) (by simp only [maxLen]; omega) (by omega) ?_
          intro v' w' hb ha hg
          have hbl := ha.below hx.size f2.new
          exact ⟨v', rfl, Dk.RB.yes (by decide) rfl, hx.trans hbl, hb.shape, fun _ => f2.grown hx.size hb hg⟩
        obtain ⟨A5, c5, rfl, hc5⟩ := hd5
        simp only [Act.put, List.setIfInBounds_toArray, List.set_cons_succ, List.set_cons_zero] at ha
        subst ha
        repeat (first
          | (refine Dk.Chain.step (v := ?_) (a' := ?_) rfl rfl rfl ?_ ?_ ?_
             rotate_left 2
             focus (intro w; go_simp; try with_reducible rfl)
             focus (simp only [Act.put, List.setIfInBounds_toArray, List.set_cons_succ, List.set_cons_zero]; try rfl))
          | (refine Dk.Chain.skip (a' := ?_) rfl rfl rfl ?_ ?_
             rotate_left 1
             focus (simp only [Act.put, List.setIfInBounds_toArray, List.set_cons_succ, List.set_cons_zero]; try rfl)))
        refine Dk.Chain.call (a' := ?_) _ rfl rfl rfl rfl (fun D wx hx hD hF => ?_) ?_ ?_
        rotate_left 1
        focus
          have f5 := (show Dk.KF 6 (fun v w => FBuf wR w 38 2 v (hl.length + 1) (smc hl ++ [.int .i64 T, .int .u64 (V : Nat)])) _ D wx from Dk.atK_get' (hF 5 (by kernel_rfl)).2 rfl) hD
          have hsm := snoc_at f5.slice
          go_simp
          (with_reducible refine (HGD.out _ _ hsm).mono ?_)
          rintro e w' ⟨rfl, hb⟩
          exact ⟨rfl, Dk.RB.of (by decide) hb, below_trans hx hb⟩
        focus (simp only [Act.put, List.setIfInBounds_toArray, List.set_cons_succ, List.set_cons_zero]; try rfl)
        repeat (first
          | (refine Dk.Chain.step (v := ?_) (a' := ?_) rfl rfl rfl ?_ ?_ ?_
             rotate_left 2
             focus (intro w; go_simp; try with_reducible rfl)
             focus (simp only [Act.put, List.setIfInBounds_toArray, List.set_cons_succ, List.set_cons_zero]; try rfl))
          | (refine Dk.Chain.skip (a' := ?_) rfl rfl rfl ?_ ?_
             rotate_left 1
             focus (simp only [Act.put, List.setIfInBounds_toArray, List.set_cons_succ, List.set_cons_zero]; try rfl)))
        refine Dk.Chain.end_ (fun D wz hD hwz => ?_)
        have HNz := Lib.hid (HNr.out.then_below hwz)
        have HFz := Lib.hid (HFr.out.below hwz)
        have HCz := Lib.hid (HCr.out.below hwz)
        clear hwz hD
        have hsn : s.n = hl.length := by rw [ofS_n HO.out]; simp [St.zero]
        have HSN := Lib.hid hsn
        clear hsn
        go_wp2_with fail
        refine (chLen_any B _ _ _ HNz.out.at_).mono ?_
        rintro e w9 ⟨rfl, rfl⟩
        rw [HSN.out]
        go_wp2_with fail
        go_roundw
        case rel => exact ⟨k + 1, _, s, hl, _, rfl, by omega, by go_num, hl120, HNz, HOK, HFz, HO, HLV⟩
        case measure => simp [intOf]; omega
    · obtain rfl : k = K := by omega
      have htx := fun w' (hN : ChN w w' B v s) => chText_any B v s w' hN.at_ HOK.out
      have HTX := Lib.hid htx
      have hok := HOK.out
      have htl : (text s).length ≤ 100000 := by
        unfold text
        have h1 := u_len s.n (by have := hok.n; omega)
        have h2 := u_len s.bits.length (by have := hok.len; have := hok.n; omega)
        have h3 := pack_length s.bits
        have h4 := hok.len
        have h5 := hok.n
        simp only [List.length_append]; omega
      have HRT := Lib.hid (fun u w' (hs : SmsAt w' u hl) => rtext_any hl u w' s hs HO.out HLV.out)
      obtain ⟨tx, htx⟩ : ∃ tx, tx = text s := ⟨_, rfl⟩
      rw [← htx] at HTX HRT htl
      clear htx hok
      obtain ⟨R, hR⟩ : ∃ R, R = ofS St.zero l := ⟨_, rfl⟩
      have HOF := Lib.hid (fun v w' (h : SmsAt w' v l) hW => of_any l v w' h hW HV2.out)
      have HGL := Lib.hid (fun v w' (h : SmsAt w' v l) => rgood_any l v w' h)
      rw [← hR] at HOF HGL
      have HRL := Lib.hid (fun v w' (h : SmsAt w' v l) (h0 : R.2 = 0) => rtext_any l v w' R.1 h (by rw [← hR, ← h0]) HV2.out)
      obtain ⟨S, F⟩ := R
      simp only at HOF HGL HRL
      clear hR hgo
      have HG := HG
      obtain ⟨hA, hc, rfl, hhc⟩ := HF.out.buf.buf.shape
      by_cases hF : F = 0
      · subst hF
        have HRL2 : Hid (∀ v w', SmsAt w' v l → Calls Tryd.prog 21 #[v] w' (RetBelow w' (.string (bs (text S))))) := Lib.hid (fun v w' h => HRL.out v w' h (by first | trivial | rfl))
        clear HRL
        rw [ofTx_ok rfl] at HOF
        simp only at HOF
        obtain ⟨tS, htS⟩ : ∃ tS, tS = text S := ⟨_, rfl⟩
        rw [← htS] at HOF HRL2
        clear htS
        go_wp2_with fail
        refine (HOF.out _ _ (HG.out.below HN.out.below) (hW.below HN.out.below)).mono ?_
        rintro e w3 ⟨rfl, hb3⟩
        have HN3 := Lib.hid (HN.out.then_below hb3)
        have HF3 := Lib.hid (HF.out.below hb3)
        clear hb3
        go_wp2_with fail
        refine (HGL.out _ _ (HG.out.below HN3.out.below)).mono ?_
        rintro e w4 ⟨rfl, hb4⟩
        have HN4 := Lib.hid (HN3.out.then_below hb4)
        have HF4 := Lib.hid (HF3.out.below hb4)
        clear hb4
        go_wp2_with fail
        refine (HTX.out _ HN4.out).mono ?_
        rintro e w5 ⟨rfl, hb5⟩
        have HN5 := Lib.hid (HN4.out.then_below hb5)
        have HF5 := Lib.hid (HF4.out.below hb5)
        clear hb5
        go_wp2_with fail
        refine (HRT.out _ _ HF5.out.buf.slice).mono ?_
        rintro e w6 ⟨rfl, hb6⟩
        have HN6 := Lib.hid (HN5.out.then_below hb6)
        clear hb6
        go_wp2_with fail
        refine (HRL2.out _ _ (HG.out.below HN6.out.below)).mono ?_
        rintro e w7 ⟨rfl, hb7⟩
        have HN7 := Lib.hid (HN6.out.then_below hb7)
        clear hb7
        go_wp2_with fail
        go_ret
        exact ⟨rfl, HN7.out.below⟩
      · have hne : ((F : Int) == 0) = false := by rw [beq_eq_false_iff_ne]; omega
        have hne2 : ((F : Int) != 0) = true := by rw [bne_iff_ne]; omega
        rw [ofTx_no hF] at HOF
        clear hF HRL
        go_wp2_with fail
        refine (HOF.out _ _ (HG.out.below HN.out.below) (hW.below HN.out.below)).mono ?_
        rintro e w3 ⟨rfl, hb3⟩
        have HN3 := Lib.hid (HN.out.then_below hb3)
        have HF3 := Lib.hid (HF.out.below hb3)
        clear hb3
        go_wp2_with fail
        refine (HGL.out _ _ (HG.out.below HN3.out.below)).mono ?_
        rintro e w4 ⟨rfl, hb4⟩
        have HN4 := Lib.hid (HN3.out.then_below hb4)
        have HF4 := Lib.hid (HF3.out.below hb4)
        clear hb4
        go_wp2_with fail
        refine (HTX.out _ HN4.out).mono ?_
        rintro e w5 ⟨rfl, hb5⟩
        have HN5 := Lib.hid (HN4.out.then_below hb5)
        have HF5 := Lib.hid (HF4.out.below hb5)
        clear hb5
        go_wp2_with fail
        refine (HRT.out _ _ HF5.out.buf.slice).mono ?_
        rintro e w6 ⟨rfl, hb6⟩
        have HN6 := Lib.hid (HN5.out.then_below hb6)
        clear hb6
        go_wp2_with fail
        go_ret
        exact ⟨rfl, HN6.out.below⟩

set_option maxRecDepth 100000 in
theorem xorWrites_lifted (os : Os) (started : os.Started) (H : Type) (enc : TypeId × Value → H) :
    ReturnsInHanded {} Tryd.checked os 8 .any (fun w args => (Rows.xorWritesSpec.pre enc Tryd.prog Tryd.f8 [] false w args ∧ laidMetH Tryd.prog [("barograph/xor.widths", Rows.laid_barograph_xor_widths)] w) ∧ sizedMet enc Tryd.prog Tryd.f8 (OpenSpec.ofChange Rows.xorWritesSpec) false w args)
      (Rows.xorWritesSpec.post enc Tryd.prog Tryd.f8 false true false false) := by
  refine returnsInHanded_of_change_and (C := Tryd.checked) (X := fun w _ => laidMetH Tryd.prog [("barograph/xor.widths", Rows.laid_barograph_xor_widths)] w) (fun _ _ _ hh h => h.of_heap hh) law_own started (by kernel_rfl) Tryd.func8
    (ChangeSpec.witness_shaped (enc := enc) (C := Tryd.checked) (os := os) (X := fun w _ => laidMetH Tryd.prog [("barograph/xor.widths", Rows.laid_barograph_xor_widths)] w) false (World.doorLaid Tryd.prog 400 os) #[.slice none 0 0] 8 rfl (World.shaped_of_RefB (by kernel_rfl) (by kernel_rfl)) (by kernel_rfl) (by kernel_rfl) (by kernel_rfl) (door_met os _)) ?_
  intro W base args ds gs before hval0 hW _ _ hL _
  have hval : ∀ (j : Nat) t v, Tryd.f8.params[j]? = some t → args[j]? = some v → Value.okWide Tryd.prog W .any base t v := hval0
  have hW' := hW
  obtain ⟨p, q, hA0, hV, rfl, _, _⟩ := hW
  have hA : DataW.TrodAll enc Tryd.prog W 0 (fun _ => true) true Tryd.f8.params.toList args.toList ds p := hA0
  rw [Tryd.params8] at hA hval
  obtain ⟨v0, vs0, d0, ds0, p0, q0, hargs, rfl, rfl, h0, r0⟩ := trodAll_cons hA
  obtain ⟨rfl, rfl, rfl⟩ := trodAll_nil r0
  obtain rfl : args = #[v0] := by cases args; simp_all
  obtain ⟨rfl, rfl⟩ := trodVars_none hV
  obtain ⟨ts0, hts0⟩ := open_sms (hval 0 23 v0 rfl rfl) h0
  refine (xorWrites_walk0 v0 ts0 W hts0 (of_laid hL)).mono fun e W' ⟨he, hb⟩ => ?_
  subst he
  exact ⟨_, rfl, law_post law_laid (by intro t ht; rw [Tryd.params8] at ht; simp only [List.mem_cons, List.not_mem_nil, or_false] at ht; rcases ht with rfl <;> exact ⟨by kernel_rfl, of_decide_eq_true (by kernel_rfl)⟩) rfl Tryd.underlying4 rfl rfl hW' hb⟩

theorem xorWrites_holds : Rows.XorWritesSaid :=
  OpenClaim.holds_of_wide 8 Tryd.f8 rfl rfl rfl rfl rfl rfl rfl ⟨rfl, rfl, rfl, rfl, rfl⟩ rfl rfl rfl rfl rfl (by kernel_rfl) Tryd.func8 (by kernel_rfl)
    (of_decide_eq_true (by kernel_rfl)) (by unfold Func.isWrapper; first | (rw [if_pos (by decide +kernel)]; kernel_rfl) | (rw [if_neg (by decide +kernel)]; exact ⟨rfl, rfl⟩))
    (fun os started H enc _ => xorWrites_lifted os started H enc)

theorem xorWrites_card : Rows.XorWritesCardSaid :=
  Claim7.holds_tied_plain_at .later [] [.data] true (true, "95000c4295daf2b88b1a54d2cd38bdaca7f9c46c35c6ea7a8bec2a7142dbed1d") false
    xorWrites_holds (fun _ h => by cases h) (by kernel_rfl) (fun _ h => by cases h) xorWrites_row_tie rfl ⟨rfl, rfl⟩ (by kernel_rfl) rfl
    (fun f fn hf hfn => by
      obtain rfl : f = 8 := Option.some.inj ((show Tryd.prog.funcNamed "barograph/barographlaw07.XorWrites" = some 8 by kernel_rfl).symm.trans hf) |>.symm
      obtain rfl : fn = Tryd.f8 := (Option.some.inj (Tryd.func8.symm.trans hfn)).symm
      exact ⟨by kernel_rfl, fun j t ht => by
        rw [Tryd.params8] at ht
        rcases j with _ | j
        · obtain rfl : t = 23 := by simpa using ht.symm
          exact (show Tryd.prog.wantsStandIn 23 = false by kernel_rfl)
        simp at ht⟩)
    (by kernel_rfl)

end Go.Proofs.YtmoocomlcbalbaaDoor
