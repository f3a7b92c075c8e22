/-
  Layer 14: the walk of the law's agree.
-/
import Derived.Test.YtfimalbdlepfnaaDoorZMrgAE

namespace Go.Bar.Mrg
open Go.RowKit Go.Bar Go.Bar.Xor Go.Bar.Lab

/-- a sample whose value hangs on its series and time -/
def agV (x : On3) : On3 := ⟨x.nm, x.t, (tm3 x.t).toNat * 5 + x.nm % 5⟩
def agP (l : List On3) : List On3 := (l.take 30).map agV
/-- what such samples' values are -/
def agF (L : List Pr) (t : Int) : Sm := (t, t.toNat * 5 + (if L = Go.Proofs.YtfimalbdlepfnaaDoor.lab5 0 then 0 else if L = Go.Proofs.YtfimalbdlepfnaaDoor.lab5 1 then 1 else if L = Go.Proofs.YtfimalbdlepfnaaDoor.lab5 2 then 2 else if L = Go.Proofs.YtfimalbdlepfnaaDoor.lab5 3 then 3 else 4))
theorem agF_lab (n : Nat) (t : Int) : agF (Go.Proofs.YtfimalbdlepfnaaDoor.lab5 n) t = (t, t.toNat * 5 + n % 5) := by
  have h : n % 5 < 5 := Nat.mod_lt _ (by decide)
  have e : Go.Proofs.YtfimalbdlepfnaaDoor.lab5 n = Go.Proofs.YtfimalbdlepfnaaDoor.lab5 (n % 5) := by unfold Go.Proofs.YtfimalbdlepfnaaDoor.lab5; rw [Nat.mod_mod]
  rw [e]
  generalize n % 5 = j at h
  unfold agF
  rcases j with _ | _ | _ | _ | _ | j
  · rfl
  · rfl
  · rfl
  · rfl
  · rfl
  · omega
theorem agr_ptv {F : List Pr → Int → Sm} : ∀ (xs : List Pt), (∀ x ∈ xs, x.2 = F x.1 x.2.1) → ∀ L t y, ptv xs L t = some y → y = F L t
  | [], _, L, t, y, h => by cases h
  | x :: xs, hx, L, t, y, h => by
    rw [ptv_cons] at h
    rcases h1 : (if x.1 = L then lk [x.2] t else none) with _ | z
    · rw [h1, Option.none_or] at h
      exact agr_ptv xs (fun z hz => hx z (List.mem_cons_of_mem _ hz)) L t y h
    · rw [h1] at h
      injection h with h
      subst h
      split at h1
      · rename_i e
        obtain ⟨m1, m2⟩ := lk_some h1
        obtain rfl := List.mem_singleton.1 m1
        rw [← e, ← m2]
        exact hx x (List.mem_cons_self ..)
      · cases h1
theorem agr_tab (l : List On3) : Agr agF (tab3 (agP l)) := by
  intro L t y h
  unfold tab3 at h
  rw [(addAll_spec _ Tb.nil).2, val_nil, Option.none_or] at h
  refine agr_ptv _ (fun x hx => ?_) L t y h
  obtain ⟨z, hz, rfl⟩ := List.mem_map.1 hx
  have hz := List.mem_of_mem_take hz
  obtain ⟨u, _, rfl⟩ := List.mem_map.1 hz
  show (tm3 u.t, (tm3 u.t).toNat * 5 + u.nm % 5) = agF (Go.Proofs.YtfimalbdlepfnaaDoor.lab5 u.nm) (tm3 u.t)
  rw [agF_lab]
end Go.Bar.Mrg
namespace Go.Proofs.YtfimalbdlepfnaaDoor
open Go.RowKit Go.Bar Go.Bar.Leb Go.Bar.Lab Go.Bar.Xor Go.Bar.Mrg

theorem one_ty14 : ElemTy Tryd.prog 25 29 (.agg #[.int .u8 0, .int .i64 0, .int .u64 0]) 3 24 :=
  ⟨Tryd.underlying25, info_parts (show (Tryd.prog.info? 29).map (fun i => (i.zero, i.size, i.bytes)) = some (some (.agg #[.int .u8 0, .int .i64 0, .int .u64 0]), 3, 24) by kernel_rfl), rfl⟩
theorem ocs_one (l : List On3) : ∀ u ∈ ocs l, u.oneCell' = true := fun u hu => by
  obtain ⟨x, _, hx⟩ := List.mem_flatMap.1 hu
  simp [enc3] at hx
  rcases hx with rfl | rfl | rfl <;> simp [Value.oneCell']
theorem ocs_take (l : List On3) (k : Nat) : (ocs l).take (k * 3) = ocs (l.take k) := flat_take enc3 3 enc3_len l k
theorem ocs_len (l : List On3) : (ocs l).length = l.length * 3 := flat_length enc3 3 enc3_len l
theorem ocs_set {l : List On3} {k : Nat} {x : On3} (h : l[k]? = some x) (v : Nat) : (ocs l).set (k * 3 + 2) (.int .u64 (v : Nat)) = ocs (l.set k ⟨x.nm, x.t, v⟩) := by
  induction l generalizing k with
  | nil => simp at h
  | cons y l ih =>
    cases k with
    | zero =>
      obtain rfl : y = x := by simpa using h
      rfl
    | succ k =>
      have ih := ih (k := k) (by simpa using h)
      have e : (k + 1) * 3 + 2 = (k * 3 + 2) + 1 + 1 + 1 := by omega
      rw [e]
      show Value.int .u8 y.nm :: Value.int .i64 y.t :: Value.int .u64 (y.v : Nat) :: (ocs l).set (k * 3 + 2) _ = _
      rw [ih]
      rfl
/-- the samples, the first k of which agree -/
def agK (l : List On3) (k : Nat) : List On3 := (l.take k).map agV ++ l.drop k
theorem agK_at {l : List On3} {k : Nat} {x : On3} (h : l[k]? = some x) : (agK l k)[k]? = some x := by
  have hlt := (List.getElem?_eq_some_iff.1 h).1
  unfold agK
  rw [List.getElem?_append_right (by simp; omega)]
  simp [Nat.min_eq_left (Nat.le_of_lt hlt), h]
theorem agK_step {l : List On3} {k : Nat} {x : On3} (h : l[k]? = some x) : (agK l k).set k (agV x) = agK l (k + 1) := by
  have hlt := (List.getElem?_eq_some_iff.1 h).1
  have hd : l.drop k = x :: l.drop (k + 1) := by
    obtain ⟨hlt, he⟩ := List.getElem?_eq_some_iff.1 h
    rw [List.drop_eq_getElem_cons hlt, he]
  unfold agK
  rw [hd, List.set_append_right _ _ (by simp; omega), List.take_add_one, h]
  simp [Nat.min_eq_left (Nat.le_of_lt hlt)]
theorem agK_len (l : List On3) (k : Nat) : (agK l k).length = l.length := by unfold agK; simp; omega
def FinAg (w : World) (b o m d : Nat) (l : List On3) (_vs : Nat → Value) (w' : World) : Prop := NBuf w w' 29 3 (.slice (some ⟨b, o, none⟩) m d) m (ocs l)
theorem FinAg.of {w wr wx : World} {b o m d k : Nat} {L : List On3} {x : On3} (h : NBuf w wr 29 3 (.slice (some ⟨b, o, none⟩) m d) m (ocs (agK L k))) (hx : L[k]? = some x) (hk : k < m) (hw : Below wr.heap.size wr wx) (vs : Nat → Value) : FinAg w b o m d (agK L (k + 1)) vs (wx.setCell ⟨b, o + (k * 3 + 2), none⟩ (.int .u64 ((agV x).v : Nat))) := by
  have h2 := h.then_below hw
  have hst := h2.buf.storeN (j := k * 3 + 2) (by omega) (.int .u64 ((agV x).v : Nat))
  rw [ocs_set (agK_at hx), show (⟨x.nm, x.t, (agV x).v⟩ : On3) = agV x from rfl, agK_step hx] at hst
  exact ⟨hst, h2.below.setCell (p := ⟨b, _, none⟩) (h2.new b rfl) _, h2.new⟩
/-- samples in a buffer of the call's own -/
def RetO3 (w : World) (l : List On3) (e : Ending) (w' : World) : Prop := ∃ v, e = .returned v ∧ NBuf w w' 29 3 v l.length (ocs l)

set_option maxHeartbeats 8000000 in
set_option maxRecDepth 10000 in
theorem agree_any (v : Value) (l : List On3) (w : World) (h : O3Arg w v l) : Calls Tryd.prog 13 #[v] w (RetO3 w (agP l)) := by
  obtain ⟨A, c, rfl, hlc, hcm⟩ := h.1.shape
  unfold maxLen at hcm
  obtain ⟨m, hm⟩ : ∃ m, m = min l.length 30 := ⟨_, rfl⟩
  have hm30 : m ≤ 30 := by omega
  have hml : m ≤ l.length := by omega
  obtain ⟨L, hL⟩ : ∃ L, L = l.take 30 := ⟨_, rfl⟩
  have hLm : L.length = m := by rw [hL, List.length_take, hm]; omega
  have hLt : l.take m = L := by
    rw [hL, hm]
    rcases Nat.le_total l.length 30 with h1 | h1
    · rw [Nat.min_eq_left h1, List.take_length, List.take_of_length_le h1]
    · rw [Nat.min_eq_right h1]
  have hLo : ∀ x ∈ L, On3Ok x := fun x hx => h.2 x (by rw [hL] at hx; exact List.mem_of_mem_take hx)
  have hag : agP l = L.map agV := by unfold agP; rw [hL]
  rw [hag]
  have HSP := Lib.hid (show ∀ w', Below w.heap.size w w' → SlAt w' 3 (.slice A m c) m (ocs L) from fun w' hb => by
    have h1 := SlAt.take (h.1.below hb) m c hml (by omega) (by unfold maxLen; omega)
    rw [ocs_take, hLt] at h1
    exact h1)
  have HM := Lib.hid hm
  have HLM := Lib.hid hLm
  have HLO := Lib.hid hLo
  have hminN : min l.length 30 = m := hm.symm
  have hsr := SlAt.src (P := Tryd.prog) (HSP.out _ (below_alloc1 w (.cells #[] 29))) (by omega) (t := 25) Tryd.underlying25 (ocs_one L)
  have HSR := Lib.hid hsr
  have HL0 := Lib.hid (NBuf.lit0 (Below.refl w.heap.size w) 29 3)
  clear h hag hL hLt hLm hLo hm hsr
  go_enter Tryd.func13, Tryd.ntmps13
  have hmin : min (l.length : Int) 30 = (m : Int) := by have := HM.out; omega
  have hmc : (m : Int) ≤ (c : Int) := by omega
  have hmc2 : m ≤ c := by omega
  go_wp2_with (at_builtin; refine wpList_append_el rfl (.tmp 5) (.tmp 10) 25 25 rfl one_ty14 rfl HL0.out.buf rfl HSR.out (by simp only [maxLen]; omega) (by omega) ?_; intro v3 w3 hb3 ha3 hg3; have hn3 := HL0.out.step hb3 ha3 hg3; rw [Nat.zero_add, List.nil_append] at hn3; obtain ⟨B, d, rfl, hd⟩ := hn3.buf.shape; have HN3 := Lib.hid hn3; clear hb3 ha3 hg3 hn3)
  go_loopw [14] (fun i wr => ∃ k : Nat, k ≤ m ∧ i = .int .i64 k ∧ Hid (NBuf w wr 29 3 (.slice B m d) m (ocs (agK L k)))) (fun i _ => m - (intOf i).toNat)
  case atStart => exact ⟨0, Nat.zero_le _, rfl, HN3⟩
  case round =>
    obtain ⟨k, hk, rfl, HK⟩ := hrel
    clear HN3
    by_cases hgo : k < m
    · obtain ⟨p, hx⟩ : ∃ p, L[k]? = some p := ⟨_, List.getElem?_eq_getElem (by have := HLM.out; omega)⟩
      obtain ⟨ok1, ok2, ok3⟩ := HLO.out p (List.mem_of_getElem? hx)
      have hxk := agK_at hx
      obtain ⟨b, o, rfl, hbl⟩ := HK.out.buf.some_at (by omega)
      have g := flat_get enc3 3 enc3_len (agK L k) k p hxk
      have HG0 := Lib.hid (show (ocs (agK L k))[k * 3]? = some (.int .u8 (p.nm : Nat)) from g 0 (by omega))
      have HG1 := Lib.hid (show (ocs (agK L k))[k * 3 + 1]? = some (.int .i64 p.t) from g 1 (by omega))
      have hfa := fun (wx : World) (hw : Below wr.heap.size wr wx) vs => FinAg.of (b := b) (o := o) (d := d) HK.out hx hgo hw vs
      have hcl := fun (wx : World) (hw : Below wr.heap.size wr wx) => (HK.out.buf.below hw).cellN (j := k * 3 + 2) (by omega)
      have htr : -1000 < p.t.tmod 1000 ∧ p.t.tmod 1000 < 1000 := by
        have h1 := Int.lt_tmod_of_pos p.t (show (0 : Int) < 1000 by decide)
        have h2 := Int.tmod_lt_of_pos p.t (show (0 : Int) < 1000 by decide)
        omega
      have htm := tm3_rng p.t
      have hw1 : IntKind.i64.wrap (p.t.tmod 1000 + 1000) = p.t.tmod 1000 + 1000 := by rw [IntKind.wrap_i64]; omega
      have hw2 : IntKind.i64.wrap (p.t.tmod 1000) = p.t.tmod 1000 := by rw [IntKind.wrap_i64]; omega
      obtain ⟨T, hT⟩ : ∃ T, T = tm3 p.t := ⟨_, rfl⟩
      have hw4 : (p.t.tmod 1000 + 1000).tmod 1000 = T := hT.symm
      obtain ⟨V, hV⟩ : ∃ V, V = (agV p).v := ⟨_, rfl⟩
      have hVT : (V : Int) = T * 5 + (p.nm : Int) % 5 := by
        rw [hV, hT]
        show (((tm3 p.t).toNat * 5 + p.nm % 5 : Nat) : Int) = _
        omega
      rw [← hT] at htm
      rw [← hV] at hfa
      have HFA := Lib.hid hfa
      have HCL := Lib.hid hcl
      have HVT := Lib.hid hVT
      clear hx hxk g hT hV hVT ok2 hfa hcl
      have hwv : IntKind.u64.wrap (IntKind.u64.wrap (IntKind.u64.wrap T * 5) + IntKind.u64.wrap ((p.nm : Int).tmod 5)) = (V : Int) := by
        have e1 : IntKind.u64.wrap T = T := by rw [IntKind.wrap_u64]; omega
        have e2 : IntKind.u64.wrap (T * 5) = T * 5 := by rw [IntKind.wrap_u64]; omega
        have e3 : (p.nm : Int).tmod 5 = (p.nm : Int) % 5 := Int.tmod_eq_emod_of_nonneg (by omega)
        have e4 : IntKind.u64.wrap ((p.nm : Int) % 5) = (p.nm : Int) % 5 := by rw [IntKind.wrap_u64]; omega
        rw [e1, e2, e3, e4, HVT.out, IntKind.wrap_u64]
        omega
      have hi0 : (0 : Int) ≤ (k : Int) := by omega
      have hi1 : (k : Int) < (m : Int) := by omega
      go_upto_region 5 with fail
      have hstT : ∀ k v w w', Below w.heap.size w w' → Dv.factOf ([(6, ((fun v => v = (.int .i64 p.t)), noFact, 6)), (16, ((fun v => v = (.int .u8 (p.nm : Nat))), noFact, 16)), (22, ((fun _ => True), noFact, 22))] : List (Nat × Dv.Kp)) k v w → Dv.factOf ([(6, ((fun v => v = (.int .i64 p.t)), noFact, 6)), (16, ((fun v => v = (.int .u8 (p.nm : Nat))), noFact, 16)), (22, ((fun _ => True), noFact, 22))] : List (Nat × Dv.Kp)) k v w' := Dv.fact_st (by
        simp only [List.forall_mem_cons, List.not_mem_nil, false_imp_iff, implies_true, and_true]
        refine ⟨?_, ?_, ?_⟩
        · exact fun _ _ _ _ _ => trivial
        · exact fun _ _ _ _ _ => trivial
        · exact fun _ _ _ _ _ => trivial)
      have htrT : ∀ x ∈ ([(6, ((fun v => v = (.int .i64 p.t)), noFact, 6)), (16, ((fun v => v = (.int .u8 (p.nm : Nat))), noFact, 16)), (22, ((fun _ => True), noFact, 22))] : List (Nat × Dv.Kp)), (([(6, ((fun v => v = (.int .i64 p.t)), noFact, 6)), (16, ((fun v => v = (.int .u8 (p.nm : Nat))), noFact, 16)), (22, ((fun _ => True), noFact, 22))] : List (Nat × Dv.Kp)).lookup x.2.2.2).isSome = true := by
        simp only [List.forall_mem_cons, List.not_mem_nil, false_imp_iff, implies_true, and_true]
        exact ⟨by kernel_rfl, by kernel_rfl, by kernel_rfl⟩
      refine Dv.wp_region_two (L := ([(6, ((fun v => v = (.int .i64 p.t)), noFact, 6)), (16, ((fun v => v = (.int .u8 (p.nm : Nat))), noFact, 16)), (22, ((fun _ => True), noFact, 22))] : List (Nat × Dv.Kp))) (m := 22) (Fin := (FinAg w b o m d (agK L (k + 1)))) (by kernel_rfl) 41 (by kernel_rfl) rfl (by kernel_rfl) ?_ ?_ ?_
      · simp only [List.forall_mem_cons, List.not_mem_nil, false_imp_iff, implies_true, and_true]
        exact ⟨⟨_, rfl⟩, ⟨_, rfl⟩, ⟨undef, trivial⟩⟩
      · exact (fun _ _ _ _ h => h)
      repeat (first
        | (refine Dv.Chain.step (v := ?_) (a' := ?_) rfl rfl rfl ?_ ?_ ?_
           rotate_left 2
           focus (intro w; go_simp; try with_reducible rfl)
           focus (simp only [Act.put, List.setIfInBounds_toArray, List.set_cons_succ, List.set_cons_zero]; try rfl))
        | (refine Dv.Chain.skip' (a' := ?_) rfl rfl rfl ?_ ?_
           rotate_left 1
           focus (simp only [Act.put, List.setIfInBounds_toArray, List.set_cons_succ, List.set_cons_zero]; try rfl)))
      refine Dv.XT.call (a' := ?_) _ _ rfl (by decide) hstT rfl rfl (fun wx hw hF => ?_) htrT ?_ ?_
      rotate_left 1
      focus
        obtain ⟨q0, _⟩ := (HK.out.buf.below hw).cellN (j := k * 3 + 1) (by omega)
        have g0 := q0.trans HG1.out
        rw [← Nat.add_assoc] at g0
        clear q0
        go_simp; first | exact ⟨rfl, Below.refl _ _⟩ | exact Below.refl _ _
      focus (simp only [Act.put, List.setIfInBounds_toArray, List.set_cons_succ, List.set_cons_zero]; try rfl)
      repeat (first
        | (refine Dv.Chain.step (v := ?_) (a' := ?_) rfl rfl rfl ?_ ?_ ?_
           rotate_left 2
           focus (intro w; go_simp; try with_reducible rfl)
           focus (simp only [Act.put, List.setIfInBounds_toArray, List.set_cons_succ, List.set_cons_zero]; try rfl))
        | (refine Dv.Chain.skip' (a' := ?_) rfl rfl rfl ?_ ?_
           rotate_left 1
           focus (simp only [Act.put, List.setIfInBounds_toArray, List.set_cons_succ, List.set_cons_zero]; try rfl)))
      refine Dv.XT.call (a' := ?_) _ _ rfl (by decide) hstT rfl rfl (fun wx hw hF => ?_) htrT ?_ ?_
      rotate_left 1
      focus
        obtain ⟨q0, _⟩ := (HK.out.buf.below hw).cellN (j := k * 3) (by omega)
        have g0 := q0.trans HG0.out
        clear q0
        go_simp; first | exact ⟨rfl, Below.refl _ _⟩ | exact Below.refl _ _
      focus (simp only [Act.put, List.setIfInBounds_toArray, List.set_cons_succ, List.set_cons_zero]; try rfl)
      repeat (first
        | (refine Dv.Chain.step (v := ?_) (a' := ?_) rfl rfl rfl ?_ ?_ ?_
           rotate_left 2
           focus (intro w; go_simp; try with_reducible rfl)
           focus (simp only [Act.put, List.setIfInBounds_toArray, List.set_cons_succ, List.set_cons_zero]; try rfl))
        | (refine Dv.Chain.skip' (a' := ?_) rfl rfl rfl ?_ ?_
           rotate_left 1
           focus (simp only [Act.put, List.setIfInBounds_toArray, List.set_cons_succ, List.set_cons_zero]; try rfl)))
      refine Dv.XT.last _ _ _ rfl rfl (by kernel_rfl) rfl rfl (fun vs wx hw hF => ?_) (fun v22 hv22 a' ha => ?_)
      focus
        obtain ⟨g0, f0⟩ := HCL.out _ hw
        obtain ⟨u, hu⟩ : ∃ u, wx.cell? ⟨b, o + k * 3 + 2, none⟩ = some u := by
          rw [← Nat.add_assoc] at g0
          exact ⟨_, g0.trans (List.getElem?_eq_getElem (by rw [ocs_len, agK_len, HLM.out]; omega))⟩
        rw [← Nat.add_assoc] at f0
        have hfin := HFA.out _ hw vs
        rw [← Nat.add_assoc] at hfin
        clear g0
        have HFIN := Lib.hid hfin
        clear hfin
        go_simp
        exact ⟨undef, HFIN.out⟩
      obtain _ := hv22
      simp only [Act.put] at ha
      subst ha
      repeat (first
        | (refine Dv.Chain.step (v := ?_) (a' := ?_) rfl rfl rfl ?_ ?_ ?_
           rotate_left 2
           focus (intro w; go_simp; try with_reducible rfl)
           focus (simp only [Act.put, List.setIfInBounds_toArray, List.set_cons_succ, List.set_cons_zero]; try rfl))
        | (refine Dv.Chain.skip' (a' := ?_) rfl rfl rfl ?_ ?_
           rotate_left 1
           focus (simp only [Act.put, List.setIfInBounds_toArray, List.set_cons_succ, List.set_cons_zero]; try rfl)))
      refine Dv.XT.end_ (by decide) (fun vs w10 hv hfin => ?_)
      have HF := Lib.hid (show NBuf w w10 29 3 (.slice (some ⟨b, o, none⟩) m d) m (ocs (agK L (k + 1))) from hfin)
      clear hfin hv
      go_wp2_with fail
      go_roundw
      case rel => exact ⟨k + 1, by omega, by go_num, HF⟩
      case measure => simp [intOf]; omega
    · obtain rfl : k = m := by omega
      have he : agK L k = L.map agV := by
        unfold agK
        rw [List.take_of_length_le (by have := HLM.out; omega), List.drop_of_length_le (by have := HLM.out; omega), List.append_nil]
      have hk := HK.out
      rw [he] at hk
      have HF := Lib.hid (show NBuf w wr 29 3 (.slice B k d) (L.map agV).length (ocs (L.map agV)) by rw [List.length_map, HLM.out]; exact hk)
      clear hk HK he
      go_wp2_with fail
      go_ret
      exact ⟨_, rfl, HF.out⟩
end Go.Proofs.YtfimalbdlepfnaaDoor
