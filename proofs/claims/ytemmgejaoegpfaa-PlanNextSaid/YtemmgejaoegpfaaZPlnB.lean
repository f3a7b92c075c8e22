/-
  Layers 10 and 20: slices.Clone, SortFunc (by names), SortStableFunc (by times, at most 20) over metas.
-/
import Derived.Test.YtemmgejaoegpfaaZPlnA

namespace Go.Proofs.Ytemmgejaoegpfaa
open Go.RowKit Go.Bar Go.Bar.Leb Go.Bar.Frm Go.Bar.Idt Go.Bar.Met Go.Bar.Pln

/-- metas in a buffer of the call's own -/
def RetMs (w0 w : World) (l : List Mt) (e : Ending) (w' : World) : Prop := ∃ v, e = .returned v ∧ NMs w0 w w' 55 v l

set_option maxHeartbeats 1000000 in
set_option maxRecDepth 10000 in
theorem cloneMs_any (v : Value) (l : List Mt) (w0 w : World) (h : MsAt w0 w v l) (hl : l.length ≤ 1000000) :
    Calls Try.prog 26 #[v] w (RetMs w0 w l) := by
  obtain ⟨xs, hx, h1, h2⟩ := h
  obtain ⟨A, c, rfl, hlc, hcm⟩ := h1.shape
  have hl : xs.length ≤ 1000000 := by rw [map_len hx]; exact hl
  have hnil := fun w => run_eql_slice_nil (P := Try.prog) w 23 55 A xs.length c Try.underlying23
  rcases A with _ | A
  · have h0 : xs.length = 0 := by
      rcases Nat.eq_zero_or_pos xs.length with h0 | h0
      · exact h0
      · obtain ⟨b, o, hA, _⟩ := SlAt.cells h1 (by omega)
        cases hA
    obtain rfl : xs = [] := List.eq_nil_of_length_eq_zero h0
    subst hx
    clear h0 hnil
    have hnil := fun w => run_eql_slice_nil (P := Try.prog) w 23 55 none 0 c Try.underlying23
    go_enter Try.func26, Try.ntmps26
    go_wp2_with fail
    go_ret
    exact ⟨_, rfl, NMs.nil (Below.refl _ _) _ _⟩
  · have hs := fun o => SlAt.src (P := Try.prog) (h1.below (below_al w o)) (by omega) (t := 23) Try.underlying23 (mcs_one xs)
    have HS := Lib.hid hs
    have hnb := NBuf.lit0 (Below.refl w.heap.size w) 55 8
    have H2 := Lib.hid h2
    have HX := Lib.hid hx
    clear hs h1 h2 hx
    go_enter Try.func26, Try.ntmps26
    go_wp2_with (at_builtin; refine wpList_append_el rfl (.tmp 5) (.tmp 6) 23 23 rfl meta_ty rfl hnb.buf rfl (HS.out _) (by simp only [maxLen]; omega) (by omega) ?_; intro v' w' hb ha hg; have hn2 := hnb.step hb ha hg; clear hb ha hg)
    go_ret
    rw [Nat.zero_add, List.nil_append] at hn2
    exact ⟨_, rfl, xs, HX.out, hn2, H2.out⟩

theorem heap_sortWorldK {α : Type} [Inhabited α] (enc : α → List Value) (k : Nat) (w : World) (b o m : Nat) (d : Array α) (os : Array Obj) (hb : b < w.heap.size) : w.grownBy (Go.Proofs.sortWorldK enc k w b o m d os) (some b) := by
  refine ⟨rfl, rfl, rfl, ?_, fun j hj hne => ?_⟩
  · unfold Go.Proofs.sortWorldK Sort.putRowK
    rw [Sort.size_grow, Sort.size_putRow]
    exact Nat.le_add_right _ _
  · unfold Go.Proofs.sortWorldK Sort.putRowK
    rw [Sort.heap_grow_old _ _ (by rw [Sort.size_putRow, Sort.heap_ahead]; omega)]
    unfold Sort.putRow Sort.mapBlock
    simp only [Sort.heap_ahead, Array.getElem?_modify]
    rw [if_neg (fun e => hne (by rw [e]))]

/-- by names, as the sort has it -/
def byId (x y : Mv) : Int := Lab.cmpB x.m.id y.m.id
theorem byId_lt (x y : Mv) : Go.Proofs.ltOf byId x y = decide (x.m.id < y.m.id) := by
  unfold Go.Proofs.ltOf byId
  rw [decide_eq_decide]
  exact Lab.cmpB_lt
theorem byId_swo : Sort.SWO (Go.Proofs.ltOf byId) where
  irrefl x := by rw [byId_lt]; exact decide_eq_false (Lab.b_irrefl _)
  trans x y z h1 h2 := by
    rw [byId_lt, decide_eq_true_eq] at *
    exact Lab.b_trans h1 h2
  ntrans x y z h1 h2 := by
    rw [byId_lt, decide_eq_false_iff_not] at *
    intro h3
    by_cases h4 : y.m.id < x.m.id
    · exact h2 (Lab.b_trans h4 h3)
    · exact h2 (by rw [← Lab.b_tri h1 h4]; exact h3)
/-- sorted already: nothing turns -/
theorem asc_one {l m : List Mv} (hp : m.Perm l) (hl : l.Pairwise (fun a b => a.m.id < b.m.id)) (hm : m.Pairwise (fun a b => ¬ b.m.id < a.m.id)) : m = l := by
  induction l generalizing m with
  | nil => exact List.perm_nil.1 hp
  | cons x l ih =>
    cases m with
    | nil => have := hp.length_eq; simp at this
    | cons y m =>
      obtain ⟨a1, a2⟩ := List.pairwise_cons.1 hl
      obtain ⟨b1, b2⟩ := List.pairwise_cons.1 hm
      have hxy : y = x := by
        rcases List.mem_cons.1 (hp.mem_iff.1 (List.mem_cons_self)) with e | e
        · exact e
        · rcases List.mem_cons.1 (hp.mem_iff.2 (List.mem_cons_self)) with e' | e'
          · exact e'.symm
          · exact absurd (a1 y e) (b1 x e')
      subst hxy
      rw [ih (List.Perm.cons_inv hp) a2 b2]

/-- a sort over a buffer of the call's own -/
def RetSort (w0 w1 w : World) (b o n c : Nat) (l : List Mt) (e : Ending) (w' : World) : Prop := e = .returned (.tuple #[]) ∧ NMs w0 w1 w' 55 (.slice (some ⟨b, o, none⟩) n c) l ∧ w.grownBy w' (some b)

set_option maxHeartbeats 1000000 in
set_option maxRecDepth 10000 in
/-- slices.SortFunc by names over metas that lie so already -/
theorem sortIds_any (b o c : Nat) (l : List Mt) (w0 w1 w : World) (h : NMs w0 w1 w 55 (.slice (some ⟨b, o, none⟩) l.length c) l) (h0 : 0 < l.length) (hl : l.length ≤ 1000000) (ha : l.Pairwise (fun a b => a.id < b.id)) :
    Calls Try.prog 28 #[.slice (some ⟨b, o, none⟩) l.length c, .func (.func 29) #[] #[]] w (RetSort w0 w1 w b o l.length c l) := by
  obtain ⟨xs, hx, hn, hm⟩ := h
  have hlen := map_len hx
  rw [← hlen] at hn h0 hl ⊢
  have hsz : xs.toArray.size = xs.length := rfl
  have hblk : b < w.heap.size := hn.buf.lt h0 b rfl
  have hB : w1.heap.size ≤ b := hn.new b rfl
  have eg : ∀ args w, (callFunc 29 args).run Try.prog w = .ok (.enter 29 args) w := enters_of Try.func29 (by kernel_rfl) rfl
  have hH : Sort.HoldsK encM 8 w b o xs.toArray := Buf.holdsK encM_eight (d := xs.toArray) hn.buf
  have hcmp : Go.Proofs.CmpLays Try.prog 29 #[] encM 8 byId b o xs.toArray.size w := fun _ _ _ _ x y => byId_any x y _
  have hlim : Lib.bitLen xs.toArray.size < 4611686018427387904 := Nat.lt_of_le_of_lt (Lib.bitLen_le xs.toArray.size 62 (by omega) (by omega)) (by omega)
  have hp := Go.Proofs.AnyQ.pdqsortCmpFunc_all (P := Try.prog) (ρ := Try.pdqM_ren) Try.pdqM 8 Try.isAgg55 Try.sizeOf55 encM byId 29 #[] byId_swo b o c xs.toArray w eg hcmp ⟨encM_eight, encM_one, hH, hblk⟩ (xs.toArray.size + 1) 0 xs.toArray.size (Lib.bitLen xs.toArray.size) xs.toArray w (by omega) rfl (Go.Proofs.SWK.start hH) (Nat.zero_le _) (Nat.le_refl _) (by omega) hlim (Or.inl rfl)
  have hs := Sort.pdq_sorts (Go.Proofs.ltOf byId) byId_swo xs.toArray 0 xs.toArray.size (Lib.bitLen xs.toArray.size) true true (Nat.zero_le _) (Nat.le_refl _) (Or.inl rfl)
  have hq : Calls Try.prog 39 #[.slice (some ⟨b, o, none⟩) xs.length c, .int .i64 0, .int .i64 xs.length, .int .i64 (Lib.bitLen xs.length : Nat), .func (.func 29) #[] #[]] w (RetSort w0 w1 w b o xs.length c l) := by
    refine Calls.mono hp ?_
    rintro e w' ⟨h1, n, os, rfl⟩
    obtain ⟨p1, p2⟩ := permIn_list hs.1
    have p4 := sortedIn_list (d := Sort.pdq (Go.Proofs.ltOf byId) xs.toArray 0 xs.toArray.size (Lib.bitLen xs.toArray.size) true true) (by rw [p1]; exact hs.2)
    generalize Sort.pdq (Go.Proofs.ltOf byId) xs.toArray 0 xs.toArray.size (Lib.bitLen xs.toArray.size) true true = d at *
    have e : d.toList = xs := asc_one p2 (by rw [← hx, List.pairwise_map] at ha; exact ha) (p4.imp (fun hh => by rw [byId_lt, decide_eq_false_iff_not] at hh; exact hh))
    exact ⟨h1, ⟨xs, hx, ⟨by have := Buf.sortWorldK encM_eight hn.buf n d p1 h0 os; rw [e] at this; exact this, hn.below.trans (sortWorldK_below encM 8 n d os hB hblk), hn.new⟩, hm⟩, heap_sortWorldK encM 8 w b o n d os hblk⟩
  have HQ := Lib.hid hq
  have hb := Try.bits_Len (xs.length : Int) w (by omega) (by omega)
  have hb2 : Calls Try.prog 40 #[.int .u64 xs.length] w fun e w' => e = .returned (.int .i64 (Lib.bitLen xs.length : Nat)) ∧ w = w' := hb.mono fun _ _ ⟨h1, h2⟩ => ⟨by rw [h1, Int.toNat_natCast], h2.symm⟩
  have HB := Lib.hid hb2
  have wr : IntKind.u64.wrap (xs.length : Int) = xs.length := by rw [IntKind.wrap_u64]; omega
  have WR := Lib.hid wr
  clear hb hb2 hq hp hs hH hcmp hlim hsz eg hn wr hm hx hlen ha
  obtain ⟨Z, hZ⟩ : ∃ Z : Nat, Z = Lib.bitLen xs.length := ⟨_, rfl⟩
  rw [← hZ] at HB HQ
  clear hZ
  go_enter Try.func28, Try.ntmps28
  go_wp2_with fail
  refine HB.out.mono ?_
  rintro e w' ⟨rfl, rfl⟩
  go_wp2_with fail
  refine HQ.out.mono ?_
  rintro e w' ⟨rfl, hm⟩
  have HM := Lib.hid hm
  clear hm
  go_wp2_with fail
  go_end0
  exact ⟨rfl, HM.out⟩

/-- by times, as the sort has it -/
def byMn (x y : Mv) : Int := cmpI x.m.mn y.m.mn
theorem byMn_lt (x y : Mv) : Go.Proofs.ltOf byMn x y = decide (x.m.mn < y.m.mn) := by
  unfold Go.Proofs.ltOf byMn cmpI
  rw [decide_eq_decide]
  split
  · simp; assumption
  · split <;> simp <;> omega
def lt2v (x y : Mv) : Bool := lt2 x.m y.m
theorem lt2v_swo : Sort.SWO lt2v where
  irrefl x := lt2_irr x.m
  trans x y z h1 h2 := lt2_trans h1 h2
  ntrans x y z h1 h2 := by
    unfold lt2v at *
    rw [Bool.eq_false_iff] at *
    intro h3
    rw [lt2_iff] at h3
    have h1 : ¬ (x.m.mn < y.m.mn ∨ x.m.mn = y.m.mn ∧ x.m.id < y.m.id) := fun e => h1 (lt2_iff.2 e)
    have h2 : ¬ (y.m.mn < z.m.mn ∨ y.m.mn = z.m.mn ∧ y.m.id < z.m.id) := fun e => h2 (lt2_iff.2 e)
    rcases h3 with h3 | ⟨h3, h4⟩
    · by_cases e : x.m.mn < y.m.mn
      · exact h1 (.inl e)
      · exact h2 (.inl (by omega))
    · by_cases e : x.m.mn < y.m.mn
      · exact h1 (.inl e)
      · by_cases e2 : y.m.mn < z.m.mn
        · exact h2 (.inl e2)
        · by_cases h5 : y.m.id < x.m.id
          · exact h2 (.inr ⟨by omega, Lab.b_trans h5 h4⟩)
          · by_cases h6 : x.m.id < y.m.id
            · exact h1 (.inr ⟨by omega, h6⟩)
            · exact h2 (.inr ⟨by omega, by rw [← Lab.b_tri h6 h5]; exact h4⟩)

set_option maxHeartbeats 1000000 in
set_option maxRecDepth 10000 in
/-- slices.SortStableFunc by times over at most 20 metas that lie by names -/
theorem stable_any (b o c : Nat) (l : List Mt) (w0 w1 w : World) (h : NMs w0 w1 w 55 (.slice (some ⟨b, o, none⟩) l.length c) l) (h0 : 0 < l.length) (hl : l.length < 20) (ha : l.Pairwise (fun a b => a.id < b.id)) :
    Calls Try.prog 34 #[.slice (some ⟨b, o, none⟩) l.length c, .func (.func 35) #[] #[]] w (RetSort w0 w1 w b o l.length c (srt l)) := by
  obtain ⟨xs, hx, hn, hm⟩ := h
  have hlen := map_len hx
  rw [← hlen] at hn h0 hl ⊢
  have hblk : b < w.heap.size := hn.buf.lt h0 b rfl
  have hB : w1.heap.size ≤ b := hn.new b rfl
  have eg : ∀ args w, (callFunc 35 args).run Try.prog w = .ok (.enter 35 args) w := enters_of Try.func35 (by kernel_rfl) rfl
  have hH : Sort.HoldsK encM 8 w b o xs.toArray := Buf.holdsK encM_eight (d := xs.toArray) hn.buf
  have hcmp : Go.Proofs.CmpLays Try.prog 35 #[] encM 8 byMn b o xs.toArray.size w := fun _ _ _ _ x y => byMin_any x y _
  have hp := Go.Proofs.AnyQ.insertionSortCmpFunc (P := Try.prog) (ρ := Try.insM_ren) Try.insM 8 Try.isAgg55 Try.sizeOf55 encM encM_eight encM_one byMn 35 #[] b o c 0 xs.toArray.size xs.toArray w eg hcmp hH hblk (Nat.zero_le _) (Nat.le_refl _) (by show xs.length < _; omega)
  have hs := insertion_stable (lt := Go.Proofs.ltOf byMn) lt2v_swo xs.toArray (fun p q hpq hq => by
    have hq' : q < xs.length := hq
    rw [byMn_lt]
    rw [getElem!_pos xs.toArray p (Nat.lt_trans hpq hq), getElem!_pos xs.toArray q hq]
    simp only [List.getElem_toArray]
    have hid : (xs[p]'(Nat.lt_trans hpq hq')).m.id < (xs[q]'hq').m.id := by
      rw [← hx, List.pairwise_map] at ha
      exact List.pairwise_iff_getElem.1 ha p q (Nat.lt_trans hpq hq') hq' hpq
    unfold lt2v lt2
    rw [decide_eq_false (Lab.b_asymm hid), Bool.and_false, Bool.or_false])
  have hq : Calls Try.prog 45 #[.slice (some ⟨b, o, none⟩) xs.length c, .int .i64 0, .int .i64 xs.length, .func (.func 35) #[] #[]] w (RetSort w0 w1 w b o xs.length c (srt l)) := by
    refine Calls.mono hp ?_
    rintro e w' ⟨h1, n, os, rfl⟩
    obtain ⟨p1, p2, p4⟩ := hs
    generalize Sort.insertionSort (Go.Proofs.ltOf byMn) xs.toArray 0 xs.toArray.size = d at *
    have e : d.toList.map (·.m) = srt l := by
      have hap := asc_apart ha
      refine srt_unique hap (by rw [← hx]; exact p2.map _) ?_
      have hap2 : Apart (d.toList.map (·.m)) := (p2.map Mv.m).pairwise_iff (R := fun a b : Mt => a.id ≠ b.id) (fun h e => h e.symm) |>.2 (by rw [← hx] at hap; exact hap)
      unfold Apart at hap2
      rw [List.pairwise_map] at hap2 ⊢
      exact (List.Pairwise.and hap2 p4).imp (fun ⟨k1, k2⟩ => lt2_total (fun e => k1 e.symm) k2)
    have hml : l.length = d.toList.length := by rw [← hlen]; exact p1.symm
    exact ⟨h1, ⟨d.toList, e, ⟨by have := Buf.sortWorldK encM_eight hn.buf n d p1 h0 os; rw [show xs.length = d.toList.length from p1.symm] at this ⊢; exact this, hn.below.trans (sortWorldK_below encM 8 n d os hB hblk), hn.new⟩, fun x hx => hm x (p2.mem_iff.1 hx)⟩, heap_sortWorldK encM 8 w b o n d os hblk⟩
  have HQ := Lib.hid hq
  clear hq hp hs hH hcmp eg hn hm hx hlen ha
  have hst : Calls Try.prog 43 #[.slice (some ⟨b, o, none⟩) xs.length c, .int .i64 xs.length, .func (.func 35) #[] #[]] w (RetSort w0 w1 w b o xs.length c (srt l)) := by
    go_enter Try.func43, Try.ntmps43
    go_wp2_with fail
    go_loop [7, 8] (fun i j => i = .int .i64 0 ∧ j = .int .i64 20) (fun _ _ => 0)
    case atStart => exact ⟨rfl, rfl⟩
    case round =>
      obtain ⟨rfl, rfl⟩ := hrel
      go_wp2_with fail
      refine HQ.out.mono ?_
      rintro e w' ⟨rfl, hm⟩
      have HM := Lib.hid hm
      clear hm
      go_wp2_with fail
      go_loop [6] (fun i => i = .int .i64 20) (fun _ => 0)
      case atStart => rfl
      case round =>
        obtain rfl := hrel
        go_wp2_with fail
        go_end0
        exact ⟨rfl, HM.out⟩
  have HST := Lib.hid hst
  clear hst HQ
  go_enter Try.func34, Try.ntmps34
  go_wp2_with fail
  refine HST.out.mono ?_
  rintro e w' ⟨rfl, hm⟩
  have HM := Lib.hid hm
  clear hm
  go_wp2_with fail
  go_end0
  exact ⟨rfl, HM.out⟩
end Go.Proofs.Ytemmgejaoegpfaa
