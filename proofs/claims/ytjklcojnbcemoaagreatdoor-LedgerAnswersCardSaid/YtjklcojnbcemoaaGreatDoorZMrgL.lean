/-
  Layer 14: what merge.Tables has under way in memory; its flush; the copy of labels.
-/
import Derived.Test.YtjklcojnbcemoaaGreatDoorZMrgK
import Derived.Test.YtjklcojnbcemoaaGreatDoorZMrgY
import Derived.Test.YtjklcojnbcemoaaGreatDoorZLib25
import Derived.Test.YtjklcojnbcemoaaGreatDoorZLib24

namespace Go.Proofs.YtjklcojnbcemoaaGreatDoor
open Go.RowKit Go.Bar Go.Bar.Leb Go.Bar.Lab Go.Bar.Xor Go.Bar.Mrg

theorem cset_ty : ElemTy Tryz.prog 44 84 (.agg #[.string ByteArray.empty, .string ByteArray.empty]) 2 32 :=
  ⟨Tryz.underlying44, info_parts (show (Tryz.prog.info? 84).map (fun i => (i.zero, i.size, i.bytes)) = some (some (.agg #[.string ByteArray.empty, .string ByteArray.empty]), 2, 32) by kernel_rfl), rfl⟩
/-- pairs in a buffer of the call's own -/
def RetCs (w : World) (l : List Pr) (e : Ending) (w' : World) : Prop := ∃ v, e = .returned v ∧ NBuf w w' 84 2 v l.length (pcs l)

set_option maxHeartbeats 1000000 in
set_option maxRecDepth 10000 in
theorem cloneSet_any (v : Value) (l : List Pr) (w : World) (h : PsAt w v l) (hl : l.length ≤ 1000000) :
    Calls Tryz.prog 32 #[v] w (RetCs w l) := by
  obtain ⟨A, c, rfl, hlc, hcm⟩ := h.shape
  have hnil := fun w => run_eql_slice_nil (P := Tryz.prog) w 44 84 A l.length c Tryz.underlying44
  rcases A with _ | A
  · have h0 : l.length = 0 := by
      rcases Nat.eq_zero_or_pos l.length with h0 | h0
      · exact h0
      · obtain ⟨p, hp⟩ : ∃ p, l[0]? = some p := ⟨_, List.getElem?_eq_getElem h0⟩
        obtain ⟨b, o, hA, _⟩ := h.at_ hp
        cases hA
    obtain rfl : l = [] := List.eq_nil_of_length_eq_zero h0
    clear h0 hnil
    have hnil := fun w => run_eql_slice_nil (P := Tryz.prog) w 44 84 none 0 c Tryz.underlying44
    go_enter Tryz.func32, Tryz.ntmps32
    go_wp2_with fail
    go_ret
    exact ⟨_, rfl, NBuf.nil (Below.refl _ _) _ _⟩
  · have hs := fun o => SlAt.src (P := Tryz.prog) (h.below (below_alloc1 w o)) (by omega) (t := 44) Tryz.underlying44 (pcs_one l)
    have HS := Lib.hid hs
    have hnb := NBuf.lit0 (Below.refl w.heap.size w) 84 2
    clear hs
    go_enter Tryz.func32, Tryz.ntmps32
    go_wp2_with (at_builtin; refine wpList_append_el rfl (.tmp 5) (.tmp 6) 44 44 rfl cset_ty rfl hnb.buf rfl (HS.out _) (by simp only [maxLen]; omega) (by omega) ?_; intro v' w' hb ha hg; have hn2 := hnb.step hb ha hg; clear hb ha hg)
    go_ret
    rw [Nat.zero_add, List.nil_append] at hn2
    exact ⟨_, rfl, hn2⟩

/-- a row of the call's own: its labels, its samples -/
def Rd (W0 w : World) (x : Rv) : Prop := NBuf W0 w 84 2 (.slice x.la x.ls.length x.lc) x.ls.length (pcs x.ls) ∧ NBuf W0 w 42 2 (.slice x.sa x.ss.length x.sc) x.ss.length (smc x.ss)
/-- the types that the rows' and the parts' blocks have -/
abbrev To (T : TypeId) : Prop := T = 50 ∨ T = 23 ∨ T = 48 ∨ T = 77
abbrev Tq (T : TypeId) : Prop := T = 74 ∨ T = 72
/-- the table under way -/
structure Ou (W0 : World) (O : Nat) (l : List Rv) (w : World) : Prop where
  buf : ∃ A c, Blk w O 23 #[.slice A l.length c] ∧ NBuf W0 w 50 2 (.slice A l.length c) l.length (rcs l)
  newO : W0.heap.size ≤ O
  deep : ∀ x ∈ l, Rd W0 w x
/-- the parts under way -/
structure Pa (W0 : World) (Q : Nat) (ps : List (List Sm)) (w : World) : Prop where
  buf : ∃ A c vs, Blk w Q 77 #[.slice A ps.length c] ∧ NBuf W0 w 48 1 (.slice A ps.length c) ps.length vs ∧ ∀ (i : Nat) (x : List Sm), ps[i]? = some x → ∃ B d, vs[i]? = some (.slice B x.length d) ∧ SmsAt W0 (.slice B x.length d) x
  newP : W0.heap.size ≤ Q
section
variable {W0 w w' : World} {O Q : Nat} {l : List Rv} {ps : List (List Sm)}
theorem Rd.ke {Ts : TypeId → Prop} {x : Rv} (h : Rd W0 w x) (hk : Ke Ts w w') (hb : Below W0.heap.size W0 w') (h1 : ¬ Ts 84) (h2 : ¬ Ts 42) : Rd W0 w' x :=
  ⟨⟨hk.buf h.1.buf h1, hb, h.1.new⟩, ⟨hk.buf h.2.buf h2, hb, h.2.new⟩⟩
theorem Ou.ke {Ts : TypeId → Prop} (h : Ou W0 O l w) (hk : Ke Ts w w') (hb : Below W0.heap.size W0 w') (h1 : ¬ Ts 84) (h2 : ¬ Ts 42) (h3 : ¬ Ts 50) (h4 : ¬ Ts 23) : Ou W0 O l w' := by
  obtain ⟨⟨A, c, b1, b2⟩, hO, hd⟩ := h
  exact ⟨⟨A, c, hk.blk b1 h4, hk.buf b2.buf h3, hb, b2.new⟩, hO, fun x hx => (hd x hx).ke hk hb h1 h2⟩
theorem Pa.ke {Ts : TypeId → Prop} (h : Pa W0 Q ps w) (hk : Ke Ts w w') (hb : Below W0.heap.size W0 w') (h3 : ¬ Ts 48) (h4 : ¬ Ts 77) : Pa W0 Q ps w' := by
  obtain ⟨⟨A, c, vs, b1, b2, b3⟩, hQ⟩ := h
  exact ⟨⟨A, c, vs, hk.blk b1 h4, ⟨hk.buf b2.buf h3, hb, b2.new⟩, b3⟩, hQ⟩
theorem Hs.ke {Ts : TypeId → Prop} {M n c : Nat} {f : Nat → Cu} {A : Option Addr} (h : Hs W0 M n f A c w) (hk : Ke Ts w w') (hb : Below W0.heap.size W0 w') (h3 : ¬ Ts 74) (h4 : ¬ Ts 72) : Hs W0 M n f A c w' :=
  ⟨hk.blk h.var h4, ⟨hk.buf h.buf.buf h3, hb, h.buf.new⟩, h.newQ, h.rows⟩
theorem Kt.ke (h : Kt w w') : Ke Tq w w' := ⟨h.os, h.tape, h.output, h.size, fun k hk ht => h.block k hk fun cur T fr he => ⟨fun e => ht cur T fr he (.inl e), fun e => ht cur T fr he (.inr e)⟩⟩
end
end Go.Proofs.YtjklcojnbcemoaaGreatDoor

/-
  Layer 14: the flush of merge.Tables.
-/
namespace Go.Proofs.YtjklcojnbcemoaaGreatDoor
open Go.RowKit Go.Bar Go.Bar.Leb Go.Bar.Lab Go.Bar.Xor Go.Bar.Mrg

theorem rcs_last (l : List Rv) (x : Rv) (S : List Sm) (B : Option Addr) (d : Nat) : (rcs (l ++ [x])).set (l.length * 2 + 1) (.slice B S.length d) = rcs (l ++ [⟨x.ls, S, x.la, x.lc, B, d⟩]) := by
  rw [rcs_app, rcs_app, List.set_append_right _ _ (by rw [rcs_len]; omega), rcs_len, Nat.add_sub_cancel_left]
  rfl
/-- the parts, as a slice of slices -/
theorem Pa.lsAt {W0 w : World} {Q : Nat} {ps : List (List Sm)} (h : Pa W0 Q ps w) : ∃ A c, Blk w Q 77 #[.slice A ps.length c] ∧ LsAt w w (.slice A ps.length c) ps := by
  obtain ⟨⟨A, c, vs, b1, b2, b3⟩, _⟩ := h
  refine ⟨A, c, b1, vs, by have := b2.buf.len; omega, b2.slice, fun i x hx => ?_⟩
  obtain ⟨B, d, e, hs⟩ := b3 i x hx
  exact ⟨B, d, e, hs.below b2.below⟩
theorem Ou.below {W0 w : World} {O : Nat} {l : List Rv} (h : Ou W0 O l w) : Below W0.heap.size W0 w := by
  obtain ⟨⟨A, c, b1, b2⟩, _, _⟩ := h
  exact b2.below
theorem Pa.nil {W0 w : World} {O Q : Nat} {l : List Rv} {ps : List (List Sm)} (ho : Ou W0 O l w) (h : Pa W0 Q ps w) : Ou W0 O l (w.setCell ⟨Q, 0, none⟩ (.slice none 0 0)) ∧ Pa W0 Q [] (w.setCell ⟨Q, 0, none⟩ (.slice none 0 0)) ∧ Ke To w (w.setCell ⟨Q, 0, none⟩ (.slice none 0 0)) := by
  obtain ⟨⟨A, c, vs, b1, b2, b3⟩, hQ⟩ := h
  have hb : Below W0.heap.size W0 (w.setCell ⟨Q, 0, none⟩ (.slice none 0 0)) := ho.below.setCell (p := ⟨Q, 0, none⟩) hQ _
  have hk : Ke (fun T => T = 77) w (w.setCell ⟨Q, 0, none⟩ (.slice none 0 0)) := Ke.of_set (Ts := fun T => T = 77) b1 rfl 0 _
  exact ⟨ho.ke hk hb (by decide) (by decide) (by decide) (by decide), ⟨⟨none, 0, [], b1.set 0 _, NBuf.nil hb _ _, fun i x hx => by cases hx⟩, hQ⟩, hk.wide fun T hT => .inr (.inr (.inr hT))⟩
/-- the last row has its samples -/
def FinF (W0 w : World) (O Q : Nat) (l : List Rv) (x : Rv) (S : List Sm) (ps : List (List Sm)) (_vs : Nat → Value) (w' : World) : Prop := ∃ B d, Ou W0 O (l ++ [⟨x.ls, S, x.la, x.lc, B, d⟩]) w' ∧ Pa W0 Q ps w' ∧ Ke To w w'
theorem FinF.of {W0 w wx : World} {O Q b o c : Nat} {l : List Rv} {x : Rv} {S : List Sm} {ps : List (List Sm)} {B : Option Addr} {d : Nat} (hO : Ou W0 O (l ++ [x]) w) (hP : Pa W0 Q ps w) (hA : Blk w O 23 #[.slice (some ⟨b, o, none⟩) (l ++ [x]).length c])
    (hw : Below w.heap.size w wx) (f : FBuf w wx 42 2 (.slice B S.length d) S.length (smc S)) (vs : Nat → Value) : FinF W0 w O Q l x S ps vs (wx.setCell ⟨b, o + (l.length * 2 + 1), none⟩ (.slice B S.length d)) := by
  obtain ⟨⟨A', c', b1, b2⟩, hOn, hd⟩ := hO
  have e : #[Value.slice A' (l ++ [x]).length c'] = #[.slice (some ⟨b, o, none⟩) (l ++ [x]).length c] := by
    unfold Blk at b1 hA
    rw [b1] at hA
    injection hA with hA
    injection hA
  have e : Value.slice A' (l ++ [x]).length c' = .slice (some ⟨b, o, none⟩) (l ++ [x]).length c := by injection e with e; injection e
  injection e with e1 _ e3
  subst e1; subst e3
  have hn : (l ++ [x]).length = l.length + 1 := by simp
  have b2x : NBuf W0 wx 50 2 (.slice (some ⟨b, o, none⟩) (l ++ [x]).length c') (l ++ [x]).length (rcs (l ++ [x])) := b2.then_below hw
  have hbW : W0.heap.size ≤ b := b2.new b rfl
  have hb : Below W0.heap.size W0 (wx.setCell ⟨b, o + (l.length * 2 + 1), none⟩ (.slice B S.length d)) := b2x.below.setCell (p := ⟨b, _, none⟩) hbW _
  have hk : Ke (fun T => T = 50) wx (wx.setCell ⟨b, o + (l.length * 2 + 1), none⟩ (.slice B S.length d)) := Ke.of_buf (Ts := fun T => T = 50) b2x.buf (by omega) rfl _ _
  have hkw : Ke To w wx := Ke.of_below hw
  have hst := b2x.buf.storeN (j := l.length * 2 + 1) (by omega) (.slice B S.length d)
  rw [rcs_last] at hst
  have hn2 : (l ++ [(⟨x.ls, S, x.la, x.lc, B, d⟩ : Rv)]).length = (l ++ [x]).length := by simp
  refine ⟨B, d, ⟨⟨some ⟨b, o, none⟩, c', ?_, ?_⟩, hOn, fun y hy => ?_⟩, (hP.ke (Ke.of_below (Ts := fun T => T = 50) hw) (below_trans b2.below hw) (by decide) (by decide)).ke hk hb (by decide) (by decide), hkw.trans (hk.wide fun T hT => .inl hT)⟩
  · rw [hn2]
    exact hk.blk (b1.below hw) (by decide)
  · rw [hn2]
    exact ⟨hst, hb, b2x.new⟩
  · have hrd : ∀ z ∈ l ++ [x], Rd W0 (wx.setCell ⟨b, o + (l.length * 2 + 1), none⟩ (.slice B S.length d)) z := fun z hz => ((hd z hz).ke (Ke.of_below (Ts := fun T => T = 50) hw) (below_trans b2.below hw) (by decide) (by decide)).ke hk hb (by decide) (by decide)
    rcases List.mem_append.1 hy with h1 | h1
    · exact hrd y (List.mem_append_left _ h1)
    · obtain rfl := List.mem_singleton.1 h1
      exact ⟨(hrd x (List.mem_append_right _ (List.mem_singleton.2 rfl))).1, ⟨hk.buf f.buf (by decide), hb, fun k hk => Nat.le_trans b2.below.size (f.new k hk)⟩⟩

set_option maxHeartbeats 4000000 in
set_option maxRecDepth 10000 in
theorem flush0_any (W0 w : World) (O Q : Nat) (ps : List (List Sm)) (ho : Ou W0 O [] w) (hp : Pa W0 Q ps w) :
    Calls Tryz.prog 28 #[.pointer (some ⟨O, 0, none⟩), .pointer (some ⟨Q, 0, none⟩)] w (fun e w' => e = .returned (.tuple #[]) ∧ Ou W0 O [] w' ∧ Pa W0 Q [] w' ∧ Ke To w w') := by
  obtain ⟨⟨A, c, b1, b2⟩, _, _⟩ := id ho
  obtain ⟨A2, c2, q1, _⟩ := hp.lsAt
  have g0 := b1.c1
  have h0 := q1.c1
  have h1 := q1.free 0
  have HF := Lib.hid (Pa.nil ho hp)
  clear b1 b2 ho hp q1
  go_enter Tryz.func28, Tryz.ntmps28
  go_wp2_with fail
  go_end0
  exact ⟨rfl, HF.out⟩

set_option maxHeartbeats 4000000 in
set_option maxRecDepth 10000 in
theorem flush1_any (W0 wb : World) (O Q : Nat) (l : List Rv) (x : Rv) (ps : List (List Sm)) (ho : Ou W0 O (l ++ [x]) wb) (hp : Pa W0 Q ps wb) (hl : l.length < 10000000) (h1 : ps.length ≤ 1000000) (h2 : ps.flatten.length ≤ 10000000) :
    Calls Tryz.prog 28 #[.pointer (some ⟨O, 0, none⟩), .pointer (some ⟨Q, 0, none⟩)] wb (fun e w' => e = .returned (.tuple #[]) ∧ ∃ B d, Ou W0 O (l ++ [⟨x.ls, smp ps, x.la, x.lc, B, d⟩]) w' ∧ Pa W0 Q [] w' ∧ Ke To wb w') := by
  obtain ⟨⟨A, c, b1, b2⟩, _, _⟩ := id ho
  obtain ⟨A2, c2, q1, hls⟩ := hp.lsAt
  obtain ⟨n, hn⟩ : ∃ n, n = l.length := ⟨_, rfl⟩
  have hn1 : (l ++ [x]).length = n + 1 := by rw [hn]; simp
  obtain ⟨b, o, rfl, hbl⟩ := b2.buf.some_at (by omega)
  have HSM := Lib.hid (fun (w' : World) (hb : Below wb.heap.size wb w') => mSamples_any (.slice A2 ps.length c2) ps w' ((hls.below hb).base hb) h1 h2)
  obtain ⟨S, hS⟩ : ∃ S, S = smp ps := ⟨_, rfl⟩
  rw [← hS] at HSM ⊢
  have HO := Lib.hid ho
  have HP := Lib.hid hp
  have HB1 := Lib.hid b1
  have HB2 := Lib.hid b2.buf
  have hu : ∃ u, (rcs (l ++ [x]))[n * 2 + 1]? = some u := ⟨_, List.getElem?_eq_getElem (by rw [rcs_len]; omega)⟩
  have HU := Lib.hid hu
  have HQ1 := Lib.hid q1
  have HN := Lib.hid hn
  have hnb : n < 10000000 := by omega
  have g0 := b1.c1
  rw [hn1] at g0
  have hcell := b2.buf.cellN (j := n * 2 + 1) (by omega)
  have hfz := hcell.2
  have hw1 : IntKind.i64.wrap (((n + 1 : Nat) : Int) - 1) = (n : Int) := by rw [IntKind.wrap_i64]; omega
  have hpos : (0 : Int) < ((n + 1 : Nat) : Int) := by omega
  clear b1 b2 ho hp q1 hls hn hcell hS hu
  go_enter Tryz.func28, Tryz.ntmps28
  go_upto_region 2 with fail
  have hlo : (0 : Int) ≤ (n : Int) := by omega
  have hlt : (n : Int) < ((n + 1 : Nat) : Int) := by omega
  have hw3 : IntKind.i64.wrap (n : Int) = (n : Int) := by rw [IntKind.wrap_i64]; omega
  have hlt1 : (n : Int) < (n : Int) + 1 := by omega
  have hlt2 : n < n + 1 := by omega
  have hw2 : IntKind.i64.wrap ((n : Int) + 1 - 1) = (n : Int) := by rw [IntKind.wrap_i64]; omega
  have hstT : ∀ k v w w', Below w.heap.size w w' → Dv.factOf ([(0, ((fun v => v = (.slice (some ⟨b, o, none⟩) (n + 1) c)), noFact, 0)), (3, ((fun v => v = (.slice A2 ps.length c2)), noFact, 3)), (4, ((fun v => ∃ B d, v = .slice B S.length d), (fun v w' => FBuf wb w' 42 2 v S.length (smc S)), 7)), (7, ((fun _ => True), noFact, 7))] : List (Nat × Dv.Kp)) k v w → Dv.factOf ([(0, ((fun v => v = (.slice (some ⟨b, o, none⟩) (n + 1) c)), noFact, 0)), (3, ((fun v => v = (.slice A2 ps.length c2)), noFact, 3)), (4, ((fun v => ∃ B d, v = .slice B S.length d), (fun v w' => FBuf wb w' 42 2 v S.length (smc S)), 7)), (7, ((fun _ => True), noFact, 7))] : List (Nat × Dv.Kp)) k v w' := Dv.fact_st (by
    simp only [List.forall_mem_cons, List.not_mem_nil, false_imp_iff, implies_true, and_true]
    refine ⟨?_, ?_, ?_, ?_⟩
    · exact fun _ _ _ _ _ => trivial
    · exact fun _ _ _ _ _ => trivial
    · exact fun _ _ _ hb h => h.below hb
    · exact fun _ _ _ _ _ => trivial)
  have htrT : ∀ x ∈ ([(0, ((fun v => v = (.slice (some ⟨b, o, none⟩) (n + 1) c)), noFact, 0)), (3, ((fun v => v = (.slice A2 ps.length c2)), noFact, 3)), (4, ((fun v => ∃ B d, v = .slice B S.length d), (fun v w' => FBuf wb w' 42 2 v S.length (smc S)), 7)), (7, ((fun _ => True), noFact, 7))] : List (Nat × Dv.Kp)), (([(0, ((fun v => v = (.slice (some ⟨b, o, none⟩) (n + 1) c)), noFact, 0)), (3, ((fun v => v = (.slice A2 ps.length c2)), noFact, 3)), (4, ((fun v => ∃ B d, v = .slice B S.length d), (fun v w' => FBuf wb w' 42 2 v S.length (smc S)), 7)), (7, ((fun _ => True), noFact, 7))] : List (Nat × Dv.Kp)).lookup x.2.2.2).isSome = true := by
    simp only [List.forall_mem_cons, List.not_mem_nil, false_imp_iff, implies_true, and_true]
    exact ⟨by kernel_rfl, by kernel_rfl, by kernel_rfl, by kernel_rfl⟩
  refine Dv.wp_region_two (L := ([(0, ((fun v => v = (.slice (some ⟨b, o, none⟩) (n + 1) c)), noFact, 0)), (3, ((fun v => v = (.slice A2 ps.length c2)), noFact, 3)), (4, ((fun v => ∃ B d, v = .slice B S.length d), (fun v w' => FBuf wb w' 42 2 v S.length (smc S)), 7)), (7, ((fun _ => True), noFact, 7))] : List (Nat × Dv.Kp))) (m := 7) (Fin := (FinF W0 wb O Q l x S ps)) (by kernel_rfl) 14 (by kernel_rfl) rfl (by kernel_rfl) ?_ ?_ ?_
  · simp only [List.forall_mem_cons, List.not_mem_nil, false_imp_iff, implies_true, and_true]
    exact ⟨⟨_, rfl⟩, ⟨_, rfl⟩, ⟨_, none, 0, rfl⟩, ⟨undef, trivial⟩⟩
  · exact (fun _ _ _ _ h => h)
  repeat (first
    | (refine Dv.Chain.step (v := ?_) (a' := ?_) rfl rfl rfl ?_ ?_ ?_
       rotate_left 2
       focus (intro w; go_simp; try with_reducible rfl)
       focus (simp only [Act.put, List.setIfInBounds_toArray, List.set_cons_succ, List.set_cons_zero]; try rfl))
    | (refine Dv.Chain.skip' (a' := ?_) rfl rfl rfl ?_ ?_
       rotate_left 1
       focus (simp only [Act.put, List.setIfInBounds_toArray, List.set_cons_succ, List.set_cons_zero]; try rfl)))
  refine Dv.XT.call (a' := ?_) _ _ rfl (by decide) hstT rfl rfl (fun wx hw hF => ?_) htrT ?_ ?_
  rotate_left 1
  focus
    have g0 := (HB1.out.below hw).c1
    rw [hn1] at g0
    go_simp; first | exact ⟨rfl, Below.refl _ _⟩ | exact Below.refl _ _
  focus (simp only [Act.put, List.setIfInBounds_toArray, List.set_cons_succ, List.set_cons_zero]; try rfl)
  repeat (first
    | (refine Dv.Chain.step (v := ?_) (a' := ?_) rfl rfl rfl ?_ ?_ ?_
       rotate_left 2
       focus (intro w; go_simp; try with_reducible rfl)
       focus (simp only [Act.put, List.setIfInBounds_toArray, List.set_cons_succ, List.set_cons_zero]; try rfl))
    | (refine Dv.Chain.skip' (a' := ?_) rfl rfl rfl ?_ ?_
       rotate_left 1
       focus (simp only [Act.put, List.setIfInBounds_toArray, List.set_cons_succ, List.set_cons_zero]; try rfl)))
  refine Dv.XT.call (a' := ?_) _ _ rfl (by decide) hstT rfl rfl (fun wx hw hF => ?_) htrT ?_ ?_
  rotate_left 1
  focus
    have g0 := (HQ1.out.below hw).c1
    go_simp; first | exact ⟨rfl, Below.refl _ _⟩ | exact Below.refl _ _
  focus (simp only [Act.put, List.setIfInBounds_toArray, List.set_cons_succ, List.set_cons_zero]; try rfl)
  repeat (first
    | (refine Dv.Chain.step (v := ?_) (a' := ?_) rfl rfl rfl ?_ ?_ ?_
       rotate_left 2
       focus (intro w; go_simp; try with_reducible rfl)
       focus (simp only [Act.put, List.setIfInBounds_toArray, List.set_cons_succ, List.set_cons_zero]; try rfl))
    | (refine Dv.Chain.skip' (a' := ?_) rfl rfl rfl ?_ ?_
       rotate_left 1
       focus (simp only [Act.put, List.setIfInBounds_toArray, List.set_cons_succ, List.set_cons_zero]; try rfl)))
  refine Dv.XT.make _ _ _ rfl (by decide) hstT rfl rfl (fun wx hw hF => ?_) htrT (fun v4 hv4 a' ha => ?_)
  focus
    go_simp
    with_reducible refine (HSM.out _ hw).mono ?_
    rintro e w' ⟨v, rfl, hnb⟩
    obtain ⟨A, c, rfl, _⟩ := hnb.buf.shape
    exact ⟨⟨A, c, rfl⟩, hnb.below, hnb.buf, fun k hk => Nat.le_trans hw.size (hnb.new k hk)⟩
  obtain ⟨B4, d4, rfl⟩ := hv4
  simp only [Act.put, List.setIfInBounds_toArray, List.set_cons_succ, List.set_cons_zero] at ha
  subst ha
  repeat (first
    | (refine Dv.Chain.step (v := ?_) (a' := ?_) rfl rfl rfl ?_ ?_ ?_
       rotate_left 2
       focus (intro w; go_simp; try with_reducible rfl)
       focus (simp only [Act.put, List.setIfInBounds_toArray, List.set_cons_succ, List.set_cons_zero]; try rfl))
    | (refine Dv.Chain.skip' (a' := ?_) rfl rfl rfl ?_ ?_
       rotate_left 1
       focus (simp only [Act.put, List.setIfInBounds_toArray, List.set_cons_succ, List.set_cons_zero]; try rfl)))
  refine Dv.XT.last _ _ _ rfl rfl (by kernel_rfl) rfl rfl (fun vs wx hw hF => ?_) (fun v7 hv7 a' ha => ?_)
  focus
    have f4 : (fun v w' => FBuf wb w' 42 2 v S.length (smc S) : Value → World → Prop) _ wx := (hF 4 _ (by kernel_rfl) rfl).1 (by kernel_rfl)
    have q4 := (hF 4 _ (by kernel_rfl) rfl).2
    have hfin := FinF.of HO.out HP.out (c := c) HB1.out hw f4 vs
    rw [← HN.out, ← Nat.add_assoc] at hfin
    have HFIN := Lib.hid hfin
    obtain ⟨k1, k2⟩ := (HB2.out.below hw).cellN (j := n * 2 + 1) (by omega)
    obtain ⟨u, hu⟩ := HU.out
    rw [hu, ← Nat.add_assoc] at k1
    rw [← Nat.add_assoc] at k2
    clear f4 q4 hfin hu
    go_simp
    exact ⟨undef, HFIN.out⟩
  obtain _ := hv7
  simp only [Act.put] at ha
  subst ha
  repeat (first
    | (refine Dv.Chain.step (v := ?_) (a' := ?_) rfl rfl rfl ?_ ?_ ?_
       rotate_left 2
       focus (intro w; go_simp; try with_reducible rfl)
       focus (simp only [Act.put, List.setIfInBounds_toArray, List.set_cons_succ, List.set_cons_zero]; try rfl))
    | (refine Dv.Chain.skip' (a' := ?_) rfl rfl rfl ?_ ?_
       rotate_left 1
       focus (simp only [Act.put, List.setIfInBounds_toArray, List.set_cons_succ, List.set_cons_zero]; try rfl)))
  refine Dv.XT.end_ (by decide) (fun vs w2 hv hfin => ?_)
  obtain ⟨B, d, hO2, hP2, hK2⟩ := hfin
  obtain ⟨A3, c3, q3, _⟩ := hP2.lsAt
  have e0 := q3.c1
  have e1 := q3.free 0
  obtain ⟨r1, r2, r3⟩ := Pa.nil hO2 hP2
  have HF := Lib.hid (And.intro r1 (And.intro r2 (hK2.trans r3)))
  clear hO2 hP2 hK2 q3 r1 r2 r3
  go_wp2_with fail
  go_end0
  exact ⟨rfl, ⟨B, d, HF.out.1⟩, HF.out.2.1, HF.out.2.2⟩
end Go.Proofs.YtjklcojnbcemoaaGreatDoor

/-
  Layer 14: plain: what the appends of merge.Tables leave.
-/
namespace Go.Proofs.YtjklcojnbcemoaaGreatDoor
open Go.RowKit Go.Bar Go.Bar.Leb Go.Bar.Lab Go.Bar.Xor Go.Bar.Mrg

/-- the types that the rows' blocks have -/
abbrev Tw (T : TypeId) : Prop := T = 50 ∨ T = 23
/-- a row without samples behind the others -/
theorem Ou.snoc {W0 wa w2 : World} {O : Nat} {l : List Rv} {L : List Pr} {la A A2 : Option Addr} {lc c c2 : Nat} (h : Ou W0 O l wa) (hA : Blk wa O 23 #[.slice A l.length c]) (hf : NBuf W0 wa 84 2 (.slice la L.length lc) L.length (pcs L))
    (hb : Buf w2 50 2 (.slice A2 (l.length + 1) c2) (l.length + 1) (rcs l ++ [.slice la L.length lc, .slice none 0 0])) (ha : Ap wa w2 2 (.slice A l.length c)) (hg : Grew wa (.slice A l.length c) (.slice A2 (l.length + 1) c2)) :
    Ou W0 O (l ++ [⟨L, [], la, lc, none, 0⟩]) (w2.setCell ⟨O, 0, none⟩ (.slice A2 (l.length + 1) c2)) ∧ Ke Tw wa (w2.setCell ⟨O, 0, none⟩ (.slice A2 (l.length + 1) c2)) := by
  obtain ⟨⟨A', c', b1, b2⟩, hOn, hd⟩ := h
  have e : #[Value.slice A' l.length c'] = #[.slice A l.length c] := by
    unfold Blk at b1 hA
    rw [b1] at hA
    injection hA with hA
    injection hA
  have e : Value.slice A' l.length c' = .slice A l.length c := by injection e with e; injection e
  injection e with e1 _ e3
  subst e1; subst e3
  have hk1 : Ke (fun T => T = 50 ∨ T = 23) wa w2 := Ke.of_ap b2.buf ha (.inl rfl)
  have hbel : Below W0.heap.size W0 w2 := b2.below.trans (ha.below b2.below.size b2.new)
  have hY : Blk w2 O 23 #[.slice A' l.length c'] := b1.ap b2.buf ha (by decide)
  have hk2 : Ke (fun T => T = 50 ∨ T = 23) w2 (w2.setCell ⟨O, 0, none⟩ (.slice A2 (l.length + 1) c2)) := Ke.of_set hY (.inr rfl) 0 _
  have hk := hk1.trans hk2
  have hb2 : Below W0.heap.size W0 (w2.setCell ⟨O, 0, none⟩ (.slice A2 (l.length + 1) c2)) := hbel.setCell (p := ⟨O, 0, none⟩) hOn _
  have hn : (l ++ [(⟨L, [], la, lc, none, 0⟩ : Rv)]).length = l.length + 1 := by simp
  refine ⟨⟨⟨A2, c2, ?_, ?_⟩, hOn, fun y hy => ?_⟩, hk⟩
  · rw [hn]; exact hY.set 0 _
  · rw [hn, rcs_app]
    exact ⟨hb.set_ne hY (by decide) 0 _, hb2, hg.new b2.below.size b2.new⟩
  · rcases List.mem_append.1 hy with h1 | h1
    · exact (hd y h1).ke hk hb2 (by decide) (by decide)
    · obtain rfl := List.mem_singleton.1 h1
      exact ⟨⟨hk.buf hf.buf (by decide), hb2, hf.new⟩, NBuf.nil hb2 _ _⟩

/-- the types that the parts' blocks have -/
abbrev Tp (T : TypeId) : Prop := T = 48 ∨ T = 77
/-- a part behind the others -/
theorem Pa.snoc {W0 wa w2 : World} {P : Nat} {ps : List (List Sm)} {s : List Sm} {A A2 sa : Option Addr} {sc c c2 : Nat} (h : Pa W0 P ps wa) (hA : Blk wa P 77 #[.slice A ps.length c]) (vs : List Value) (hvs : Buf wa 48 1 (.slice A ps.length c) ps.length vs) (hs : SmsAt W0 (.slice sa s.length sc) s)
    (hb : Buf w2 48 1 (.slice A2 (ps.length + 1) c2) (ps.length + 1) (vs ++ [.slice sa s.length sc])) (ha : Ap wa w2 1 (.slice A ps.length c)) (hg : Grew wa (.slice A ps.length c) (.slice A2 (ps.length + 1) c2)) (hat : ∀ (i : Nat) (x : List Sm), ps[i]? = some x → ∃ B d, vs[i]? = some (.slice B x.length d) ∧ SmsAt W0 (.slice B x.length d) x)
    (hnew : ∀ k, (Value.slice A ps.length c).ownBlock = some k → W0.heap.size ≤ k) (hB : Below W0.heap.size W0 wa) :
    Pa W0 P (ps ++ [s]) (w2.setCell ⟨P, 0, none⟩ (.slice A2 (ps.length + 1) c2)) ∧ Ke Tp wa (w2.setCell ⟨P, 0, none⟩ (.slice A2 (ps.length + 1) c2)) := by
  obtain ⟨_, hPn⟩ := h
  have hk1 : Ke Tp wa w2 := Ke.of_ap hvs ha (.inl rfl)
  have hbel : Below W0.heap.size W0 w2 := hB.trans (ha.below hB.size hnew)
  have hY : Blk w2 P 77 #[.slice A ps.length c] := hA.ap hvs ha (by decide)
  have hk2 : Ke Tp w2 (w2.setCell ⟨P, 0, none⟩ (.slice A2 (ps.length + 1) c2)) := Ke.of_set hY (.inr rfl) 0 _
  have hb2 : Below W0.heap.size W0 (w2.setCell ⟨P, 0, none⟩ (.slice A2 (ps.length + 1) c2)) := hbel.setCell (p := ⟨P, 0, none⟩) hPn _
  have hn : (ps ++ [s]).length = ps.length + 1 := by simp
  have hl : vs.length = ps.length := by have := hvs.len; omega
  refine ⟨⟨⟨A2, c2, vs ++ [.slice sa s.length sc], ?_, ?_, fun i x hx => ?_⟩, hPn⟩, hk1.trans hk2⟩
  · rw [hn]; exact hY.set 0 _
  · rw [hn]
    exact ⟨hb.set_ne hY (by decide) 0 _, hb2, hg.new hB.size hnew⟩
  · rcases Nat.lt_or_ge i ps.length with h1 | h1
    · rw [List.getElem?_append_left h1] at hx
      rw [List.getElem?_append_left (by omega)]
      exact hat i x hx
    · have hi : i = ps.length := by have := (List.getElem?_eq_some_iff.1 hx).1; omega
      subst hi
      rw [List.getElem?_append_right (Nat.le_refl _), Nat.sub_self] at hx
      injection hx with hx
      subst hx
      exact ⟨sa, sc, by rw [← hl, List.getElem?_append_right (Nat.le_refl _), Nat.sub_self]; rfl, hs⟩
end Go.Proofs.YtjklcojnbcemoaaGreatDoor

/-
  Layer 14: merge.Tables: tables in memory, what its loops keep.
-/
namespace Go.Proofs.YtjklcojnbcemoaaGreatDoor
open Go.RowKit Go.Bar Go.Bar.Leb Go.Bar.Lab Go.Bar.Xor Go.Bar.Mrg

/-- tables, a slice of slices -/
def TsAt (w : World) (v : Value) (tv : List (List Rv)) : Prop := ∃ vs : List Value, vs.length = tv.length ∧ SlAt w 1 v tv.length vs ∧ ∀ (i : Nat) (t : List Rv), tv[i]? = some t → ∃ A c, vs[i]? = some (.slice A t.length c) ∧ TbAt w (.slice A t.length c) t
section
variable {w w' : World} {v : Value} {t : List Rv} {tv : List (List Rv)}
theorem TsAt.below (h : TsAt w v tv) (hb : Below w.heap.size w w') : TsAt w' v tv := by
  obtain ⟨vs, h1, h2, h3⟩ := h
  refine ⟨vs, h1, h2.below hb, fun i t ht => ?_⟩
  obtain ⟨A, c, e, ha⟩ := h3 i t ht
  exact ⟨A, c, e, ha.below hb⟩
theorem TsAt.shape (h : TsAt w v tv) : ∃ A c, v = .slice A tv.length c ∧ tv.length ≤ c ∧ c ≤ maxLen := by
  obtain ⟨vs, h1, h2, h3⟩ := h
  exact h2.shape
theorem TsAt.at_ {A : Option Addr} {n c i : Nat} (h : TsAt w (.slice A n c) tv) (hi : tv[i]? = some t) : ∃ b o B d, A = some ⟨b, o, none⟩ ∧ w.cell? ⟨b, o + i, none⟩ = some (.slice B t.length d) ∧ TbAt w (.slice B t.length d) t := by
  obtain ⟨vs, h1, h2, h3⟩ := h
  have hlt : i < tv.length := (List.getElem?_eq_some_iff.1 hi).1
  obtain ⟨A', c', he, _⟩ := h2.shape
  injection he with e1 e2 e3
  subst e1; subst e2; subst e3
  obtain ⟨B, d, e, hs⟩ := h3 i t hi
  obtain ⟨b, o, rfl, hb, hc⟩ := SlAt.cells h2 (by omega)
  exact ⟨b, o, B, d, rfl, hc i _ e, hs⟩
theorem TsAt.at3 {A : Option Addr} {n c i : Nat} (h : TsAt w (.slice A n c) tv) (hi : tv[i]? = some t) : ∃ b o B d, A = some ⟨b, o, none⟩ ∧ ∀ w', Below w.heap.size w w' → w'.cell? ⟨b, o + i, none⟩ = some (.slice B t.length d) ∧ TbAt w' (.slice B t.length d) t := by
  obtain ⟨vs, h1, h2, h3⟩ := h
  have hlt : i < tv.length := (List.getElem?_eq_some_iff.1 hi).1
  obtain ⟨A', c', he, _⟩ := h2.shape
  injection he with e1 e2 e3
  subst e1; subst e2; subst e3
  obtain ⟨B, d, e, hs⟩ := h3 i t hi
  obtain ⟨b, o, rfl, hb, hc⟩ := SlAt.cells h2 (by omega)
  refine ⟨b, o, B, d, rfl, fun w' hw => ⟨?_, hs.below hw⟩⟩
  obtain ⟨b', o', he, _, hc'⟩ := SlAt.cells (h2.below hw) (by omega)
  injection he with he
  injection he with e1 e2 _
  subst e1; subst e2
  exact hc' i _ e
end

theorem inits_len (tv : List (List Rv)) : ∀ m, (inits tv m).length ≤ m
  | 0 => Nat.le_refl _
  | m + 1 => by
    have := inits_len tv m
    rw [inits_succ, List.length_append]
    have h2 : (curOf m (tv.getD m [])).length ≤ 1 := by
      cases tv.getD m [] with
      | nil => exact Nat.zero_le _
      | cons x t => exact Nat.le_refl _
    omega
theorem inits_none {tv : List (List Rv)} {k : Nat} (h : tv[k]? = some []) : inits tv (k + 1) = inits tv k := by
  rw [inits_succ, List.getD_eq_getElem?_getD, h]
  exact List.append_nil _
theorem inits_some {tv : List (List Rv)} {k : Nat} {x : Rv} {t : List Rv} (h : tv[k]? = some (x :: t)) : inits tv (k + 1) = inits tv k ++ [⟨k, 0, x⟩] := by
  rw [inits_succ, List.getD_eq_getElem?_getD, h]
  rfl
/-- the state behind the first k tables -/
def In (W0 : World) (Q : Nat) (tv : List (List Rv)) (k : Nat) (w : World) : Prop := ∃ n f A c, row n f = inits tv k ∧ Hs W0 Q n f A c w
theorem In.start {w w' : World} (h : Below w.heap.size w w') (Q : Nat) (hb : Blk w' Q 72 #[.slice none 0 0]) (hQ : w.heap.size ≤ Q) (tv : List (List Rv)) : In w Q tv 0 w' :=
  ⟨0, fun _ => ⟨0, 0, ⟨[], [], none, 0, none, 0⟩⟩, none, 0, rfl, hb, NBuf.nil h _ _, hQ, fun k hk => by omega⟩

/-- the table and the parts under way are the group under way -/
def Und (G : Grp) (l : List Rv) (ps : List (List Sm)) : Prop := (G = ⟨[], none⟩ ∧ l = [] ∧ ps = []) ∨ ∃ l0 x, l = l0 ++ [x] ∧ G = ⟨l0.map plR, some (x.ls, ps)⟩
/-- how many samples the events have -/
def tot (S : List Ev) : Nat := (S.map (fun x => x.1.2.length)).sum
theorem tot_snoc (S : List Ev) (x : Ev) : tot (S ++ [x]) = tot S + x.1.2.length := by unfold tot; rw [List.map_append, List.sum_append]; simp
theorem tot_perm {S T : List Ev} (h : S.Perm T) : tot S = tot T := (h.map _).sum_nat
theorem grp_cnt : ∀ S : List Ev, (grpOf S).done.length ≤ S.length ∧ ∀ L ps, (grpOf S).cur = some (L, ps) → (grpOf S).done.length + 1 ≤ S.length ∧ ps.length ≤ S.length ∧ ps.flatten.length ≤ tot S := by
  refine revRec ⟨Nat.le_refl _, fun _ _ h => by cases h⟩ fun S x ih => ?_
  rw [grpOf_snoc, List.length_append, tot_snoc]
  obtain ⟨g, hg⟩ : ∃ g, g = grpOf S := ⟨_, rfl⟩
  rw [← hg] at ih ⊢
  clear hg
  obtain ⟨h1, h2⟩ := ih
  obtain ⟨d, cur⟩ := g
  rcases cur with _ | ⟨L, ps⟩
  · have h1 : d.length ≤ S.length := h1
    refine ⟨Nat.le_succ_of_le h1, fun L ps he => ?_⟩
    have he : some (x.1.1, [x.1.2]) = some (L, ps) := he
    injection he with he
    injection he with _ he
    subst he
    refine ⟨Nat.succ_le_succ h1, by simp, by simp⟩
  · obtain ⟨a1, a2, a3⟩ := h2 L ps rfl
    have h1 : d.length ≤ S.length := h1
    have a1 : d.length + 1 ≤ S.length := a1
    show (if L = x.1.1 then _ else _ : Grp).done.length ≤ _ ∧ _
    by_cases e : L = x.1.1
    · have ea : (Grp.mk d (some (L, ps))).add x.1 = ⟨d, some (L, ps ++ [x.1.2])⟩ := if_pos e
      rw [ea, if_pos e]
      refine ⟨Nat.le_succ_of_le h1, fun L' ps' he => ?_⟩
      injection he with he
      injection he with _ he
      subst he
      refine ⟨Nat.le_succ_of_le a1, by simp; omega, ?_⟩
      rw [show (ps ++ [x.1.2]).flatten = ps.flatten ++ x.1.2 by simp, List.length_append]
      omega
    · have ea : (Grp.mk d (some (L, ps))).add x.1 = ⟨d ++ [(L, smp ps)], some (x.1.1, [x.1.2])⟩ := if_neg e
      rw [ea, if_neg e]
      refine ⟨by simp; omega, fun L' ps' he => ?_⟩
      injection he with he
      injection he with _ he
      subst he
      refine ⟨by simp; omega, by simp, by simp⟩
theorem Und.len {S : List Ev} {l : List Rv} {ps : List (List Sm)} (h : Und (grpOf S) l ps) : l.length ≤ S.length ∧ ps.length ≤ S.length ∧ ps.flatten.length ≤ tot S := by
  obtain ⟨g1, g2⟩ := grp_cnt S
  rcases h with ⟨_, rfl, rfl⟩ | ⟨l0, x, rfl, hG⟩
  · exact ⟨Nat.zero_le _, Nat.zero_le _, Nat.zero_le _⟩
  · rw [hG] at g2
    obtain ⟨a1, a2, a3⟩ := g2 _ _ rfl
    refine ⟨?_, a2, a3⟩
    have a1 : (l0.map plR).length + 1 ≤ _ := a1
    rw [List.length_map] at a1
    simpa using a1
theorem TI.len {tv : List (List Rv)} {S : List Ev} {cs : List Cu} (h : TI tv S cs) : S.length ≤ (evs (plT tv)).length ∧ tot S ≤ tot (evs (plT tv)) := by
  have h1 := h.perm.length_eq
  have h2 := tot_perm h.perm
  rw [List.length_append] at h1
  have h3 : tot (S ++ rem tv cs) = tot S + tot (rem tv cs) := by unfold tot; rw [List.map_append, List.sum_append]
  exact ⟨by omega, by omega⟩
theorem rem_len {tv : List (List Rv)} : ∀ {cs : List Cu}, (∀ q ∈ cs, (tv.getD q.tb [])[q.ix]? = some q.x) → cs.length ≤ (rem tv cs).length
  | [], _ => Nat.zero_le _
  | q :: cs, h => by
    show _ ≤ (remQ tv q ++ rem tv cs).length
    rw [remQ_adv (h q (List.mem_cons_self ..))]
    have := rem_len (cs := cs) fun p hp => h p (List.mem_cons_of_mem _ hp)
    simp
    omega
theorem TI.cnt {tv : List (List Rv)} {S : List Ev} {cs : List Cu} (h : TI tv S cs) : cs.length + S.length ≤ (evs (plT tv)).length := by
  have h1 := h.perm.length_eq
  rw [List.length_append] at h1
  have := rem_len h.at_
  omega
theorem evsK_mem : ∀ {ls : List (List Row)} {k : Nat} {t : List Row}, t ∈ ls → t.length ≤ (evsK k ls).length
  | r :: ls, k, t, h => by
    show _ ≤ (r.map (fun x => (x, k)) ++ evsK (k + 1) ls).length
    rw [List.length_append, List.length_map]
    rcases List.mem_cons.1 h with rfl | h
    · exact Nat.le_add_right _ _
    · have := evsK_mem (k := k + 1) h
      omega
theorem tab_len {tv : List (List Rv)} {t : List Rv} (h : t ∈ tv) : t.length ≤ (evs (plT tv)).length := by
  have := evsK_mem (k := 0) (List.mem_map_of_mem (f := fun t => t.map plR) h)
  rw [List.length_map] at this
  exact this
/-- does another row begin? -/
def newL (l : List Rv) (L : List Pr) : Bool := match l.getLast? with
  | none => true
  | some x => !decide (cmpL x.ls L = 0)
theorem newL_nil (L : List Pr) : newL [] L = true := rfl
theorem newL_snoc (l : List Rv) (x : Rv) (L : List Pr) : newL (l ++ [x]) L = !decide (cmpL x.ls L = 0) := by unfold newL; simp
theorem newL_at {l : List Rv} {n : Nat} {x : Rv} (L : List Pr) (h : l.length = n + 1) (hx : l[n]? = some x) : newL l L = !decide (cmpL x.ls L = 0) := by
  unfold newL
  rw [List.getLast?_eq_getElem?, h, Nat.add_sub_cancel, hx]
theorem add_new {G : Grp} {l : List Rv} {ps : List (List Sm)} {r : Row} (h : Und G l ps) (hn : newL l r.1 = true) : G.add r = ⟨G.flush, some (r.1, [r.2])⟩ := by
  rcases h with ⟨rfl, rfl, rfl⟩ | ⟨l0, x, rfl, rfl⟩
  · rfl
  · rw [newL_snoc] at hn
    have hne : x.ls ≠ r.1 := fun e => by rw [e, cmpL_self] at hn; cases hn
    exact if_neg hne
theorem add_old {G : Grp} {l : List Rv} {ps : List (List Sm)} {r : Row} (h : Und G l ps) (hn : newL l r.1 = false) : ∃ l0 x, l = l0 ++ [x] ∧ x.ls = r.1 ∧ G.add r = ⟨l0.map plR, some (x.ls, ps ++ [r.2])⟩ := by
  rcases h with ⟨rfl, rfl, rfl⟩ | ⟨l0, x, rfl, rfl⟩
  · cases hn
  · rw [newL_snoc] at hn
    have he : x.ls = r.1 := by
      refine cmpL_zero.1 ?_
      by_cases h : cmpL x.ls r.1 = 0
      · exact h
      · rw [decide_eq_false h] at hn; cases hn
    exact ⟨l0, x, rfl, he, if_pos he⟩
theorem flush_any (W0 wb : World) (O Q : Nat) (l : List Rv) (ps : List (List Sm)) (G : Grp) (ho : Ou W0 O l wb) (hp : Pa W0 Q ps wb) (hu : Und G l ps) (hl : l.length < 10000000) (h1 : ps.length ≤ 1000000) (h2 : ps.flatten.length ≤ 10000000) :
    Calls Tryz.prog 28 #[.pointer (some ⟨O, 0, none⟩), .pointer (some ⟨Q, 0, none⟩)] wb (fun e w' => e = .returned (.tuple #[]) ∧ ∃ l1, Ou W0 O l1 w' ∧ Pa W0 Q [] w' ∧ Ke To wb w' ∧ l1.map plR = G.flush ∧ l1.length = l.length) := by
  rcases hu with ⟨rfl, rfl, rfl⟩ | ⟨l0, x, rfl, rfl⟩
  · exact (flush0_any W0 wb O Q [] ho hp).mono fun e w' ⟨a1, a2, a3, a4⟩ => ⟨a1, [], a2, a3, a4, rfl, rfl⟩
  · rw [List.length_append] at hl
    refine (flush1_any W0 wb O Q l0 x ps ho hp (by omega) h1 h2).mono fun e w' ⟨a1, B, d, a2, a3, a4⟩ => ⟨a1, _, a2, a3, a4, ?_, by simp⟩
    rw [List.map_append]; rfl
theorem Ou.tb {W0 w : World} {O : Nat} {l : List Rv} (h : Ou W0 O l w) : ∃ A c, Blk w O 23 #[.slice A l.length c] ∧ NBuf W0 w 50 2 (.slice A l.length c) l.length (rcs l) ∧ TbAt w (.slice A l.length c) l := by
  obtain ⟨⟨A, c, h1, h2⟩, _, h3⟩ := h
  exact ⟨A, c, h1, h2, h2.slice, fun x hx => ⟨(h3 x hx).1.slice, (h3 x hx).2.slice⟩⟩
/-- the one popped is the least -/
theorem pop_least {n : Nat} {f g : Nat → Cu} (hp : (f 0 :: row n g).Perm (row (n + 1) f)) (h : Hp lsC 0 (n + 1) f) : ∀ p ∈ row n g, lsC p (f 0) = false := fun p hp1 => by
  have := hp.mem_iff.1 (List.mem_cons_of_mem _ hp1)
  unfold row at this
  obtain ⟨k, hk, rfl⟩ := List.mem_map.1 this
  exact h.least lsC_ord lsC_irr k k (Nat.le_refl _) (List.mem_range.1 hk)
theorem putAll_len : ∀ (xs l : List Sm), (putAll l xs).length ≤ l.length + xs.length
  | [], l => Nat.le_refl _
  | x :: xs, l => by
    have h1 := putAll_len xs (putS l x)
    have h2 : (putS l x).length ≤ l.length + 1 := by
      clear h1
      induction l with
      | nil => exact Nat.le_refl _
      | cons y r ih =>
        unfold putS
        split
        · exact Nat.le_succ _
        · split
          · exact Nat.le_refl _
          · exact Nat.succ_le_succ ih
    show (putAll (putS l x) xs).length ≤ _
    rw [List.length_cons]
    omega
theorem smp_len (ps : List (List Sm)) : (smp ps).length ≤ ps.flatten.length := by
  have := putAll_len ps.flatten []
  simpa [smp] using this
theorem grp_bound : ∀ S : List Ev, (∀ r ∈ (grpOf S).done, r.2.length ≤ tot S ∧ ∃ x ∈ S, x.1.1 = r.1) ∧ ∀ L ps, (grpOf S).cur = some (L, ps) → ∃ x ∈ S, x.1.1 = L := by
  refine revRec ⟨fun _ h => (by cases h), fun _ _ h => by cases h⟩ fun S x ih => ?_
  have hc := (grp_cnt S).2
  rw [grpOf_snoc, tot_snoc]
  obtain ⟨g, hg⟩ : ∃ g, g = grpOf S := ⟨_, rfl⟩
  rw [← hg] at ih hc ⊢
  clear hg
  obtain ⟨h1, h2⟩ := ih
  obtain ⟨d, cur⟩ := g
  have hd : ∀ r ∈ d, r.2.length ≤ tot S + x.1.2.length ∧ ∃ y ∈ S ++ [x], y.1.1 = r.1 := fun r hr => by
    obtain ⟨a, y, hy, e⟩ := h1 r hr
    exact ⟨by omega, y, List.mem_append_left _ hy, e⟩
  have hx : ∀ L ps, some (x.1.1, [x.1.2]) = some (L, ps) → ∃ y ∈ S ++ [x], y.1.1 = L := fun L ps he => by
    injection he with he
    injection he with e _
    exact ⟨x, by simp, e⟩
  rcases cur with _ | ⟨L, ps⟩
  · exact ⟨hd, hx⟩
  · obtain ⟨y, hy, e⟩ := h2 L ps rfl
    obtain ⟨_, _, a3⟩ := hc L ps rfl
    by_cases el : L = x.1.1
    · have ea : (Grp.mk d (some (L, ps))).add x.1 = ⟨d, some (L, ps ++ [x.1.2])⟩ := if_pos el
      rw [ea]
      refine ⟨hd, fun L' ps' he => ?_⟩
      injection he with he
      injection he with e1 _
      exact ⟨y, List.mem_append_left _ hy, e.trans e1⟩
    · have ea : (Grp.mk d (some (L, ps))).add x.1 = ⟨d ++ [(L, smp ps)], some (x.1.1, [x.1.2])⟩ := if_neg el
      rw [ea]
      refine ⟨fun r hr => ?_, hx⟩
      rcases List.mem_append.1 hr with hr | hr
      · exact hd r hr
      · obtain rfl := List.mem_singleton.1 hr
        have := smp_len ps
        exact ⟨by show (smp ps).length ≤ _; omega, y, List.mem_append_left _ hy, e⟩
theorem evsK_of : ∀ {ls : List (List Row)} {k : Nat} {x : Ev}, x ∈ evsK k ls → ∃ R ∈ ls, x.1 ∈ R
  | r :: ls, k, x, h => by
    rcases List.mem_append.1 (show x ∈ r.map (fun x => (x, k)) ++ evsK (k + 1) ls from h) with h | h
    · obtain ⟨y, hy, rfl⟩ := List.mem_map.1 h
      exact ⟨r, List.mem_cons_self .., hy⟩
    · obtain ⟨R, hR, hx⟩ := evsK_of h
      exact ⟨R, List.mem_cons_of_mem _ hR, hx⟩
/-- the table of tables: what it is, how great -/
structure FinTab (tv : List (List Rv)) (t : List Rv) : Prop where
  tabs : tabs (plT tv) (t.map plR)
  len : t.length ≤ (evs (plT tv)).length
  sams : ∀ x ∈ t, x.ss.length ≤ tot (evs (plT tv))
  labs : ∀ x ∈ t, ∃ r ∈ tv, ∃ y ∈ r, y.ls = x.ls
theorem FinTab.of {tv : List (List Rv)} {S : List Ev} {t : List Rv} (h : TI tv S []) (hr : ∀ t ∈ tv, Rls (t.map plR)) (ht : t.map plR = (grpOf S).flush) : FinTab tv t := by
  obtain ⟨hp, hs⟩ := h.done
  have hb := grp_bound S
  have hc := grp_cnt S
  have hl := hp.length_eq
  have htt := tot_perm hp
  have hall : ∀ r ∈ (grpOf S).flush, r.2.length ≤ tot S ∧ ∃ x ∈ S, x.1.1 = r.1 := fun r hr => by
    unfold Grp.flush at hr
    split at hr
    · exact hb.1 r hr
    · rename_i L ps hcur
      rcases List.mem_append.1 hr with hr | hr
      · exact hb.1 r hr
      · obtain rfl := List.mem_singleton.1 hr
        have h1 := smp_len ps
        have h2 := hc.2 L ps hcur
        exact ⟨by show (smp ps).length ≤ _; omega, hb.2 L ps hcur⟩
  refine ⟨?_, ?_, fun x hx => ?_, fun x hx => ?_⟩
  · rw [ht]
    exact grp_tabs (fun t ht => by
      obtain ⟨t', ht', rfl⟩ := List.mem_map.1 ht
      exact hr t' ht') hp hs
  · have h1 : (t.map plR).length ≤ S.length := by
      rw [ht]
      unfold Grp.flush
      split
      · exact hc.1
      · rename_i L ps hcur
        have := (hc.2 L ps hcur).1
        simp; omega
    rw [List.length_map] at h1
    omega
  · have := (hall (plR x) (ht ▸ List.mem_map_of_mem hx)).1
    rw [← htt]
    exact this
  · obtain ⟨y, hy, e⟩ := (hall (plR x) (ht ▸ List.mem_map_of_mem hx)).2
    obtain ⟨R, hR, hyR⟩ := evsK_of (hp.mem_iff.1 hy)
    obtain ⟨r, hr2, rfl⟩ := List.mem_map.1 hR
    obtain ⟨z, hz, e2⟩ := List.mem_map.1 hyR
    exact ⟨r, hr2, z, hz, by rw [← show (plR z).1 = z.ls from rfl, e2, e]; rfl⟩
/-- a table all of whose slices are new since W0 -/
def OwnT (W0 w : World) (v : Value) (t : List Rv) : Prop := NBuf W0 w 50 2 v t.length (rcs t) ∧ ∀ x ∈ t, Rd W0 w x
theorem OwnT.tb {W0 w : World} {v : Value} {t : List Rv} (h : OwnT W0 w v t) : TbAt w v t := ⟨h.1.slice, fun x hx => ⟨(h.2 x hx).1.slice, (h.2 x hx).2.slice⟩⟩
/-- what Tables comes to: nothing of it was there before -/
def RetTabO (w : World) (tv : List (List Rv)) (e : Ending) (w' : World) : Prop := ∃ v t, e = .returned v ∧ OwnT w w' v t ∧ FinTab tv t
/-- what Tables comes to -/
def RetTab (w : World) (tv : List (List Rv)) (e : Ending) (w' : World) : Prop := ∃ v t, e = .returned v ∧ Below w.heap.size w w' ∧ TbAt w' v t ∧ FinTab tv t
theorem RetTabO.tab {w w' : World} {tv : List (List Rv)} {e : Ending} (h : RetTabO w tv e w') : RetTab w tv e w' := by
  obtain ⟨v, t, rfl, h1, h2⟩ := h
  exact ⟨v, t, rfl, h1.1.below, h1.tb, h2⟩
/-- behind the 'if': a row under way with these labels -/
def Mid (W0 : World) (O P C : Nat) (q : Cu) (G : Grp) (w : World) : Prop := ∃ l0 x ps, Ou W0 O (l0 ++ [x]) w ∧ Pa W0 P ps w ∧ x.ls = q.x.ls ∧ Blk w C 74 #[.int .i64 q.tb, .int .i64 q.ix, .slice q.x.la q.x.ls.length q.x.lc, .slice q.x.sa q.x.ss.length q.x.sc] ∧
  G.add (plR q.x) = ⟨l0.map plR, some (x.ls, ps ++ [q.x.ss])⟩ ∧ ps.length ≤ 1000000
/-- another row begins -/
theorem Mid.new {W0 w5 wa w2 : World} {O P C Q n : Nat} {q : Cu} {G : Grp} {l1 : List Rv} {m : Nat} {A5 A6 A2 : Option Addr} {c5 c6 c2 : Nat} {g : Nat → Cu} {A' : Option Addr} {c' : Nat} (ho : Ou W0 O l1 w5) (hp : Pa W0 P [] w5) (hm : l1.length = m) (hC : Blk w5 C 74 #[.int .i64 q.tb, .int .i64 q.ix, .slice q.x.la q.x.ls.length q.x.lc, .slice q.x.sa q.x.ss.length q.x.sc]) (hH : Hs W0 Q n g A' c' w5) (hwa : Below w5.heap.size w5 wa)
    (hA : Blk w5 O 23 #[.slice A5 m c5]) (hf : NBuf W0 wa 84 2 (.slice A6 q.x.ls.length c6) q.x.ls.length (pcs q.x.ls)) (hb : Buf w2 50 2 (.slice A2 (m + 1) c2) (m + 1) (rcs l1 ++ [.slice A6 q.x.ls.length c6, .slice none 0 0])) (ha : Ap wa w2 2 (.slice A5 m c5)) (hg : Grew wa (.slice A5 m c5) (.slice A2 (m + 1) c2)) (hG : G.add (plR q.x) = ⟨l1.map plR, some (q.x.ls, [q.x.ss])⟩) :
    Mid W0 O P C q G (w2.setCell ⟨O, 0, none⟩ (.slice A2 (m + 1) c2)) ∧ Hs W0 Q n g A' c' (w2.setCell ⟨O, 0, none⟩ (.slice A2 (m + 1) c2)) := by
  subst hm
  have hbW := below_trans hH.buf.below hwa
  have k0 : Ke Tw w5 wa := Ke.of_below hwa
  have ho2 := ho.ke (Ts := Tq) (Ke.of_below hwa) hbW (by decide) (by decide) (by decide) (by decide)
  obtain ⟨s1, s2⟩ := ho2.snoc (hA.below hwa) hf hb ha hg
  have hbZ := s1.below
  refine ⟨⟨l1, _, [], s1, (hp.ke k0 hbW (by decide) (by decide)).ke s2 hbZ (by decide) (by decide), rfl, s2.blk (hC.below hwa) (by decide), hG, Nat.zero_le _⟩, (hH.below hwa).ke s2 hbZ (by decide) (by decide)⟩

theorem part_ty : ElemTy Tryz.prog 77 48 (.slice none 0 0) 1 24 :=
  ⟨Tryz.underlying77, info_parts (show (Tryz.prog.info? 48).map (fun i => (i.zero, i.size, i.bytes)) = some (some (.slice none 0 0), 1, 24) by kernel_rfl), rfl⟩
/-- behind the append to the parts: all that is under way -/
structure Tl (W0 : World) (O P C Q n : Nat) (g : Nat → Cu) (A' : Option Addr) (c' : Nat) (G : Grp) (l : List Rv) (ps : List (List Sm)) (cur : Array Value) (w : World) : Prop where
  ou : Ou W0 O l w
  pa : Pa W0 P ps w
  und : Und G l ps
  blk : Blk w C 74 cur
  hs : Hs W0 Q n g A' c' w
section
variable {W0 w w' : World} {O P C Q n : Nat} {g : Nat → Cu} {A' : Option Addr} {c' : Nat} {G : Grp} {l : List Rv} {ps : List (List Sm)} {cur : Array Value}
theorem Tl.below (h : Tl W0 O P C Q n g A' c' G l ps cur w) (hb : Below w.heap.size w w') : Tl W0 O P C Q n g A' c' G l ps cur w' :=
  have k : Ke Tq w w' := Ke.of_below hb
  have b := below_trans h.hs.buf.below hb
  ⟨h.ou.ke k b (by decide) (by decide) (by decide) (by decide), h.pa.ke k b (by decide) (by decide), h.und, h.blk.below hb, h.hs.below hb⟩
theorem Tl.setC (h : Tl W0 O P C Q n g A' c' G l ps cur w) (hC : W0.heap.size ≤ C) (hne : ∀ a, A' = some a → a.block ≠ C) (i : Nat) (u : Value) : Tl W0 O P C Q n g A' c' G l ps (cur.setIfInBounds i u) (w.setCell ⟨C, i, none⟩ u) :=
  have k : Ke Tq w (w.setCell ⟨C, i, none⟩ u) := Ke.of_set h.blk (.inl rfl) i u
  have b : Below W0.heap.size W0 (w.setCell ⟨C, i, none⟩ u) := h.hs.buf.below.setCell (p := ⟨C, i, none⟩) hC _
  have hk2 : Ke (fun T => T = 74) w (w.setCell ⟨C, i, none⟩ u) := Ke.of_set (Ts := fun T => T = 74) h.blk rfl i u
  have ho : (Value.slice A' n c').ownBlock ≠ some C := fun e => by
    rcases A' with _ | a
    · cases e
    · exact hne a rfl (by simpa [Value.ownBlock] using e)
  ⟨h.ou.ke k b (by decide) (by decide) (by decide) (by decide), h.pa.ke k b (by decide) (by decide), h.und, h.blk.set i u, hk2.blk h.hs.var (by decide), h.hs.buf.set_blk hC ho i u, h.hs.newQ, h.hs.rows⟩
theorem Tl.part {wa w2 : World} {l0 : List Rv} {x : Rv} {q : Cu} {m : Nat} {PA A2 : Option Addr} {pc c2 : Nat} {vs : List Value} (hO : Ou W0 O (l0 ++ [x]) w) (hP : Pa W0 P ps w) (hm : ps.length = m) (hadd : G = ⟨l0.map plR, some (x.ls, ps ++ [q.x.ss])⟩) (hC : Blk w C 74 cur) (hH : Hs W0 Q n g A' c' w) (hwa : Below w.heap.size w wa) (hA : Blk w P 77 #[.slice PA m pc])
    (hvs : NBuf W0 w 48 1 (.slice PA m pc) m vs) (hs : RAt W0 q.x) (hat : ∀ (i : Nat) (x : List Sm), ps[i]? = some x → ∃ B d, vs[i]? = some (.slice B x.length d) ∧ SmsAt W0 (.slice B x.length d) x)
    (hb : Buf w2 48 1 (.slice A2 (m + 1) c2) (m + 1) (vs ++ [.slice q.x.sa q.x.ss.length q.x.sc])) (ha : Ap wa w2 1 (.slice PA m pc)) (hg : Grew wa (.slice PA m pc) (.slice A2 (m + 1) c2)) :
    Tl W0 O P C Q n g A' c' G (l0 ++ [x]) (ps ++ [q.x.ss]) cur (w2.setCell ⟨P, 0, none⟩ (.slice A2 (m + 1) c2)) := by
  subst hm
  have hbW := below_trans hH.buf.below hwa
  have hPa : Pa W0 P ps wa := hP.ke (Ts := Tq) (Ke.of_below hwa) hbW (by decide) (by decide)
  obtain ⟨s1, s2⟩ := hPa.snoc (hA.below hwa) vs (hvs.buf.below hwa) hs.2 hb ha hg hat hvs.new hbW
  obtain ⟨⟨_, _, _, _, z, _⟩, _⟩ := id s1
  have hbZ := z.below
  have ho2 : Ou W0 O (l0 ++ [x]) wa := hO.ke (Ts := Tq) (Ke.of_below hwa) hbW (by decide) (by decide) (by decide) (by decide)
  exact ⟨ho2.ke s2 hbZ (by decide) (by decide) (by decide) (by decide), s1, .inr ⟨l0, x, rfl, hadd⟩, s2.blk (hC.below hwa) (by decide), (hH.below hwa).ke s2 hbZ (by decide) (by decide)⟩
end

/-- the loop's state, with k events left -/
def Ml (W0 : World) (Q O P : Nat) (tv : List (List Rv)) (w : World) (k : Nat) : Prop := ∃ n f A c S l ps, Hs W0 Q n f A c w ∧ Hp lsC 0 n f ∧ TI tv S (row n f) ∧ (rem tv (row n f)).length = k ∧ Ou W0 O l w ∧ Pa W0 P ps w ∧ Und (grpOf S) l ps
/-- the cursor's next row is laid -/
def FinT (W0 : World) (O P C Q n : Nat) (g : Nat → Cu) (A' : Option Addr) (c' : Nat) (G : Grp) (l : List Rv) (ps : List (List Sm)) (q : Cu) (y : Rv) (_vs : Nat → Value) (w' : World) : Prop := Tl W0 O P C Q n g A' c' G l ps #[.int .i64 q.tb, .int .i64 ((q.ix : Int) + 1), .slice y.la y.ls.length y.lc, .slice y.sa y.ss.length y.sc] w'
theorem FinT.of {W0 w wx : World} {O P C Q n : Nat} {g : Nat → Cu} {A' : Option Addr} {c' : Nat} {G : Grp} {l : List Rv} {ps : List (List Sm)} {q : Cu} {y : Rv} {c d : Value} (h : Tl W0 O P C Q n g A' c' G l ps #[.int .i64 q.tb, .int .i64 ((q.ix : Int) + 1), c, d] w) (hC : W0.heap.size ≤ C) (hne : ∀ a, A' = some a → a.block ≠ C) (hb : Below w.heap.size w wx) (vs : Nat → Value) :
    FinT W0 O P C Q n g A' c' G l ps q y vs ((wx.setCell ⟨C, 2, none⟩ (.slice y.la y.ls.length y.lc)).setCell ⟨C, 3, none⟩ (.slice y.sa y.ss.length y.sc)) := ((h.below hb).setC hC hne 2 _).setC hC hne 3 _

/-- a round ends: the table goes on -/
theorem Ml.push {W0 w w' : World} {O P C Q n : Nat} {g : Nat → Cu} {A' : Option Addr} {c' : Nat} {l : List Rv} {ps : List (List Sm)} {cur : Array Value} {tv : List (List Rv)} {S : List Ev} {q : Cu} {y : Rv} {h : Nat → Cu} {A2 : Option Addr} {c2 : Nat} (ht : Tl W0 O P C Q n g A' c' ((grpOf S).add (plR q.x)) l ps cur w)
    (hti : TI tv S (q :: row n g)) (hr : ∀ t ∈ tv, Rls (t.map plR)) (hle : ∀ p ∈ row n g, lsC p q = false) (hy : (tv.getD q.tb [])[q.ix + 1]? = some y) (hhp : Hp lsC 0 (n + 1) h) (hperm : (row (n + 1) h).Perm (⟨q.tb, q.ix + 1, y⟩ :: row n g)) (hH : Hs W0 Q (n + 1) h A2 c2 w') (hk : Kt w w') :
    ∃ k, Ml W0 Q O P tv w' k ∧ k < (rem tv (q :: row n g)).length := by
  have ha : adv tv q = [⟨q.tb, q.ix + 1, y⟩] := by unfold adv; rw [hy]
  have h1 := hti.step hr hle
  have h2 := hti.left
  rw [ha] at h1 h2
  have h3 := h1.of_perm hperm.symm
  have hke := hk.ke
  have hb := hH.buf.below
  refine ⟨_, ⟨n + 1, h, A2, c2, S ++ [evC q], l, ps, hH, hhp, h3, rfl, ht.ou.ke hke hb (by decide) (by decide) (by decide) (by decide), ht.pa.ke hke hb (by decide) (by decide), by rw [grpOf_snoc]; exact ht.und⟩, ?_⟩
  rw [(rem_perm tv hperm).length_eq]
  exact h2
/-- a round ends: the table has ended -/
theorem Ml.last {W0 w : World} {O P C Q n : Nat} {g : Nat → Cu} {A' : Option Addr} {c' : Nat} {l : List Rv} {ps : List (List Sm)} {cur : Array Value} {tv : List (List Rv)} {S : List Ev} {q : Cu} (ht : Tl W0 O P C Q n g A' c' ((grpOf S).add (plR q.x)) l ps cur w)
    (hti : TI tv S (q :: row n g)) (hr : ∀ t ∈ tv, Rls (t.map plR)) (hle : ∀ p ∈ row n g, lsC p q = false) (hy : (tv.getD q.tb [])[q.ix + 1]? = none) (hhp : Hp lsC 0 n g) :
    ∃ k, Ml W0 Q O P tv w k ∧ k < (rem tv (q :: row n g)).length := by
  have ha : adv tv q = [] := by unfold adv; rw [hy]
  have h1 := hti.step hr hle
  have h2 := hti.left
  rw [ha] at h1 h2
  exact ⟨_, ⟨n, g, A', c', S ++ [evC q], l, ps, ht.hs, hhp, h1, rfl, ht.ou, ht.pa, by rw [grpOf_snoc]; exact ht.und⟩, h2⟩
theorem Ml.start {W0 w : World} {Q n c : Nat} {f g : Nat → Cu} {A : Option Addr} {tv : List (List Rv)} (hrow : row n f = inits tv tv.length) (hp : PermOn 0 n f g) (hhp : Hp lsC 0 n g) (h : Hs W0 Q n g A c w) :
    Ml W0 Q w.heap.size (w.heap.size + 1) tv ((w.alloc (.cells #[.slice none 0 0] 23)).alloc (.cells #[.slice none 0 0] 77)) (rem tv (row n g)).length := by
  have b1 : Below w.heap.size w (w.alloc (.cells #[.slice none 0 0] 23)) := (Below.refl _ _).alloc (Nat.le_refl _) _
  have b2 : Below w.heap.size w ((w.alloc (.cells #[.slice none 0 0] 23)).alloc (.cells #[.slice none 0 0] 77)) := b1.alloc b1.size _
  have hW := h.buf.below
  have hti := TI.start tv
  rw [← hrow] at hti
  have e2 : (w.alloc (.cells #[.slice none 0 0] 23)).heap.size = w.heap.size + 1 := by simp
  refine ⟨n, g, A, c, [], [], [], h.below b2, hhp, hti.of_perm hp.perm.symm, rfl, ⟨⟨none, 0, (Blk.new _ _ _).alloc _, NBuf.nil (below_trans hW b2) _ _⟩, hW.size, fun x hx => by cases hx⟩, ⟨⟨none, 0, [], ?_, NBuf.nil (below_trans hW b2) _ _, fun i x hx => by cases hx⟩, Nat.le_succ_of_le hW.size⟩, .inl ⟨rfl, rfl, rfl⟩⟩
  rw [← e2]
  exact Blk.new _ _ _

end Go.Proofs.YtjklcojnbcemoaaGreatDoor
