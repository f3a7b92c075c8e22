/-
  Layer 2: FrameParts: a sum in any parts is that of all; of no bytes it is 0.
-/
import Derived.Test.YtmnakjjhphoopaaFrmL
import Derived.Test.YtmnakjjhphoopaaRows
import Derived.Test.YtmnakjjhphoopaaLib5
import Derived.Deep.RegionWith
import Derived.Deep.DeepCutAuto
namespace Go.Proofs.Ytmnakjjhphoopaa
open Go.RowKit Go.Bar Go.Bar.Leb Go.Bar.Frm Go.ChangeShapes Go.WideShapes Go.ChangeAt
open Go.ChangeMaps (open_string shut_string)

attribute [local go_sem ↓] Go.wp_at_zero Go.wp_at_succ

set_option maxHeartbeats 400000 in
set_option maxRecDepth 10000 in
theorem frameParts_walk (s0 : ByteArray) (hs0 : s0.size ≤ maxLen) (at0 : Int) (hat0 : (Lit.int .i64 at0).wf = true) (to0 : Int) (hto0 : (Lit.int .i64 to0).wf = true) (w : World) :
    Calls Try.prog 3 #[.string s0, .int .i64 at0, .int .i64 to0] w (RetBelow w (.bool true)) := by
  obtain ⟨ha1, ha2⟩ := bounds_i64 hat0
  obtain ⟨ht1, ht2⟩ := bounds_i64 hto0
  obtain ⟨l, hl⟩ : ∃ l, l = s0.data.toList.take 200 := ⟨_, rfl⟩
  have hlen : l.length ≤ 200 := by rw [hl]; exact List.length_take_le _ _
  have HL := Lib.hid hl
  clear hl hat0 hto0
  obtain ⟨p, hp⟩ : ∃ p : Nat, min (max at0 0) (l.length : Int) = p := ⟨(min (max at0 0) (l.length : Int)).toNat, by omega⟩
  have hpl : p ≤ l.length := by omega
  obtain ⟨q, hq⟩ : ∃ q : Nat, min (max to0 (p : Int)) (l.length : Int) = q := ⟨(min (max to0 (p : Int)) (l.length : Int)).toNat, by omega⟩
  have hql : q ≤ l.length := by omega
  have hpq : p ≤ q := by omega
  have hS1 : ∀ w, Calls Try.prog 21 #[.string (bs (l.take p))] w fun e w' => e = .returned (.int .u32 (sum (l.take p))) ∧ w = w' := fun w =>
    sum_any (bs (l.take p)) w (by rw [bs_size]; unfold maxLen; rw [List.length_take]; omega)
  have hM1 : ∀ w, Calls Try.prog 20 #[.int .u32 (sum (l.take p)), .string (bs ((l.drop p).take (q - p)))] w fun e w' => e = .returned (.int .u32 (sum (l.take q))) ∧ w = w' := fun w => by
    refine more_of (bs _) _ w (by rw [bs_size]; unfold maxLen; rw [List.length_take, List.length_drop]; omega) (sum_lt _) ?_
    rw [bs_data, more_sum]
    congr 1
    have : q = p + (q - p) := by omega
    conv => rhs; rw [this, List.take_add]
  have hM2 : ∀ w, Calls Try.prog 20 #[.int .u32 (sum (l.take q)), .string (bs (l.drop q))] w fun e w' => e = .returned (.int .u32 (sum l)) ∧ w = w' := fun w => by
    refine more_of (bs _) _ w (by rw [bs_size]; unfold maxLen; rw [List.length_drop]; omega) (sum_lt _) ?_
    rw [bs_data, more_sum, List.take_append_drop]
  have hS2 : ∀ w, Calls Try.prog 21 #[.string (bs l)] w fun e w' => e = .returned (.int .u32 (sum l)) ∧ w = w' := fun w => sum_any (bs l) w (by rw [bs_size]; unfold maxLen; omega)
  have hS3 : ∀ w, Calls Try.prog 21 #[.string { data := #[] }] w fun e w' => e = .returned (.int .u32 0) ∧ w = w' := fun w => by
    have := sum_any (bs []) w (by decide : 0 ≤ maxLen)
    rw [bs_data, sum_nil] at this
    exact this
  have HS1 := Lib.hid hS1
  have HM1 := Lib.hid hM1
  have HM2 := Lib.hid hM2
  have HS2 := Lib.hid hS2
  have HS3 := Lib.hid hS3
  have hl1 := slice_to (P := Try.prog) Try.underlying9 l p hpl
  have hl2 := slice_ft (P := Try.prog) Try.underlying9 l p q hpq hql
  have hl3 := slice_from (P := Try.prog) Try.underlying9 l q hql
  have HP := Lib.hid hp
  have HQ := Lib.hid hq
  clear hS1 hM1 hM2 hS2 hS3 hp hq
  go_enter Try.func3, Try.ntmps3
  go_wp2_with fail
  refine (cut_any s0 200 _ (by omega) (by omega) hs0).mono ?_
  rintro e w' ⟨rfl, rfl⟩
  rw [show ((200 : Int)).toNat = 200 from rfl, ← HL.out]
  go_upto_region 2 with fail
  go_cut [1] (fun s wx => s = .int .i64 p ∧ w = wx)
  case first =>
    go_wp2_with fail
    all_goals (go_meet; exact ⟨congrArg (Value.int .i64) (by have := HP.out; omega), rfl⟩)
  case rest =>
  obtain ⟨rfl, rfl⟩ := hcut
  go_upto_region 3 with fail
  go_cut [2] (fun s wx => s = .int .i64 q ∧ w = wx)
  case first =>
    go_wp2_with fail
    all_goals (go_meet; exact ⟨congrArg (Value.int .i64) (by have := HQ.out; omega), rfl⟩)
  case rest =>
  obtain ⟨rfl, rfl⟩ := hcut
  go_wp2_with fail
  refine wp_region_known [(0, .bool true), (5, .int .u32 (sum (l.take p))), (10, .int .u32 (sum (l.take q))), (14, .int .u32 (sum l)), (16, .int .u32 (sum l)), (20, .int .u32 0)] (by kernel_rfl) 43 (by kernel_rfl) rfl ?_
  repeat (first
    | (refine Chain.step (v := ?_) (a' := ?_) rfl rfl rfl ?_ ?_ ?_
       rotate_left 2
       focus (intro w; go_simp; try with_reducible rfl)
       focus (simp only [Act.put, List.setIfInBounds_toArray, List.set_cons_succ, List.set_cons_zero]; try rfl))
    | (refine Chain.call (a' := ?_) _ rfl rfl rfl (fun w hw => ?_) ?_ ?_
       rotate_left 1
       focus
         go_simp
         first
           | ((with_reducible refine (awake2_any _).mono ?_); exact (fun e w' ⟨h1, h2⟩ => by subst h1; exact ⟨rfl, h2⟩))
           | ((with_reducible refine (HS1.out _).mono ?_); exact (fun e w' ⟨h1, h2⟩ => by subst h1; subst h2; exact ⟨rfl, Below.refl _ _⟩))
           | ((with_reducible refine (HS2.out _).mono ?_); exact (fun e w' ⟨h1, h2⟩ => by subst h1; subst h2; exact ⟨rfl, Below.refl _ _⟩))
           | ((with_reducible refine (HS3.out _).mono ?_); exact (fun e w' ⟨h1, h2⟩ => by subst h1; subst h2; exact ⟨rfl, Below.refl _ _⟩))
           | ((with_reducible refine (HM1.out _).mono ?_); exact (fun e w' ⟨h1, h2⟩ => by subst h1; subst h2; exact ⟨rfl, Below.refl _ _⟩))
           | ((with_reducible refine (HM2.out _).mono ?_); exact (fun e w' ⟨h1, h2⟩ => by subst h1; subst h2; exact ⟨rfl, Below.refl _ _⟩))
       focus (simp only [Act.put, List.setIfInBounds_toArray, List.set_cons_succ, List.set_cons_zero]; try rfl)))
  refine Chain.end_ (fun w1 hw1 _ => ?_)
  go_wp2_with fail
  go_ret
  exact ⟨rfl, hw1⟩

set_option maxRecDepth 100000 in
theorem frameParts_lifted (os : Os) (started : os.Started) (H : Type) (enc : TypeId × Value → H) :
    ReturnsInHanded {} Try.checked os 3 .any (Rows.framePartsSpec.pre6 enc Try.prog Try.f3 Rows.framePartsRow.domain false) (Rows.framePartsSpec.post enc Try.prog Try.f3 false true false false) := by
  refine returnsInHanded_of_change_sized (C := Try.checked) law_own started (by kernel_rfl) Try.func3
    (ChangeSpec.witness6 (enc := enc) (C := Try.checked) false ⟨#[], #[.string ByteArray.empty, .int .i64 0, .int .i64 0], []⟩ 8 (by kernel_rfl) (by kernel_rfl) (by kernel_rfl) (by kernel_rfl)) ?_
  intro W base args ds gs before hval0 hW _ hsz0 _
  have hval : ∀ (j : Nat) t v, Try.f3.params[j]? = some t → args[j]? = some v → Value.okWide Try.prog W .any base t v := hval0
  have hsz : (DataW.weightsEach Try.prog (Try.f3.params.toList ++ Rows.framePartsSpec.plain.varTypes Try.prog) (ds ++ gs)).all (· ≤ reachBytes) = true := hsz0
  have hW' := hW
  obtain ⟨p, q, hA0, hV, rfl, _, _⟩ := hW
  have hA : DataW.TrodAll enc Try.prog W 0 (fun _ => true) true Try.f3.params.toList args.toList ds p := hA0
  rw [Try.params3] at hA hval hsz
  obtain ⟨v0, vs0, d0, ds0, p0, q0, hargs, rfl, rfl, h0, r0⟩ := trodAll_cons hA
  obtain ⟨v1, vs1, d1, ds1, p1, q1, rfl, rfl, rfl, h1, r1⟩ := trodAll_cons r0
  obtain ⟨v2, vs2, d2, ds2, p2, q2, rfl, rfl, rfl, h2, r2⟩ := trodAll_cons r1
  obtain ⟨rfl, rfl, rfl⟩ := trodAll_nil r2
  obtain rfl : args = #[v0, v1, v2] := by cases args; simp_all
  obtain ⟨rfl, rfl⟩ := trodVars_none hV
  obtain ⟨a0, rfl, rfl, rfl, w0⟩ := open_string Try.underlying9 (hval 0 9 v0 rfl rfl) h0
  obtain ⟨a1, rfl, rfl, rfl, w1⟩ := open_int Try.underlying3 (hval 1 3 v1 rfl rfl) h1
  obtain ⟨a2, rfl, rfl, rfl, w2⟩ := open_int Try.underlying3 (hval 2 3 v2 rfl rfl) h2
  refine (frameParts_walk a0 w0 a1 w1 a2 w2 W).mono fun e W' ⟨he, hb⟩ => ?_
  subst he
  exact ⟨_, rfl, law_post law_laid (by intro t ht; rw [Try.params3] at ht; simp only [List.mem_cons, List.not_mem_nil, or_false] at ht; rcases ht with rfl | rfl | rfl <;> exact ⟨by kernel_rfl, of_decide_eq_true (by kernel_rfl)⟩) rfl Try.underlying4 rfl rfl hW' hb⟩

theorem frameParts_holds : Rows.FramePartsSaid :=
  OpenClaim.holds_of_wide 3 Try.f3 rfl rfl rfl rfl rfl rfl rfl ⟨rfl, rfl, rfl, rfl, rfl⟩ rfl rfl rfl rfl rfl (by kernel_rfl) Try.func3 (by kernel_rfl)
    (of_decide_eq_true (by kernel_rfl)) (by unfold Func.isWrapper; first | (rw [if_pos (by decide +kernel)]; kernel_rfl) | (rw [if_neg (by decide +kernel)]; exact ⟨rfl, rfl⟩))
    (fun os started H enc _ => frameParts_lifted os started H enc)

end Go.Proofs.Ytmnakjjhphoopaa
