/-
  Layer 16: the walk of take: an entry at the beginning of a text.
-/
import Derived.Test.YtgabmfibfikdbaaGreatDoorZLib19
import Derived.Test.YtgabmfibfikdbaaGreatDoorZBokB
import Derived.Test.YtgabmfibfikdbaaGreatDoorZLabE
import Derived.Test.YtgabmfibfikdbaaGreatDoorZLib6
import Derived.Test.YtgabmfibfikdbaaGreatDoorZLib11
import Derived.Test.YtgabmfibfikdbaaGreatDoorZLabU

namespace Go.Proofs.YtgabmfibfikdbaaGreatDoor
open Go.RowKit Go.Bar Go.Bar.Leb Go.Bar.Lab Go.Bar.Xor Go.Bar.Mrg Go.Bar.Met Go.Bar.Bok

/-- an entry taken, what is left, an error; its labels in a buffer of the call's own -/
def RetE (Tp : TypeId) (w : World) (R : En × List UInt8 × Nat) (e : Ending) (w' : World) : Prop :=
  ∃ x : Ev, e = .returned (.tuple #[.agg #[.slice x.la x.ls.length x.lc, .int .i64 x.fr, .int .i64 x.n, .int .i64 x.mn, .int .i64 x.mx], .string (bs R.2.1), .int .i64 (R.2.2 : Nat)]) ∧ plE x = R.1 ∧ NBuf w w' Tp 2 (.slice x.la x.ls.length x.lc) x.ls.length (pcs x.ls)
/-- no labels, no numbers -/
def Ev.z : Ev := ⟨[], none, 0, 0, 0, 0, 0⟩
theorem RetE.no {Tp : TypeId} {w w' : World} {e : Nat} (h : Below w.heap.size w w') : RetE Tp w (En.z, [], e) (.returned (.tuple #[.agg #[.slice none 0 0, .int .i64 0, .int .i64 0, .int .i64 0, .int .i64 0], .string (bs []), .int .i64 (e : Nat)])) w' := ⟨Ev.z, rfl, rfl, NBuf.nil h _ _⟩
theorem most4_0 (w : World) : (Instr.index 23 (.agg #[.int .i64 1048576, .int .i64 1048576, .int .i64 1099511627776, .int .i64 1099511627776]) (.int .i64 0)).run Tryz.prog w = .ok (.int .i64 1048576) w := by kernel_rfl
theorem most4_1 (w : World) : (Instr.index 23 (.agg #[.int .i64 1048576, .int .i64 1048576, .int .i64 1099511627776, .int .i64 1099511627776]) (.int .i64 1)).run Tryz.prog w = .ok (.int .i64 1048576) w := by kernel_rfl
theorem most4_2 (w : World) : (Instr.index 23 (.agg #[.int .i64 1048576, .int .i64 1048576, .int .i64 1099511627776, .int .i64 1099511627776]) (.int .i64 2)).run Tryz.prog w = .ok (.int .i64 1099511627776) w := by kernel_rfl
theorem most4_3 (w : World) : (Instr.index 23 (.agg #[.int .i64 1048576, .int .i64 1048576, .int .i64 1099511627776, .int .i64 1099511627776]) (.int .i64 3)).run Tryz.prog w = .ok (.int .i64 1099511627776) w := by kernel_rfl

/-- numbers in an array, as far as they are known -/
abbrev nums (ns : List Nat) : Array Value := #[.int .i64 (ns.getD 0 0 : Nat), .int .i64 (ns.getD 1 0 : Nat), .int .i64 (ns.getD 2 0 : Nat), .int .i64 (ns.getD 3 0 : Nat)]
theorem nums_set {w : World} {B : Nat} {ns : List Nat} {k q : Nat} (h : Blk w B 23 ((nums ns).setIfInBounds k (.int .i64 (q : Nat)))) (hk : ns.length = k) : Blk w B 23 (nums (ns ++ [q])) := by
  have e : (nums ns).setIfInBounds k (.int .i64 (q : Nat)) = nums (ns ++ [q]) ∨ 4 ≤ k := by
    match ns, hk with
    | [], hk => subst hk; exact .inl rfl
    | [a], hk => subst hk; exact .inl rfl
    | [a, b], hk => subst hk; exact .inl rfl
    | [a, b, c], hk => subst hk; exact .inl rfl
    | a :: b :: c :: d :: r, hk => exact .inr (by simp at hk; omega)
  rcases e with e | e
  · rw [e] at h; exact h
  · have e1 : (nums ns).setIfInBounds k (.int .i64 (q : Nat)) = nums ns := by
      rw [Array.setIfInBounds_eq_of_size_le]
      exact e
    rw [e1] at h
    have e2 : nums ns = nums (ns ++ [q]) := by
      have g : ∀ i, i < 4 → ns.getD i 0 = (ns ++ [q]).getD i 0 := fun i hi => by
        rw [List.getD_eq_getElem?_getD, List.getD_eq_getElem?_getD, List.getElem?_append_left (by omega)]
      unfold nums
      rw [g 0 (by omega), g 1 (by omega), g 2 (by omega), g 3 (by omega)]
    rw [← e2]; exact h

set_option maxHeartbeats 16000000 in
set_option maxRecDepth 10000 in
theorem ktake_any (s : List UInt8) (w : World) (hs : s.length ≤ 1000000000000) :
    Calls Tryz.prog 37 #[.string (bs s)] w (RetE 128 w (tEn s)) := by
  have htk := fun w => take_any s w hs
  have hsl := take_le s
  obtain ⟨R, hR⟩ : ∃ R, R = tEn s := ⟨_, rfl⟩
  rw [← hR]
  have HR := Lib.hid hR
  have HTK := Lib.hid htk
  clear htk hR
  go_enter Tryz.func37, Tryz.ntmps37
  go_wp2_with fail
  have X1 := Blk.new w #[.slice none 0 0, .int .i64 0, .int .i64 0, .int .i64 0, .int .i64 0] 45
  have Y1 := Blk.new (w.alloc (.cells #[.slice none 0 0, .int .i64 0, .int .i64 0, .int .i64 0, .int .i64 0] 45)) #[.slice none 0 0, .int .i64 0, .int .i64 0, .int .i64 0, .int .i64 0] 45
  have b1 := below_trans (below_al w (.cells #[.slice none 0 0, .int .i64 0, .int .i64 0, .int .i64 0, .int .i64 0] 45)) (below_al _ (.cells #[.slice none 0 0, .int .i64 0, .int .i64 0, .int .i64 0, .int .i64 0] 45))
  have X1 := X1.alloc (.cells #[.slice none 0 0, .int .i64 0, .int .i64 0, .int .i64 0, .int .i64 0] 45)
  rw [show (w.alloc (.cells #[.slice none 0 0, .int .i64 0, .int .i64 0, .int .i64 0, .int .i64 0] 45)).heap.size = w.heap.size + 1 by simp] at Y1
  refine (HTK.out _).mono ?_
  rintro e w1 ⟨v, l, r, c, htk, rfl, hnb⟩
  have X2 := X1.below hnb.below
  have Y2 := Y1.below hnb.below
  have hb2 := below_trans b1 hnb.below
  have hn2 := hnb.after b1
  obtain ⟨X, hX⟩ : ∃ X, X = w.heap.size := ⟨_, rfl⟩
  rw [← hX] at X2 Y2 ⊢
  have hXw : w.heap.size ≤ X := by omega
  have hYw : w.heap.size ≤ X + 1 := by omega
  rw [htk] at hsl
  dsimp only at hsl
  clear X1 Y1 b1 hnb HTK hX
  obtain ⟨vA, vc, rfl, hvc⟩ := hn2.buf.shape
  by_cases hc : c = 0
  · subst hc
    obtain ⟨y0, y1, y2, y3, y4⟩ := Y2.c5
    have yf := Y2.free 0
    go_upto_region 7 with fail
    have LS := hn2.set_ne Y2 (by decide) hYw 0 (.slice vA l.length vc)
    have XS := X2.other (show X ≠ X + 1 by omega) 0 (.slice vA l.length vc)
    have YS := Y2.set 0 (.slice vA l.length vc)
    obtain ⟨ws, hws⟩ : ∃ ws, ws = w1.setCell ⟨X + 1, 0, none⟩ (.slice vA l.length vc) := ⟨_, rfl⟩
    rw [← hws] at LS XS YS ⊢
    have HL3 := Lib.hid (LS.alloc (.cells #[.int .i64 0, .int .i64 0, .int .i64 0, .int .i64 0] 23))
    have HX3 := Lib.hid (XS.alloc (.cells #[.int .i64 0, .int .i64 0, .int .i64 0, .int .i64 0] 23))
    have HY3 := Lib.hid (YS.alloc (.cells #[.int .i64 0, .int .i64 0, .int .i64 0, .int .i64 0] 23))
    have HN3 := Lib.hid (Blk.new ws #[.int .i64 0, .int .i64 0, .int .i64 0, .int .i64 0] 23)
    have hsz : ws.heap.size = w1.heap.size := by rw [hws]; simp
    obtain ⟨NB, hNB⟩ : ∃ NB, NB = w1.heap.size := ⟨_, rfl⟩
    have hNX : X + 1 < NB := by rw [hNB, ← hsz]; exact YS.lt
    have hNBw : w.heap.size ≤ NB := by omega
    obtain ⟨w3, hw3⟩ : ∃ w3, w3 = ws.alloc (.cells #[.int .i64 0, .int .i64 0, .int .i64 0, .int .i64 0] 23) := ⟨_, rfl⟩
    rw [← hw3] at HL3 HX3 HY3 HN3 ⊢
    rw [hsz, ← hNB] at HN3
    rw [← hNB]
    have hbad : ∀ e2 : Nat, 0 < e2 → tN mosts r = ([], [], e2) → R = (En.z, [], e2) := fun e2 he hg => by
      rw [HR.out]
      unfold tEn
      rw [htk]
      simp only
      rw [if_neg (by omega), hg]
      simp only
      rw [if_pos (by omega)]
    have HBAD := Lib.hid hbad
    have hgood : ∀ (ns : List Nat) (r' : List UInt8), tN mosts r = (ns, r', 0) → R = if ns.getD 1 0 = 0 ∨ ns.getD 3 0 < ns.getD 2 0 then (En.z, [], 3) else (⟨l, ns.getD 0 0, ns.getD 1 0, ns.getD 2 0, ns.getD 3 0⟩, r', 0) := fun ns r' hg => by
      rw [HR.out]
      unfold tEn
      rw [htk]
      simp only
      rw [if_neg (by omega), hg]
      simp
    have HGOOD := Lib.hid hgood
    clear htk hbad hgood X2 Y2 hn2 hb2 LS XS YS hws hw3 hNB hsz y0 y1 y2 y3 y4 yf
    go_upto_region 8 with fail
    go_loopw [24, 0, 7] (fun i sv ev wr => ∃ (k : Nat) (ns : List Nat) (r' : List UInt8), i = .int .i64 k ∧ k ≤ 4 ∧ ns.length = k ∧ sv = .string (bs r') ∧ ev = .int .i64 0 ∧ r'.length ≤ r.length ∧ Hid (Blk wr X 45 #[.slice none 0 0, .int .i64 0, .int .i64 0, .int .i64 0, .int .i64 0]) ∧
      Hid (Blk wr (X + 1) 45 #[.slice vA l.length vc, .int .i64 0, .int .i64 0, .int .i64 0, .int .i64 0]) ∧ Hid (Blk wr NB 23 (nums ns)) ∧ Hid (NBuf w wr 128 2 (.slice vA l.length vc) l.length (pcs l)) ∧ Hid (tN mosts r = glue ns (tN (mosts.drop k) r'))) (fun i _ _ _ => 4 - (intOf i).toNat)
    case atStart => exact ⟨0, [], r, rfl, by omega, rfl, rfl, rfl, Nat.le_refl _, HX3, HY3, HN3, HL3, Lib.hid (by rw [List.drop_zero, glue_nil])⟩
    case round =>
      obtain ⟨k, ns, r', rfl, hk, hns, rfl, rfl, hrl, HX4, HY4, HN4, HL4, HG⟩ := hrel
      clear HX3 HY3 HN3 HL3
      rcases (show k = 0 ∨ k = 1 ∨ k = 2 ∨ k = 3 ∨ k = 4 by omega) with rfl | rfl | rfl | rfl | rfl
      -- ROUNDS
      · have hmk := most4_0
        obtain ⟨q, r2, e2, htm⟩ : ∃ q r2 e2, takeMost r' 1048576 = (q, r2, e2) := ⟨_, _, _, rfl⟩
        have hpr := (takeMost_prop r' 1048576 (by omega)).2.1
        rw [htm] at hpr
        have htc := fun w => takeMost_of (bs r') 1048576 htm w (by rw [bs_size]; unfold maxLen; omega) (by omega) (by omega)
        have HTC := Lib.hid htc
        have hgl := HG.out
        rw [show mosts.drop 0 = 1048576 :: [1048576, 1099511627776, 1099511627776] from rfl] at hgl
        have HGL := Lib.hid hgl
        have HTM := Lib.hid htm
        dsimp only at hpr
        clear htc hgl htm HG
        go_upto_region 11 with fail
        refine (HTC.out _).mono ?_
        rintro e w5 ⟨rfl, q5, rfl⟩
        have X5 := HX4.out.drewN q5
        have Y5 := HY4.out.drewN q5
        have N5 := HN4.out.drewN q5
        have L5 := HL4.out.drewN q5
        obtain ⟨n0, n1, n2, n3⟩ := N5.c4
        have nf := N5.free 0
        clear HX4 HY4 HN4 HL4 HTC
        rcases Nat.eq_zero_or_pos e2 with he | he
        · subst he
          have X6 := Lib.hid (X5.other (show X ≠ NB by omega) 0 (.int .i64 (q : Nat)))
          have Y6 := Lib.hid (Y5.other (show X + 1 ≠ NB by omega) 0 (.int .i64 (q : Nat)))
          have N6 := Lib.hid (N5.set 0 (.int .i64 (q : Nat)))
          have L6 := Lib.hid (L5.set_ne N5 (by decide) hNBw 0 (.int .i64 (q : Nat)))
          have hgs := glue_step (l := ns) (m := 1048576) (ms := [1048576, 1099511627776, 1099511627776]) (s := r') (by rw [HTM.out])
          rw [HTM.out, ← HGL.out] at hgs
          have HGS := Lib.hid hgs
          clear hgs X5 Y5 N5 L5 HGL HTM
          go_wp2_with fail
          go_roundw
          case rel => exact ⟨0 + 1, ns ++ [q], r2, by go_num, by omega, by rw [List.length_append, hns]; rfl, rfl, rfl, by omega, X6, Y6, Lib.hid (nums_set N6.out hns), L6, HGS⟩
          case measure => simp [intOf]
        · have hcz : ((e2 : Int) == 0) = false := by rw [beq_eq_false_iff_ne]; omega
          have hgb := glue_bad (l := ns) (m := 1048576) (ms := [1048576, 1099511627776, 1099511627776]) (s := r') (by rw [HTM.out]; exact Nat.ne_of_gt he)
          rw [HTM.out, ← HGL.out] at hgb
          have HRES := Lib.hid (HBAD.out e2 he hgb)
          obtain ⟨x0, x1, x2, x3, x4⟩ := (X5.other (show X ≠ NB by omega) 0 (.int .i64 (q : Nat))).c5
          have XF := X5.other (show X ≠ NB by omega) 0 (.int .i64 (q : Nat))
          have z0 := XF.free 0
          have z1 := XF.free 1
          have z2 := XF.free 2
          have z3 := XF.free 3
          have z4 := XF.free 4
          have HB := Lib.hid ((((((L5.below.setCell (p := ⟨NB, 0, none⟩) hNBw (.int .i64 (q : Nat))).setCell hXw (.slice none 0 0) (p := ⟨X, 0, none⟩)).setCell hXw (.int .i64 0) (p := ⟨X, 1, none⟩)).setCell hXw (.int .i64 0) (p := ⟨X, 2, none⟩)).setCell hXw (.int .i64 0) (p := ⟨X, 3, none⟩)).setCell hXw (.int .i64 0) (p := ⟨X, 4, none⟩))
          clear hgb X5 Y5 N5 L5 HGL HTM XF
          go_wp2_with fail
          refine bodyPost_ret (v := .tuple #[.agg #[.slice none 0 0, .int .i64 0, .int .i64 0, .int .i64 0, .int .i64 0], .string (bs []), .int .i64 (e2 : Nat)]) (by simp [results, Tryz.results37, go_sem, x0, x1, x2, x3, x4]; rfl) rfl ?_
          rw [HRES.out]
          exact RetE.no HB.out
      · have hmk := most4_1
        obtain ⟨q, r2, e2, htm⟩ : ∃ q r2 e2, takeMost r' 1048576 = (q, r2, e2) := ⟨_, _, _, rfl⟩
        have hpr := (takeMost_prop r' 1048576 (by omega)).2.1
        rw [htm] at hpr
        have htc := fun w => takeMost_of (bs r') 1048576 htm w (by rw [bs_size]; unfold maxLen; omega) (by omega) (by omega)
        have HTC := Lib.hid htc
        have hgl := HG.out
        rw [show mosts.drop 1 = 1048576 :: [1099511627776, 1099511627776] from rfl] at hgl
        have HGL := Lib.hid hgl
        have HTM := Lib.hid htm
        dsimp only at hpr
        clear htc hgl htm HG
        go_upto_region 11 with fail
        refine (HTC.out _).mono ?_
        rintro e w5 ⟨rfl, q5, rfl⟩
        have X5 := HX4.out.drewN q5
        have Y5 := HY4.out.drewN q5
        have N5 := HN4.out.drewN q5
        have L5 := HL4.out.drewN q5
        obtain ⟨n0, n1, n2, n3⟩ := N5.c4
        have nf := N5.free 1
        clear HX4 HY4 HN4 HL4 HTC
        rcases Nat.eq_zero_or_pos e2 with he | he
        · subst he
          have X6 := Lib.hid (X5.other (show X ≠ NB by omega) 1 (.int .i64 (q : Nat)))
          have Y6 := Lib.hid (Y5.other (show X + 1 ≠ NB by omega) 1 (.int .i64 (q : Nat)))
          have N6 := Lib.hid (N5.set 1 (.int .i64 (q : Nat)))
          have L6 := Lib.hid (L5.set_ne N5 (by decide) hNBw 1 (.int .i64 (q : Nat)))
          have hgs := glue_step (l := ns) (m := 1048576) (ms := [1099511627776, 1099511627776]) (s := r') (by rw [HTM.out])
          rw [HTM.out, ← HGL.out] at hgs
          have HGS := Lib.hid hgs
          clear hgs X5 Y5 N5 L5 HGL HTM
          go_wp2_with fail
          go_roundw
          case rel => exact ⟨1 + 1, ns ++ [q], r2, by go_num, by omega, by rw [List.length_append, hns]; rfl, rfl, rfl, by omega, X6, Y6, Lib.hid (nums_set N6.out hns), L6, HGS⟩
          case measure => simp [intOf]
        · have hcz : ((e2 : Int) == 0) = false := by rw [beq_eq_false_iff_ne]; omega
          have hgb := glue_bad (l := ns) (m := 1048576) (ms := [1099511627776, 1099511627776]) (s := r') (by rw [HTM.out]; exact Nat.ne_of_gt he)
          rw [HTM.out, ← HGL.out] at hgb
          have HRES := Lib.hid (HBAD.out e2 he hgb)
          obtain ⟨x0, x1, x2, x3, x4⟩ := (X5.other (show X ≠ NB by omega) 1 (.int .i64 (q : Nat))).c5
          have XF := X5.other (show X ≠ NB by omega) 1 (.int .i64 (q : Nat))
          have z0 := XF.free 0
          have z1 := XF.free 1
          have z2 := XF.free 2
          have z3 := XF.free 3
          have z4 := XF.free 4
          have HB := Lib.hid ((((((L5.below.setCell (p := ⟨NB, 1, none⟩) hNBw (.int .i64 (q : Nat))).setCell hXw (.slice none 0 0) (p := ⟨X, 0, none⟩)).setCell hXw (.int .i64 0) (p := ⟨X, 1, none⟩)).setCell hXw (.int .i64 0) (p := ⟨X, 2, none⟩)).setCell hXw (.int .i64 0) (p := ⟨X, 3, none⟩)).setCell hXw (.int .i64 0) (p := ⟨X, 4, none⟩))
          clear hgb X5 Y5 N5 L5 HGL HTM XF
          go_wp2_with fail
          refine bodyPost_ret (v := .tuple #[.agg #[.slice none 0 0, .int .i64 0, .int .i64 0, .int .i64 0, .int .i64 0], .string (bs []), .int .i64 (e2 : Nat)]) (by simp [results, Tryz.results37, go_sem, x0, x1, x2, x3, x4]; rfl) rfl ?_
          rw [HRES.out]
          exact RetE.no HB.out
      · have hmk := most4_2
        obtain ⟨q, r2, e2, htm⟩ : ∃ q r2 e2, takeMost r' 1099511627776 = (q, r2, e2) := ⟨_, _, _, rfl⟩
        have hpr := (takeMost_prop r' 1099511627776 (by omega)).2.1
        rw [htm] at hpr
        have htc := fun w => takeMost_of (bs r') 1099511627776 htm w (by rw [bs_size]; unfold maxLen; omega) (by omega) (by omega)
        have HTC := Lib.hid htc
        have hgl := HG.out
        rw [show mosts.drop 2 = 1099511627776 :: [1099511627776] from rfl] at hgl
        have HGL := Lib.hid hgl
        have HTM := Lib.hid htm
        dsimp only at hpr
        clear htc hgl htm HG
        go_upto_region 11 with fail
        refine (HTC.out _).mono ?_
        rintro e w5 ⟨rfl, q5, rfl⟩
        have X5 := HX4.out.drewN q5
        have Y5 := HY4.out.drewN q5
        have N5 := HN4.out.drewN q5
        have L5 := HL4.out.drewN q5
        obtain ⟨n0, n1, n2, n3⟩ := N5.c4
        have nf := N5.free 2
        clear HX4 HY4 HN4 HL4 HTC
        rcases Nat.eq_zero_or_pos e2 with he | he
        · subst he
          have X6 := Lib.hid (X5.other (show X ≠ NB by omega) 2 (.int .i64 (q : Nat)))
          have Y6 := Lib.hid (Y5.other (show X + 1 ≠ NB by omega) 2 (.int .i64 (q : Nat)))
          have N6 := Lib.hid (N5.set 2 (.int .i64 (q : Nat)))
          have L6 := Lib.hid (L5.set_ne N5 (by decide) hNBw 2 (.int .i64 (q : Nat)))
          have hgs := glue_step (l := ns) (m := 1099511627776) (ms := [1099511627776]) (s := r') (by rw [HTM.out])
          rw [HTM.out, ← HGL.out] at hgs
          have HGS := Lib.hid hgs
          clear hgs X5 Y5 N5 L5 HGL HTM
          go_wp2_with fail
          go_roundw
          case rel => exact ⟨2 + 1, ns ++ [q], r2, by go_num, by omega, by rw [List.length_append, hns]; rfl, rfl, rfl, by omega, X6, Y6, Lib.hid (nums_set N6.out hns), L6, HGS⟩
          case measure => simp [intOf]
        · have hcz : ((e2 : Int) == 0) = false := by rw [beq_eq_false_iff_ne]; omega
          have hgb := glue_bad (l := ns) (m := 1099511627776) (ms := [1099511627776]) (s := r') (by rw [HTM.out]; exact Nat.ne_of_gt he)
          rw [HTM.out, ← HGL.out] at hgb
          have HRES := Lib.hid (HBAD.out e2 he hgb)
          obtain ⟨x0, x1, x2, x3, x4⟩ := (X5.other (show X ≠ NB by omega) 2 (.int .i64 (q : Nat))).c5
          have XF := X5.other (show X ≠ NB by omega) 2 (.int .i64 (q : Nat))
          have z0 := XF.free 0
          have z1 := XF.free 1
          have z2 := XF.free 2
          have z3 := XF.free 3
          have z4 := XF.free 4
          have HB := Lib.hid ((((((L5.below.setCell (p := ⟨NB, 2, none⟩) hNBw (.int .i64 (q : Nat))).setCell hXw (.slice none 0 0) (p := ⟨X, 0, none⟩)).setCell hXw (.int .i64 0) (p := ⟨X, 1, none⟩)).setCell hXw (.int .i64 0) (p := ⟨X, 2, none⟩)).setCell hXw (.int .i64 0) (p := ⟨X, 3, none⟩)).setCell hXw (.int .i64 0) (p := ⟨X, 4, none⟩))
          clear hgb X5 Y5 N5 L5 HGL HTM XF
          go_wp2_with fail
          refine bodyPost_ret (v := .tuple #[.agg #[.slice none 0 0, .int .i64 0, .int .i64 0, .int .i64 0, .int .i64 0], .string (bs []), .int .i64 (e2 : Nat)]) (by simp [results, Tryz.results37, go_sem, x0, x1, x2, x3, x4]; rfl) rfl ?_
          rw [HRES.out]
          exact RetE.no HB.out
      · have hmk := most4_3
        obtain ⟨q, r2, e2, htm⟩ : ∃ q r2 e2, takeMost r' 1099511627776 = (q, r2, e2) := ⟨_, _, _, rfl⟩
        have hpr := (takeMost_prop r' 1099511627776 (by omega)).2.1
        rw [htm] at hpr
        have htc := fun w => takeMost_of (bs r') 1099511627776 htm w (by rw [bs_size]; unfold maxLen; omega) (by omega) (by omega)
        have HTC := Lib.hid htc
        have hgl := HG.out
        rw [show mosts.drop 3 = 1099511627776 :: [] from rfl] at hgl
        have HGL := Lib.hid hgl
        have HTM := Lib.hid htm
        dsimp only at hpr
        clear htc hgl htm HG
        go_upto_region 11 with fail
        refine (HTC.out _).mono ?_
        rintro e w5 ⟨rfl, q5, rfl⟩
        have X5 := HX4.out.drewN q5
        have Y5 := HY4.out.drewN q5
        have N5 := HN4.out.drewN q5
        have L5 := HL4.out.drewN q5
        obtain ⟨n0, n1, n2, n3⟩ := N5.c4
        have nf := N5.free 3
        clear HX4 HY4 HN4 HL4 HTC
        rcases Nat.eq_zero_or_pos e2 with he | he
        · subst he
          have X6 := Lib.hid (X5.other (show X ≠ NB by omega) 3 (.int .i64 (q : Nat)))
          have Y6 := Lib.hid (Y5.other (show X + 1 ≠ NB by omega) 3 (.int .i64 (q : Nat)))
          have N6 := Lib.hid (N5.set 3 (.int .i64 (q : Nat)))
          have L6 := Lib.hid (L5.set_ne N5 (by decide) hNBw 3 (.int .i64 (q : Nat)))
          have hgs := glue_step (l := ns) (m := 1099511627776) (ms := []) (s := r') (by rw [HTM.out])
          rw [HTM.out, ← HGL.out] at hgs
          have HGS := Lib.hid hgs
          clear hgs X5 Y5 N5 L5 HGL HTM
          go_wp2_with fail
          go_roundw
          case rel => exact ⟨3 + 1, ns ++ [q], r2, by go_num, by omega, by rw [List.length_append, hns]; rfl, rfl, rfl, by omega, X6, Y6, Lib.hid (nums_set N6.out hns), L6, HGS⟩
          case measure => simp [intOf]
        · have hcz : ((e2 : Int) == 0) = false := by rw [beq_eq_false_iff_ne]; omega
          have hgb := glue_bad (l := ns) (m := 1099511627776) (ms := []) (s := r') (by rw [HTM.out]; exact Nat.ne_of_gt he)
          rw [HTM.out, ← HGL.out] at hgb
          have HRES := Lib.hid (HBAD.out e2 he hgb)
          obtain ⟨x0, x1, x2, x3, x4⟩ := (X5.other (show X ≠ NB by omega) 3 (.int .i64 (q : Nat))).c5
          have XF := X5.other (show X ≠ NB by omega) 3 (.int .i64 (q : Nat))
          have z0 := XF.free 0
          have z1 := XF.free 1
          have z2 := XF.free 2
          have z3 := XF.free 3
          have z4 := XF.free 4
          have HB := Lib.hid ((((((L5.below.setCell (p := ⟨NB, 3, none⟩) hNBw (.int .i64 (q : Nat))).setCell hXw (.slice none 0 0) (p := ⟨X, 0, none⟩)).setCell hXw (.int .i64 0) (p := ⟨X, 1, none⟩)).setCell hXw (.int .i64 0) (p := ⟨X, 2, none⟩)).setCell hXw (.int .i64 0) (p := ⟨X, 3, none⟩)).setCell hXw (.int .i64 0) (p := ⟨X, 4, none⟩))
          clear hgb X5 Y5 N5 L5 HGL HTM XF
          go_wp2_with fail
          refine bodyPost_ret (v := .tuple #[.agg #[.slice none 0 0, .int .i64 0, .int .i64 0, .int .i64 0, .int .i64 0], .string (bs []), .int .i64 (e2 : Nat)]) (by simp [results, Tryz.results37, go_sem, x0, x1, x2, x3, x4]; rfl) rfl ?_
          rw [HRES.out]
          exact RetE.no HB.out
      -- ROUNDS END
      · obtain ⟨a, b, c, d, rfl⟩ : ∃ a b c d, ns = [a, b, c, d] := by
          match ns, hns with
          | [a, b, c, d], _ => exact ⟨a, b, c, d, rfl⟩
        have hRR := HGOOD.out [a, b, c, d] r' HG.out
        simp only [List.getD_cons_zero, List.getD_cons_succ] at hRR
        have HRR := Lib.hid hRR
        have HN5 := Lib.hid (show Blk wr NB 23 #[.int .i64 (a : Nat), .int .i64 (b : Nat), .int .i64 (c : Nat), .int .i64 (d : Nat)] from HN4.out)
        clear hRR HG HN4 HGOOD HBAD
        go_upto_region 14 with fail
        refine Dn.wp_region_states [(1, .int .i64 (a : Nat)), (3, .int .i64 (b : Nat)), (5, .int .i64 (c : Nat)), (7, .int .i64 (d : Nat)), (9, undef), (11, undef), (13, undef), (15, undef)]
          (fun D w' => Fr (fun k _ => k = X + 1) wr w' ∧ Sv (X + 1) 45 [(9, 1, .int .i64 (a : Nat)), (11, 2, .int .i64 (b : Nat)), (13, 3, .int .i64 (c : Nat)), (15, 4, .int .i64 (d : Nat))] #[.slice vA l.length vc, .int .i64 0, .int .i64 0, .int .i64 0, .int .i64 0] D w') (by kernel_rfl) 67 (by kernel_rfl) rfl
          (fun i D w' hi hx => ⟨hx.1, hx.2.same (by
            simp only [List.forall_mem_cons, List.not_mem_nil, false_imp_iff, implies_true, and_true]
            exact ⟨lookup_ne' rfl hi, lookup_ne' rfl hi, lookup_ne' rfl hi, lookup_ne' rfl hi⟩)⟩)
          ⟨Fr.of_below (Below.refl _ _).drew, Sv.start HY4.out.drew⟩ ?_
        repeat (first
          | (refine Dn.Chain.step (v := ?_) (a' := ?_) rfl rfl rfl ?_ ?_ ?_
             rotate_left 2
             focus (intro w; go_simp; try with_reducible rfl)
             focus (simp only [Act.put, List.setIfInBounds_toArray, List.set_cons_succ, List.set_cons_zero]; try rfl))
          | (refine Dn.Chain.call (a' := ?_) _ rfl rfl rfl (fun D wx hx hD hp => ?_) ?_ ?_
             rotate_left 1
             focus
               first
               | (obtain ⟨hf, hb⟩ := hx
                  have N := HN5.out.fr hf (fun i (e : NB = X + 1) => by omega)
                  obtain ⟨g0, g1, g2, g3⟩ := N.c4
                  clear N
                  go_simp
                  (repeat' (with_reducible apply And.intro)) <;> first | exact rfl | exact hf | exact hb.same (by simp))
               | (obtain ⟨hf, hb⟩ := hx
                  obtain ⟨u1, l1⟩ := hb.some_ (i := 1) (by simp)
                  have f1 := hb.free 1
                  go_simp
                  (repeat' (with_reducible apply And.intro)) <;> first | exact rfl | exact hf.setCell (fun _ => rfl) _ | exact hb.set (m := 9) (j := 1) (by simp) (by simp) (by simp))
               | (obtain ⟨hf, hb⟩ := hx
                  obtain ⟨u1, l1⟩ := hb.some_ (i := 2) (by simp)
                  have f1 := hb.free 2
                  go_simp
                  (repeat' (with_reducible apply And.intro)) <;> first | exact rfl | exact hf.setCell (fun _ => rfl) _ | exact hb.set (m := 11) (j := 2) (by simp) (by simp) (by simp))
               | (obtain ⟨hf, hb⟩ := hx
                  obtain ⟨u1, l1⟩ := hb.some_ (i := 3) (by simp)
                  have f1 := hb.free 3
                  go_simp
                  (repeat' (with_reducible apply And.intro)) <;> first | exact rfl | exact hf.setCell (fun _ => rfl) _ | exact hb.set (m := 13) (j := 3) (by simp) (by simp) (by simp))
               | (obtain ⟨hf, hb⟩ := hx
                  obtain ⟨u1, l1⟩ := hb.some_ (i := 4) (by simp)
                  have f1 := hb.free 4
                  go_simp
                  (repeat' (with_reducible apply And.intro)) <;> first | exact rfl | exact hf.setCell (fun _ => rfl) _ | exact hb.set (m := 15) (j := 4) (by simp) (by simp) (by simp))
             focus (simp only [Act.put, List.setIfInBounds_toArray, List.set_cons_succ, List.set_cons_zero]; try rfl))
          | (refine Dn.Chain.skip (a' := ?_) rfl rfl rfl ?_ ?_
             rotate_left 1
             focus (simp only [Act.put, List.setIfInBounds_toArray, List.set_cons_succ, List.set_cons_zero]; try rfl)))
        refine Dn.Chain.end_ (fun D w7 hDD hx => ?_)
        obtain ⟨hf7, hb7⟩ := hx
        have Y7 := hb7.end_ (by
          simp only [List.forall_mem_cons, List.not_mem_nil, false_imp_iff, implies_true, and_true]
          exact ⟨hDD 9 (by decide), hDD 11 (by decide), hDD 13 (by decide), hDD 15 (by decide)⟩) #[.slice vA l.length vc, .int .i64 (a : Nat), .int .i64 (b : Nat), .int .i64 (c : Nat), .int .i64 (d : Nat)] rfl (fun i hi => by
          match i, hi with
          | 0, _ => rfl
          | 1, _ => rfl
          | 2, _ => rfl
          | 3, _ => rfl
          | 4, _ => rfl
          | i + 5, hi => exact absurd hi (by simp))
        have X7 := HX4.out.fr hf7 (fun i (e : X = X + 1) => by omega)
        have L7 := HL4.out.fr_ne HY4.out (by decide) hYw hf7
        clear hf7 hb7 hDD HX4 HY4 HN5 HL4
        obtain ⟨y0, y1, y2, y3, y4⟩ := Y7.c5
        by_cases hb0 : b = 0
        · subst hb0
          have hRR := HRR.out
          rw [if_pos (.inl rfl)] at hRR
          have HRES := Lib.hid hRR
          obtain ⟨x0, x1, x2, x3, x4⟩ := X7.c5
          have z0 := X7.free 0
          have z1 := X7.free 1
          have z2 := X7.free 2
          have z3 := X7.free 3
          have z4 := X7.free 4
          have HB := Lib.hid (((((L7.below.setCell hXw (.slice none 0 0) (p := ⟨X, 0, none⟩)).setCell hXw (.int .i64 0) (p := ⟨X, 1, none⟩)).setCell hXw (.int .i64 0) (p := ⟨X, 2, none⟩)).setCell hXw (.int .i64 0) (p := ⟨X, 3, none⟩)).setCell hXw (.int .i64 0) (p := ⟨X, 4, none⟩))
          clear hRR X7 L7 Y7 HRR
          go_wp2_with fail
          refine bodyPost_ret (v := .tuple #[.agg #[.slice none 0 0, .int .i64 0, .int .i64 0, .int .i64 0, .int .i64 0], .string (bs []), .int .i64 3]) (by simp [results, Tryz.results37, go_sem, x0, x1, x2, x3, x4]; rfl) rfl ?_
          rw [HRES.out]
          exact RetE.no HB.out
        · have hbz : ((b : Int) == 0) = false := by rw [beq_eq_false_iff_ne]; omega
          by_cases hcd : d < c
          · have hRR := HRR.out
            rw [if_pos (.inr hcd)] at hRR
            have hd : decide ((d : Int) < (c : Int)) = true := decide_eq_true (by omega)
            have hd2 : (d : Int) < (c : Int) := by omega
            clear hcd hb0
            have HRES := Lib.hid hRR
            obtain ⟨x0, x1, x2, x3, x4⟩ := X7.c5
            have z0 := X7.free 0
            have z1 := X7.free 1
            have z2 := X7.free 2
            have z3 := X7.free 3
            have z4 := X7.free 4
            have HB := Lib.hid (((((L7.below.setCell hXw (.slice none 0 0) (p := ⟨X, 0, none⟩)).setCell hXw (.int .i64 0) (p := ⟨X, 1, none⟩)).setCell hXw (.int .i64 0) (p := ⟨X, 2, none⟩)).setCell hXw (.int .i64 0) (p := ⟨X, 3, none⟩)).setCell hXw (.int .i64 0) (p := ⟨X, 4, none⟩))
            clear hRR X7 L7 Y7 HRR
            go_wp2_with fail
            refine bodyPost_ret (v := .tuple #[.agg #[.slice none 0 0, .int .i64 0, .int .i64 0, .int .i64 0, .int .i64 0], .string (bs []), .int .i64 3]) (by simp [results, Tryz.results37, go_sem, x0, x1, x2, x3, x4]; rfl) rfl ?_
            rw [HRES.out]
            exact RetE.no HB.out
          · have hRR := HRR.out
            rw [if_neg (by omega)] at hRR
            have hd : decide ((d : Int) < (c : Int)) = false := decide_eq_false (by omega)
            have hd2 : ¬ ((d : Int) < (c : Int)) := by omega
            have HRES := Lib.hid hRR
            obtain ⟨x0, x1, x2, x3, x4⟩ := X7.c5
            have z0 := X7.free 0
            have z1 := X7.free 1
            have z2 := X7.free 2
            have z3 := X7.free 3
            have z4 := X7.free 4
            have HNF := Lib.hid (((((L7.set_ne X7 (by decide) hXw 0 (.slice vA l.length vc)).set_ne (X7.set _ _) (by decide) hXw 1 (.int .i64 (a : Nat))).set_ne ((X7.set _ _).set _ _) (by decide) hXw 2 (.int .i64 (b : Nat))).set_ne (((X7.set _ _).set _ _).set _ _) (by decide) hXw 3 (.int .i64 (c : Nat))).set_ne ((((X7.set _ _).set _ _).set _ _).set _ _) (by decide) hXw 4 (.int .i64 (d : Nat)))
            clear hRR X7 L7 Y7 HRR hcd hb0
            go_wp2_with fail
            refine bodyPost_ret (v := .tuple #[.agg #[.slice vA l.length vc, .int .i64 (a : Nat), .int .i64 (b : Nat), .int .i64 (c : Nat), .int .i64 (d : Nat)], .string (bs r'), .int .i64 0]) (by simp [results, Tryz.results37, go_sem, x0, x1, x2, x3, x4]) rfl ?_
            rw [HRES.out]
            exact ⟨⟨l, vA, vc, a, b, c, d⟩, rfl, rfl, HNF.out⟩
  · have hcz : ((c : Int) == 0) = false := by rw [beq_eq_false_iff_ne]; omega
    have hres : R = (En.z, [], c) := by
      rw [HR.out]
      unfold tEn
      rw [htk, if_pos hc]
    have HRES := Lib.hid hres
    obtain ⟨x0, x1, x2, x3, x4⟩ := X2.c5
    have z0 := X2.free 0
    have z1 := X2.free 1
    have z2 := X2.free 2
    have z3 := X2.free 3
    have z4 := X2.free 4
    have HB := Lib.hid (((((hb2.setCell hXw (.slice none 0 0) (p := ⟨X, 0, none⟩)).setCell hXw (.int .i64 0) (p := ⟨X, 1, none⟩)).setCell hXw (.int .i64 0) (p := ⟨X, 2, none⟩)).setCell hXw (.int .i64 0) (p := ⟨X, 3, none⟩)).setCell hXw (.int .i64 0) (p := ⟨X, 4, none⟩))
    clear htk hres X2 Y2 hn2 hb2 hc
    go_wp2_with fail
    refine bodyPost_ret (v := .tuple #[.agg #[.slice none 0 0, .int .i64 0, .int .i64 0, .int .i64 0, .int .i64 0], .string (bs []), .int .i64 (c : Nat)]) (by simp [results, Tryz.results37, go_sem, x0, x1, x2, x3, x4]; rfl) rfl ?_
    rw [HRES.out]
    exact RetE.no HB.out
end Go.Proofs.YtgabmfibfikdbaaGreatDoor
