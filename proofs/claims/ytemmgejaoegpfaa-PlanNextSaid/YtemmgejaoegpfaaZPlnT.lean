/-
  Layer 20: the walk of the document's Next.
-/
import Derived.Test.YtemmgejaoegpfaaZPlnS
import Derived.Test.YtemmgejaoegpfaaZPlnK

namespace Go.Proofs.Ytemmgejaoegpfaa
open Go.RowKit Go.Bar Go.Bar.Leb Go.Bar.Frm Go.Bar.Idt Go.Bar.Met Go.Bar.Pln

/-- the free ones, from the document's listing -/
theorem free_bls (at_ : Int) (v : Value) (l : List Mt) (mk : Marks) (w0 w : World) (hw0 : Below w0.heap.size w0 w) (h : BlsAt w0 w v l mk) (hl : Lst l) (hn : (srcs l).length ≤ 1000000000) (hm : ∀ id z, mk id = some z → 0 ≤ z) :
    Calls Try.prog 15 #[.agg #[.int .i64 at_, v]] w (RetM9 w0 w (free l mk)) := by
  obtain ⟨ts, hts, hs, hma, hx⟩ := h
  subst hts
  refine free_any20 at_ v ts mk w0 w hw0 ⟨hs, hma⟩ (by have := hl.len; simpa using this) hn (fun x hx' => ?_)
  rw [hx x hx']
  rcases hk : mk x.1.m.id with _ | z
  · simp
  · have := hm _ _ hk
    simp [this]
/-- a plan found, or none -/
def RetN20 (w : World) (o : Option Pl) (e : Ending) (w' : World) : Prop := ∃ v, e = .returned (.tuple #[plV (o.getD pl0) v, .bool o.isSome]) ∧ NMs w w w' 67 v (o.getD pl0).ms

set_option maxHeartbeats 16000000 in
set_option maxRecDepth 10000 in
theorem next_any20 (at_ width : Int) (mv : Value) (l : List Mt) (mk : Marks) (w : World) (h : BlsAt w w mv l mk) (hl : Lst l) (hn : (srcs l).length ≤ 1000000000) (hm : ∀ id z, mk id = some z → 0 ≤ z) (hwd : width ≤ 100000) :
    Calls Try.prog 9 #[.agg #[.int .i64 at_, mv], .int .i64 width] w (RetN20 w (next l mk width)) := by
  have hs := fun w' (hb : Below w.heap.size w w') => free_bls at_ mv l mk w w' hb (by
    obtain ⟨ts, h1, h2, h3, h4⟩ := h
    exact ⟨ts, h1, h2.below hb, h3, h4⟩) hl hn hm
  have HSH := Lib.hid hs
  have hlen : (free l mk).length ≤ 1000 := Nat.le_trans (free_length l mk) hl.len
  have hsm : ∀ m ∈ free l mk, Sm m := fun m hm => hl.sm m (free_mem hm).1
  obtain ⟨W, hW⟩ : ∃ W, W = max width 1 := ⟨_, rfl⟩
  have hW1 : 1 ≤ W := by omega
  have hW2 : W ≤ 100000 := by omega
  have hnx : next l mk width = (nextIn (free l mk) (W * 3)).or (nextIn (free l mk) (W * 9)) := by rw [hW]; rfl
  rw [hnx]
  obtain ⟨F, hF⟩ : ∃ F, F = free l mk := ⟨_, rfl⟩
  rw [← hF] at HSH hlen hsm ⊢
  have HSM := Lib.hid hsm
  have HWW := Lib.hid hW.symm
  obtain ⟨ts0, _, hs0, _⟩ := h
  obtain ⟨_, A, c, rfl, _⟩ := hs0
  obtain ⟨n0, hn0⟩ : ∃ n, n = ts0.length := ⟨_, rfl⟩
  rw [← hn0] at HSH ⊢
  clear hs hl hm hF hnx hsm hwd hW hn hn0
  go_enter Try.func9, Try.ntmps9
  go_wp2_with fail
  have P1 := Blk.new (w.alloc (.cells #[.int .i64 at_, .slice A n0 c] 29)) #[.int .i64 0, .int .i64 0, .int .i64 0, .slice none 0 0] 38
  have B1 := below_trans (below_al w (.cells #[.int .i64 at_, .slice A n0 c] 29)) (below_al _ (.cells #[.int .i64 0, .int .i64 0, .int .i64 0, .slice none 0 0] 38))
  rw [show (w.alloc (.cells #[.int .i64 at_, .slice A n0 c] 29)).heap.size = w.heap.size + 1 by simp] at P1
  refine (HSH.out _ B1).mono ?_
  rintro e w1 ⟨v1, rfl, hn1⟩
  have P2 := P1.below hn1.below_
  have B2 := below_trans B1 hn1.below_
  have hF := hn1.slice
  obtain ⟨A1, c1, rfl, hc1, hcm1⟩ := hn1.shape
  have hcm2 := hcm1
  unfold maxLen at hcm1
  clear P1 B1 hn1 HSH
  have HFF := Lib.hid hF
  clear hF
  go_wp2_with fail
  obtain ⟨X, hX⟩ : ∃ X, X = w.heap.size + 1 := ⟨_, rfl⟩
  rw [← hX] at P2 ⊢
  have HP2 := Lib.hid P2
  have HXE := Lib.hid hX
  have hXw : w.heap.size ≤ X := by omega
  clear P2 hX
  go_loopw [7] (fun t wr => ∃ T : Int, t = .int .i64 T ∧ (T = 3 ∨ T = 9 ∨ T = 15) ∧ Hid (T ≠ 3 → nextIn F (W * 3) = none) ∧ Hid (T = 15 → nextIn F (W * 9) = none) ∧ Hid (Blk wr X 38 #[.int .i64 0, .int .i64 0, .int .i64 0, .slice none 0 0]) ∧ Below w1.heap.size w1 wr) (fun t _ => 15 - (intOf t).toNat)
  case atStart => exact ⟨3, rfl, by omega, Lib.hid (fun h => absurd rfl h), Lib.hid (fun h => by omega), HP2, Below.refl _ _⟩
  case round =>
    obtain ⟨T, rfl, hT, HN1, HN2, P3, B3⟩ := hrel
    clear HP2
    rcases Classical.em (T = 15) with hgo | hgo
    · subst hgo
      have hres : (nextIn F (W * 3)).or (nextIn F (W * 9)) = none := by rw [HN1.out (by omega), HN2.out rfl]; rfl
      have HRES := Lib.hid hres
      have hb : Below w.heap.size w wr := below_trans B2 B3
      have y0 := P3.out.cell (i := 0) rfl
      have y1 := P3.out.cell (i := 1) rfl
      have y2 := P3.out.cell (i := 2) rfl
      have y3 := P3.out.cell (i := 3) rfl
      have z0 := P3.out.free 0
      have z1 := P3.out.free 1
      have z2 := P3.out.free 2
      have z3 := P3.out.free 3
      clear hT B2 B3 hres
      have HB := Lib.hid ((((hb.setCell hXw (.int .i64 0) (p := ⟨X, 0, none⟩)).setCell hXw (.int .i64 0) (p := ⟨X, 1, none⟩)).setCell hXw (.int .i64 0) (p := ⟨X, 2, none⟩)).setCell hXw (.slice none 0 0) (p := ⟨X, 3, none⟩))
      clear hb P3
      go_wp2_with fail
      refine bodyPost_ret (v := .tuple #[plV pl0 (.slice none 0 0), .bool false]) (by simp [results, Try.results9, go_sem, plV, pl0, y0, y1, y2, y3]) rfl ?_
      exact ⟨.slice none 0 0, by rw [HRES.out]; rfl, by rw [HRES.out]; exact NMs.nil HB.out _ _⟩
    · have hT1 : T ≤ 9 := by omega
      have hT3 : 3 ≤ T := by omega
      have hwide : (3 : Int) ≤ W * T ∧ W * T ≤ 900000 := by
        rcases hT with rfl | rfl | rfl <;> omega
      obtain ⟨wide, hwd⟩ : ∃ wide, wide = W * T := ⟨_, rfl⟩
      have HWD := Lib.hid hwd
      have hwr : IntKind.i64.wrap (W * T) = wide := by rw [hwd, IntKind.wrap_i64]; omega
      rw [← hwd] at hwide
      have hwm := HWW.out
      have HTT := Lib.hid hT
      clear hwd hT
      go_upto_region 6 with fail
      go_loopw [19] (fun j wr => ∃ i : Nat, j = .int .i64 i ∧ i ≤ F.length ∧ Hid (∀ q, q < i → tryP F wide q = none) ∧ Hid (Blk wr X 38 #[.int .i64 0, .int .i64 0, .int .i64 0, .slice none 0 0]) ∧ Below w1.heap.size w1 wr) (fun j _ => F.length - (intOf j).toNat)
      case atStart => exact ⟨0, rfl, Nat.zero_le _, Lib.hid (fun q h => by omega), P3, B3⟩
      case round =>
        obtain ⟨i, rfl, hi, HT, P4, B4⟩ := hrel
        clear P3 B3
        by_cases hgi : i < F.length
        · have hci : (0 : Int) ≤ (i : Int) := by omega
          have hci2 : (i : Int) < F.length := by omega
          have HF4 := Lib.hid (HFF.out.below B4)
          have B5 := below_trans B2 B4
          have htr := try_any20 (.slice A1 F.length c1) F i wide w wr B5 HF4.out HSM.out hlen hgi (by omega)
          have HTR := Lib.hid htr
          clear htr
          go_wp2_with fail
          refine HTR.out.mono ?_
          rintro e w6 ⟨pv, rfl, hnp⟩
          have P7 := P4.out.below hnp.below_
          have B8 := below_trans B4 hnp.below_
          have B9 := below_trans B5 hnp.below_
          have hNP := hnp.after B5
          obtain ⟨R, hR⟩ : ∃ R, R = tryR F wide i := ⟨_, rfl⟩
          rw [← hR] at hNP ⊢
          have HR := Lib.hid hR
          obtain ⟨nA, nc, rfl, hnc, _⟩ := hNP.shape
          clear hR hnp P4 B4 B5 HTR HF4
          unfold plV
          by_cases hok : 1 < R.ms.length
          · have hd : decide (1 < R.ms.length) = true := decide_eq_true hok
            have htr : tryP F wide i = some R := by
              rw [tryR_eq, ← HR.out, if_pos hok]
            have hnx := nextIn_some HT.out hgi htr
            have hres : (nextIn F (W * 3)).or (nextIn F (W * 9)) = some R := by
              rcases HTT.out with e1 | e1 | e1
              · rw [← e1, ← HWD.out, hnx]; rfl
              · rw [HN1.out (by omega), ← e1, ← HWD.out, hnx]; rfl
              · exact absurd e1 hgo
            have HRES := Lib.hid hres
            have P8 := P7.alloc (.cells #[.int .i64 R.fr, .int .i64 R.to_, .int .i64 R.lv, .slice nA R.ms.length nc] 38)
            have B10 := below_trans B9 (below_al w6 (.cells #[.int .i64 R.fr, .int .i64 R.to_, .int .i64 R.lv, .slice nA R.ms.length nc] 38))
            have R8 := Blk.new w6 #[.int .i64 R.fr, .int .i64 R.to_, .int .i64 R.lv, .slice nA R.ms.length nc] 38
            clear hres hnx htr hok P7
            go_upto_region 10 with fail
            obtain ⟨w7, hw7⟩ : ∃ w7, w7 = w6.alloc (.cells #[.int .i64 R.fr, .int .i64 R.to_, .int .i64 R.lv, .slice nA R.ms.length nc] 38) := ⟨_, rfl⟩
            have N8 := hNP.alloc (.cells #[.int .i64 R.fr, .int .i64 R.to_, .int .i64 R.lv, .slice nA R.ms.length nc] 38)
            rw [← hw7] at P8 R8 N8 ⊢
            obtain ⟨V, hV⟩ : ∃ V, V = w6.heap.size := ⟨_, rfl⟩
            rw [← hV] at R8 ⊢
            have x0 : w7.cell? ⟨V, 0, none⟩ = some (.int .i64 R.fr) := R8.cell (i := 0) rfl
            have x1 : w7.cell? ⟨V, 1, none⟩ = some (.int .i64 R.to_) := R8.cell (i := 1) rfl
            have x2 : w7.cell? ⟨V, 2, none⟩ = some (.int .i64 R.lv) := R8.cell (i := 2) rfl
            have x3 : w7.cell? ⟨V, 3, none⟩ = some (.slice nA R.ms.length nc) := R8.cell (i := 3) rfl
            have y0 : w7.cell? ⟨X, 0, none⟩ = some (.int .i64 0) := P8.cell (i := 0) rfl
            have y1 : w7.cell? ⟨X, 1, none⟩ = some (.int .i64 0) := P8.cell (i := 1) rfl
            have y2 : w7.cell? ⟨X, 2, none⟩ = some (.int .i64 0) := P8.cell (i := 2) rfl
            have y3 : w7.cell? ⟨X, 3, none⟩ = some (.slice none 0 0) := P8.cell (i := 3) rfl
            have z0 := P8.free 0
            have z1 := P8.free 1
            have z2 := P8.free 2
            have z3 := P8.free 3
            have HN9 := Lib.hid ((((N8.set_ne P8 (by decide) hXw 0 (.int .i64 R.fr)).set_ne (P8.set _ _) (by decide) hXw 1 (.int .i64 R.to_)).set_ne ((P8.set _ _).set _ _) (by decide) hXw 2 (.int .i64 R.lv)).set_ne (((P8.set _ _).set _ _).set _ _) (by decide) hXw 3 (.slice nA R.ms.length nc))
            have HP8 := Lib.hid P8
            clear hw7 hV P8 R8 B10 N8 hNP B8 B9
            go_wp2_with fail
            refine bodyPost_ret (v := .tuple #[plV R (.slice nA R.ms.length nc), .bool true]) (by simp [results, Try.results9, go_sem, plV, y0, y1, y2, y3]) rfl ?_
            exact ⟨.slice nA R.ms.length nc, by rw [HRES.out]; rfl, by rw [HRES.out]; exact HN9.out⟩
          · have hd : decide (1 < R.ms.length) = false := decide_eq_false hok
            have htr : tryP F wide i = none := by
              rw [tryR_eq, ← HR.out, if_neg hok]
            have HTR := Lib.hid htr
            have HP8 := Lib.hid (P7.alloc (.cells #[.int .i64 R.fr, .int .i64 R.to_, .int .i64 R.lv, .slice nA R.ms.length nc] 38))
            have B10 := below_trans B8 (below_al w6 (.cells #[.int .i64 R.fr, .int .i64 R.to_, .int .i64 R.lv, .slice nA R.ms.length nc] 38))
            clear htr hok P7 hNP
            go_wp2_with fail
            go_roundw
            case rel => exact ⟨i + 1, by go_num, by omega, Lib.hid (fun q hq => by
                    by_cases e : q = i
                    · rw [e]; exact HTR.out
                    · exact HT.out q (by omega)), HP8, B10⟩
            case measure => simp [intOf]; omega
        · obtain rfl : i = F.length := by omega
          have hnx := nextIn_none (wide := wide) (fun j hj => HT.out j hj)
          rw [HWD.out] at hnx
          have HNX := Lib.hid hnx
          clear hnx
          go_wp2_with fail
          go_roundw
          case rel => exact ⟨T + 6, by go_num, (by rcases HTT.out with e1 | e1 | e1 <;> omega), Lib.hid (fun h => by
              rcases HTT.out with e1 | e1 | e1
              · have := HNX.out; rwa [e1] at this
              · exact HN1.out (by omega)
              · exact absurd e1 hgo), Lib.hid (fun h => by
              obtain rfl : T = 9 := by omega
              exact HNX.out), P4, B4⟩
          case measure => simp [intOf]; omega
end Go.Proofs.Ytemmgejaoegpfaa
