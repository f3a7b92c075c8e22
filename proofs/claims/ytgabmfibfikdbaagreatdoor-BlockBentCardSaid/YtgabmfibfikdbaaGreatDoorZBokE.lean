/-
  Layer 16: the walk of Chunks, of any bytes.
-/
import Derived.Test.YtgabmfibfikdbaaGreatDoorZBokB
import Derived.Test.YtgabmfibfikdbaaGreatDoorZLib19
import Derived.Test.YtgabmfibfikdbaaGreatDoorZXorB
import Derived.Test.YtgabmfibfikdbaaGreatDoorZXorD
import Derived.Test.YtgabmfibfikdbaaGreatDoorZFrmN
import Derived.Deep.QuietTactic
import Derived.BigQuiet
import Derived.Test.YtgabmfibfikdbaaGreatDoorZLib4
import Derived.Test.YtgabmfibfikdbaaGreatDoorZLib15

namespace Go.Proofs.YtgabmfibfikdbaaGreatDoor
open Go.RowKit Go.Bar Go.Bar.Leb Go.Bar.Frm Go.Bar.Lab Go.Bar.Xor Go.Bar.Mrg Go.Bar.Met Go.Bar.Bok

theorem recAt16 {w : World} {A : Option Addr} {n c i : Nat} {rs : List Rc} {k : UInt8} {d : List UInt8} (h : SlAt w 2 (.slice A n c) rs.length (frcs rs)) (hi : rs[i]? = some (k, d)) : ∃ b o, A = some ⟨b, o, none⟩ ∧ b < w.heap.size ∧ w.cell? ⟨b, o + i * 2, none⟩ = some (.int .u8 k.toNat) ∧ w.cell? ⟨b, o + i * 2 + 1, none⟩ = some (.string (bs d)) := by
  have hlt : i < rs.length := (List.getElem?_eq_some_iff.1 hi).1
  obtain ⟨A', c', he, _⟩ := h.shape
  injection he with h1 h2 h3
  subst h1; subst h2; subst h3
  obtain ⟨b, o, rfl, hb, hc⟩ := SlAt.cells h (by omega)
  obtain ⟨g1, g2⟩ := flat2 (fun r : Rc => Value.int .u8 r.1.toNat) (fun r : Rc => Value.string (bs r.2)) rs i _ hi
  exact ⟨b, o, rfl, hb, hc _ _ g1, hc _ _ g2⟩
theorem recs_data : ∀ (n : Nat) (l : List UInt8), l.length ≤ n → ∀ r ∈ recs l, r.2.length ≤ 1048576
  | 0, l, h => by
    have : l = [] := List.eq_nil_of_length_eq_zero (by omega)
    subst this
    rw [(recs_stop next_nil).1]
    intro r hr; cases hr
  | n + 1, l, h => by
    by_cases he : (Frm.next l).2.2 = 0
    · have h1 := next_left l he
      have h2 := (next_one l he).2
      rw [(recs_go he).1]
      intro r hr
      rcases List.mem_cons.1 hr with rfl | hr
      · exact h2
      · exact recs_data n (Frm.next l).2.1 (by omega) r hr
    · rw [(recs_stop he).1]
      intro r hr; cases hr
theorem tSm_at {rs : List Rc} {k : Nat} {r : Rc} {acc : List Sm} (h : rs[k]? = some r) : tSm (rs.drop k) acc = if (samplesR r.2).2 ≠ 0 ∨ r.1 ≠ 4 ∨ (samplesR r.2).1 = [] ∨ late acc (samplesR r.2).1 then none else tSm (rs.drop (k + 1)) (acc ++ (samplesR r.2).1) := by
  obtain ⟨hlt, rfl⟩ := List.getElem?_eq_some_iff.1 h
  rw [List.drop_eq_getElem_cons hlt, tSm]
theorem late_nil (l : List Sm) : ¬ late [] l := fun ⟨a, b, h, _⟩ => by simp at h
theorem late_at {acc l : List Sm} {m : Nat} {x y : Sm} (hl : acc.length = m + 1) (hx : acc[m]? = some x) (hy : l[0]? = some y) : late acc l ↔ y.1 ≤ x.1 := by
  have e1 : acc.getLast? = some x := by rw [List.getLast?_eq_getElem?, hl]; exact hx
  have e2 : l.head? = some y := by rw [List.head?_eq_getElem?]; exact hy
  unfold late
  rw [e1, e2]
  exact ⟨fun ⟨a, b, h1, h2, h3⟩ => by injection h1 with h1; injection h2 with h2; rw [h1, h2]; exact h3, fun h => ⟨_, _, rfl, rfl, h⟩⟩

/-- samples, an error; in a buffer of the call's own -/
def RetSmE (w : World) (R : List Sm × Nat) (e : Ending) (w' : World) : Prop := ∃ v, e = .returned (.tuple #[v, .int .i64 (R.2 : Nat)]) ∧ NBuf w w' 41 2 v R.1.length (smc R.1)
theorem RetSmE.no {w w' : World} {e : Nat} (h : Below w.heap.size w w') : RetSmE w ([], e) (.returned (.tuple #[.slice none 0 0, .int .i64 (e : Nat)])) w' := ⟨_, rfl, NBuf.nil h _ _⟩

set_option maxHeartbeats 16000000 in
set_option maxRecDepth 10000 in
theorem kchunks_any (s : List UInt8) (w : World) (hW : WidthsAt w) (hs : s.length ≤ 10000000) :
    Calls Tryz.prog 12 #[.string (bs s)] w (RetSmE w (smpsR s)) := by
  have hall := fun w => all_any s w (by omega)
  have hrd := recs_data s.length s (Nat.le_refl _)
  have hrl := recs_len s.length s (Nat.le_refl _)
  have hll := left_le s
  obtain ⟨R, hR⟩ : ∃ R, R = smpsR s := ⟨_, rfl⟩
  rw [← hR]
  obtain ⟨rs, hrs⟩ : ∃ rs, rs = recs s := ⟨_, rfl⟩
  rw [← hrs] at hall hrd hrl
  have HALL := Lib.hid hall
  have HR := Lib.hid hR
  have HRS := Lib.hid hrs
  have HRD := Lib.hid hrd
  have HW := Lib.hid hW
  clear hall hR hrs hrd hW
  by_cases hlf : left s = []
  · have h0 : (left s).length = 0 := by rw [hlf]; rfl
    rw [h0] at HALL
    have hc0 : ((s.length : Int) - ((0 : Nat) : Int)) = (s.length : Int) := by omega
    have HALL2 : Hid (∀ w, Calls Tryz.prog 43 #[.string (bs s)] w (RetAll w 100 rs (s.length : Int))) := Lib.hid (fun w => by have := HALL.out w; rwa [hc0] at this)
    have hno : tSm rs [] = none → R = ([], 3) := fun h => by rw [HR.out]; unfold smpsR; rw [if_neg (fun hh => hh hlf), ← HRS.out, h]
    have hyes : ∀ l, tSm rs [] = some l → R = (l, 0) := fun l h => by rw [HR.out]; unfold smpsR; rw [if_neg (fun hh => hh hlf), ← HRS.out, h]
    have HNO := Lib.hid hno
    have HYES := Lib.hid hyes
    clear hlf h0 hc0 hno hyes HALL HR HRS
    go_enter Tryz.func12, Tryz.ntmps12
    go_wp2_with fail
    refine (HALL2.out _).mono ?_
    rintro e w1 ⟨v, rfl, hb1, hbl1⟩
    obtain ⟨rA, rc, rfl, hrc⟩ := hb1.shape
    have HB1 := Lib.hid (SlAt.of_buf hb1)
    have HBL := Lib.hid hbl1
    obtain ⟨RN, hRN⟩ : ∃ RN, RN = rs.length := ⟨_, rfl⟩
    rw [← hRN] at hrc hrl ⊢
    have HRN := Lib.hid hRN
    clear hb1 hbl1 HALL2 hRN
    go_wp2_with fail
    go_loopw [23, 6] (fun i d wr => ∃ (k : Nat) (acc : List Sm), k ≤ RN ∧ i = .int .i64 k ∧ acc.length ≤ 120 * k ∧ Hid (NBuf w1 wr 41 2 d acc.length (smc acc)) ∧ Hid (tSm rs [] = tSm (rs.drop k) acc)) (fun i _ _ => RN - (intOf i).toNat)
    case atStart => exact ⟨0, [], Nat.zero_le _, rfl, Nat.zero_le _, Lib.hid (NBuf.nil (Below.refl _ _) _ _), Lib.hid rfl⟩
    case round =>
      obtain ⟨k, acc, hk, rfl, hal, hnb, HS⟩ := hrel
      have hbw := Lib.hid hnb.out.below
      obtain ⟨fA, fc, rfl, hfc⟩ := hnb.out.buf.shape
      by_cases hgo : k < RN
      · obtain ⟨⟨kd, d⟩, hpk⟩ : ∃ p, rs[k]? = some p := ⟨_, List.getElem?_eq_getElem (by rw [← HRN.out]; exact hgo)⟩
        obtain ⟨b, o, rfl, hbb, g1, g2⟩ := recAt16 (HB1.out.below hbw.out) hpk
        have hdl := HRD.out _ (List.mem_of_getElem? hpk)
        have hat := tSm_at (acc := acc) hpk
        have hsm := fun w hW => samples_any d w hW (by dsimp only at hdl; omega)
        have hsl := samplesR_len d
        obtain ⟨sl, se, hsr⟩ : ∃ sl se, samplesR d = (sl, se) := ⟨_, _, rfl⟩
        dsimp only at hat
        rw [hsr] at hat hsm hsl
        dsimp only at hat hsl
        have HAT := Lib.hid hat
        have HSM := Lib.hid hsm
        have hq := Blk.new wr #[.int .u8 (kd.toNat : Nat), .string (bs d)] 100
        have HN1 := Lib.hid (hnb.out.alloc (.cells #[.int .u8 (kd.toNat : Nat), .string (bs d)] 100))
        have HBW1 := Lib.hid (below_trans hbw.out (ba1 wr (.cells #[.int .u8 (kd.toNat : Nat), .string (bs d)] 100)))
        clear hpk hsr hat hsm hnb hdl
        go_wp2_with fail
        refine (HSM.out _ (HW.out.below (below_trans HBL.out HBW1.out))).mono ?_
        rintro e w2 ⟨v2, rfl, hv, hf, hb2⟩
        have HNX0 := Lib.hid (HN1.out.then_below hb2)
        have HBW2 := Lib.hid (below_trans HBW1.out hb2)
        have hq2 := hq.below hb2
        have q0 : w2.cell? ⟨wr.heap.size, 0, none⟩ = some (.int .u8 (kd.toNat : Nat)) := hq2.cell (i := 0) rfl
        dsimp only at hv hf
        clear hq HN1 HBW1
        by_cases hse : se = 0
        · subst hse
          have hF := hf rfl
          obtain ⟨sA, sc, rfl, hsc⟩ := hF.buf.shape
          have HSX0 := Lib.hid hF.slice
          clear hv hf hF
          by_cases hkd : kd = 4
          · subst hkd
            have hkz : ((((4 : UInt8).toNat : Nat) : Int) == 4) = true := by decide
            by_cases hsn : sl = []
            · subst hsn
              have hR := HNO.out (by rw [HS.out, HAT.out, if_pos (.inr (.inr (.inl rfl)))])
              have HRES := Lib.hid hR
              clear hR
              go_wp2_with fail
              go_ret2
              rw [HRES.out]
              exact RetSmE.no (below_trans HBL.out HBW2.out)
            · have hsl0 : 0 < sl.length := List.length_pos_iff.2 hsn
              have hpz : ((sl.length : Int) == 0) = false := by rw [beq_eq_false_iff_ne]; omega
              obtain ⟨y, hy⟩ : ∃ y, sl[0]? = some y := ⟨_, List.getElem?_eq_getElem hsl0⟩
              obtain ⟨sb, so, rfl, hsb, y0, _⟩ := SmsAt.at_ (l := sl) HSX0.out hy
              rw [Nat.zero_mul, Nat.add_zero] at y0
              have HSN := Lib.hid hsn
              rcases hacc : acc with _ | ⟨x0, xs0⟩
              · subst hacc
                have HNE := Lib.hid (show ¬ ((0 : Nat) ≠ 0 ∨ (4 : UInt8) ≠ 4 ∨ sl = [] ∨ late [] sl) from by
                  rintro (h | h | h | h)
                  · exact h rfl
                  · exact h rfl
                  · exact HSN.out h
                  · exact late_nil _ h)
                clear hsn hy
                rw [List.length_nil] at HNX0 hfc ⊢
                rw [List.length_nil] at hal
                have HT2 := Lib.hid (HS.out.trans (by rw [HAT.out, if_neg HNE.out]))
                have HS3 := Lib.hid (fun q => SlAt.below HSX0.out (below_draws w2 q))
                have HD := Lib.hid (fun q => HNX0.out.drewN q)
                go_wp2_with fail
                go_quiet (fail)
                go_wp2_with (at_builtin; refine wpList_append_el rfl (.tmp 62) (.tmp 63) 32 32 rfl sm_ty rfl (HD.out _).buf rfl ((HS3.out _).src (by omega) (t := 32) Tryz.underlying32 (smc1 sl)) (by simp only [maxLen]; omega) (by omega) ?_; intro v' w' hb ha hg; have HN5 := Lib.hid ((HD.out _).step hb ha hg); clear hb ha hg)
                go_roundw
                case rel => exact ⟨k + 1, [] ++ sl, by omega, by go_num, by rw [List.nil_append]; omega, Lib.hid (by rw [List.length_append, smc_append]; exact HN5.out), HT2⟩
                case measure => simp [intOf]; try omega
              · rw [← hacc]
                obtain ⟨m, hm⟩ : ∃ m, acc.length = m + 1 := ⟨xs0.length, by rw [hacc]; rfl⟩
                obtain ⟨x, hx⟩ : ∃ x, acc[m]? = some x := ⟨_, List.getElem?_eq_getElem (by omega)⟩
                have hla := late_at hm hx hy
                obtain ⟨ab, ao, rfl, hab, x0', _⟩ := SmsAt.at_ (l := acc) HNX0.out.slice hx
                have HLA := Lib.hid hla
                have hk0 : (0 : Int) < (acc.length : Int) := by omega
                have hk1 : 0 < acc.length := by omega
                have hk2 : ¬ acc = [] := by rw [hacc]; simp
                have hk3 : decide ((0 : Int) < (acc.length : Int)) = true := decide_eq_true hk0
                have hkw : IntKind.i64.wrap ((acc.length : Int) - 1) = (m : Int) := by rw [IntKind.wrap_i64]; omega
                have hkq : (m : Int) < (acc.length : Int) := by omega
                have hkq0 : (0 : Int) ≤ (m : Int) := by omega
                clear hla hm hx hy hsn hacc
                by_cases hlt : y.1 ≤ x.1
                · have hd : decide (y.1 ≤ x.1) = true := decide_eq_true hlt
                  have hR := HNO.out (by rw [HS.out, HAT.out, if_pos (.inr (.inr (.inr (HLA.out.2 hlt))))])
                  have HRES := Lib.hid hR
                  clear hR
                  go_wp2_with fail
                  go_quiet (fail)
                  go_wp2_with fail
                  go_ret2
                  rw [HRES.out]
                  exact RetSmE.no (below_trans (below_trans HBL.out HBW2.out) (below_draws _ _))
                · have hd : decide (y.1 ≤ x.1) = false := decide_eq_false hlt
                  have HNE := Lib.hid (show ¬ ((0 : Nat) ≠ 0 ∨ (4 : UInt8) ≠ 4 ∨ sl = [] ∨ late acc sl) from by
                    rintro (h | h | h | h)
                    · exact h rfl
                    · exact h rfl
                    · exact HSN.out h
                    · exact hlt (HLA.out.1 h))
                  have HT2 := Lib.hid (HS.out.trans (by rw [HAT.out, if_neg HNE.out]))
                  have HS3 := Lib.hid (fun q => SlAt.below HSX0.out (below_draws w2 q))
                  have HD := Lib.hid (fun q => HNX0.out.drewN q)
                  go_wp2_with fail
                  go_quiet (fail)
                  go_wp2_with (at_builtin; refine wpList_append_el rfl (.tmp 62) (.tmp 63) 32 32 rfl sm_ty rfl (HD.out _).buf rfl ((HS3.out _).src (by omega) (t := 32) Tryz.underlying32 (smc1 sl)) (by simp only [maxLen]; omega) (by omega) ?_; intro v' w' hb ha hg; have HN5 := Lib.hid ((HD.out _).step hb ha hg); clear hb ha hg)
                  go_roundw
                  case rel => exact ⟨k + 1, acc ++ sl, by omega, by go_num, by rw [List.length_append]; omega, Lib.hid (by rw [List.length_append, smc_append]; exact HN5.out), HT2⟩
                  case measure => simp [intOf]; try omega
          · have hne : kd.toNat ≠ 4 := fun h => hkd (UInt8.toNat_inj.1 h)
            have hkz : (((kd.toNat : Nat) : Int) == 4) = false := by rw [beq_eq_false_iff_ne]; omega
            have hR := HNO.out (by rw [HS.out, HAT.out, if_pos (.inr (.inl hkd))])
            have HRES := Lib.hid hR
            clear hR
            go_wp2_with fail
            go_ret2
            rw [HRES.out]
            exact RetSmE.no (below_trans HBL.out HBW2.out)
        · have hez : ((se : Int) == 0) = false := by rw [beq_eq_false_iff_ne]; omega
          obtain rfl := hv hse
          have hR := HNO.out (by rw [HS.out, HAT.out, if_pos (.inl hse)])
          have HRES := Lib.hid hR
          clear hR
          go_wp2_with fail
          go_ret2
          rw [HRES.out]
          exact RetSmE.no (below_trans HBL.out HBW2.out)
      · obtain rfl : k = RN := by omega
        have hR := HYES.out acc (by rw [HS.out, HRN.out, List.drop_length]; rfl)
        have HRES := Lib.hid hR
        have HNF := Lib.hid (hnb.out.after HBL.out)
        clear hR hnb
        go_wp2_with fail
        go_ret2
        rw [HRES.out]
        exact ⟨_, rfl, HNF.out⟩
  · have hlt : ((s.length : Int) - ((left s).length : Nat)) < (s.length : Int) := by
      have : 0 < (left s).length := List.length_pos_iff.2 hlf
      omega
    have hres : R = ([], 4) := by rw [HR.out]; unfold smpsR; rw [if_pos hlf]
    have HRES := Lib.hid hres
    obtain ⟨z, hz⟩ : ∃ z : Int, z = (s.length : Int) - ((left s).length : Nat) := ⟨_, rfl⟩
    rw [← hz] at hlt HALL
    clear hres hz hlf hll HR
    go_enter Tryz.func12, Tryz.ntmps12
    go_wp2_with fail
    refine (HALL.out _).mono ?_
    rintro e w1 ⟨v, rfl, hb1, hbl1⟩
    have HBL := Lib.hid hbl1
    clear hb1 hbl1 HALL
    go_wp2_with fail
    go_ret2
    rw [HRES.out]
    exact RetSmE.no HBL.out
end Go.Proofs.YtgabmfibfikdbaaGreatDoor

/-
  Parts of slices: the value of l[a:b], and what it holds. Plain lemmas over any program; no condition.
-/
namespace Go.Bar
open Go.RowKit

/-- where a part of a slice begins -/
def dropA (a : Option Addr) (c k sz : Nat) : Option Addr := if c = k then a else a.map (·.add (k * sz))

section
variable {P : Program} {t e : TypeId} {i : TypeInfo} {w : World} {a : Option Addr} {n c sz : Nat}
theorem run_slice_f (ht : P.underlying t = some (.slice e)) (hi : P.info? e = some i) (hs : i.size = sz) (l : Nat) (hl : l ≤ n) (_hc : n ≤ c) (w : World) :
    (Instr.slice t (.slice a n c) (some (.int .i64 (l : Int))) none none).run P w = .ok (.slice (dropA a c l sz) (n - l) (c - l)) w := by
  simp [Instr.slice, run_underlying ht, Instr.sliceBounds, Instr.sliceBound, asIntOf, sizeOf, typeInfo, hi, hs, hl, dropA]
end

theorem SlAt.part {w : World} {sz n c : Nat} {a : Option Addr} {xs : List Value} (h : SlAt w sz (.slice a n c) n xs) (l m : Nat) (hlm : l ≤ m) (hm : m ≤ n) : SlAt w sz (.slice (dropA a c l sz) (m - l) (c - l)) (m - l) ((xs.drop (l * sz)).take ((m - l) * sz)) := by
  obtain ⟨hl, A', c1, hv', hnc, hcm, hv⟩ := h
  injection hv' with h1 h2 h3
  subst h1; subst h3
  have e1 : (m - l) * sz = m * sz - l * sz := Nat.sub_mul _ _ _
  have e2 := Nat.mul_le_mul_right sz hlm
  have e3 := Nat.mul_le_mul_right sz hm
  refine ⟨by rw [List.length_take, List.length_drop]; omega, _, _, rfl, by omega, by omega, fun h0 => ?_⟩
  obtain ⟨b, o, rfl, hlt, hx⟩ := hv (by omega)
  have hne : ¬ c = l := by
    intro hcl
    subst hcl
    have : m = c := by omega
    subst this
    simp at h0
  refine ⟨b, o + l * sz, ?_, hlt, fun j hj => ?_⟩
  · unfold dropA
    rw [if_neg hne]
    simp [addr_add]
  · rw [Nat.add_assoc, hx (l * sz + j) (by omega), List.getElem?_take, if_pos (by omega), List.getElem?_drop]

end Go.Bar

/-
  A range over a function whose iterator reads its captured boxes and draws orders: the law of the walk (as Lib15's). Plain lemmas over any program; no condition.
-/
namespace Go.Bar
open Go Go.RowKit

/-- an iterator that reads blocks lo to up and draws orders: these values come (S), or a part of them (Sp) -/
def SeqD {α : Type} (F : Fence) (n : Nat) (P : Program) (g : Nat) (lb : Array Value) (encs : α → Array Value) (lo up : Nat) (S Sp : List α → Prop) (N : Nat) (w : World) : Prop :=
  ∀ (l : Nat) (J Jx : List α → World → Prop) (W : World), Below w.heap.size w W → (∀ s W q, J s W → J s (W.drewN q)) →
    (∀ pre x W1, J pre W1 → pre.length < N → YieldAt F (n - 1) P l (encs x) W1 fun e W' =>
      (e = .returned (.bool true) ∧ J (pre ++ [x]) W' ∧ ∀ k, lo ≤ k → k < up → W'.heap[k]? = W1.heap[k]?) ∨ (e = .returned (.bool false) ∧ Jx (pre ++ [x]) W')) →
    J [] W →
    CallsIn F n P g (#[.func (.yield l) #[] #[]] ++ lb) W fun e W' => (∃ v, e = .returned v) ∧ ((∃ xs, S xs ∧ J xs W') ∨ (∃ pre, Sp pre ∧ Jx pre W'))

variable {F : Fence} {n : Nat} {P : Program}

theorem wpIn_rangeFunc_ownD {α : Type} {g : Operand} {ps : Array Tmp} {assign body : Code} {Q : Exit → Act → World → Prop} {a : Act} {w : World}
    (hro : F.round = none) (h1 : 1 ≤ n) {gf : Nat} {lb : Array Value} (hg : a.eval g = .func (.func gf) #[] lb) (hFg : F.fn gf) (eg : ∀ args w, (callFunc gf args).run P w = .ok (.enter gf args) w)
    {encs : α → Array Value} {lo up : Nat} (hlo : lo < up) {S Sp : List α → Prop} {N : Nat} {w0 : World} (hseq : SeqD F (n - 1) P gf lb encs lo up S Sp N w0) (hhi : up ≤ w.heap.size)
    (hb0 : Below w0.heap.size w0 w) (hps : ∀ x, (encs x).size = ps.size)
    (I : List α → World → Prop) (Ix : Code → List α → World → Prop) (hI : OwnFrom w.heap.size I) (hIx : ∀ c, OwnFrom w.heap.size (Ix c)) (hIs : ∀ s W q, I s W → I s (W.drewN q)) (h0 : I [] w) (a₁ : α → Act)
    (hassign : ∀ (l : Nat) (x : α) (W : World) (K : Act → World → Prop), K (a₁ x) W →
      assign.wpIn (F.inRound l) (n - 1 - 1) P (Exit.then K (fun _ _ _ => False)) { tmps := (ps.zip (encs x)).foldl (fun t (p, v) => t.setIfInBounds p v) a.tmps, defers := [] } W)
    (hbody : ∀ (l : Nat) (pre : List α) (x : α) (W : World), I pre W → pre.length < N → body.wpIn (F.inRound l) (n - 1 - 1) P (ownPostK (fun W1 W' => ∀ k, lo ≤ k → k < up → W'.heap[k]? = W1.heap[k]?) I Ix (pre ++ [x]) W) (a₁ x) W)
    (hdone : ∀ (D : Nat) (xs : List α) (W : World), w.heap.size ≤ D → S xs → I xs W → W.heap[D]? = some (.deferred (some [])) → Q .normal { a with defers := { target := .collected D, args := #[] } :: a.defers } W)
    (hstop : ∀ (D : Nat) (c : Code) (pre : List α) (W : World), w.heap.size ≤ D → Sp pre → Ix c pre W → W.heap[D]? = some (.deferred (some [])) → c.wpIn F n P Q { a with defers := { target := .collected D, args := #[] } :: a.defers } W) :
    (Code.rangeFunc g ps assign body).wpIn F n P Q a w := by
  refine wpIn_rangeFunc ?_
  intro fn hfn
  rw [hro]
  obtain ⟨rec, hrec⟩ : ∃ rec : LoopState → Option Code → Loop, rec = fun st pe => { state := st, pending := pe, fn, tmps := a.tmps, params := ps, assign, body, defers := w.heap.size } := ⟨_, rfl⟩
  obtain ⟨W1, hW1⟩ : ∃ W1, (w.alloc (.deferred (some []))).alloc (.loop (rec .ready none)) = W1 := ⟨_, rfl⟩
  have hL1 : W1.heap[w.heap.size + 1]? = some (.loop (rec .ready none)) := by
    rw [← hW1]; have := World.alloc_heap_new (w.alloc (.deferred (some []))) (.loop (rec .ready none)); rwa [World.size_alloc] at this
  have hK1 : W1.heap[w.heap.size]? = some (.deferred (some [])) := by
    rw [← hW1]; exact (Below.heap_alloc _ _ _ (by simp)).trans (World.alloc_heap_new w _)
  have hI1 : I [] W1 := by rw [← hW1]; exact hI.alloc _ (hI.alloc _ h0)
  have hb1 : Below w0.heap.size w0 W1 := by
    rw [← hW1]; exact hb0.trans ((((Below.refl _ w).alloc (Nat.le_refl _) _).alloc (by simp) _).mono hb0.size)
  refine ⟨w.heap.size + 1, [{ target := .collected w.heap.size, args := #[] }], W1, { target := .fn (.func gf) lb, args := #[.func (.yield (w.heap.size + 1)) #[] #[]] }, W1, gf,
    #[.func (.yield (w.heap.size + 1)) #[] #[]] ++ lb, W1, ?_, ?_, ?_, ?_, fun _ => h1, ?_⟩
  · rw [← hW1, hrec]; exact run_enterLoop_outer _ _ _ _ _
  · simp only [resolve, hg]
    simp [go_sem]
  · intro f' hf'; simp [Target.leads] at hf'; subst hf'; exact hFg
  · simp [invoke, go_sem, eg]
  · -- THE ITERATOR's CONTRACT, AT THE CALLER's INVARIANT WITH THE TWO FACTS OF BOOK-KEEPING BESIDE IT
    refine (hseq (w.heap.size + 1)
      (fun pre W => I pre W ∧ W.heap[w.heap.size + 1]? = some (.loop (rec .ready none)) ∧ W.heap[w.heap.size]? = some (.deferred (some [])))
      (fun pre W => ∃ c, Ix c pre W ∧ W.heap[w.heap.size + 1]? = some (.loop (rec .done (some c))) ∧ W.heap[w.heap.size]? = some (.deferred (some [])))
      W1 hb1
      (fun s W q hs => ⟨hIs s W q hs.1, hs.2.1, hs.2.2⟩)
      ?_ ⟨hI1, hL1, hK1⟩).mono ?_
    · -- ONE ROUND
      rintro pre x W ⟨hi, hl, hk⟩ hlen
      have hlt : w.heap.size + 1 < W.heap.size := (Array.getElem?_eq_some_iff.1 hl).1
      have hy := run_yield (P := P) (args := encs x) hl (by rw [hrec]; exact hps x)
      rw [hrec] at hy
      refine ⟨fn, _, assign, body, hy, roundIn_of_wpIn hfn (hassign _ x W _ ⟨_, run_beginRound hl (by rw [hrec]), ?_⟩)⟩
      have hl2 : (W.putObj (w.heap.size + 1) (.loop { rec .ready none with state := .busy })).heap[w.heap.size + 1]? = some (.loop { rec .ready none with state := .busy }) := World.putObj_heap_same hlt
      have hk2 : (W.putObj (w.heap.size + 1) (.loop { rec .ready none with state := .busy })).heap[w.heap.size]? = some (.deferred (some [])) := (World.putObj_heap_other (by omega)).trans hk
      have hw2 : ∀ k, lo ≤ k → k < up → (W.putObj (w.heap.size + 1) (.loop { rec .ready none with state := .busy })).heap[k]? = W.heap[k]? := fun k _ hk => World.putObj_heap_other (by omega)
      refine wpIn_mono (hbody _ pre x _ (hI.putObj _ hi (by omega) hl rfl) hlen) ?_
      have fin : ∀ (jump : Option Code) (W3 : World), KeepsOthers (W.putObj (w.heap.size + 1) (.loop { rec .ready none with state := .busy })) W3 →
          (Instr.endRound (w.heap.size + 1) jump).run P W3 = .ok (.bool jump.isNone) (W3.putObj (w.heap.size + 1) (.loop (rec (if jump.isNone then .ready else .done) jump))) ∧
          W3.heap[w.heap.size + 1]? = some (.loop { rec .ready none with state := .busy }) ∧
          (W3.putObj (w.heap.size + 1) (.loop (rec (if jump.isNone then .ready else .done) jump))).heap[w.heap.size + 1]? = some (.loop (rec (if jump.isNone then .ready else .done) jump)) ∧
          (W3.putObj (w.heap.size + 1) (.loop (rec (if jump.isNone then .ready else .done) jump))).heap[w.heap.size]? = some (.deferred (some [])) := fun jump W3 hk3 => by
        have hl3 := hk3.same _ _ hl2 rfl
        have := run_endRound (P := P) jump hl3
        rw [hrec] at this ⊢
        exact ⟨this, by rw [hrec] at hl3; exact hl3, World.putObj_heap_same (Array.getElem?_eq_some_iff.1 hl3).1, (World.putObj_heap_other (by omega)).trans (hk3.same _ _ hk2 rfl)⟩
      rintro e a3 W3 hp
      cases e with
      | normal =>
        obtain ⟨hk3, hkp3, hi3⟩ := hp
        obtain ⟨hr, hl3, hl4, hk4⟩ := fin none W3 hk3
        exact ⟨_, _, hr, .inl ⟨rfl, ⟨hI.putObj _ hi3 (by omega) hl3 rfl, hl4, hk4⟩, fun k hk0 hk => (World.putObj_heap_other (by omega)).trans ((hkp3 k hk0 hk).trans (hw2 k hk0 hk))⟩⟩
      | ret =>
        obtain ⟨hk3, hi3⟩ := hp
        obtain ⟨hr, hl3, hl4, hk4⟩ := fin (some .ret) W3 hk3
        exact ⟨_, _, hr, .inr ⟨rfl, .ret, (hIx _).putObj _ hi3 (by omega) hl3 rfl, hl4, hk4⟩⟩
      | exit id =>
        obtain ⟨hk3, hi3⟩ := hp
        obtain ⟨hr, hl3, hl4, hk4⟩ := fin (some (.exit id)) W3 hk3
        exact ⟨_, _, hr, .inr ⟨rfl, .exit id, (hIx _).putObj _ hi3 (by omega) hl3 rfl, hl4, hk4⟩⟩
      | goto t =>
        obtain ⟨hk3, hi3⟩ := hp
        obtain ⟨hr, hl3, hl4, hk4⟩ := fin (some (.goto t)) W3 hk3
        exact ⟨_, _, hr, .inr ⟨rfl, .goto t, (hIx _).putObj _ hi3 (by omega) hl3 rfl, hl4, hk4⟩⟩
      | panic ch => exact hp.elim
      | outgrown => exact hp.elim
    · -- BEHIND THE ITERATOR
      rintro e W2 ⟨⟨v, rfl⟩, (⟨xs, hS, hi, hl, hk⟩ | ⟨pre, hSp, c, hi, hl, hk⟩)⟩
      · exact ⟨none, _, by have := run_endLoop (P := P) hl (by rw [hrec]; simp); rw [hrec] at this; exact this, hdone _ xs _ (Nat.le_refl _) hS (hI.putObj _ hi (by omega) hl rfl) ((World.putObj_heap_other (by omega)).trans hk)⟩
      · exact ⟨some c, _, by have := run_endLoop (P := P) hl (by rw [hrec]; simp); rw [hrec] at this; exact this, hstop _ c pre _ (Nat.le_refl _) hSp ((hIx c).putObj _ hi (by omega) hl rfl) ((World.putObj_heap_other (by omega)).trans hk)⟩

end Go.Bar
