/-
  Layer 7: XorSteady: samples of one step and one value take two bits each, from the third on.
-/
import Derived.Test.YtmoocomlcbalbaaDoorXorL
import Derived.Test.YtmoocomlcbalbaaDoorTie
import Derived.Test.YtmoocomlcbalbaaDoorCards
import Derived.Lib.SmallJoins
namespace Go.Proofs.YtmoocomlcbalbaaDoor
open Go.RowKit Go.Bar Go.Bar.Bit Go.Bar.Leb Go.Bar.Xor Go.ChangeShapes Go.WideShapes Go.ChangeAt
open Go.ChangeMaps (open_string shut_string)

/-- the samples -/
def sy (T : Int) (V : Nat) (step : Int) (i : Nat) : Sm := (T + (i : Int) * step, V)
def SY (T : Int) (V : Nat) (step : Int) : Nat → St
  | 0 => St.zero
  | k + 1 => (SY T V step k).put (sy T V step k)
section
variable {T step : Int} {V : Nat}
theorem sy0 : sy T V step 0 = (T, V) := by unfold sy; rw [show ((0 : Nat) : Int) * step = 0 by omega, show T + 0 = T by omega]
theorem SY_n : ∀ k, (SY T V step k).n = k
  | 0 => rfl
  | k + 1 => by rw [SY, (put_n _ _).1, SY_n k]
theorem SY_t (k : Nat) : (SY T V step (k + 1)).t = T + (k : Int) * step ∧ (SY T V step (k + 1)).v = V := by rw [SY, (put_n _ _).2.1, (put_n _ _).2.2]; exact ⟨rfl, rfl⟩
theorem sy_rg (h0 : 0 ≤ T) (h0' : T ≤ 1073741824) (h1 : 1 ≤ step) (h2 : step ≤ 1073741824) (k : Nat) (hk : k ≤ 120) : 0 ≤ (k : Int) * step ∧ (k : Int) * step ≤ 128849018880 := by
  constructor
  · exact Int.mul_nonneg (by omega) (by omega)
  · have := Int.mul_le_mul (show (k : Int) ≤ 120 by omega) h2 (by omega) (by omega)
    omega
theorem SY_err (h0 : 0 ≤ T) (h0' : T ≤ 1073741824) (h1 : 1 ≤ step) (h2 : step ≤ 1073741824) (k : Nat) (hk : k < 120) : err (SY T V step k) (sy T V step k) = 0 := by
  obtain ⟨a, b⟩ := sy_rg h0 h0' h1 h2 k (by omega)
  unfold err
  rw [SY_n, if_neg (by show ¬ (T + (k : Int) * step < 0 ∨ 1099511627776 < T + (k : Int) * step); omega), if_neg ?_, if_neg (by omega)]
  rintro ⟨h3, h4⟩
  obtain ⟨j, rfl⟩ : ∃ j, k = j + 1 := ⟨k - 1, by omega⟩
  rw [(SY_t j).1] at h4
  have h4 : T + ((j + 1 : Nat) : Int) * step ≤ T + (j : Int) * step := h4
  have e : ((j + 1 : Nat) : Int) * step = (j : Int) * step + step := by rw [show ((j + 1 : Nat) : Int) = (j : Int) + 1 by omega, Int.add_mul, Int.one_mul]
  omega
theorem SY_ok (h0 : 0 ≤ T) (h0' : T ≤ 1073741824) (h1 : 1 ≤ step) (h2 : step ≤ 1073741824) (hV : V < 18446744073709551616) : ∀ k, k ≤ 120 → (SY T V step k).Ok
  | 0, _ => St.zero_ok
  | k + 1, h => (SY_ok h0 h0' h1 h2 hV k (by omega)).put (SY_err h0 h0' h1 h2 k (by omega)) hV
theorem kind0 : kind 0 = 0 := by unfold kind; rw [width_zero]; decide
theorem timeB0 : (timeB 0).length = 1 := by unfold timeB; rw [kind0, List.length_append, bitsOf_length]; decide
theorem valB0 (a b : Nat) : (valB a b 0).length = 1 := by unfold valB; rw [if_pos rfl]; rfl
theorem SY_one : (SY T V step 1).bits.length = 105 := by
  show (([] : List Bool) ++ bitsOf _ 41 ++ bitsOf _ 64).length = 105
  simp [bitsOf_length]
theorem SY_two : (SY T V step 2).bits.length = 105 + (timeB (fold step)).length + 1 ∧ (SY T V step 2).step = step := by
  have e : ((1 : Nat) : Int) * step = step := by omega
  have e0 : ((0 : Nat) : Int) * step = 0 := by omega
  have hn : (SY T V step 1).n = 1 := SY_n 1
  obtain ⟨ht, hv⟩ := SY_t (T := T) (V := V) (step := step) 0
  have hst : (SY T V step 1).step = 0 := rfl
  have hput : SY T V step 2 = (SY T V step 1).put (sy T V step 1) := rfl
  rw [hput]
  unfold St.put
  rw [if_neg (by rw [hn]; omega)]
  refine ⟨?_, ?_⟩
  · show ((SY T V step 1).bits ++ timeB (fold (T + ((1 : Nat) : Int) * step - (SY T V step (0 + 1)).t - (SY T V step 1).step)) ++ valB _ _ (V ^^^ (SY T V step (0 + 1)).v)).length = _
    rw [ht, hv, hst, e, e0, show T + step - (T + 0) - 0 = step by omega, Nat.xor_self, List.length_append, List.length_append, SY_one, valB0]
  · show T + ((1 : Nat) : Int) * step - (SY T V step (0 + 1)).t = step
    rw [ht, e, e0]; omega
theorem SY_more : ∀ k, (SY T V step (k + 2)).bits.length = (SY T V step 2).bits.length + 2 * k ∧ (SY T V step (k + 2)).step = step
  | 0 => ⟨rfl, SY_two.2⟩
  | k + 1 => by
    obtain ⟨i1, i2⟩ := SY_more k
    have hn : (SY T V step (k + 2)).n = k + 2 := SY_n _
    obtain ⟨ht, hv⟩ := SY_t (T := T) (V := V) (step := step) (k + 1)
    have e : ((k + 2 : Nat) : Int) * step = ((k + 1 : Nat) : Int) * step + step := by rw [show ((k + 2 : Nat) : Int) = ((k + 1 : Nat) : Int) + 1 by omega, Int.add_mul, Int.one_mul]
    have hput : SY T V step (k + 1 + 2) = (SY T V step (k + 2)).put (sy T V step (k + 2)) := rfl
    rw [hput]
    unfold St.put
    rw [if_neg (by rw [hn]; omega)]
    refine ⟨?_, ?_⟩
    · show ((SY T V step (k + 2)).bits ++ timeB (fold (T + ((k + 2 : Nat) : Int) * step - (SY T V step (k + 1 + 1)).t - (SY T V step (k + 2)).step)) ++ valB _ _ (V ^^^ (SY T V step (k + 1 + 1)).v)).length = _
      rw [ht, hv, i2, e, show T + (((k + 1 : Nat) : Int) * step + step) - (T + ((k + 1 : Nat) : Int) * step) - step = 0 by omega, show fold 0 = 0 by decide, Nat.xor_self, List.length_append, List.length_append, timeB0, valB0, i1]
      omega
    · show T + ((k + 2 : Nat) : Int) * step - (SY T V step (k + 1 + 1)).t = step
      rw [ht, e]; omega
theorem time_ge (h1 : 1 ≤ step) (h2 : step ≤ 1073741824) : 9 ≤ (timeB (fold step)).length := by
  have hf : fold step = 2 * step.toNat := by unfold fold; rw [if_neg (by omega)]
  have hw : 0 < width (fold step) := by rw [width_pos _ (by omega)]; omega
  have hk : 1 ≤ kind (fold step) := by unfold kind; rw [if_neg (by omega)]; repeat' split
                                       all_goals omega
  have hwd : 7 ≤ wd (kind (fold step)) := by
    unfold wd
    repeat' split
    all_goals omega
  unfold timeB
  rw [List.length_append, bitsOf_length]
  unfold unary
  have ho : ones (kind (fold step) : Int) 4 = kind (fold step) := by have := kind_le (fold step); unfold ones; omega
  rw [ho, List.length_append, List.length_replicate]
  split
  · simp; omega
  · have := kind_le (fold step); omega
theorem u_small {n : Nat} (h : n < 128) : (u n).length = 1 := by rw [u_lt h]; rfl
theorem u_two {n : Nat} (h : n < 16384) : (u n).length ≤ 2 := u_len_le 1 n (by omega)
theorem text_len (s : St) : (text s).length = (u s.n).length + ((u s.bits.length).length + (s.bits.length + 7) / 8) := by
  unfold text; rw [List.length_append, List.length_append, pack_length]
theorem SY_first : (text (SY T V step 1)).length = 16 := by
  rw [text_len, SY_n, SY_one, u_small (by omega), u_small (by omega)]
theorem SY_second (h1 : 1 ≤ step) (h2 : step ≤ 1073741824) : 17 ≤ (text (SY T V step 2)).length := by
  have := time_ge h1 h2
  have h3 := (SY_two (T := T) (V := V) (step := step)).1
  have := u_pos (SY T V step 2).bits.length
  rw [text_len, SY_n, u_small (by omega)]
  omega
theorem SY_last (h1 : 1 ≤ step) (h2 : step ≤ 1073741824) (n : Nat) (hn : 3 ≤ n) (hn2 : n ≤ 120) : (text (SY T V step n)).length ≤ (text (SY T V step 2)).length + (2 * (n - 2) + 7) / 8 + 1 := by
  obtain ⟨k, rfl⟩ : ∃ k, n = k + 2 := ⟨n - 2, by omega⟩
  have h3 := (SY_more (T := T) (V := V) (step := step) k).1
  have h4 := (SY_two (T := T) (V := V) (step := step)).1
  have h5 := timeB_len (fold step)
  have h6 := u_two (n := (SY T V step (k + 2)).bits.length) (by omega)
  have h7 := u_pos (SY T V step 2).bits.length
  rw [text_len, text_len, SY_n, SY_n, u_small (show k + 2 < 128 by omega), u_small (show 2 < 128 by omega)]
  omega
end

set_option maxHeartbeats 4000000 in
set_option maxRecDepth 10000 in
theorem xorSteady_no (T : Int) (V : Nat) (step n : Int) (w : World) (hW : WidthsAt w) (hT : -9223372036854775808 ≤ T ∧ T ≤ 9223372036854775807) (hr1 : -9223372036854775808 ≤ step ∧ step ≤ 9223372036854775807) (hr2 : -9223372036854775808 ≤ n ∧ n ≤ 9223372036854775807) (h : ¬ (0 ≤ T ∧ T ≤ 1073741824 ∧ 1 ≤ step ∧ step ≤ 1073741824 ∧ 3 ≤ n ∧ n ≤ 120)) :
    Calls Tryd.prog 6 #[.agg #[.int .i64 T, .int .u64 (V : Nat)], .int .i64 step, .int .i64 n] w (RetBelow w (.bool true)) := by
  have HAW := Lib.hid (fun w hW => awake7_any w hW)
  have HBA := Lib.hid (ba1 w (.cells #[.int .i64 T, .int .u64 (V : Nat)] 38))
  have HX := Lib.hid (Blk.new w #[.int .i64 T, .int .u64 (V : Nat)] 38)
  have hc : T < 0 ∨ (0 ≤ T ∧ 1073741824 < T) ∨ (0 ≤ T ∧ T ≤ 1073741824 ∧ step < 1) ∨ (0 ≤ T ∧ T ≤ 1073741824 ∧ 1 ≤ step ∧ 1073741824 < step) ∨ (0 ≤ T ∧ T ≤ 1073741824 ∧ 1 ≤ step ∧ step ≤ 1073741824 ∧ n < 3) ∨ (0 ≤ T ∧ T ≤ 1073741824 ∧ 1 ≤ step ∧ step ≤ 1073741824 ∧ 3 ≤ n ∧ 120 < n) := by omega
  clear h
  rcases hc with g1 | ⟨g1, g2⟩ | ⟨g1, g2, g3⟩ | ⟨g1, g2, g3, g4⟩ | ⟨g1, g2, g3, g4, g5⟩ | ⟨g1, g2, g3, g4, g5, g6⟩
  all_goals
    go_enter Tryd.func6, Tryd.ntmps6
    go_wp2_with fail
    refine (HAW.out _ (hW.below HBA.out)).mono ?_
    rintro e w1 ⟨rfl, hb1⟩
    have HB1 := Lib.hid (below_trans HBA.out hb1)
    have x0 : w1.cell? ⟨w.heap.size, 0, none⟩ = some (.int .i64 T) := (HX.out.below hb1).cell (i := 0) rfl
    clear hb1
    go_wp2_with fail
    refine (HAW.out _ (hW.below HB1.out)).mono ?_
    rintro e w2 ⟨rfl, hb2⟩
    have HB2 := Lib.hid (below_trans HB1.out hb2)
    clear hb2
    go_wp2_with fail
    go_ret
    exact ⟨rfl, HB2.out⟩

set_option maxHeartbeats 4000000 in
set_option maxRecDepth 10000 in
theorem xorSteady_yes (T : Int) (V : Nat) (step : Int) (n : Nat) (w : World) (hW : WidthsAt w) (h0 : 0 ≤ T) (h0' : T ≤ 1073741824) (h1 : 1 ≤ step) (h2 : step ≤ 1073741824) (hV : V < 18446744073709551616) (hn : 3 ≤ n) (hn2 : n ≤ 120) :
    Calls Tryd.prog 6 #[.agg #[.int .i64 T, .int .u64 (V : Nat)], .int .i64 step, .int .i64 n] w (RetBelow w (.bool true)) := by
  have HAW := Lib.hid (fun w hW => awake7_any w hW)
  have HOK := Lib.hid (fun k hk => SY_ok h0 h0' h1 h2 hV k hk)
  have HER := Lib.hid (fun k hk => SY_err h0 h0' h1 h2 (V := V) k hk)
  have HRG := Lib.hid (fun k hk => sy_rg h0 h0' h1 h2 k hk)
  have e1s : ((1 : Nat) : Int) * step = step := by omega
  have hof : ofS St.zero [(T, V), (T + step, V)] = (SY T V step 2, 0) := by
    have g0 := HER.out 0 (by omega)
    have g1 := HER.out 1 (by omega)
    rw [sy0] at g0
    have q1 : sy T V step 1 = (T + step, V) := by unfold sy; rw [e1s]
    have q2 : SY T V step 1 = St.zero.put (T, V) := by rw [SY, SY, sy0]
    rw [q1, q2] at g1
    rw [ofS, if_pos (show err St.zero (T, V) = 0 from g0), ofS, if_pos g1, ofS, SY, q1, q2]
  have hx2 : ∀ x ∈ [(T, V), (T + step, V)], x.2 < 18446744073709551616 := by
    intro x hx
    simp only [List.mem_cons, List.not_mem_nil, or_false] at hx
    rcases hx with rfl | rfl <;> exact hV
  obtain ⟨tx, htx⟩ : ∃ tx, tx = text (SY T V step 2) := ⟨_, rfl⟩
  obtain ⟨ty, hty⟩ : ∃ ty, ty = text (SY T V step 1) := ⟨_, rfl⟩
  obtain ⟨tz, htz⟩ : ∃ tz, tz = text (SY T V step n) := ⟨_, rfl⟩
  have l2 := SY_second (T := T) (V := V) h1 h2
  have l1 := SY_first (T := T) (V := V) (step := step)
  have l3 := SY_last (T := T) (V := V) h1 h2 n hn hn2
  have lt2 : (text (SY T V step 2)).length ≤ 1000000 := by
    rw [text_len]
    have ok := HOK.out 2 (by omega)
    have h1 := u_len (SY T V step 2).n (by have := ok.n; omega)
    have h2 := u_len (SY T V step 2).bits.length (by have := ok.len; have := ok.n; omega)
    have := ok.len; have := ok.n; omega
  have HOF := Lib.hid (fun v w' (h : SmsAt w' v [(T, V), (T + step, V)]) hW => (show Calls Tryd.prog 16 #[v] w' (RetBelow w' (.tuple #[.string (bs tx), .int .i64 0])) by
    have := of_any _ v w' h hW hx2
    rw [hof, ofTx_ok rfl] at this
    rw [htx]
    exact this))
  have HT2 := Lib.hid (fun B v w' (h : ChAt w' B v (SY T V step 2)) => (show Calls Tryd.prog 18 #[.pointer (some ⟨B, 0, none⟩)] w' (RetBelow w' (.string (bs tx))) by rw [htx]; exact chText_any B v _ w' h (HOK.out 2 (by omega))))
  have HT1 := Lib.hid (fun B v w' (h : ChAt w' B v (SY T V step 1)) => (show Calls Tryd.prog 18 #[.pointer (some ⟨B, 0, none⟩)] w' (RetBelow w' (.string (bs ty))) by rw [hty]; exact chText_any B v _ w' h (HOK.out 1 (by omega))))
  have HTN := Lib.hid (fun B v w' (h : ChAt w' B v (SY T V step n)) => (show Calls Tryd.prog 18 #[.pointer (some ⟨B, 0, none⟩)] w' (RetBelow w' (.string (bs tz))) by rw [htz]; exact chText_any B v _ w' h (HOK.out n (by omega))))
  rw [← htx] at l2 l3 lt2
  rw [← hty] at l1
  rw [← htz] at l3
  have L1 := Lib.hid l1
  have L2 := Lib.hid l2
  have L3 := Lib.hid l3
  have LT2 := Lib.hid lt2
  have HV := Lib.hid hV
  have HBA := Lib.hid (ba1 w (.cells #[.int .i64 T, .int .u64 (V : Nat)] 38))
  have HX0 := Lib.hid (Blk.new w #[.int .i64 T, .int .u64 (V : Nat)] 38)
  clear hof hx2 htx hty htz l1 l2 l3 lt2 e1s hV
  go_enter Tryd.func6, Tryd.ntmps6
  go_wp2_with fail
  refine (HAW.out _ (hW.below HBA.out)).mono ?_
  rintro e w1 ⟨rfl, hb1⟩
  have HB1 := Lib.hid (below_trans HBA.out hb1)
  have HX := Lib.hid (HX0.out.below hb1)
  have x0 : w1.cell? ⟨w.heap.size, 0, none⟩ = some (.int .i64 T) := HX.out.cell (i := 0) rfl
  have HW1 := Lib.hid (hW.below HB1.out)
  have hN0 := ChN.start (Below.refl w1.heap.size w1) 43
  obtain ⟨B, hB⟩ : ∃ B, B = w1.heap.size := ⟨_, rfl⟩
  obtain ⟨X, hX⟩ : ∃ X, X = w.heap.size := ⟨_, rfl⟩
  rw [← hX] at HX x0
  rw [← hB] at hN0
  have HBE := Lib.hid hB
  have HXE := Lib.hid hX
  clear hB hX hb1
  rw [← HXE.out]
  go_wp2_with fail
  rw [← HBE.out]
  clear x0
  go_loopw [8] (fun i wr => ∃ (k : Nat) (v : Value), k ≤ n ∧ i = .int .i64 k ∧ Hid (ChN w1 wr B v (SY T V step k))) (fun i _ => n - (intOf i).toNat)
  case atStart => exact ⟨0, _, Nat.zero_le _, rfl, Lib.hid hN0⟩
  case round =>
    clear hN0
    obtain ⟨k, v, hk, rfl, HN⟩ := hrel
    have hXr := HX.out.below HN.out.below
    have y0 : wr.cell? ⟨X, 0, none⟩ = some (.int .i64 T) := hXr.cell (i := 0) rfl
    have y1 : wr.cell? ⟨X, 1, none⟩ = some (.int .u64 (V : Nat)) := hXr.cell (i := 1) rfl
    clear hXr
    by_cases hgo : k < n
    · obtain ⟨P, hP⟩ : ∃ P, (k : Int) * step = P := ⟨_, rfl⟩
      have hrg := HRG.out k (by omega)
      rw [hP] at hrg
      have hfl : sy T V step k = (T + P, V) := by unfold sy; rw [hP]
      have hap := append_ok w1 B v (SY T V step k) (T + P, V)
      have HAP := Lib.hid (fun wx (hN : ChN w1 wx B v (SY T V step k)) => hap wx hN HW1.out (HOK.out k (by omega)) (by rw [← hfl]; exact HER.out k (by omega)) HV.out)
      have HS := Lib.hid (show SY T V step (k + 1) = (SY T V step k).put (T + P, V) by rw [SY, hfl])
      clear hap hfl
      go_wp2_with fail
      refine (HAP.out _ HN.out).mono ?_
      rintro e w2 ⟨rfl, v2, hch⟩
      have hN2 := HN.out.next hch
      rw [← HS.out] at hN2
      have HN2 := Lib.hid hN2
      clear hch hN2 y0 y1
      by_cases hk1 : k = 1
      · subst hk1
        have hXr := HX.out.below HN2.out.below
        have y0 : ∀ o, (w2.alloc o).cell? ⟨X, 0, none⟩ = some (.int .i64 T) := fun o => (hXr.below (ba1 w2 o)).cell (i := 0) rfl
        have y1 : ∀ o, (w2.alloc o).cell? ⟨X, 1, none⟩ = some (.int .u64 (V : Nat)) := fun o => (hXr.below (ba1 w2 o)).cell (i := 1) rfl
        have hD := ChN.start (Below.refl w2.heap.size w2) 43
        have hap := append_ok w2 _ _ _ (T, V) _ hD (HW1.out.below HN2.out.below) St.zero_ok (by have := HER.out 0 (by omega); rw [sy0] at this; exact this) HV.out
        have HAD := Lib.hid hap
        have HD := Lib.hid hD
        have HS1 := Lib.hid (show SY T V step 1 = St.zero.put (T, V) by rw [SY, SY, sy0])
        clear hXr hD hap
        go_wp2_with fail
        refine HAD.out.mono ?_
        rintro e w3 ⟨rfl, v3, hch3⟩
        have hD3 := HD.out.next hch3
        rw [← HS1.out] at hD3
        have HD3 := Lib.hid hD3
        have HN3 := Lib.hid (HN2.out.then_below hD3.below)
        clear hch3 hD3 y0 y1
        go_wp2_with fail
        refine (HT2.out _ _ _ HN3.out.at_).mono ?_
        rintro e w4 ⟨rfl, hb4⟩
        have HN4 := Lib.hid (HN3.out.then_below hb4)
        have HD4 := Lib.hid (HD3.out.then_below hb4)
        clear hb4
        go_wp2_with fail
        refine (HT1.out _ _ _ HD4.out.at_).mono ?_
        rintro e w5 ⟨rfl, hb5⟩
        have HN5 := Lib.hid (HN4.out.then_below hb5)
        have l1 := L1.out
        have l2 := L2.out
        have lt2 := LT2.out
        clear hb5
        go_wp2_with fail
        go_roundw
        case rel => exact ⟨2, v2, by omega, by go_num, HN5⟩
        case measure => simp [intOf]; omega
      · have hk1' : ¬ ((k : Int) = 1) := by omega
        go_wp2_with fail
        go_roundw
        case rel => exact ⟨k + 1, v2, by omega, by go_num, HN2⟩
        case measure => simp [intOf]; omega
    · obtain rfl : k = n := by omega
      have hlt := lits (w := wr) (l := [(T, V), (T + step, V)]) (by simp)
      have HLT := Lib.hid hlt
      have HBL := Lib.hid (ba1 wr (.cells (smc [(T, V), (T + step, V)]).toArray 38))
      clear hlt
      go_wp2_with fail
      refine (HOF.out _ _ HLT.out (HW1.out.below (below_trans HN.out.below HBL.out))).mono ?_
      rintro e w2 ⟨rfl, hb2⟩
      have HN2 := Lib.hid (HN.out.then_below (below_trans HBL.out hb2))
      clear hb2 y0 y1
      go_wp2_with fail
      refine (HTN.out _ _ _ HN2.out.at_).mono ?_
      rintro e w3 ⟨rfl, hb3⟩
      have HN3 := Lib.hid (below_trans HB1.out (HN2.out.then_below hb3).below)
      have l3 := L3.out
      have lt2 := LT2.out
      clear hb3
      go_wp2_with fail
      go_ret
      exact ⟨congrArg (fun b => Ending.returned (.bool b)) (decide_eq_true (by omega)), HN3.out⟩

/-- a sample as an argument -/
def SmpArg (v : Value) (x : Sm) : Prop := v = .agg #[.int .i64 x.1, .int .u64 (x.2 : Nat)] ∧ (-9223372036854775808 ≤ x.1 ∧ x.1 ≤ 9223372036854775807) ∧ x.2 < 18446744073709551616
section
variable {W : World} {base : Nat} {spare : Nat → Bool} {held : Bool} {H : Type} {enc : TypeId × Value → H}
theorem open_smp {b0 : Nat} {r : Reach} {v : Value} {d : DataW H} {p : List MemPlace} (hval : Value.okWide Tryd.prog W r b0 38 v) (h : DataW.Trod enc Tryd.prog W base spare held 38 v d p) : ∃ x : Sm, SmpArg v x := by
  obtain ⟨v0, v1, y0, y1, k, rfl, _, _, g0, g1⟩ := Go.Joins.open_agg2 Tryd.underlying38 (by kernel_rfl) (by kernel_rfl) hval h
  obtain ⟨n0, e0, _, w0⟩ := DataW.trod_int Tryd.underlying2 g0
  obtain ⟨n1, e1, _, w1⟩ := DataW.trod_int Tryd.underlying36 g1
  replace e0 : v0 = _ := (List.cons.inj e0).1
  replace e1 : v1 = _ := (List.cons.inj e1).1
  have b0 := bounds_i64 w0
  have b1 := bounds_u64 w1
  obtain ⟨m, rfl⟩ : ∃ m : Nat, n1 = m := ⟨n1.toNat, by omega⟩
  exact ⟨(n0, m), by rw [e0, e1], b0, by show m < _; omega⟩
end

theorem xorSteady_walk0 (v : Value) (x : Sm) (step : Int) (h1 : (Lit.int .i64 step).wf = true) (n : Int) (h2 : (Lit.int .i64 n).wf = true) (w : World) (hx : SmpArg v x) (hW : WidthsAt w) :
    Calls Tryd.prog 6 #[v, .int .i64 step, .int .i64 n] w (RetBelow w (.bool true)) := by
  obtain ⟨rfl, hT, hV⟩ := hx
  obtain ⟨T, V⟩ := x
  by_cases h : 0 ≤ T ∧ T ≤ 1073741824 ∧ 1 ≤ step ∧ step ≤ 1073741824 ∧ 3 ≤ n ∧ n ≤ 120
  · obtain ⟨g1, g2, g3, g4, g5, g6⟩ := h
    obtain ⟨m, rfl⟩ : ∃ m : Nat, n = m := ⟨n.toNat, by omega⟩
    exact xorSteady_yes T V step m w hW g1 g2 g3 g4 hV (by omega) (by omega)
  · exact xorSteady_no T V step n w hW hT (bounds_i64 h1) (bounds_i64 h2) h

set_option maxRecDepth 100000 in
theorem xorSteady_lifted (os : Os) (started : os.Started) (H : Type) (enc : TypeId × Value → H) :
    ReturnsInHanded {} Tryd.checked os 6 .any (fun w args => (Rows.xorSteadySpec.pre enc Tryd.prog Tryd.f6 [] false w args ∧ laidMetH Tryd.prog [("barograph/xor.widths", Rows.laid_barograph_xor_widths)] w) ∧ sizedMet enc Tryd.prog Tryd.f6 (OpenSpec.ofChange Rows.xorSteadySpec) false w args)
      (Rows.xorSteadySpec.post enc Tryd.prog Tryd.f6 false true false false) := by
  refine returnsInHanded_of_change_and (C := Tryd.checked) (X := fun w _ => laidMetH Tryd.prog [("barograph/xor.widths", Rows.laid_barograph_xor_widths)] w) (fun _ _ _ hh h => h.of_heap hh) law_own started (by kernel_rfl) Tryd.func6
    (ChangeSpec.witness_shaped (enc := enc) (C := Tryd.checked) (os := os) (X := fun w _ => laidMetH Tryd.prog [("barograph/xor.widths", Rows.laid_barograph_xor_widths)] w) false (World.doorLaid Tryd.prog 400 os) #[.agg #[.int .i64 0, .int .u64 0], .int .i64 0, .int .i64 0] 8 rfl (World.shaped_of_RefB (by kernel_rfl) (by kernel_rfl)) (by kernel_rfl) (by kernel_rfl) (by kernel_rfl) (door_met os _)) ?_
  intro W base args ds gs before hval0 hW _ _ hL _
  have hval : ∀ (j : Nat) t v, Tryd.f6.params[j]? = some t → args[j]? = some v → Value.okWide Tryd.prog W .any base t v := hval0
  have hW' := hW
  obtain ⟨p, q, hA0, hV, rfl, _, _⟩ := hW
  have hA : DataW.TrodAll enc Tryd.prog W 0 (fun _ => true) true Tryd.f6.params.toList args.toList ds p := hA0
  rw [Tryd.params6] at hA hval
  obtain ⟨v0, vs0, d0, ds0, p0, q0, hargs, rfl, rfl, h0, r0⟩ := trodAll_cons hA
  obtain ⟨v1, vs1, d1, ds1, p1, q1, rfl, rfl, rfl, h1, r1⟩ := trodAll_cons r0
  obtain ⟨v2, vs2, d2, ds2, p2, q2, rfl, rfl, rfl, h2, r2⟩ := trodAll_cons r1
  obtain ⟨rfl, rfl, rfl⟩ := trodAll_nil r2
  obtain rfl : args = #[v0, v1, v2] := by cases args; simp_all
  obtain ⟨rfl, rfl⟩ := trodVars_none hV
  obtain ⟨a1, rfl, rfl, rfl, w1⟩ := open_int Tryd.underlying2 (hval 1 2 v1 rfl rfl) h1
  obtain ⟨a2, rfl, rfl, rfl, w2⟩ := open_int Tryd.underlying3 (hval 2 3 v2 rfl rfl) h2
  obtain ⟨ts0, hts0⟩ := open_smp (hval 0 38 v0 rfl rfl) h0
  refine (xorSteady_walk0 v0 ts0 a1 w1 a2 w2 W hts0 (of_laid hL)).mono fun e W' ⟨he, hb⟩ => ?_
  subst he
  exact ⟨_, rfl, law_post law_laid (by intro t ht; rw [Tryd.params6] at ht; simp only [List.mem_cons, List.not_mem_nil, or_false] at ht; rcases ht with rfl | rfl | rfl <;> exact ⟨by kernel_rfl, of_decide_eq_true (by kernel_rfl)⟩) rfl Tryd.underlying4 rfl rfl hW' hb⟩

theorem xorSteady_holds : Rows.XorSteadySaid :=
  OpenClaim.holds_of_wide 6 Tryd.f6 rfl rfl rfl rfl rfl rfl rfl ⟨rfl, rfl, rfl, rfl, rfl⟩ rfl rfl rfl rfl rfl (by kernel_rfl) Tryd.func6 (by kernel_rfl)
    (of_decide_eq_true (by kernel_rfl)) (by unfold Func.isWrapper; first | (rw [if_pos (by decide +kernel)]; kernel_rfl) | (rw [if_neg (by decide +kernel)]; exact ⟨rfl, rfl⟩))
    (fun os started H enc _ => xorSteady_lifted os started H enc)

theorem xorSteady_card : Rows.XorSteadyCardSaid :=
  Claim7.holds_tied_plain_at .later [] [.data] true (true, "95000c4295daf2b88b1a54d2cd38bdaca7f9c46c35c6ea7a8bec2a7142dbed1d") false
    xorSteady_holds (fun _ h => by cases h) (by kernel_rfl) (fun _ h => by cases h) xorSteady_row_tie rfl ⟨rfl, rfl⟩ (by kernel_rfl) rfl
    (fun f fn hf hfn => by
      obtain rfl : f = 6 := Option.some.inj ((show Tryd.prog.funcNamed "barograph/barographlaw07.XorSteady" = some 6 by kernel_rfl).symm.trans hf) |>.symm
      obtain rfl : fn = Tryd.f6 := (Option.some.inj (Tryd.func6.symm.trans hfn)).symm
      exact ⟨by kernel_rfl, fun j t ht => by
        rw [Tryd.params6] at ht
        rcases j with _ | j
        · obtain rfl : t = 38 := by simpa using ht.symm
          exact (show Tryd.prog.wantsStandIn 38 = false by kernel_rfl)
        rcases j with _ | j
        · obtain rfl : t = 2 := by simpa using ht.symm
          exact (show Tryd.prog.wantsStandIn 2 = false by kernel_rfl)
        rcases j with _ | j
        · obtain rfl : t = 3 := by simpa using ht.symm
          exact (show Tryd.prog.wantsStandIn 3 = false by kernel_rfl)
        simp at ht⟩)
    (by kernel_rfl)

end Go.Proofs.YtmoocomlcbalbaaDoor
