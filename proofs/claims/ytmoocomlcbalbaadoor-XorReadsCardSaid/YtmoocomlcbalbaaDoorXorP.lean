/-
  Layer 7: samples as arguments; the laws' Same and Rise.
-/
import Derived.Test.YtmoocomlcbalbaaDoorXorL
import Derived.Test.YtmoocomlcbalbaaDoorCut
namespace Go.Proofs.YtmoocomlcbalbaaDoor
open Go.RowKit Go.Bar Go.Bar.Bit Go.Bar.Leb Go.Bar.Xor

/-- an argument of samples -/
def SmsArg (W : World) (v : Value) (l : List Sm) : Prop := SmsAt W v l ∧ ∀ x ∈ l, x.2 < 18446744073709551616 ∧ -9223372036854775808 ≤ x.1 ∧ x.1 ≤ 9223372036854775807
set_option maxRecDepth 100000 in
open Go.ChangeShapes Go.WideShapes Go.Deep in
theorem open_sms {H : Type} {enc : TypeId × Value → H} {W : World} {base b0 : Nat} {spare : Nat → Bool} {held : Bool} {r : Reach} {v : Value} {d : DataW H} {p : List MemPlace} (hval : Value.okWide Tryd.prog W r b0 23 v)
    (h : DataW.Trod enc Tryd.prog W base spare held 23 v d p) : ∃ l, SmsArg W v l := by
  obtain ⟨A, n, c, rfl, hnc, hcm, hx⟩ := open_slice_fields Tryd.underlying23 Tryd.underlying38 (by kernel_rfl) (by kernel_rfl) (Nat.zero_lt_succ 1 : 0 < 2) hval h
  rcases Nat.eq_zero_or_pos n with h0 | h0
  · subst h0
    exact ⟨[], ⟨rfl, A, c, rfl, hnc, hcm, fun h => absurd h (by simp)⟩, by simp⟩
  · obtain ⟨b, o, rfl, hb, hf⟩ := hx h0
    obtain ⟨rs, hl, ht⟩ := list_of (fun i (r : Sm) => W.cell? ⟨b, o + i * 2, none⟩ = some (.int .i64 r.1) ∧ W.cell? ⟨b, o + i * 2 + 1, none⟩ = some (.int .u64 (r.2 : Nat)) ∧ r.2 < 18446744073709551616 ∧ -9223372036854775808 ≤ r.1 ∧ r.1 ≤ 9223372036854775807) n (fun i hi => by
      obtain ⟨x0, y0, k0, c0, t0⟩ := hf i hi 0 _ rfl
      obtain ⟨x1, y1, k1, c1, t1⟩ := hf i hi 1 _ rfl
      obtain ⟨n0, e0, _, w0⟩ := DataW.trod_int Tryd.underlying2 t0
      obtain ⟨n1, e1, _, w1⟩ := DataW.trod_int Tryd.underlying36 t1
      replace e0 : x0 = _ := (List.cons.inj e0).1
      replace e1 : x1 = _ := (List.cons.inj e1).1
      have b0 := bounds_i64 w0
      have b1 := bounds_u64 w1
      subst e0; subst e1
      refine ⟨(n0, n1.toNat), c0, ?_, by show n1.toNat < _; omega, b0.1, b0.2⟩
      rw [Nat.add_assoc, show ((n1.toNat : Nat) : Int) = n1 by omega]; exact c1)
    refine ⟨rs, ⟨flat2_length _ _ rs, some ⟨b, o, none⟩, c, by rw [hl], by rw [hl]; exact hnc, hcm, fun _ => ⟨b, o, rfl, hb, fun j hj => ?_⟩⟩, fun r hr => by obtain ⟨i, hi⟩ := List.mem_iff_getElem?.1 hr; exact (ht i r hi).2.2⟩
    have hlt : j / 2 < rs.length := by omega
    have hg := List.getElem?_eq_getElem hlt
    obtain ⟨g0, g1, _⟩ := ht _ _ hg
    obtain ⟨f0, f1⟩ := flat2 (fun x : Sm => Value.int .i64 x.1) (fun x : Sm => Value.int .u64 (x.2 : Nat)) rs (j / 2) _ hg
    rcases Nat.mod_two_eq_zero_or_one j with hm | hm
    · have e : j / 2 * 2 = j := by omega
      rw [e] at g0 f0
      exact g0.trans f0.symm
    · have e : j / 2 * 2 + 1 = j := by omega
      rw [Nat.add_assoc, e] at g1
      rw [e] at f1
      exact g1.trans f1.symm

set_option maxHeartbeats 4000000 in
set_option maxRecDepth 10000 in
/-- the same samples are the same -/
theorem same_any (l : List Sm) (v u : Value) (w : World) (h : SmsAt w v l) (h' : SmsAt w u l) :
    Calls Tryd.prog 14 #[v, u] w (RetBelow w (.int .i64 0)) := by
  obtain ⟨A, c, rfl, hlc, hcm⟩ := h.shape
  obtain ⟨A', c', rfl, hlc', hcm'⟩ := h'.shape
  unfold maxLen at hcm hcm'
  go_enter Tryd.func14, Tryd.ntmps14
  go_wp2_with fail
  go_loopw [13] (fun i wr => ∃ k : Nat, k ≤ l.length ∧ i = .int .i64 k ∧ Below w.heap.size w wr) (fun i _ => l.length - (intOf i).toNat)
  case atStart => exact ⟨0, Nat.zero_le _, rfl, Below.refl _ _⟩
  case round =>
    obtain ⟨k, hk, rfl, hB⟩ := hrel
    by_cases hgo : k < l.length
    · obtain ⟨x, hxk⟩ : ∃ x, l[k]? = some x := ⟨_, List.getElem?_eq_getElem hgo⟩
      have HH := Lib.hid (h.below hB)
      have HH' := Lib.hid (h'.below hB)
      obtain ⟨b, o, rfl, hb, f0, f1⟩ := HH.out.at_ hxk
      obtain ⟨b', o', rfl, hb', f0', f1'⟩ := HH'.out.at_ hxk
      have F0 := Lib.hid f0
      have F1 := Lib.hid f1
      have F0' := Lib.hid f0'
      have F1' := Lib.hid f1'
      have hci : (0 : Int) ≤ (k : Int) := by omega
      have hci2 : (k : Int) < l.length := by omega
      clear hxk f0 f1 f0' f1'
      go_wp2_with fail
      refine wp_region_known [(3, .agg #[.int .i64 x.1, .int .u64 (x.2 : Nat)]), (7, .agg #[.int .i64 x.1, .int .u64 (x.2 : Nat)])] (by kernel_rfl) 26 (by kernel_rfl) rfl ?_
      repeat (first
        | (refine Chain.step (v := ?_) (a' := ?_) rfl rfl rfl ?_ ?_ ?_
           rotate_left 2
           focus (intro w; go_simp; try with_reducible rfl)
           focus (simp only [Act.put, List.setIfInBounds_toArray, List.set_cons_succ, List.set_cons_zero]; try rfl))
        | (refine Chain.call (a' := ?_) _ rfl rfl rfl (fun wx hw => ?_) ?_ ?_
           rotate_left 1
           focus
             first
             | (have g0 := (hw.cell (p := ⟨b, o + k * 2, none⟩) (World.block_lt_of_cell? _ _ F0.out)).trans F0.out
                have g1 := (hw.cell (p := ⟨b, o + k * 2 + 1, none⟩) (World.block_lt_of_cell? _ _ F1.out)).trans F1.out
                have g0' := (hw.cell (p := ⟨b', o' + k * 2, none⟩) (World.block_lt_of_cell? _ _ F0'.out)).trans F0'.out
                have g1' := (hw.cell (p := ⟨b', o' + k * 2 + 1, none⟩) (World.block_lt_of_cell? _ _ F1'.out)).trans F1'.out
                go_simp
                first | exact ⟨rfl, Below.refl _ _⟩ | exact Below.refl _ _)
           focus (simp only [Act.put, List.setIfInBounds_toArray, List.set_cons_succ, List.set_cons_zero]; try rfl))
        | (refine Chain.skip (a' := ?_) rfl rfl rfl ?_ ?_
           rotate_left 1
           focus (simp only [Act.put, List.setIfInBounds_toArray, List.set_cons_succ, List.set_cons_zero]; try rfl)))
      refine Chain.end_ (fun wz hwz _ => ?_)
      go_wp2_with fail
      go_roundw
      case rel => exact ⟨k + 1, by omega, by go_num, below_trans hB hwz⟩
      case measure => simp [intOf]; omega
    · go_wp2_with fail
      go_ret
      exact ⟨rfl, hB⟩

/-- rising times -/
def rise (t : Int) : List Sm → List Sm
  | [] => []
  | x :: l => (t + (1 + x.1 % 1000000000), x.2) :: rise (t + (1 + x.1 % 1000000000)) l
def riseL (l : List Sm) : List Sm := rise 0 (l.take 20)
theorem rise_length : ∀ (l : List Sm) (t : Int), (rise t l).length = l.length
  | [], _ => rfl
  | x :: l, t => by rw [rise, List.length_cons, List.length_cons, rise_length l]
theorem riseL_length (l : List Sm) : (riseL l).length ≤ 20 := by unfold riseL; rw [rise_length]; exact List.length_take_le _ _
theorem rise_v : ∀ (l : List Sm) (t : Int), (∀ x ∈ l, x.2 < 18446744073709551616) → ∀ x ∈ rise t l, x.2 < 18446744073709551616
  | [], _, _, x, hx => by simp [rise] at hx
  | y :: l, t, h, x, hx => by
    rw [rise, List.mem_cons] at hx
    rcases hx with rfl | hx
    · exact h y (by simp)
    · exact rise_v l _ (fun z hz => h z (by simp [hz])) x hx
theorem rise_good : ∀ (l : List Sm) (s : St) (t : Int), s.Ok → (∀ x ∈ l, x.2 < 18446744073709551616) → (0 < s.n → s.t ≤ t) → 0 ≤ t → t + l.length * 1000000000 ≤ 1099511627776 → s.n + l.length ≤ 120 → ∃ s', ofS s (rise t l) = (s', 0)
  | [], s, t, _, _, _, _, _, _ => ⟨s, rfl⟩
  | x :: l, s, t, hs, hx, h1, h2, h3, h4 => by
    rw [List.length_cons] at h3 h4
    have hm := Int.emod_nonneg x.1 (show (1000000000 : Int) ≠ 0 by decide)
    have hm2 := Int.emod_lt_of_pos x.1 (show (0 : Int) < 1000000000 by decide)
    have he : err s (t + (1 + x.1 % 1000000000), x.2) = 0 := by
      unfold err
      rw [if_neg (by simp only; omega), if_neg (by simp only; intro hh; have := h1 hh.1; omega), if_neg (by omega)]
    rw [rise, ofS, if_pos he]
    obtain ⟨a, b, c⟩ := put_n s (t + (1 + x.1 % 1000000000), x.2)
    exact rise_good l _ _ (hs.put he (hx x (by simp))) (fun z hz => hx z (by simp [hz])) (fun _ => by rw [b]; exact Int.le_refl _) (by omega) (by omega) (by rw [a]; omega)
theorem riseL_good (l : List Sm) (hx : ∀ x ∈ l, x.2 < 18446744073709551616) : ∃ s', ofS St.zero (riseL l) = (s', 0) := by
  have hl : (l.take 20).length ≤ 20 := List.length_take_le _ _
  exact rise_good _ St.zero 0 St.zero_ok (fun x h => hx x (List.mem_of_mem_take h)) (fun h => absurd h (by decide)) (by decide) (by omega) (by show 0 + _ ≤ 120; omega)
theorem rise_drop {l : List Sm} {k : Nat} {x : Sm} (h : l[k]? = some x) (t : Int) : rise t (l.drop k) = (t + (1 + x.1 % 1000000000), x.2) :: rise (t + (1 + x.1 % 1000000000)) (l.drop (k + 1)) := by
  obtain ⟨hl, he⟩ := List.getElem?_eq_some_iff.1 h
  rw [List.drop_eq_getElem_cons hl, rise, he]

/-- new samples -/
def RetNew (w : World) (l : List Sm) (e : Ending) (w' : World) : Prop := ∃ v, e = .returned v ∧ FBuf w w' 38 2 v l.length (smc l) ∧ Below w.heap.size w w'

set_option maxHeartbeats 4000000 in
set_option maxRecDepth 10000 in
theorem rise_any (l : List Sm) (v : Value) (w : World) (h : SmsArg w v l) :
    Calls Tryd.prog 15 #[v] w (RetNew w (riseL l)) := by
  obtain ⟨h, hx⟩ := h
  obtain ⟨A, c, rfl, hlc, hcm⟩ := h.shape
  unfold maxLen at hcm
  have hba := ba1 w (.cells #[] 38)
  have hlit : FBuf w (w.alloc (.cells #[] 38)) 38 2 (.slice (some ⟨w.heap.size, 0, none⟩) 0 0) 0 [] := ⟨Buf.lit w 38 2 0 [] (by simp) (Nat.zero_le _), by intro j hj; injection (show some w.heap.size = some j from hj) with hj; omega⟩
  have HXX := Lib.hid hx
  obtain ⟨R, hR⟩ : ∃ R, R = riseL l := ⟨_, rfl⟩
  rw [← hR]
  have HR := Lib.hid hR
  have HL := Lib.hid hlit
  have HBA := Lib.hid hba
  clear hx hR hlit hba
  go_enter Tryd.func15, Tryd.ntmps15
  go_wp2_with fail
  go_loopw [3, 4, 5] (fun out t i wr => ∃ (k : Nat) (z : Int) (acc : List Sm), k ≤ l.length ∧ k ≤ 20 ∧ i = .int .i64 k ∧ t = .int .i64 z ∧ 0 ≤ z ∧ z ≤ k * 1000000000 ∧ Hid (acc.length = k) ∧ Hid (FBuf w wr 38 2 out acc.length (smc acc)) ∧ Hid (Below w.heap.size w wr) ∧ Hid (acc ++ rise z ((l.take 20).drop k) = R)) (fun _ _ i _ => 20 - (intOf i).toNat)
  case atStart => exact ⟨0, 0, [], Nat.zero_le _, by omega, rfl, rfl, by omega, by omega, Lib.hid rfl, HL, HBA, Lib.hid (by rw [HR.out]; rfl)⟩
  case round =>
    obtain ⟨k, z, acc, hk, hk20, rfl, rfl, hz0, hz1, hac, HF, HB, HC⟩ := hrel
    by_cases hgo : k < l.length ∧ k < 20
    · obtain ⟨hg1, hg2⟩ := hgo
      obtain ⟨x, hxk⟩ : ∃ x, l[k]? = some x := ⟨_, List.getElem?_eq_getElem hg1⟩
      have hxt : (l.take 20)[k]? = some x := by rw [List.getElem?_take, if_pos hg2, hxk]
      have hrd := rise_drop hxt z
      have hxb := HXX.out x (List.mem_of_getElem? hxk)
      obtain ⟨b, o, rfl, hb, f0, f1⟩ := (h.below HB.out).at_ hxk
      have hci : (0 : Int) ≤ (k : Int) := by omega
      have hci2 : (k : Int) < l.length := by omega
      obtain ⟨T, V⟩ := x
      simp only at hrd hxb f0 f1
      obtain ⟨M, hM⟩ : ∃ M, M = T % 1000000000 := ⟨_, rfl⟩
      have hM0 : 0 ≤ M := by omega
      have hM1 : M < 1000000000 := by omega
      obtain ⟨Q, hQ⟩ : ∃ Q, Q = T.tmod 1000000000 := ⟨_, rfl⟩
      have hQ1 : -1000000000 < Q := by rw [hQ]; have := Int.tmod_lt_of_pos (-T) (show (0 : Int) < 1000000000 by decide); rw [Int.neg_tmod] at this; omega
      have hQ2 : Q < 1000000000 := by rw [hQ]; exact Int.tmod_lt_of_pos T (by decide)
      have hQM : (Q + 1000000000) % 1000000000 = M := by
        rw [hM, hQ, Int.add_emod_right]
        have := Int.tmod_add_mul_tdiv T 1000000000
        omega
      rw [← hM] at hrd
      have HN := Lib.hid (show (acc ++ [(z + (1 + M), V)]) ++ rise (z + (1 + M)) ((l.take 20).drop (k + 1)) = R by rw [← HC.out, hrd]; simp)
      have hQe : T.tmod 1000000000 = Q := hQ.symm
      have hF := HF.out
      have hBs := HB.out.size
      have hal : acc.length ≤ 20 := by have := hac.out; omega
      obtain ⟨oA, oc, rfl, _⟩ := hF.buf.shape
      clear hxk hxt hrd hM hQ HC
      go_wp2_with (at_builtin; refine wpList_append_flit rfl (.tmp 28) (.tmp 36) 23 rfl sm_ty rfl hF.buf rfl (by simp) rfl (by simp [Value.oneCell']) (by simp only [maxLen]; omega) (by omega) ?_; intro v3 w8 hb8 ha8 hg8; have hbl8 := ba1 wr (.cells #[.int .i64 (z + (1 + M)), .int .u64 (V : Nat)] 38); have hbs8 := Lib.hid ((below_trans HB.out hbl8).trans ((hF.below hbl8).belowB (Nat.le_trans hBs hbl8.size) ha8)); have hF8 := Lib.hid ((hF.below hbl8).step (Nat.le_trans hBs hbl8.size) hb8 hg8); clear hb8 ha8 hg8)
      go_roundw
      case rel =>
        refine ⟨k + 1, z + (1 + M), acc ++ [(z + (1 + M), V)], by omega, by omega, by go_num, rfl, by omega, by omega, Lib.hid (by rw [List.length_append, hac.out]; rfl), ?_, hbs8, HN⟩
        have hsm : smc (acc ++ [(z + (1 + M), V)]) = smc acc ++ [.int .i64 (z + (1 + M)), .int .u64 (V : Nat)] := by rw [smc_append]; rfl
        rw [hsm, List.length_append]
        exact hF8
      case measure => simp [intOf]; omega
    · have hend : (l.take 20).drop k = [] := List.drop_of_length_le (by rw [List.length_take]; omega)
      have HE := Lib.hid (show acc = R by have := HC.out; rw [hend] at this; simpa [rise] using this)
      have hcs : (l.length ≤ k) ∨ (k < l.length ∧ 20 ≤ k) := by omega
      obtain ⟨oA, oc, rfl, _⟩ := HF.out.buf.shape
      clear hgo hend
      rcases hcs with h1 | ⟨h1, h2⟩
      all_goals
        go_wp2_with fail
        go_ret
        exact ⟨_, rfl, by rw [← HE.out]; exact HF.out, HB.out⟩

end Go.Proofs.YtmoocomlcbalbaaDoor
