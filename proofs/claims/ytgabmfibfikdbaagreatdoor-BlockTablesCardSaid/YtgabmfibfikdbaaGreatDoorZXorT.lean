/-
  Layer 7: the walk of the reference's Samples.
-/
import Derived.Test.YtgabmfibfikdbaaGreatDoorZXorQ
import Derived.Test.YtgabmfibfikdbaaGreatDoorZMetU
import Derived.Test.YtgabmfibfikdbaaGreatDoorZLib12
import Derived.Deep.CutRange
import Derived.Deep.DeepCutAuto
import Derived.Deep.CutBlock

namespace Go.Proofs.YtgabmfibfikdbaaGreatDoor
open Go.RowKit Go.Bar Go.Bar.Bit Go.Bar.Leb Go.Bar.Xor

theorem BoolsAt.in_ {B : Nat} {w : World} {v : Value} {l : List Bool} (h : BoolsAt B w v l) : BoolsIn w v l := by
  refine ⟨h.buf.shape, fun i x hi => ?_⟩
  have hlt : i < l.length := (List.getElem?_eq_some_iff.1 hi).1
  obtain ⟨b, o, c, rfl, _, _, hc, _⟩ := Buf.at_ h.buf (by omega)
  refine ⟨b, o, c, rfl, ?_⟩
  rw [hc i hlt]
  unfold bls
  rw [List.getElem?_map, hi]
  rfl
theorem BoolsIn.below {w w' : World} {v : Value} {l : List Bool} (h : BoolsIn w v l) (hb : Below w.heap.size w w') : BoolsIn w' v l := by
  refine ⟨h.shape, fun i x hi => ?_⟩
  obtain ⟨b, o, c, rfl, hc⟩ := h.cells i x hi
  exact ⟨b, o, c, rfl, (hb.cell (p := ⟨b, o + i, none⟩) (World.block_lt_of_cell? _ _ hc)).trans hc⟩
theorem BoolsIn.none_ {w : World} {l : List Bool} (h : l = []) (A : Option Addr) (c : Nat) : BoolsIn w (.slice A 0 c) l := by
  subst h
  exact ⟨⟨A, c, rfl, Nat.zero_le _⟩, fun i x hi => by simp at hi⟩
theorem BoolsIn.sub_ {w : World} {A : Option Addr} {c : Nat} {L : List Bool} (h : BoolsIn w (.slice A L.length c) L) (p k : Nat) (hpk : p + k ≤ L.length) : BoolsIn w (.slice (A.map fun x => x.add p) k (c - p)) ((L.drop p).take k) := by
  have hl : ((L.drop p).take k).length = k := by rw [List.length_take, List.length_drop]; omega
  obtain ⟨A', c', he, hcap⟩ := h.shape
  injection he with e1 e2 e3
  subst e1; subst e3
  refine ⟨⟨_, _, by rw [hl], by omega⟩, fun i x hi => ?_⟩
  have hik : i < k := by rw [← hl]; exact (List.getElem?_eq_some_iff.1 hi).1
  rw [List.getElem?_take_of_lt hik, List.getElem?_drop] at hi
  obtain ⟨b, o, c', he, hc⟩ := h.cells (p + i) x hi
  injection he with e1 e2 e3
  subst e1; subst e3
  refine ⟨b, o + p, c - p, ?_, by rw [Nat.add_assoc]; exact hc⟩
  rw [hl]
  simp only [Option.map_some]
  rw [addr_add]
theorem rNumber_of {v : Value} {l : List Bool} {r n : Nat} (hr : r = num l) (hl : l.length = n) (W : World) (hn : n ≤ 64) (hb : BoolsIn W v l) :
    Calls Tryz.prog 110 #[v] W fun e w' => e = .returned (.int .u64 (r : Int)) ∧ w' = W := by
  subst hr
  exact bitNumber_any v l W (by omega) hb

set_option maxHeartbeats 1000000 in
set_option maxRecDepth 10000 in
theorem xtake_any (v : Value) (L : List Bool) (a n : Nat) (w : World) (h : BoolsIn w v L) (hL : L.length < 1000000000000) (ha : a < 1000000000000) (hn : n ≤ 64) :
    Calls Tryz.prog 86 #[v, .int .i64 (a : Int), .int .i64 (n : Int)] w fun e w' => e = .returned (.tuple #[.int .u64 ((rtake L a n).1 : Nat), .int .i64 ((rtake L a n).2 : Nat)]) ∧ w' = w := by
  obtain ⟨A, c, rfl, hc⟩ := h.shape
  by_cases hgt : L.length < a + n
  · have hr : rtake L a n = (0, L.length + 1) := by unfold rtake; rw [if_pos hgt]
    have hd : (L.length : Int) < (a : Int) + (n : Int) := by omega
    rw [hr]
    clear hr
    go_enter Tryz.func86, Tryz.ntmps86
    go_wp2_with fail
    go_ret2
    exact ⟨by go_num, rfl⟩
  · have hr : rtake L a n = (num ((L.drop a).take n), a + n) := by unfold rtake; rw [if_neg hgt]
    have hd : (a : Int) + (n : Int) ≤ (L.length : Int) := by omega
    rw [hr]
    obtain ⟨R, hR⟩ : ∃ R, R = num ((L.drop a).take n) := ⟨_, rfl⟩
    rw [← hR]
    have HR := Lib.hid hR
    have hl : ((L.drop a).take n).length = n := by rw [List.length_take, List.length_drop]; omega
    have HB := Lib.hid h
    clear hr hR hgt h
    go_enter Tryz.func86, Tryz.ntmps86
    go_wp2_with fail
    · obtain rfl : n = 0 := by omega
      refine (rNumber_of HR.out hl _ hn (BoolsIn.none_ (by simp) _ _)).mono ?_
      rintro e w' ⟨rfl, rfl⟩
      go_wp2_with fail
      go_ret2
      exact ⟨by go_num, rfl⟩
    · refine (rNumber_of HR.out hl _ hn (HB.out.sub_ a n (by omega))).mono ?_
      rintro e w' ⟨rfl, rfl⟩
      go_wp2_with fail
      go_ret2
      exact ⟨by go_num, rfl⟩

theorem rtake_of' {v : Value} {L : List Bool} {a n x b : Nat} (hr : rtake L a n = (x, b)) (hL : L.length < 1000000000000) (ha : a < 1000000000000) (hn : n ≤ 64) (w : World) (h : BoolsIn w v L) :
    Calls Tryz.prog 86 #[v, .int .i64 (a : Int), .int .i64 (n : Int)] w fun e w' => e = .returned (.tuple #[.int .u64 (x : Int), .int .i64 (b : Int)]) ∧ w = w' := by
  have := xtake_any v L a n w h hL ha hn
  rw [hr] at this
  exact this.mono (fun e w' ⟨h1, h2⟩ => ⟨h1, h2.symm⟩)
theorem rtake_bound {L : List Bool} {a n x b : Nat} (hr : rtake L a n = (x, b)) : x < 2 ^ n ∧ b ≤ L.length + 1 := by
  unfold rtake at hr
  split at hr
  · injection hr with h1 h2; subst h1; exact ⟨Nat.two_pow_pos _, by omega⟩
  · injection hr with h1 h2; subst h1; exact ⟨num_lt n _ (by rw [List.length_take, List.length_drop]; omega), by omega⟩
theorem takeMost_le120 {l r : List UInt8} {n e : Nat} (h : takeMost l 120 = (n, r, e)) (he : e = 0) : n ≤ 120 := by
  subst he
  unfold takeMost at h
  split at h
  · injection h with _ h; injection h with _ h; cases h
  · next hc =>
    rw [h] at hc
    exact Nat.le_of_not_lt fun hlt => hc ⟨rfl, by show (max 120 0 : Int).toNat < n; omega⟩
def RetRS (W : World) (R : Option (List Sm)) (e : Ending) (w' : World) : Prop :=
  ∃ v, e = .returned (.tuple #[v, .bool R.isSome]) ∧ (R = none → v = .slice none 0 0) ∧ (∀ l, R = some l → SmsAt w' v l) ∧ Below W.heap.size W w'
theorem RetRS.no {W w' : World} (h : Below W.heap.size W w') : RetRS W none (.returned (.tuple #[.slice none 0 0, .bool false])) w' := ⟨_, rfl, fun _ => rfl, fun l hh => (by cases hh), h⟩

theorem snoc_buf {w0 w : World} {v : Value} {l : List Sm} {T : Int} {V : Nat} (h : FBuf w0 w 41 2 v (l.length + 1) (smc l ++ [.int .i64 T, .int .u64 (V : Nat)])) : FBuf w0 w 41 2 v (l ++ [(T, V)]).length (smc (l ++ [(T, V)])) := by
  rw [List.length_append, smc_append]
  exact h
structure RL (w0 wr : World) (B : Nat) (L : List Bool) (ov : Value) (n i : Nat) (r : RS) (out : List Sm) (R : Option (List Sm × Nat)) : Prop where
  buf : FBuf w0 wr 41 2 ov out.length (smc out)
  below : Below w0.heap.size w0 wr
  len : out.length = i
  of : rloop L (n - i) r out = R
  v : ∀ x ∈ out, x.2 < 18446744073709551616 ∧ -9223372036854775808 ≤ x.1 ∧ x.1 ≤ 9223372036854775807

set_option maxHeartbeats 4000000 in
set_option maxRecDepth 10000 in
theorem rsamples_any (s : List UInt8) (W : World) (hs : s.length ≤ 10000) :
    Calls Tryz.prog 46 #[.string (bs s)] W (RetRS W (rsamples s)) := by
  obtain ⟨n, r1, e1, h1⟩ : ∃ n r e, takeMost s 120 = (n, r, e) := ⟨_, _, _, rfl⟩
  obtain ⟨m, r2, e2, h2⟩ : ∃ n r e, takeMost r1 1048576 = (n, r, e) := ⟨_, _, _, rfl⟩
  have p1 := takeMost_prop s 120 (by omega)
  have p2 := takeMost_prop r1 1048576 (by omega)
  rw [h1] at p1
  rw [h2] at p2
  have hr1 : r1.length ≤ 10000 := by have := p1.2.1; simp only at this; omega
  have hr2 : r2.length ≤ 10000 := by have := p2.2.1; simp only at this; omega
  have hml : m ≤ 9223372036854775807 := p2.1
  have hnl : n ≤ 9223372036854775807 := p1.1
  have HT1 := Lib.hid (fun w => refTakeMost_of (bs s) 120 h1 w (by rw [bs_size]; unfold maxLen; omega) (by omega) (by omega))
  have HT2 := Lib.hid (fun w => refTakeMost_of (bs r1) 1048576 h2 w (by rw [bs_size]; unfold maxLen; omega) (by omega) (by omega))
  have hR : rsamples s = if e1 ≠ 0 then none else if e2 ≠ 0 then none else rbody s n r2 m := by
    unfold rsamples
    rw [h1]
    simp only
    rw [h2]
    simp only
    split
    · rfl
    split
    · rfl
    rw [if_neg (by omega)]
  have HN := Lib.hid (show e1 = 0 → n ≤ 120 from fun h => takeMost_le120 h1 h)
  clear h1 h2 p1 p2
  by_cases he1 : e1 = 0
  · by_cases he2 : e2 = 0
    · rw [if_neg (by omega), if_neg (by omega)] at hR
      rw [hR]
      have hn120 := HN.out he1
      subst he1; subst he2
      obtain ⟨R, hRR⟩ : ∃ R, R = rbody s n r2 m := ⟨_, rfl⟩
      rw [← hRR]
      obtain ⟨L, hL⟩ : ∃ L, L = (unpack r2).take m := ⟨_, rfl⟩
      have hll : L.length ≤ 80000 := by rw [hL, List.length_take, unpack_length]; omega
      have HR := Lib.hid (show rdone s n L.length (rloop L n RS.zero []) = R by rw [hRR, hL]; rfl)
      have HOF := Lib.hid (fun w => (show Calls Tryz.prog 85 #[.string (bs r2), .int .i64 (m : Int)] w (RetBools w L) by
        have := refOf_any r2 m w (by omega) (by omega) (by omega)
        rw [show (unpack r2).take (clipTo m (8 * r2.length)) = L by rw [hL, List.take_eq_take_iff, unpack_length]; unfold clipTo; omega] at this
        exact this))
      clear hR hRR hL HN
      go_enter Tryz.func46, Tryz.ntmps46
      go_wp2_with fail
      refine (HT1.out _).mono ?_
      rintro e w1 ⟨rfl, k1, rfl⟩
      go_wp2_with fail
      refine (HT2.out _).mono ?_
      rintro e w2 ⟨rfl, k2, rfl⟩
      go_wp2_with fail
      refine (HOF.out _).mono ?_
      rintro e w3 ⟨lv, rfl, hat, hb3⟩
      have HB3 := Lib.hid (below_trans (below_draws W (k1 + k2)) hb3)
      have HLI := Lib.hid hat.in_
      obtain ⟨lA, lc, rfl, hlc⟩ := hat.buf.shape
      clear hat hb3
      have hst := Buf.lit w3 41 2 0 [] (by simp) (Nat.zero_le _)
      have HST := Lib.hid (show RL w3 (w3.alloc (.cells #[] 41)) 0 L (.slice (some ⟨w3.heap.size, 0, none⟩) 0 0) n 0 RS.zero [] (rloop L n RS.zero []) from
        ⟨⟨hst, fun k hk => by simp [Value.ownBlock] at hk; omega⟩, ba1 _ _, rfl, rfl, by simp⟩)
      clear hst
      obtain ⟨R0, hR0⟩ : ∃ R0, R0 = rloop L n RS.zero [] := ⟨_, rfl⟩
      rw [← hR0] at HR HST
      clear hR0
      go_wp2_with fail
      go_loopw [10, 11, 12, 13, 14, 15] (fun h10 a st fr wi i wr => ∃ (k : Nat) (r : RS) (out : List Sm) (ov : Value), h10 = ov ∧ k ≤ n ∧ i = .int .i64 (k : Int) ∧ a = .int .i64 (r.a : Nat) ∧ st = .int .i64 r.step ∧ fr = .int .i64 (r.fr : Nat) ∧ wi = .int .i64 (r.wi : Nat) ∧
        r.a ≤ L.length + 1 ∧ (-9223372036854775808 ≤ r.step ∧ r.step ≤ 9223372036854775807) ∧ r.fr ≤ 63 ∧ r.wi ≤ 64 ∧ Hid (RL w3 wr 0 L ov n k r out R0)) (fun _ _ _ _ _ i _ => n - (intOf i).toNat)
      case atStart => exact ⟨0, RS.zero, [], _, rfl, Nat.zero_le _, rfl, rfl, rfl, rfl, rfl, Nat.zero_le _, by decide, by decide, by decide, HST⟩
      case round =>
        obtain ⟨k, r, out, ov, rfl, hk, rfl, rfl, rfl, rfl, rfl, ha, hst, hfr, hwi, HL⟩ := hrel
        obtain ⟨wo, rfl⟩ : ∃ wo : World, wo = wr := ⟨_, rfl⟩
        by_cases hgo : k < n ∧ r.a ≤ L.length
        · obtain ⟨hg1, hg2⟩ := hgo
          have d1 : decide (r.a ≤ L.length) = true := decide_eq_true hg2
          have hkz : (0 : Int) ≤ (k : Int) := by omega
          have hnk : n - k = (n - (k + 1)) + 1 := by omega
          have hof := HL.out.of
          rw [hnk, rloop, if_pos hg2] at hof
          have hol := HL.out.len
          by_cases hk0 : (k : Int) ≤ 0
          · have dk : ((k : Int) == 0) = true := by rw [beq_iff_eq]; omega
            obtain rfl : out = [] := List.eq_nil_of_length_eq_zero (by omega)
            simp only [List.getLast?_nil] at hof
            obtain ⟨t, to1, ht⟩ : ∃ t b, rtake L r.a 41 = (t, b) := ⟨_, _, rfl⟩
            obtain ⟨v, b, hv⟩ : ∃ v b, rtake L to1 64 = (v, b) := ⟨_, _, rfl⟩
            obtain ⟨tb1, tb2⟩ := rtake_bound ht
            obtain ⟨vb1, vb2⟩ := rtake_bound hv
            have hfi : rfirst L r = (((t : Int), v), { r with a := b }) := by
              unfold rfirst
              rw [ht]
              simp only
              rw [hv, wrap64_of _ (by omega) (by omega)]
            rw [hfi] at hof
            have HOF2 := Lib.hid hof
            have HT := Lib.hid (fun w' (h : BoolsIn w' (.slice lA L.length lc) L) => rtake_of' (n := 41) ht (by omega) (by omega) (by omega) w' h)
            have HVT := Lib.hid (fun w' (h : BoolsIn w' (.slice lA L.length lc) L) => rtake_of' (n := 64) hv (by omega) (by omega) (by omega) w' h)
            have hvl : v < 18446744073709551616 := by simpa using vb1
            have htl : t < 2199023255552 := by simpa using tb1
            have HB := Lib.hid HL.out.below
            have hFB := HL.out.buf
            simp only [smc, List.flatMap_nil, List.length_nil] at hFB
            obtain ⟨oA, oc, rfl, hoc⟩ := hFB.buf.shape
            have HFB := Lib.hid hFB
            clear ht hv hfi hof tb1 vb1 HL hFB
            go_wp2_with fail
            refine (HT.out _ (HLI.out.below HB.out)).mono ?_
            rintro e w' ⟨rfl, rfl⟩
            go_wp2_with fail
            refine (HVT.out _ (HLI.out.below HB.out)).mono ?_
            rintro e w' ⟨rfl, rfl⟩
            go_wp2_with (at_builtin; refine wpList_append_flit rfl (.tmp 86) (.tmp 91) 32 rfl sm_ty rfl HFB.out.buf rfl (by simp) rfl (by simp [Value.oneCell']) (by simp only [maxLen]; omega) (by omega) ?_; intro v3 w8 hb8 ha8 hg8; have hba := ba1 wo (.cells #[.int .i64 (t : Int), .int .u64 (v : Nat)] 41); have HF8 := Lib.hid ((HFB.out.below hba).grown (below_trans HB.out hba).size hb8 hg8); have HB8 := Lib.hid ((below_trans HB.out hba).trans (ha8.below (below_trans HB.out hba).size HFB.out.new)); clear hb8 ha8 hg8 hba)
            go_roundw
            case rel =>
              refine ⟨k + 1, { r with a := b }, [((t : Int), v)], _, rfl, by omega, by go_num, rfl, rfl, rfl, rfl, vb2, hst, hfr, hwi, Lib.hid ⟨HF8.out, HB8.out, by simp; omega, HOF2.out, fun x hx => ?_⟩⟩
              rw [List.mem_singleton] at hx
              subst hx
              exact ⟨hvl, by show (-9223372036854775808 : Int) ≤ (t : Int); omega, by show ((t : Nat) : Int) ≤ 9223372036854775807; omega⟩
            case measure => simp [intOf]; omega
          · obtain ⟨j, rfl⟩ : ∃ j, k = j + 1 := ⟨k - 1, by omega⟩
            have hjz : (0 : Int) ≤ (j : Int) := by omega
            have djk : ((j : Int) + 1 == 0) = false := by rw [beq_eq_false_iff_ne]; omega
            obtain ⟨was, hwas⟩ : ∃ x, out[j]? = some x := ⟨_, List.getElem?_eq_getElem (by omega)⟩
            have hgl : out.getLast? = some was := by rw [List.getLast?_eq_getElem?, hol, show j + 1 - 1 = j by omega, hwas]
            rw [hgl] at hof
            obtain ⟨vv2, vT1, vT2⟩ := HL.out.v was (List.mem_of_getElem? hwas)
            obtain ⟨T0, V0⟩ := was
            simp only at vv2 vT1 vT2 hof
            obtain ⟨U, hU⟩ : ∃ U, U = run L r.a 4 := ⟨_, rfl⟩
            have hU4 : U ≤ 4 := by rw [hU]; exact run_le L 4 r.a
            obtain ⟨A1, hA1⟩ : ∃ A1, A1 = rones L r.a := ⟨_, rfl⟩
            have hA1e : A1 = r.a + U + (if U < 4 then 1 else 0) := by rw [hA1, hU]; rfl
            have hA1l : A1 ≤ L.length + 7 := by rw [hA1e]; split <;> omega
            have HRA := Lib.hid (fun q (h : q < U) => run_all L 4 r.a q (by rw [← hU]; exact h))
            have HRS := Lib.hid (fun (h : U < 4) => (show L.getD (r.a + U) false = false by rw [hU]; exact run_stop L 4 r.a (by rw [← hU]; exact h)))
            obtain ⟨u, b1, hub⟩ : ∃ u b, rtake L A1 (wd U) = (u, b) := ⟨_, _, rfl⟩
            obtain ⟨sb, b2, hsb⟩ : ∃ u b, rtake L b1 1 = (u, b) := ⟨_, _, rfl⟩
            obtain ⟨ub1, ub2⟩ := rtake_bound hub
            obtain ⟨sb1, sb2⟩ := rtake_bound hsb
            have hul : u < 18446744073709551616 := Nat.lt_of_lt_of_le ub1 (by have := Nat.pow_le_pow_right (n := 2) (by omega) (wd_le U); simpa using this)
            obtain ⟨ST, hST⟩ : ∃ ST, ST = wrap64 (r.step + unfold u) := ⟨_, rfl⟩
            have hSTb : -9223372036854775808 ≤ ST ∧ ST ≤ 9223372036854775807 := by rw [hST]; unfold wrap64; omega
            have HSTW := Lib.hid (show IntKind.i64.wrap (r.step + unfold u) = ST by rw [hST, IntKind.wrap_i64]; unfold wrap64; omega)
            have hrt : rtime L r.a = (u, b1) := by unfold rtime; rw [← hA1, ← hU, hub]
            have hrs : rstep L r = ST := by unfold rstep; rw [hrt, hST]
            unfold rrest at hof
            rw [hrt, hrs] at hof
            simp only at hof
            have hwd := wd_le U
            have HTU := Lib.hid (fun w' (h : BoolsIn w' (.slice lA L.length lc) L) => rtake_of' hub (by omega) (by omega) hwd w' h)
            have HTS := Lib.hid (fun w' (h : BoolsIn w' (.slice lA L.length lc) L) => rtake_of' (n := 1) hsb (by omega) (by omega) (by omega) w' h)
            have HV := Lib.hid HL.out.v
            have HB := Lib.hid HL.out.below
            have HFB := Lib.hid HL.out.buf
            have HSM := Lib.hid (show SmsAt wo _ out from HL.out.buf.slice)
            obtain ⟨oA, oc, rfl, hoc⟩ := HL.out.buf.buf.shape
            obtain ⟨ob, oo, rfl, hob, g0, g1⟩ := SmsAt.at_ HSM.out hwas
            simp only at g0 g1
            have hwj : IntKind.i64.wrap (j : Int) = (j : Int) := IntWalk.i64_in _ ⟨by omega, by omega⟩
            have hjl : (j : Int) < (out.length : Int) := by omega
            have hol120 : out.length ≤ 120 := by omega
            have HOL := Lib.hid hol
            have hbx := ba1 wo (.cells #[.int .i64 T0, .int .u64 (V0 : Nat)] 41)
            have HBK := Lib.hid (Blk.new wo #[.int .i64 T0, .int .u64 (V0 : Nat)] 41)
            obtain ⟨X, hX⟩ : ∃ X, X = wo.heap.size := ⟨_, rfl⟩
            obtain ⟨wA, hwA⟩ : ∃ x : World, x = wo.alloc (.cells #[.int .i64 T0, .int .u64 (V0 : Nat)] 41) := ⟨_, rfl⟩
            have HCK := Lib.hid (show Blk wA X 41 #[.int .i64 T0, .int .u64 (V0 : Nat)] by rw [hwA, hX]; exact HBK.out)
            have HBA := Lib.hid (show Below wo.heap.size wo wA by rw [hwA]; exact hbx)
            have HLA := Lib.hid (HLI.out.below (below_trans HB.out HBA.out))
            have HOF2 := Lib.hid hof
            have HSB := Lib.hid hsb
            clear hof hrt hrs hST hub hsb ub1 sb1 hgl hU hA1 hbx hol hwas
            go_upto_block 2 with fail
            rw [← hwA, ← hX]
            clear hwA hX djk g0 g1
            go_cut [11, 21] from 60 to 206 (fun s t wx => s = .int .i64 ((r.a + U : Nat) : Int) ∧ t = .int .i64 (U : Int) ∧ wA = wx)
            case first =>
              go_wp2_with fail
              go_loop [11, 21] (fun s t => ∃ q : Nat, q ≤ U ∧ s = .int .i64 ((r.a + q : Nat) : Int) ∧ t = .int .i64 (q : Int)) (fun _ t => U - (intOf t).toNat)
              case atStart => exact ⟨0, Nat.zero_le _, rfl, rfl⟩
              case round =>
                obtain ⟨q, hq, rfl, rfl⟩ := hrel
                by_cases hqU : q < U
                · have hT := HRA.out q hqU
                  obtain ⟨lb, lo, lc', he, hcell⟩ := HLA.out.cells _ _ hT
                  injection he with e1 e2 e3
                  subst e1; subst e3
                  have hlt : r.a + q < L.length := (List.getElem?_eq_some_iff.1 hT).1
                  have hlt2 : ((r.a + q : Nat) : Int) < (L.length : Int) := by omega
                  have hq4 : q < 4 := by omega
                  clear hT
                  go_wp2_with fail
                  go_round
                  case rel => exact ⟨q + 1, by omega, by go_num, by go_num⟩
                  case measure => simp [intOf]; omega
                · obtain rfl : q = U := by omega
                  rcases (show q = 4 ∨ (q < 4 ∧ L.length ≤ r.a + q) ∨ (q < 4 ∧ r.a + q < L.length) by omega) with hc | ⟨hc, hc2⟩ | ⟨hc, hc2⟩
                  · have hc3 : 4 ≤ q := by omega
                    clear hc hqU hq
                    go_wp2_with fail
                    go_meet
                    exact ⟨by go_num, rfl, rfl⟩
                  · have hc3 : (L.length : Int) ≤ ((r.a + q : Nat) : Int) := by omega
                    have hc4 : decide (r.a + q < L.length) = false := decide_eq_false (by omega)
                    clear hqU hq
                    go_wp2_with fail
                    go_meet
                    exact ⟨by go_num, rfl, rfl⟩
                  · have hF := HRS.out hc
                    have hT : L[r.a + q]? = some false := by
                      rw [List.getElem?_eq_getElem hc2]
                      simp only [List.getD, List.getElem?_eq_getElem hc2] at hF
                      exact congrArg some hF
                    obtain ⟨lb, lo, lc', he, hcell⟩ := HLA.out.cells _ _ hT
                    injection he with e1 e2 e3
                    subst e1; subst e3
                    have hlt2 : ((r.a + q : Nat) : Int) < (L.length : Int) := by omega
                    clear hF hT hqU hq
                    go_wp2_with fail
                    go_meet
                    exact ⟨by go_num, rfl, rfl⟩
            case rest =>
            obtain ⟨rfl, rfl, rfl⟩ := hcut
            go_upto_if 117 with fail
            go_cut [11] from 60 to 206 (fun s wx => s = .int .i64 (A1 : Int) ∧ wA = wx)
            case first =>
              by_cases hu4 : U < 4
              · rw [if_pos hu4] at hA1e
                have hA1i : ((r.a : Nat) : Int) + (U : Int) + 1 = (A1 : Int) := by omega
                clear hA1e
                go_wp2_with fail
                go_meet
                exact ⟨by first | rfl | (rw [hA1i]), rfl⟩
              · have hu44 : 4 ≤ U := by omega
                have du : decide (U < 4) = false := decide_eq_false hu4
                rw [if_neg hu4] at hA1e
                have hA1i : ((r.a : Nat) : Int) + (U : Int) = (A1 : Int) := by omega
                clear hu4 hA1e
                go_wp2_with fail
                go_meet
                exact ⟨by first | rfl | (rw [← hA1i]; go_num), rfl⟩
            case rest =>
            obtain ⟨rfl, rfl⟩ := hcut
            clear hA1e
            clear HRA HRS
            go_wp2_with fail
            refine (rsize_any U _ hU4).mono ?_
            rintro e w' ⟨rfl, rfl⟩
            go_wp2_with fail
            refine (HTU.out _ HLA.out).mono ?_
            rintro e w' ⟨rfl, rfl⟩
            go_wp2_with fail
            refine (runfold_any u _ hul).mono ?_
            rintro e w' ⟨rfl, rfl⟩
            have hstw := HSTW.out
            go_wp2_with fail
            refine (HTS.out _ HLA.out).mono ?_
            rintro e w' ⟨rfl, rfl⟩
            clear hstw HTU HTS HSTW
            have hof := HOF2.out
            unfold rval at hof
            rw [HSB.out] at hof
            simp only at hof
            by_cases hs1 : sb = 1
            · subst hs1
              rw [if_pos rfl] at hof
              obtain ⟨an, b3, han⟩ : ∃ u b, rtake L b2 1 = (u, b) := ⟨_, _, rfl⟩
              obtain ⟨an1, an2⟩ := rtake_bound han
              have HTA := Lib.hid (fun w' (h : BoolsIn w' (.slice lA L.length lc) L) => rtake_of' (n := 1) han (by omega) (by omega) (by omega) w' h)
              rw [han] at hof
              simp only at hof
              clear han
              go_wp2_with fail
              refine (HTA.out _ HLA.out).mono ?_
              rintro e w' ⟨rfl, rfl⟩
              by_cases ha1 : an = 1
              · subst ha1
                rw [if_pos rfl] at hof
                obtain ⟨fa, b4, hfa⟩ : ∃ u b, rtake L b3 6 = (u, b) := ⟨_, _, rfl⟩
                obtain ⟨fb, b5, hfb⟩ : ∃ u b, rtake L b4 6 = (u, b) := ⟨_, _, rfl⟩
                obtain ⟨fa1, fa2⟩ := rtake_bound hfa
                obtain ⟨fb1, fb2⟩ := rtake_bound hfb
                have hfa64 : fa < 64 := by simpa using fa1
                have hfb64 : fb < 64 := by simpa using fb1
                have HFA := Lib.hid (fun w' (h : BoolsIn w' (.slice lA L.length lc) L) => rtake_of' (n := 6) hfa (by omega) (by omega) (by omega) w' h)
                have HFBT := Lib.hid (fun w' (h : BoolsIn w' (.slice lA L.length lc) L) => rtake_of' (n := 6) hfb (by omega) (by omega) (by omega) w' h)
                rw [hfa] at hof
                simp only at hof
                rw [hfb] at hof
                simp only at hof
                clear hfa hfb fa1 fb1
                go_wp2_with fail
                refine (HFA.out _ HLA.out).mono ?_
                rintro e w' ⟨rfl, rfl⟩
                go_wp2_with fail
                refine (HFBT.out _ HLA.out).mono ?_
                rintro e w' ⟨rfl, rfl⟩
                have dz : ((fb : Int) + 1 == 0) = false := by rw [beq_eq_false_iff_ne]; omega
                by_cases hbad : 64 < fa + (fb + 1)
                · have db : (64 : Int) < (fa : Int) + ((fb : Int) + 1) := by omega
                  have hof2 := hof
                  unfold rin at hof2
                  rw [if_pos (.inr hbad)] at hof2
                  simp only at hof2
                  subst hof2
                  have HRn : Hid (R = none) := Lib.hid (by rw [← HR.out]; rfl)
                  clear hof
                  go_wp2_with fail
                  go_ret2
                  rw [HRn.out]
                  exact RetRS.no (below_trans HB3.out (below_trans HB.out HBA.out))
                · have db : (fa : Int) + ((fb : Int) + 1) ≤ (64 : Int) := by omega
                  obtain ⟨x, b6, hx6⟩ : ∃ u b, rtake L b5 (fb + 1) = (u, b) := ⟨_, _, rfl⟩
                  obtain ⟨x61, x62⟩ := rtake_bound hx6
                  have HTX := Lib.hid (fun w' (h : BoolsIn w' (.slice lA L.length lc) L) => rtake_of' hx6 (by omega) (by omega) (by omega) w' h)
                  obtain ⟨SH, hSH⟩ : ∃ SH, SH = 64 - fa - (fb + 1) := ⟨_, rfl⟩
                  have hshb : SH ≤ 64 := by omega
                  have HXB := Lib.hid (fun q (hq : q ≤ SH) => (show x * 2 ^ q < 18446744073709551616 by
                    have h1 : x * 2 ^ q < 2 ^ (fb + 1) * 2 ^ q := Nat.mul_lt_mul_of_pos_right x61 (Nat.two_pow_pos q)
                    rw [← Nat.pow_add] at h1
                    have h2 : 2 ^ ((fb + 1) + q) ≤ 2 ^ 64 := Nat.pow_le_pow_right (by omega) (by omega)
                    have h3 : (2 : Nat) ^ 64 = 18446744073709551616 := by decide
                    omega))
                  obtain ⟨XX, hXX⟩ : ∃ XX, XX = x * 2 ^ SH := ⟨_, rfl⟩
                  have hXXl : XX < 18446744073709551616 := by rw [hXX]; exact HXB.out SH (Nat.le_refl _)
                  have hsi : (64 : Int) - (fa : Int) - ((fb + 1) : Int) = (SH : Int) := by omega
                  have hsi1 : IntKind.i64.wrap ((64 : Int) - (fa : Int)) = (64 : Int) - (fa : Int) := IntWalk.i64_in _ ⟨by omega, by omega⟩
                  have hxl : x < 18446744073709551616 := by have := HXB.out 0 (Nat.zero_le _); simpa using this
                  unfold rin at hof
                  rw [if_neg (by omega), hx6] at hof
                  simp only at hof
                  rw [← hSH, ← hXX] at hof
                  have HSH := Lib.hid hSH
                  have HXX := Lib.hid hXX
                  have HOF3 := Lib.hid hof
                  clear hx6 x61 hSH hXX hof
                  go_wp2_with fail
                  refine (HTX.out _ HLA.out).mono ?_
                  rintro e w' ⟨rfl, rfl⟩
                  go_wp2_with fail
                  go_loop [32, 34] (fun v jj => ∃ q : Nat, q ≤ SH ∧ v = .int .u64 ((x * 2 ^ q : Nat) : Int) ∧ jj = .int .i64 (q : Int)) (fun _ jj => SH - (intOf jj).toNat)
                  case atStart => exact ⟨0, Nat.zero_le _, by simp, rfl⟩
                  case round =>
                    obtain ⟨q, hq, rfl, rfl⟩ := hrel
                    by_cases hqs : q < SH
                    · obtain ⟨Y, hY⟩ : ∃ Y, Y = x * 2 ^ q := ⟨_, rfl⟩
                      have hY2 : 2 * Y = x * 2 ^ (q + 1) := by rw [hY, Nat.pow_succ]; simp only [Nat.mul_comm, Nat.mul_left_comm]
                      have hYl := HXB.out (q + 1) (by omega)
                      rw [← hY2] at hYl
                      have HY2 := Lib.hid hY2
                      rw [← hY]
                      clear hY hY2
                      go_wp2_with fail
                      go_round
                      case rel => exact ⟨q + 1, by omega, by rw [← HY2.out]; go_num, by go_num⟩
                      case measure => simp [intOf]; omega
                    · obtain rfl : q = SH := by omega
                      rw [← HXX.out]
                      have c0 : wA.cell? ⟨X, 0, none⟩ = some (.int .i64 T0) := HCK.out.cell (i := 0) rfl
                      have c1 : wA.cell? ⟨X, 1, none⟩ = some (.int .u64 (V0 : Nat)) := HCK.out.cell (i := 1) rfl
                      have hxo := u64_xor_nat V0 XX vv2 hXXl
                      have HXO := Lib.hid (xor_lt vv2 hXXl)
                      have HWT := Lib.hid (show IntKind.i64.wrap (T0 + ST) = wrap64 (T0 + ST) by rw [IntKind.wrap_i64]; unfold wrap64; omega)
                      obtain ⟨TW, hTW⟩ : ∃ TW, TW = wrap64 (T0 + ST) := ⟨_, rfl⟩
                      have hTWb : -9223372036854775808 ≤ TW ∧ TW ≤ 9223372036854775807 := by rw [hTW]; unfold wrap64; omega
                      obtain ⟨XV, hXV⟩ : ∃ XV, XV = V0 ^^^ XX := ⟨_, rfl⟩
                      have hwt := HWT.out
                      have hof3 := HOF3.out
                      rw [← hTW] at hwt hof3
                      rw [← hXV] at hxo HXO hof3
                      have HOF4 := Lib.hid hof3
                      clear hTW hXV hqs hq hof3
                      go_wp2_with (at_builtin; refine wpList_append_flit rfl (.tmp 195) (.tmp 205) 32 rfl sm_ty rfl (HFB.out.below HBA.out).buf rfl (by simp) rfl (by simp [Value.oneCell']) (by simp only [maxLen]; omega) (by omega) ?_; intro v3 w8 hb8 ha8 hg8; have hba := below_trans HBA.out (ba1 wA (.cells #[.int .i64 TW, .int .u64 (XV : Nat)] 41)); have HF8 := Lib.hid ((HFB.out.below hba).grown (below_trans HB.out hba).size hb8 hg8); have HB8 := Lib.hid ((below_trans HB.out hba).trans (ha8.below (below_trans HB.out hba).size HFB.out.new)); clear hb8 ha8 hg8 hba)
                      go_roundw
                      case rel =>
                        refine ⟨j + 1 + 1, ⟨b6, ST, fa, fb + 1⟩, out ++ [(TW, XV)], _, rfl, (show j + 1 + 1 ≤ n by omega), by go_num, rfl, rfl, rfl, by go_num, ?_, hSTb, ?_, ?_, Lib.hid ⟨snoc_buf HF8.out, HB8.out, by rw [List.length_append, HOL.out]; rfl, HOF4.out, fun x hx => ?_⟩⟩
                        all_goals first
                          | omega
                          | (simp only; omega)
                          | exact Nat.le_of_lt_succ hfa64
                          | exact hfb64
                          | (rw [List.mem_append, List.mem_singleton] at hx
                             rcases hx with hx | rfl
                             · exact HV.out x hx
                             · exact ⟨HXO.out, hTWb.1, hTWb.2⟩)
                      case measure => simp [intOf]; omega
              · have da : ((an : Int) == 1) = false := by rw [beq_eq_false_iff_ne]; omega
                rw [if_neg ha1] at hof
                clear ha1
                by_cases hz : r.wi = 0
                · have dz : (((r.wi : Nat) : Int) == 0) = true := by rw [beq_iff_eq]; omega
                  have hof2 := hof
                  unfold rin at hof2
                  rw [if_pos (.inl hz)] at hof2
                  simp only at hof2
                  subst hof2
                  have HRn : Hid (R = none) := Lib.hid (by rw [← HR.out]; rfl)
                  clear hof
                  go_wp2_with fail
                  go_ret2
                  rw [HRn.out]
                  exact RetRS.no (below_trans HB3.out (below_trans HB.out HBA.out))
                · have dz : (((r.wi : Nat) : Int) == 0) = false := by rw [beq_eq_false_iff_ne]; omega
                  by_cases hbad : 64 < r.fr + r.wi
                  · have db : (64 : Int) < ((r.fr : Nat) : Int) + ((r.wi : Nat) : Int) := by omega
                    have hof2 := hof
                    unfold rin at hof2
                    rw [if_pos (.inr hbad)] at hof2
                    simp only at hof2
                    subst hof2
                    have HRn : Hid (R = none) := Lib.hid (by rw [← HR.out]; rfl)
                    clear hof
                    go_wp2_with fail
                    go_ret2
                    rw [HRn.out]
                    exact RetRS.no (below_trans HB3.out (below_trans HB.out HBA.out))
                  · have db : ((r.fr : Nat) : Int) + ((r.wi : Nat) : Int) ≤ (64 : Int) := by omega
                    obtain ⟨x, b6, hx6⟩ : ∃ u b, rtake L b3 r.wi = (u, b) := ⟨_, _, rfl⟩
                    obtain ⟨x61, x62⟩ := rtake_bound hx6
                    have HTX := Lib.hid (fun w' (h : BoolsIn w' (.slice lA L.length lc) L) => rtake_of' hx6 (by omega) (by omega) (by omega) w' h)
                    obtain ⟨SH, hSH⟩ : ∃ SH, SH = 64 - r.fr - r.wi := ⟨_, rfl⟩
                    have hshb : SH ≤ 64 := by omega
                    have HXB := Lib.hid (fun q (hq : q ≤ SH) => (show x * 2 ^ q < 18446744073709551616 by
                      have h1 : x * 2 ^ q < 2 ^ r.wi * 2 ^ q := Nat.mul_lt_mul_of_pos_right x61 (Nat.two_pow_pos q)
                      rw [← Nat.pow_add] at h1
                      have h2 : 2 ^ (r.wi + q) ≤ 2 ^ 64 := Nat.pow_le_pow_right (by omega) (by omega)
                      have h3 : (2 : Nat) ^ 64 = 18446744073709551616 := by decide
                      omega))
                    obtain ⟨XX, hXX⟩ : ∃ XX, XX = x * 2 ^ SH := ⟨_, rfl⟩
                    have hXXl : XX < 18446744073709551616 := by rw [hXX]; exact HXB.out SH (Nat.le_refl _)
                    have hsi : (64 : Int) - (r.fr : Int) - (r.wi : Int) = (SH : Int) := by omega
                    have hsi1 : IntKind.i64.wrap ((64 : Int) - (r.fr : Int)) = (64 : Int) - (r.fr : Int) := IntWalk.i64_in _ ⟨by omega, by omega⟩
                    have hxl : x < 18446744073709551616 := by have := HXB.out 0 (Nat.zero_le _); simpa using this
                    unfold rin at hof
                    rw [if_neg (by omega), hx6] at hof
                    simp only at hof
                    rw [← hSH, ← hXX] at hof
                    have HSH := Lib.hid hSH
                    have HXX := Lib.hid hXX
                    have HOF3 := Lib.hid hof
                    clear hx6 x61 hSH hXX hof
                    go_wp2_with fail
                    refine (HTX.out _ HLA.out).mono ?_
                    rintro e w' ⟨rfl, rfl⟩
                    go_wp2_with fail
                    go_loop [32, 34] (fun v jj => ∃ q : Nat, q ≤ SH ∧ v = .int .u64 ((x * 2 ^ q : Nat) : Int) ∧ jj = .int .i64 (q : Int)) (fun _ jj => SH - (intOf jj).toNat)
                    case atStart => exact ⟨0, Nat.zero_le _, by simp, rfl⟩
                    case round =>
                      obtain ⟨q, hq, rfl, rfl⟩ := hrel
                      by_cases hqs : q < SH
                      · obtain ⟨Y, hY⟩ : ∃ Y, Y = x * 2 ^ q := ⟨_, rfl⟩
                        have hY2 : 2 * Y = x * 2 ^ (q + 1) := by rw [hY, Nat.pow_succ]; simp only [Nat.mul_comm, Nat.mul_left_comm]
                        have hYl := HXB.out (q + 1) (by omega)
                        rw [← hY2] at hYl
                        have HY2 := Lib.hid hY2
                        rw [← hY]
                        clear hY hY2
                        go_wp2_with fail
                        go_round
                        case rel => exact ⟨q + 1, by omega, by rw [← HY2.out]; go_num, by go_num⟩
                        case measure => simp [intOf]; omega
                      · obtain rfl : q = SH := by omega
                        rw [← HXX.out]
                        have c0 : wA.cell? ⟨X, 0, none⟩ = some (.int .i64 T0) := HCK.out.cell (i := 0) rfl
                        have c1 : wA.cell? ⟨X, 1, none⟩ = some (.int .u64 (V0 : Nat)) := HCK.out.cell (i := 1) rfl
                        have hxo := u64_xor_nat V0 XX vv2 hXXl
                        have HXO := Lib.hid (xor_lt vv2 hXXl)
                        have HWT := Lib.hid (show IntKind.i64.wrap (T0 + ST) = wrap64 (T0 + ST) by rw [IntKind.wrap_i64]; unfold wrap64; omega)
                        obtain ⟨TW, hTW⟩ : ∃ TW, TW = wrap64 (T0 + ST) := ⟨_, rfl⟩
                        have hTWb : -9223372036854775808 ≤ TW ∧ TW ≤ 9223372036854775807 := by rw [hTW]; unfold wrap64; omega
                        obtain ⟨XV, hXV⟩ : ∃ XV, XV = V0 ^^^ XX := ⟨_, rfl⟩
                        have hwt := HWT.out
                        have hof3 := HOF3.out
                        rw [← hTW] at hwt hof3
                        rw [← hXV] at hxo HXO hof3
                        have HOF4 := Lib.hid hof3
                        clear hTW hXV hqs hq hof3
                        go_wp2_with (at_builtin; refine wpList_append_flit rfl (.tmp 195) (.tmp 205) 32 rfl sm_ty rfl (HFB.out.below HBA.out).buf rfl (by simp) rfl (by simp [Value.oneCell']) (by simp only [maxLen]; omega) (by omega) ?_; intro v3 w8 hb8 ha8 hg8; have hba := below_trans HBA.out (ba1 wA (.cells #[.int .i64 TW, .int .u64 (XV : Nat)] 41)); have HF8 := Lib.hid ((HFB.out.below hba).grown (below_trans HB.out hba).size hb8 hg8); have HB8 := Lib.hid ((below_trans HB.out hba).trans (ha8.below (below_trans HB.out hba).size HFB.out.new)); clear hb8 ha8 hg8 hba)
                        go_roundw
                        case rel =>
                          refine ⟨j + 1 + 1, ⟨b6, ST, r.fr, r.wi⟩, out ++ [(TW, XV)], _, rfl, (show j + 1 + 1 ≤ n by omega), by go_num, rfl, rfl, rfl, by go_num, ?_, hSTb, ?_, ?_, Lib.hid ⟨snoc_buf HF8.out, HB8.out, by rw [List.length_append, HOL.out]; rfl, HOF4.out, fun x hx => ?_⟩⟩
                          all_goals first
                            | omega
                            | (simp only; omega)
                            | exact Nat.le_of_lt_succ hfa64
                            | exact hfb64
                            | (rw [List.mem_append, List.mem_singleton] at hx
                               rcases hx with hx | rfl
                               · exact HV.out x hx
                               · exact ⟨HXO.out, hTWb.1, hTWb.2⟩)
                        case measure => simp [intOf]; omega
            · have ds : ((sb : Int) == 1) = false := by rw [beq_eq_false_iff_ne]; omega
              rw [if_neg hs1] at hof
              simp only [Nat.xor_zero] at hof
              have c0 : wA.cell? ⟨X, 0, none⟩ = some (.int .i64 T0) := HCK.out.cell (i := 0) rfl
              have c1 : wA.cell? ⟨X, 1, none⟩ = some (.int .u64 (V0 : Nat)) := HCK.out.cell (i := 1) rfl
              have hxo := u64_xor_nat V0 0 vv2 (by omega)
              rw [Nat.xor_zero] at hxo
              have HWT := Lib.hid (show IntKind.i64.wrap (T0 + ST) = wrap64 (T0 + ST) by rw [IntKind.wrap_i64]; unfold wrap64; omega)
              obtain ⟨TW, hTW⟩ : ∃ TW, TW = wrap64 (T0 + ST) := ⟨_, rfl⟩
              have hTWb : -9223372036854775808 ≤ TW ∧ TW ≤ 9223372036854775807 := by rw [hTW]; unfold wrap64; omega
              have hwt := HWT.out
              rw [← hTW] at hwt hof
              obtain ⟨XV, hXV⟩ : ∃ XV, XV = V0 := ⟨_, rfl⟩
              rw [← hXV] at hof
              have HXO := Lib.hid (show XV < 18446744073709551616 by rw [hXV]; exact vv2)
              have hxo : bits .xor .u64 (V0 : Int) 0 = (XV : Int) := by rw [hXV]; exact hxo
              have HOF4 := Lib.hid hof
              clear hTW hof hXV hs1
              go_wp2_with (at_builtin; refine wpList_append_flit rfl (.tmp 195) (.tmp 205) 32 rfl sm_ty rfl (HFB.out.below HBA.out).buf rfl (by simp) rfl (by simp [Value.oneCell']) (by simp only [maxLen]; omega) (by omega) ?_; intro v3 w8 hb8 ha8 hg8; have hba := below_trans HBA.out (ba1 wA (.cells #[.int .i64 TW, .int .u64 (XV : Nat)] 41)); have HF8 := Lib.hid ((HFB.out.below hba).grown (below_trans HB.out hba).size hb8 hg8); have HB8 := Lib.hid ((below_trans HB.out hba).trans (ha8.below (below_trans HB.out hba).size HFB.out.new)); clear hb8 ha8 hg8 hba)
              go_roundw
              case rel =>
                refine ⟨j + 1 + 1, ⟨b2, ST, r.fr, r.wi⟩, out ++ [(TW, XV)], _, rfl, (show j + 1 + 1 ≤ n by omega), by go_num, rfl, rfl, rfl, by go_num, ?_, hSTb, ?_, ?_, Lib.hid ⟨snoc_buf HF8.out, HB8.out, by rw [List.length_append, HOL.out]; rfl, HOF4.out, fun x hx => ?_⟩⟩
                all_goals first
                  | omega
                  | (simp only; omega)
                  | exact Nat.le_of_lt_succ hfa64
                  | exact hfb64
                  | (rw [List.mem_append, List.mem_singleton] at hx
                     rcases hx with hx | rfl
                     · exact HV.out x hx
                     · exact ⟨HXO.out, hTWb.1, hTWb.2⟩)
              case measure => simp [intOf]; omega
        · have hR0 : R0 = some (out, r.a) := by
            rw [← HL.out.of]
            rcases Nat.lt_or_ge k n with h | h
            · rw [show n - k = (n - (k + 1)) + 1 by omega, rloop, if_neg (by omega)]
            · rw [show n - k = 0 by omega, rloop]
          rw [hR0] at HR
          have hRd := HR.out
          unfold rdone at hRd
          simp only at hRd
          have hol := HL.out.len
          have HFB := Lib.hid HL.out.buf
          have HB := Lib.hid HL.out.below
          have HSM := Lib.hid (show SmsAt wo _ out from HL.out.buf.slice)
          obtain ⟨oA, oc, rfl, hoc⟩ := HL.out.buf.buf.shape
          by_cases hA : L.length < r.a
          · rw [if_pos (.inl hA)] at hRd
            subst hRd
            have dA : decide (L.length < r.a) = true := decide_eq_true hA
            rcases Nat.lt_or_ge k n with hkn | hkn
            · have d1 : decide (r.a ≤ L.length) = false := decide_eq_false (by omega)
              clear hgo hA
              go_wp2_with fail
              go_ret2
              exact RetRS.no (below_trans HB3.out HB.out)
            · clear hgo
              go_wp2_with fail
              go_ret2
              exact RetRS.no (below_trans HB3.out HB.out)
          · obtain rfl : k = n := by omega
            have dA : decide (L.length < r.a) = false := decide_eq_false hA
            have hvs := HL.out.v
            have HGD := Lib.hid (fun u w' (h : SmsAt w' u out) => xgood_any out u w' h)
            have HTX := Lib.hid (fun u w' (S : St) (h : SmsAt w' u out) (hS : ofS St.zero out = (S, 0)) => xtext_any out u w' S h hS (fun x hx => (hvs x hx).1))
            have HOL := Lib.hid hol
            have hol2 : (out.length : Int) = (k : Int) := by omega
            obtain ⟨S, G, hSG⟩ : ∃ S G, ofS St.zero out = (S, G) := ⟨_, _, rfl⟩
            rw [hSG] at HGD hRd
            have HSG := Lib.hid hSG
            simp only at HGD hRd
            clear hSG hvs hol hgo
            by_cases hG : G = 0
            · subst hG
              have HTX2 : Hid (∀ u w', SmsAt w' u out → Calls Tryz.prog 90 #[u] w' (RetBelow w' (.string (bs (text S))))) := Lib.hid (fun u w' h => HTX.out u w' S h HSG.out)
              obtain ⟨tS, htS⟩ : ∃ tS, tS = text S := ⟨_, rfl⟩
              rw [← htS] at HTX2 hRd
              clear htS HTX
              by_cases hts : tS = s
              · subst hts
                have hRo : R = some out := by
                  rw [← hRd, if_neg]
                  rintro (g | g | g | g)
                  · exact hA g
                  · exact g HOL.out
                  · exact g rfl
                  · exact g rfl
                have HRo := Lib.hid hRo
                clear hRd hRo hA
                go_wp2_with fail
                refine (HGD.out _ _ HSM.out).mono ?_
                rintro e w5 ⟨rfl, hb5⟩
                have HS5 := Lib.hid (HSM.out.below hb5)
                have HB5 := Lib.hid (below_trans HB.out hb5)
                clear hb5
                go_wp2_with fail
                refine (HTX2.out _ _ HS5.out).mono ?_
                rintro e w6 ⟨rfl, hb6⟩
                have HS6 := Lib.hid (HS5.out.below hb6)
                have HB6 := Lib.hid (below_trans HB5.out hb6)
                clear hb6
                go_wp2_with fail
                go_ret2
                rw [HRo.out]
                exact ⟨_, rfl, fun h => (by cases h), fun l h => (by injection h with h; subst h; exact HS6.out), below_trans HB3.out HB6.out⟩
              · rw [if_pos (.inr (.inr (.inr hts)))] at hRd
                subst hRd
                have dne : (tS == s) = false := by rw [beq_eq_false_iff_ne]; exact hts
                clear hts hA
                go_wp2_with fail
                refine (HGD.out _ _ HSM.out).mono ?_
                rintro e w5 ⟨rfl, hb5⟩
                have HS5 := Lib.hid (HSM.out.below hb5)
                have HB5 := Lib.hid (below_trans HB.out hb5)
                clear hb5
                go_wp2_with fail
                refine (HTX2.out _ _ HS5.out).mono ?_
                rintro e w6 ⟨rfl, hb6⟩
                have HB6 := Lib.hid (below_trans HB5.out hb6)
                clear hb6
                go_wp2_with fail
                go_ret2
                exact RetRS.no (below_trans HB3.out HB6.out)
            · rw [if_pos (.inr (.inr (.inl hG)))] at hRd
              subst hRd
              have hne : ((G : Int) != 0) = true := by rw [bne_iff_ne]; omega
              clear hG hA
              go_wp2_with fail
              refine (HGD.out _ _ HSM.out).mono ?_
              rintro e w5 ⟨rfl, hb5⟩
              have HB5 := Lib.hid (below_trans HB.out hb5)
              clear hb5
              go_wp2_with fail
              go_ret2
              exact RetRS.no (below_trans HB3.out HB5.out)
    · have hb : (((e2 : Nat) : Int) != 0) = true := by rw [bne_iff_ne]; omega
      rw [if_neg (by omega), if_pos he2] at hR
      rw [hR]
      subst he1
      clear hR he2
      go_enter Tryz.func46, Tryz.ntmps46
      go_wp2_with fail
      refine (HT1.out _).mono ?_
      rintro e w1 ⟨rfl, k1, rfl⟩
      go_wp2_with fail
      refine (HT2.out _).mono ?_
      rintro e w2 ⟨rfl, k2, rfl⟩
      go_wp2_with fail
      go_ret2
      exact RetRS.no (below_draws W (k1 + k2))
  · have hb : (((e1 : Nat) : Int) != 0) = true := by rw [bne_iff_ne]; omega
    rw [if_pos he1] at hR
    rw [hR]
    clear hR he1
    go_enter Tryz.func46, Tryz.ntmps46
    go_wp2_with fail
    refine (HT1.out _).mono ?_
    rintro e w1 ⟨rfl, k1, rfl⟩
    go_wp2_with fail
    go_ret2
    exact RetRS.no (below_draws W k1)

end Go.Proofs.YtgabmfibfikdbaaGreatDoor
