/-
  Top 09: the walk of BarographChunked.
-/
import Derived.Test.YtkdligefhofndaaDoorChkM
namespace Go.Proofs.YtkdligefhofndaaDoor
open Go.RowKit Go.Bar Go.Bar.Leb Go.Bar.Frm Go.Bar.Xor

/-- numbers that came in -/
def U64Arg (W : World) (v : Value) (l : List Nat) : Prop := SlAt W 1 v l.length (l.map fun z => .int .u64 (z : Nat)) ∧ ∀ z ∈ l, z < 18446744073709551616
def xOf (vs : List Nat) (k : Nat) : Nat := if vs.length = 0 then k % 18446744073709551616 else vs.getD (k % vs.length) 0
theorem xOf_lt {vs : List Nat} (h : ∀ z ∈ vs, z < 18446744073709551616) (k : Nat) : xOf vs k < 18446744073709551616 := by
  unfold xOf
  split
  · omega
  · rename_i h0
    have hlt : k % vs.length < vs.length := Nat.mod_lt _ (by omega)
    rw [List.getD_eq_getElem?_getD, List.getElem?_eq_getElem hlt]
    exact h _ (List.getElem_mem hlt)
theorem smc_snoc (l : List Sm) (x : Sm) : smc (l ++ [x]) = smc l ++ [.int .i64 x.1, .int .u64 (x.2 : Nat)] := by simp [smc]

theorem smc_len (l : List Sm) : (smc l).length = l.length * 2 := flat2_length _ _ l
theorem smc_take (l : List Sm) (k : Nat) : (smc l).take (k * 2) = smc (l.take k) := flat2_take _ _ l k
theorem smc_app (l m : List Sm) : smc (l ++ m) = smc l ++ smc m := List.flatMap_append
theorem smc_drop (l : List Sm) (k : Nat) : (smc l).drop (k * 2) = smc (l.drop k) := by
  have h : smc l = smc (l.take k) ++ smc (l.drop k) := by rw [← smc_app, List.take_append_drop]
  by_cases hk : k ≤ l.length
  · rw [h, List.drop_append_of_le_length (by rw [smc_len, List.length_take]; omega), List.drop_of_length_le (by rw [smc_len, List.length_take]; omega), List.nil_append]
  · rw [List.drop_of_length_le (by rw [smc_len]; omega), List.drop_of_length_le (by omega)]; rfl
/-- a chunk of the samples' buffer -/
theorem part_at {w : World} {A : Option Addr} {c n j m : Nat} {L : List Sm} (h : SlAt w 2 (.slice A n c) n (smc L)) (hL : L.length = n) (h1 : 100 * j ≤ m) (h2 : m ≤ n) (h3 : m = 100 * j + 100 ∨ m = n ∧ n ≤ 100 * j + 100) :
    SmsAt w (.slice (dropA A c (100 * j) 2) (m - 100 * j) (c - 100 * j)) (part L j) := by
  have h4 := h.part (100 * j) m h1 h2
  rw [smc_drop, smc_take] at h4
  have hp : (L.drop (100 * j)).take (m - 100 * j) = part L j := by
    unfold part
    rcases h3 with h3 | ⟨h3, h5⟩
    · rw [show m - 100 * j = 100 by omega]
    · rw [List.take_of_length_le (by rw [List.length_drop]; omega), List.take_of_length_le (by rw [List.length_drop]; omega)]
  have hl : (part L j).length = m - 100 * j := by rw [← hp, List.length_take, List.length_drop]; omega
  unfold SmsAt
  rw [hl, ← hp]
  exact h4
theorem rec_len (tx : List UInt8) (h : tx.length ≤ 2300) : (Frm.rec (4, tx)).length ≤ 2400 := by
  have := u_len tx.length (by omega)
  unfold Frm.rec sum4
  simp only [List.length_append, List.length_cons, List.length_nil]
  omega
/-- the bytes of the chunks that were made -/
def wOf (L : List Sm) (j : Nat) : List UInt8 := laid (ckRecs (cks L j))
theorem wOf_succ (L : List Sm) (j : Nat) : wOf L (j + 1) = wOf L j ++ Frm.rec (4, (ck L j).1) := by
  unfold wOf
  rw [cks_succ]
  unfold ckRecs
  rw [List.map_append]
  exact laid_snoc _ _

set_option maxHeartbeats 8000000 in
set_option maxRecDepth 10000 in
theorem chunked_main (v : Value) (vs : List Nat) (n : Nat) (st : Int) (w : World) (hv : U64Arg w v vs) (hW : WidthsAt w) (hn : n ≤ 400) (h1 : 1 ≤ st) (h2 : st ≤ 1048576) :
    Calls Tryd.prog 3 #[.int .i64 (n : Int), .int .i64 st, v] w (RetBelow w (.bool true)) := by
  obtain ⟨vA, vc, rfl, hvl, hvm⟩ := hv.1.shape
  unfold maxLen at hvm
  obtain ⟨X, hX⟩ : ∃ X, X = xOf vs := ⟨_, rfl⟩
  have HXL := Lib.hid (show ∀ i, X i < 18446744073709551616 by rw [hX]; exact xOf_lt hv.2)
  have HX := Lib.hid hX
  have HV := Lib.hid hv
  have HW := Lib.hid hW
  have d1 : decide ((n : Int) < 0) = false := decide_eq_false (by omega)
  have d2 : decide (400 < (n : Int)) = false := decide_eq_false (by omega)
  have d3 : decide (st < 1) = false := decide_eq_false (by omega)
  have d4 : decide (1048576 < st) = false := decide_eq_false (by omega)
  clear hX hv hW
  go_enter Tryd.func3, Tryd.ntmps3
  go_wp2_with fail
  refine (live_any _).mono ?_
  rintro e w1 ⟨rfl, hb1⟩
  have HB1 := Lib.hid hb1
  have HN0 := Lib.hid (NBuf.lit0 hb1 27 2)
  clear hb1
  go_wp2_with fail
  clear d1 d2 d3 d4
  go_loopw [8, 7] (fun i d wr => ∃ k : Nat, k ≤ n ∧ i = .int .i64 (k : Int) ∧ Hid (NBuf w wr 27 2 d k (smc (sL X st k)))) (fun i _ _ => n - (intOf i).toNat)
  case atStart => exact ⟨0, Nat.zero_le _, rfl, HN0⟩
  case round =>
    clear HN0
    obtain ⟨k, hk, rfl, hnb⟩ := hrel
    obtain ⟨lA, lc, rfl, hlc⟩ := hnb.out.buf.shape
    by_cases hgo : k < n
    · have hwk : IntKind.u64.wrap (k : Int) = (k : Int) := by rw [IntKind.wrap_u64]; omega
      have hrg := smp_rng (X := X) h1 h2 hgo hn
      have hwm : IntKind.i64.wrap ((k : Int) * st) = (k : Int) * st := IntWalk.i64_in _ ⟨by have := hrg.1; unfold smp at this; omega, by have := hrg.2; unfold smp at this; omega⟩
      have hwm2 : wrap64 ((k : Int) * st) = (k : Int) * st := by
        have b1 := hrg.1
        have b2 := hrg.2
        unfold smp at b1 b2
        simp only at b1 b2
        generalize (k : Int) * st = t at b1 b2
        unfold wrap64
        omega
      clear hrg
      by_cases h0 : vs.length = 0
      · have hxk := Lib.hid (show X k = k by rw [HX.out]; unfold xOf; rw [if_pos h0]; omega)
        have hd : decide (0 < (vs.length : Int)) = false := decide_eq_false (by omega)
        have hdn : decide (0 < vs.length) = false := decide_eq_false (by omega)
        clear h0
        go_wp2_with (at_builtin; refine wpList_append_nlit rfl (.tmp 54) (.tmp 60) 24 rfl sm_ty rfl hnb.out rfl (by simp) rfl (by simp [Value.oneCell']) (by simp only [maxLen]; omega) (by omega) ?_; intro v3 w3 hn3 _; have HN4 := Lib.hid hn3; clear hn3)
        go_roundw
        case rel => exact ⟨k + 1, by omega, by go_num, Lib.hid (by rw [sL_succ, smc_snoc]; show NBuf _ _ _ _ _ _ (_ ++ [.int .i64 ((k : Int) * st), .int .u64 (X k : Nat)]); rw [hxk.out]; exact HN4.out)⟩
        case measure => simp [intOf]; try omega
      · have h0 : 0 < vs.length := by omega
        have hd : decide (0 < (vs.length : Int)) = true := decide_eq_true (by omega)
        have hlt : k % vs.length < vs.length := Nat.mod_lt _ h0
        obtain ⟨z, hz⟩ : ∃ z, vs[k % vs.length]? = some z := ⟨_, List.getElem?_eq_getElem hlt⟩
        have hxk := Lib.hid (show X k = z by rw [HX.out]; unfold xOf; rw [if_neg (by omega), List.getD_eq_getElem?_getD, hz]; rfl)
        obtain ⟨b, o, rfl, hbb, hc⟩ := SlAt.cells (HV.out.1.below hnb.out.below) (by omega)
        have hck := hc (k % vs.length) (.int .u64 (z : Nat)) (by rw [List.getElem?_map, hz]; rfl)
        obtain ⟨j, hj⟩ : ∃ j, j = k % vs.length := ⟨_, rfl⟩
        have hmod : Int.tmod (k : Int) (vs.length : Int) = (j : Int) := by rw [hj]; rfl
        have hmod2 : (k : Int) % (vs.length : Int) = (j : Int) := by rw [hj]; rfl
        have hwj : IntKind.i64.wrap (j : Int) = (j : Int) := IntWalk.i64_in _ ⟨by omega, by rw [hj]; omega⟩
        rw [← hj] at hlt hck
        clear hz hj hc
        go_wp2_with (at_builtin; refine wpList_append_nlit rfl (.tmp 54) (.tmp 60) 24 rfl sm_ty rfl hnb.out rfl (by simp) rfl (by simp [Value.oneCell']) (by simp only [maxLen]; omega) (by omega) ?_; intro v3 w3 hn3 _; have HN4 := Lib.hid hn3; clear hn3)
        go_roundw
        case rel => exact ⟨k + 1, by omega, by go_num, Lib.hid (by rw [sL_succ, smc_snoc]; show NBuf _ _ _ _ _ _ (_ ++ [.int .i64 ((k : Int) * st), .int .u64 (X k : Nat)]); rw [hxk.out]; exact HN4.out)⟩
        case measure => simp [intOf]; try omega
    · obtain rfl : k = n := by omega
      clear hgo hk
      have HN1 := Lib.hid hnb.out
      go_wp2_with fail
      go_loopw [11, 10] (fun i d wr => ∃ (j a : Nat) (ys : List UInt8), Hid (a = 100 * j) ∧ i = .int .i64 (a : Int) ∧ ys.length ≤ 2400 * j ∧ Hid (ys = wOf (sL X st k) j) ∧ Hid (NBuf w wr 5 1 d ys.length (bcs ys)) ∧ Hid (NBuf w wr 27 2 (.slice lA k lc) k (smc (sL X st k))) ∧ Hid (∀ i, i < j → 100 * i < k)) (fun i _ _ => 500 - (intOf i).toNat)
      case atStart => exact ⟨0, 0, [], Lib.hid rfl, rfl, by simp, Lib.hid rfl, Lib.hid (NBuf.nil HN1.out.below _ _), HN1, Lib.hid (fun i hi => absurd hi (Nat.not_lt_zero i))⟩
      case round =>
        clear HN1 hnb
        obtain ⟨j, a, ys, ha, rfl, hyl, hys, hnb2, HNL, hlow⟩ := hrel
        obtain ⟨bA, bc, rfl, hbc⟩ := hnb2.out.buf.shape
        have hA := ha.out
        by_cases hgo : a < k
        · by_cases hmn : a + 100 ≤ k
          · obtain ⟨M, hM⟩ : ∃ M, M = a + 100 := ⟨_, rfl⟩
            obtain ⟨tx, htx⟩ : ∃ tx, tx = (ck (sL X st k) j).1 := ⟨_, rfl⟩
            have hofc := fun v w (h : SmsAt w v (part (sL X st k) j)) hW => of_any (part (sL X st k) j) v w h hW (part_small HXL.out)
            have hp0 := part_of (X := X) (n := k) (j := j) h1 h2 hn
            rw [ofTx_ok hp0, hp0] at hofc
            have HOF := Lib.hid (fun v w (h : SmsAt w v (part (sL X st k) j)) hW => (show Calls Tryd.prog 5 #[v] w (RetBelow w (.tuple #[.string (bs tx), .int .i64 0])) by rw [htx]; exact hofc v w h hW))
            have htl : tx.length ≤ 2300 := by rw [htx]; exact ck_len HXL.out
            have hrl := rec_len tx htl
            have HWS := Lib.hid (show wOf (sL X st k) (j + 1) = ys ++ Frm.rec (4, tx) by rw [wOf_succ, hys.out, htx])
            obtain ⟨i0, hi0, hi1, hi2, hi3⟩ := sm_ty.info
            have hsub := part_at (j := j) (m := M) HNL.out.slice (sL_len X st k) (by omega) (by omega) (by omega)
            rw [← hA] at hsub
            have hsl := fun w => run_slice_ft (P := Tryd.prog) (a := lA) (n := k) (c := lc) (t := 24) Tryd.underlying24 hi0 hi2 a M (by omega) (by omega) w
            have hmin : min ((a : Int) + 100) (k : Int) = (a : Int) + 100 := by omega
            have hmc : ((M : Nat) : Int) = (a : Int) + 100 := by omega
            rw [hmc] at hsl
            generalize dropA lA lc a 2 = fD at hsl hsub
            generalize M - a = cn at hsl hsub
            generalize lc - a = cc at hsl hsub
            have HSB := Lib.hid hsub
            have HAP := Lib.hid (fun w (h : BBuf w 5 (.slice bA ys.length bc) ys) => (show Calls Tryd.prog 6 #[.slice bA ys.length bc, .agg #[.int .u8 4, .string (bs tx)]] w (RetB w (.slice bA ys.length bc) 5 ys (Frm.rec (4, tx))) from append_any (.slice bA ys.length bc) ys 4 (bs tx) w (by rw [bs_size]; omega) h))
            clear hofc hp0 htx hsub hi0 hi1 hi2 hi3 hM hmc hA
            go_wp2_with fail
            have HLOW := Lib.hid (show ∀ i, i < j + 1 → 100 * i < k from fun i hi => by
              have h9 := ha.out
              rcases Nat.lt_or_ge i j with h | h
              · exact hlow.out i h
              · omega)
            (with_reducible refine (HOF.out _ _ HSB.out (HW.out.below hnb2.out.below)).mono ?_)
            rintro e w2 ⟨rfl, hb2⟩
            have HNL2 := Lib.hid (HNL.out.then_below hb2)
            have HNB2 := Lib.hid (hnb2.out.then_below hb2)
            clear hb2 hsl
            go_wp2_with fail
            have hbx : BBuf w2 5 (.slice bA ys.length bc) ys := HNB2.out.buf
            have hby := HAP.out _ hbx
            clear hbx
            (with_reducible refine hby.mono ?_)
            rintro e w3 ⟨v3, rfl, h3⟩
            have HNL3 := Lib.hid (HNL2.out.keep HNB2.out (App.ap h3) (by decide))
            have hbb3 := BApp.buf h3
            have HNB3 := Lib.hid (HNB2.out.step hbb3 (App.ap h3) (App.grew h3))
            clear h3 hbb3 hby
            go_wp2_with fail
            go_roundw
            case rel => exact ⟨j + 1, a + 100, ys ++ Frm.rec (4, tx), Lib.hid (by have := ha.out; omega), by go_num, by rw [List.length_append]; omega, Lib.hid HWS.out.symm, HNB3, HNL3, HLOW⟩
            case measure => simp [intOf]; try omega
          · obtain ⟨M, hM⟩ : ∃ M, M = k := ⟨_, rfl⟩
            obtain ⟨tx, htx⟩ : ∃ tx, tx = (ck (sL X st k) j).1 := ⟨_, rfl⟩
            have hofc := fun v w (h : SmsAt w v (part (sL X st k) j)) hW => of_any (part (sL X st k) j) v w h hW (part_small HXL.out)
            have hp0 := part_of (X := X) (n := k) (j := j) h1 h2 hn
            rw [ofTx_ok hp0, hp0] at hofc
            have HOF := Lib.hid (fun v w (h : SmsAt w v (part (sL X st k) j)) hW => (show Calls Tryd.prog 5 #[v] w (RetBelow w (.tuple #[.string (bs tx), .int .i64 0])) by rw [htx]; exact hofc v w h hW))
            have htl : tx.length ≤ 2300 := by rw [htx]; exact ck_len HXL.out
            have hrl := rec_len tx htl
            have HWS := Lib.hid (show wOf (sL X st k) (j + 1) = ys ++ Frm.rec (4, tx) by rw [wOf_succ, hys.out, htx])
            obtain ⟨i0, hi0, hi1, hi2, hi3⟩ := sm_ty.info
            have hsub := part_at (j := j) (m := M) HNL.out.slice (sL_len X st k) (by omega) (by omega) (by omega)
            rw [← hA] at hsub
            have hsl := fun w => run_slice_ft (P := Tryd.prog) (a := lA) (n := k) (c := lc) (t := 24) Tryd.underlying24 hi0 hi2 a M (by omega) (by omega) w
            have hmin : min ((a : Int) + 100) (k : Int) = (k : Int) := by omega
            have hmc : ((M : Nat) : Int) = (k : Int) := by omega
            rw [hmc] at hsl
            generalize dropA lA lc a 2 = fD at hsl hsub
            generalize M - a = cn at hsl hsub
            generalize lc - a = cc at hsl hsub
            have HSB := Lib.hid hsub
            have HAP := Lib.hid (fun w (h : BBuf w 5 (.slice bA ys.length bc) ys) => (show Calls Tryd.prog 6 #[.slice bA ys.length bc, .agg #[.int .u8 4, .string (bs tx)]] w (RetB w (.slice bA ys.length bc) 5 ys (Frm.rec (4, tx))) from append_any (.slice bA ys.length bc) ys 4 (bs tx) w (by rw [bs_size]; omega) h))
            clear hofc hp0 htx hsub hi0 hi1 hi2 hi3 hM hmc hA
            go_wp2_with fail
            have HLOW := Lib.hid (show ∀ i, i < j + 1 → 100 * i < k from fun i hi => by
              have h9 := ha.out
              rcases Nat.lt_or_ge i j with h | h
              · exact hlow.out i h
              · omega)
            (with_reducible refine (HOF.out _ _ HSB.out (HW.out.below hnb2.out.below)).mono ?_)
            rintro e w2 ⟨rfl, hb2⟩
            have HNL2 := Lib.hid (HNL.out.then_below hb2)
            have HNB2 := Lib.hid (hnb2.out.then_below hb2)
            clear hb2 hsl
            go_wp2_with fail
            have hbx : BBuf w2 5 (.slice bA ys.length bc) ys := HNB2.out.buf
            have hby := HAP.out _ hbx
            clear hbx
            (with_reducible refine hby.mono ?_)
            rintro e w3 ⟨v3, rfl, h3⟩
            have HNL3 := Lib.hid (HNL2.out.keep HNB2.out (App.ap h3) (by decide))
            have hbb3 := BApp.buf h3
            have HNB3 := Lib.hid (HNB2.out.step hbb3 (App.ap h3) (App.grew h3))
            clear h3 hbb3 hby
            go_wp2_with fail
            go_roundw
            case rel => exact ⟨j + 1, a + 100, ys ++ Frm.rec (4, tx), Lib.hid (by have := ha.out; omega), by go_num, by rw [List.length_append]; omega, Lib.hid HWS.out.symm, HNB3, HNL3, HLOW⟩
            case measure => simp [intOf]; try omega
        · obtain ⟨W, hWy⟩ : ∃ W, W = ys := ⟨_, rfl⟩
          have hall : ckAll (cks (sL X st k) j) = sL X st k := by rw [cks_all, List.take_of_length_le (by rw [sL_len]; omega)]
          have hj6 : j ≤ 5 := by
            rcases Nat.eq_zero_or_pos j with h0 | h0
            · omega
            · have := hlow.out (j - 1) (by omega); omega
          have hch := fun w hW => chunks_any (cks (sL X st k) j) ys w hW (cks_ok h1 h2 hn HXL.out hlow.out) hys.out (by omega) (by rw [hall, sL_len]; omega) (by unfold cks; rw [List.length_map, List.length_range]; omega)
          rw [hall, sL_len] at hch
          have HCH := Lib.hid hch
          have hcv := BBuf.string bytes_ty hnb2.out.buf 9 Tryd.underlying9
          have HNLs := Lib.hid HNL.out
          clear hch hall hWy hj6 hA
          go_wp2_with fail
          refine (HCH.out _ (HW.out.below hnb2.out.below)).mono ?_
          rintro e w2 ⟨v2, rfl, hn2⟩
          obtain ⟨gA, gc, rfl, hgc⟩ := hn2.buf.shape
          have HNL2 := Lib.hid (HNL.out.then_below hn2.below)
          have HG := Lib.hid (hn2.after HNL.out.below)
          clear hn2 hcv
          have hkk : ((k : Int) != (k : Int)) = false := by simp
          go_wp2_with fail
          clear hkk
          go_loopw [100] (fun i wr => ∃ m : Nat, m ≤ k ∧ i = .int .i64 (m : Int) ∧ Hid (∃ q, wr = w2.drewN q)) (fun i _ => k - (intOf i).toNat)
          case atStart => exact ⟨0, Nat.zero_le _, rfl, Lib.hid ⟨0, rfl⟩⟩
          case round =>
            obtain ⟨m, hm, rfl, hq⟩ := hrel
            obtain ⟨q, rfl⟩ := hq.out
            by_cases hgm : m < k
            · obtain ⟨x, hx⟩ : ∃ x, (sL X st k)[m]? = some x := ⟨_, List.getElem?_eq_getElem (by rw [sL_len]; exact hgm)⟩
              have s1 : SmsAt w2 (.slice gA k gc) (sL X st k) := by unfold SmsAt; rw [sL_len]; exact HG.out.slice
              have s2 : SmsAt w2 (.slice lA k lc) (sL X st k) := by unfold SmsAt; rw [sL_len]; exact HNL2.out.slice
              obtain ⟨b1, o1, rfl, hb1, x0, x1⟩ := s1.at_ hx
              obtain ⟨b2, o2, rfl, hb2, y0, y1⟩ := s2.at_ hx
              clear hx s1 s2
              go_wp2_with fail
              go_quiet (fail)
              go_wp2_with fail
              go_roundw
              case rel => exact ⟨m + 1, by omega, by go_num, Lib.hid ⟨_, rfl⟩⟩
              case measure => simp [intOf]; try omega
            · obtain rfl : m = k := by omega
              have HE := Lib.hid (below_drewN HG.out.below q)
              go_wp2_with fail
              go_ret
              exact ⟨rfl, HE.out⟩

end Go.Proofs.YtkdligefhofndaaDoor
