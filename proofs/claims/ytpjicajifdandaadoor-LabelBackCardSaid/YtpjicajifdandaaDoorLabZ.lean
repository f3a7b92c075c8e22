/-
  Layer 6: the walk of the law's made.
-/
import Derived.Test.YtpjicajifdandaaDoorLabY
namespace Go.Proofs.YtpjicajifdandaaDoor
open Go.RowKit Go.Bar Go.Bar.Leb Go.Bar.Lab

/-- a made pair -/
def mkN (c : UInt8) : UInt8 := 97 + c % 26
def noC (c : UInt8) : Bool := !(c == 44)
def mk3 (p : Pr) : Pr := (110 :: (p.1.take 3).map mkN, 118 :: (p.2.take 3).filter noC)
def mkL (l : List Pr) : List Pr := (l.take 8).map mk3
theorem mkL_len (l : List Pr) : (mkL l).length ≤ 8 := by unfold mkL; rw [List.length_map, List.length_take]; omega
theorem mkL_sm (l : List Pr) : ∀ p ∈ mkL l, p.1.length ≤ 4 ∧ p.2.length ≤ 4 ∧ 44 ∉ p.2 := by
  intro p hp
  unfold mkL at hp
  obtain ⟨q, _, rfl⟩ := List.mem_map.1 hp
  unfold mk3
  have := List.length_filter_le noC (q.2.take 3)
  have h3 : (q.2.take 3).length ≤ 3 := by rw [List.length_take]; omega
  refine ⟨by simp only [List.length_cons, List.length_map, List.length_take]; omega, by simp only [List.length_cons]; omega, ?_⟩
  rw [List.mem_cons, List.mem_filter]
  rintro (h | ⟨_, h⟩)
  · exact absurd h (by decide)
  · exact absurd h (by decide)
theorem mkN_nat (c : UInt8) : (mkN c).toNat = 97 + c.toNat % 26 := by
  unfold mkN
  rw [UInt8.toNat_add, UInt8.toNat_mod]
  simp
  omega
theorem enc_mk (c : UInt8) : Utf8.encode (97 + (c.toNat : Int) % 26) = bs [mkN c] := by
  have e : (97 + (c.toNat : Int) % 26) = ((97 + c.toNat % 26 : Nat) : Int) := by omega
  have v : Utf8.valid ((97 + c.toNat % 26 : Nat) : Int) = true := by simp [Utf8.valid]; omega
  have c1 : 97 + c.toNat % 26 < 128 := by omega
  rw [e]
  unfold Utf8.encode
  simp only [v, Int.toNat_natCast, if_true, c1]
  unfold bs
  rw [← mkN_nat]
  simp

theorem cell_other {w : World} {b i M : Nat} (hne : b ≠ M) (k : Nat) (u : Value) : (w.setCell ⟨M, k, none⟩ u).cell? ⟨b, i, none⟩ = w.cell? ⟨b, i, none⟩ := by
  have := Below.heap_setCell w ⟨M, k, none⟩ u b hne
  unfold World.cell?
  simp only [this]

/-- what made leaves -/
def RetMd (w : World) (l : List Pr) (e : Ending) (w' : World) : Prop :=
  if chk (sorted (mkL l)) = true then ∃ v', e = .returned v' ∧ NBuf w w' 57 2 v' (sorted (mkL l)).length (pcs (sorted (mkL l)))
  else e = .returned (.slice none 0 0) ∧ Below w.heap.size w w'

/-- Make of the made pairs -/
theorem made_tail {w wr : World} {fA : Option Addr} {fc k : Nat} (l : List Pr) (hln : (mkL l).length = k) (hn : NBuf w wr 57 2 (.slice fA k fc) k (pcs (mkL l))) :
    Calls Tryd.prog 11 #[.slice fA k fc] wr fun e w' => ∃ v' E, e = .returned (.tuple #[v', .int .i64 E]) ∧
      (E = 0 ∧ (chk (sorted (mkL l)) = true ∧ NBuf w w' 57 2 v' (sorted (mkL l)).length (pcs (sorted (mkL l)))) ∨ E = 12 ∧ (¬ chk (sorted (mkL l)) = true ∧ Below w.heap.size w w')) := by
  subst hln
  refine (make_any _ (mkL l) wr hn.slice (by have := mkL_len l; omega) (fun p hp => by have := mkL_sm l p hp; omega)).mono ?_
  rintro e w' ⟨v', m, rfl, hp, ha, hb⟩
  have hb2 := hb.after hn.below
  have hc := chk_any hp ha
  refine ⟨v', _, rfl, ?_⟩
  by_cases hk : chk (sorted (mkL l)) = true
  · left
    have hm : m = sorted (mkL l) := sorted_of hp ha (ok_unlike (chk_iff.1 hk))
    refine ⟨by unfold errL; rw [hc, if_pos hk], hk, ?_⟩
    rw [← hm]; exact hb2
  · right
    exact ⟨by unfold errL; rw [hc, if_neg hk], hk, hb2.below⟩

set_option maxHeartbeats 8000000 in
set_option maxRecDepth 10000 in
theorem made_any (v : Value) (l : List Pr) (w : World) (h : PsAt w v l) (hp : ∀ p ∈ l, p.1.length ≤ maxLen ∧ p.2.length ≤ maxLen) :
    Calls Tryd.prog 31 #[v] w (RetMd w l) := by
  obtain ⟨A, c, rfl, hlc, hcm⟩ := h.shape
  unfold maxLen at hcm
  have HPL := Lib.hid hp
  clear hp
  go_enter Tryd.func31, Tryd.ntmps31
  go_wp2_with fail
  go_loopw [4, 3] (fun i d wr => ∃ m : Nat, m ≤ l.length ∧ m ≤ 8 ∧ i = .int .i64 m ∧ Hid (NBuf w wr 57 2 d m (pcs ((l.take m).map mk3))) ∧ Hid (∀ g, d.ownBlock = some g → g < wr.heap.size)) (fun i _ _ => 8 - (intOf i).toNat)
  case atStart => exact ⟨0, Nat.zero_le _, by omega, rfl, Lib.hid (NBuf.nil (Below.refl _ _) _ _), Lib.hid (by simp [Value.ownBlock])⟩
  case round =>
    obtain ⟨m, hk, hk8, rfl, hnb, hlt⟩ := hrel
    obtain ⟨fA, fc, rfl, hfc⟩ := hnb.out.buf.shape
    by_cases hgo : m < l.length
    · by_cases h8 : m < 8
      · obtain ⟨p, hpk⟩ : ∃ p, l[m]? = some p := ⟨_, List.getElem?_eq_getElem hgo⟩
        have hd1 : decide ((m : Int) < (l.length : Int)) = true := decide_eq_true (by omega)
        have HPM := Lib.hid (HPL.out p (List.mem_of_getElem? hpk))
        have HTK := Lib.hid (show (l.take (m + 1)).map mk3 = (l.take m).map mk3 ++ [mk3 p] by rw [List.take_add_one, hpk]; simp)
        obtain ⟨b, o, rfl, hbb, g1, g2⟩ := (h.below hnb.out.below).at_ hpk
        clear hpk
        obtain ⟨x, hx⟩ : ∃ x, x = p.1.take 3 := ⟨_, rfl⟩
        obtain ⟨y, hy⟩ : ∃ y, y = p.2.take 3 := ⟨_, rfl⟩
        have hxl : x.length ≤ 3 := by rw [hx, List.length_take]; omega
        have hyl : y.length ≤ 3 := by rw [hy, List.length_take]; omega
        have HMK := Lib.hid (show mk3 p = (110 :: x.map mkN, 118 :: y.filter noC) by rw [hx, hy]; rfl)
        have C1 := Lib.hid (fun w => (show Calls Tryd.prog 10 #[.string (bs p.1), .int .i64 3] w fun e w' => e = .returned (.string (bs x)) ∧ w = w' by rw [hx]; exact cut_any (bs p.1) 3 w (by omega) (by omega) HPM.out.1))
        have C2 := Lib.hid (fun w => (show Calls Tryd.prog 10 #[.string (bs p.2), .int .i64 3] w fun e w' => e = .returned (.string (bs y)) ∧ w = w' by rw [hy]; exact cut_any (bs p.2) 3 w (by omega) (by omega) HPM.out.2))
        clear hx hy
        obtain ⟨PB, hPB⟩ : ∃ PB, PB = wr.heap.size := ⟨_, rfl⟩
        obtain ⟨w1, hw1⟩ : ∃ w1, w1 = wr.alloc (.cells #[.string { data := #[110] }, .string { data := #[118] }] 57) := ⟨_, rfl⟩
        have HPB := Lib.hid (show Blk w1 PB 57 #[.string (bs [110]), .string (bs [118])] by rw [hw1, hPB]; exact Blk.new _ _ _)
        have HN1 := Lib.hid (show NBuf w w1 57 2 (.slice fA m fc) m (pcs ((l.take m).map mk3)) by rw [hw1]; exact hnb.out.alloc _)
        have HNE := Lib.hid (show (Value.slice fA m fc).ownBlock ≠ some PB from fun e => absurd (hlt.out _ e) (by rw [hPB]; exact Nat.lt_irrefl _))
        have HPW := Lib.hid (show w.heap.size ≤ PB by rw [hPB]; exact hnb.out.below.size)
        have HAR := Lib.hid (show w1.cell? ⟨b, o + m * 2, none⟩ = some (.string (bs p.1)) ∧ b < w1.heap.size ∧ b ≠ PB ∧ w1.cell? ⟨b, o + m * 2 + 1, none⟩ = some (.string (bs p.2)) by
          have hbl := below_alloc1 wr (.cells #[.string { data := #[110] }, .string { data := #[118] }] 57)
          rw [hw1, hPB]
          exact ⟨(hbl.cell (p := ⟨b, o + m * 2, none⟩) hbb).trans g1, Nat.lt_of_lt_of_le hbb hbl.size, by omega, (hbl.cell (p := ⟨b, o + m * 2 + 1, none⟩) hbb).trans g2⟩)
        clear g2
        have g3 := HAR.out.1
        rw [hw1] at g3
        go_wp2_with fail
        rw [← hw1, ← hPB]
        refine (C1.out _).mono ?_
        rintro e w' ⟨rfl, rfl⟩
        clear g1 g3
        clear hw1 hPB
        go_wp2_with ((with_reducible refine wpList_bytes rfl (.tmp 28) 63 9 rfl bytes_ty Tryd.underlying9 (bs x) rfl (by rw [bs_size]; unfold maxLen; omega) ?_); intro xb w2 hb2 hbl2 hown; rw [bs_data] at hb2; obtain ⟨xA, xc, rfl, hxc⟩ := Buf.shape hb2; clear hown)
        have hpb2 := HPB.out.below hbl2
        have HN2 := Lib.hid (HN1.out.then_below hbl2)
        have HP2 := Lib.hid ((hbl2.cell (p := ⟨b, o + m * 2 + 1, none⟩) HAR.out.2.1).trans HAR.out.2.2.2)
        have HBB := Lib.hid HAR.out.2.2.1
        clear HAR HN1 HPB hbl2
        go_loopw [31] (fun i wr => ∃ j : Nat, j ≤ x.length ∧ i = .int .i64 j ∧ Hid (NBuf w wr 57 2 (.slice fA m fc) m (pcs ((l.take m).map mk3))) ∧ Hid (Blk wr PB 57 #[.string (bs (110 :: (x.map mkN).take j)), .string (bs [118])]) ∧ Hid (BBuf wr 5 (.slice xA x.length xc) x) ∧ Hid (wr.cell? ⟨b, o + m * 2 + 1, none⟩ = some (.string (bs p.2)))) (fun i _ => x.length - (intOf i).toNat)
        case atStart => exact ⟨0, Nat.zero_le _, rfl, HN2, Lib.hid hpb2, Lib.hid hb2, HP2⟩
        case round =>
          clear HN2 HP2 hpb2 hb2
          obtain ⟨j, hj, rfl, hn, hpb, hbf, hp2⟩ := hrel
          by_cases hgj : j < x.length
          · obtain ⟨c, hc⟩ : ∃ c, x[j]? = some c := ⟨_, List.getElem?_eq_getElem hgj⟩
            obtain ⟨xb, xo, rfl, hxb, hxc2⟩ := Buf.cell hbf.out (by omega)
            have hck : wr.cell? ⟨xb, xo + j, none⟩ = some (.int .u8 c.toNat) := by rw [hxc2 j (by omega)]; simp only [bcs, List.getElem?_map, hc]; rfl
            have HT := Lib.hid (show (x.map mkN).take (j + 1) = (x.map mkN).take j ++ [mkN c] by rw [List.take_add_one, List.getElem?_map, hc]; rfl)
            have hcl := UInt8.toNat_lt c
            have hen := enc_mk c
            have b0 : wr.cell? ⟨PB, 0, none⟩ = some (.string (bs (110 :: (x.map mkN).take j))) := hpb.out.cell rfl
            have f0 := hpb.out.free 0
            clear hc hxc2
            go_wp2_with fail
            go_roundw
            case rel => exact ⟨j + 1, by omega, by go_num, Lib.hid (hn.out.set_blk HPW.out HNE.out 0 _), Lib.hid (by rw [HT.out, ← List.cons_append, ← bs_append]; exact hpb.out.set 0 _), Lib.hid (hbf.out.set_ne hpb.out (by decide) 0 _), Lib.hid ((cell_other HBB.out _ _).trans hp2.out)⟩
            case measure => simp [intOf]; try omega
          · obtain rfl : j = x.length := by omega
            have hxf : (x.map mkN).take x.length = x.map mkN := List.take_of_length_le (by simp)
            rw [hxf] at hpb
            have hp2' := hp2.out
            clear hxf
            go_wp2_with fail
            refine (C2.out _).mono ?_
            rintro e w' ⟨rfl, rfl⟩
            clear hp2'
            go_wp2_with ((with_reducible refine wpList_bytes rfl (.tmp 50) 63 9 rfl bytes_ty Tryd.underlying9 (bs y) rfl (by rw [bs_size]; unfold maxLen; omega) ?_); intro yb w3 hb3 hbl3 hown; rw [bs_data] at hb3; obtain ⟨yA, yc, rfl, hyc⟩ := Buf.shape hb3; clear hown)
            have HN3 := Lib.hid (hn.out.then_below hbl3)
            have HPB3 := Lib.hid (hpb.out.below hbl3)
            clear hn hpb hbf hbl3 hp2
            go_loopw [53] (fun i wr => ∃ (j : Nat) (ys : List UInt8), j ≤ y.length ∧ i = .int .i64 j ∧ ys.length ≤ 1 + j ∧ Hid (ys = 118 :: (y.take j).filter noC) ∧ Hid (NBuf w wr 57 2 (.slice fA m fc) m (pcs ((l.take m).map mk3))) ∧ Hid (Blk wr PB 57 #[.string (bs (110 :: x.map mkN)), .string (bs ys)]) ∧ Hid (BBuf wr 5 (.slice yA y.length yc) y)) (fun i _ => y.length - (intOf i).toNat)
            case atStart => exact ⟨0, [118], Nat.zero_le _, rfl, by simp, Lib.hid rfl, HN3, HPB3, Lib.hid hb3⟩
            case round =>
              clear HN3 HPB3 hb3
              obtain ⟨j, ys, hj, rfl, hyl2, hys, hn, hpb, hbf⟩ := hrel
              by_cases hgj : j < y.length
              · obtain ⟨c, hc⟩ : ∃ c, y[j]? = some c := ⟨_, List.getElem?_eq_getElem hgj⟩
                obtain ⟨yb, yo, rfl, hyb, hyc2⟩ := Buf.cell hbf.out (by omega)
                have hck : wr.cell? ⟨yb, yo + j, none⟩ = some (.int .u8 c.toNat) := by rw [hyc2 j (by omega)]; simp only [bcs, List.getElem?_map, hc]; rfl
                have HT := Lib.hid (show y.take (j + 1) = y.take j ++ [c] by rw [List.take_add_one, hc]; rfl)
                have hcl := UInt8.toNat_lt c
                have b1 : wr.cell? ⟨PB, 1, none⟩ = some (.string (bs ys)) := hpb.out.cell rfl
                have f1 := hpb.out.free 1
                clear hc hyc2
                by_cases h44 : c = 44
                · subst h44
                  go_wp2_with fail
                  go_roundw
                  case rel => exact ⟨j + 1, ys, by omega, by go_num, by omega, Lib.hid (by rw [hys.out, HT.out, List.filter_append]; simp [noC]), hn, hpb, hbf⟩
                  case measure => simp [intOf]; try omega
                · have hq44 : ((c.toNat : Int) != 44) = true := by
                    rw [bne_iff_ne]; intro h; exact h44 (UInt8.toNat_inj.1 (by simpa using Int.ofNat_inj.1 h))
                  have HF := Lib.hid (show noC c = true by unfold noC; simp [h44])
                  have hpbA := Lib.hid (hpb.out.alloc (.cells #[.int .u8 c.toNat] 5))
                  have HNA := Lib.hid (hn.out.alloc (.cells #[.int .u8 c.toNat] 5))
                  have HBA := Lib.hid (Buf.alloc hbf.out (.cells #[.int .u8 c.toNat] 5))
                  have hcv := fun w => conv_one (P := Tryd.prog) bytes_ty 9 Tryd.underlying9 w (c.toNat : Int) c rfl
                  have f2 := hpbA.out.free 1
                  have b2 : (wr.alloc (.cells #[.int .u8 c.toNat] 5)).cell? ⟨PB, 1, none⟩ = some (.string (bs ys)) := hpbA.out.cell rfl
                  clear h44
                  go_wp2_with fail
                  go_roundw
                  case rel => exact ⟨j + 1, ys ++ [c], by omega, by go_num, by simp; omega, Lib.hid (by rw [hys.out, HT.out, List.filter_append]; simp [HF.out]), Lib.hid (HNA.out.set_blk HPW.out HNE.out 1 _), Lib.hid (by rw [← bs_append]; exact hpbA.out.set 1 _), Lib.hid (HBA.out.set_ne hpbA.out (by decide) 1 _)⟩
                  case measure => simp [intOf]; try omega
              · obtain rfl : j = y.length := by omega
                have hyf := hys.out
                rw [List.take_length] at hyf
                have HM := Lib.hid (show mk3 p = (110 :: x.map mkN, ys) by rw [HMK.out, hyf])
                have b0 : wr.cell? ⟨PB, 0, none⟩ = some (.string (bs (110 :: x.map mkN))) := hpb.out.cell rfl
                have b1 : wr.cell? ⟨PB, 1, none⟩ = some (.string (bs ys)) := hpb.out.cell rfl
                clear hyf hys
                go_wp2_with (at_builtin; refine wpList_append_nlit rfl (.tmp 67) (.tmp 69) 22 rfl pair_ty rfl hn.out rfl (by simp) rfl (by simp [Value.oneCell']) (by simp only [maxLen]; omega) (by omega) ?_; intro v5 w5 hn5 _; have HN6 := Lib.hid hn5; clear hn5)
                go_roundw
                case rel => exact ⟨m + 1, by omega, by omega, by go_num, Lib.hid (by rw [HTK.out, HM.out, pcs_snoc]; exact HN6.out), Lib.hid (HN6.out.lt (by omega))⟩
                case measure => simp [intOf]; try omega
      · obtain rfl : m = 8 := by omega
        have HL := Lib.hid (show (l.take 8).map mk3 = mkL l from rfl)
        have hln : (mkL l).length = 8 := by unfold mkL; rw [List.length_map, List.length_take]; omega
        have hd : decide ((8 : Int) < (l.length : Int)) = true := decide_eq_true (by omega)
        rw [HL.out] at hnb
        have HM := Lib.hid (made_tail (w := w) (wr := wr) l (fA := fA) (fc := fc) (k := 8) hln hnb.out)
        clear hnb hln HL h8
        go_wp2_with fail
        refine HM.out.mono ?_
        rintro e w2 ⟨v', E, rfl, hE⟩
        rcases hE with ⟨rfl, hn⟩ | ⟨rfl, hn⟩
        · have HN := Lib.hid hn
          clear hn HM
          go_wp2_with fail
          go_ret
          unfold RetMd
          rw [if_pos HN.out.1]
          exact ⟨_, rfl, HN.out.2⟩
        · have HN := Lib.hid hn
          clear hn HM
          go_wp2_with fail
          go_ret
          unfold RetMd
          rw [if_neg HN.out.1]
          exact ⟨rfl, HN.out.2⟩
    · have hml : m = l.length := by omega
      have HL := Lib.hid (show (l.take m).map mk3 = mkL l by unfold mkL; rw [List.take_of_length_le (by omega), List.take_of_length_le (by omega)])
      have hln : (mkL l).length = m := by unfold mkL; rw [List.length_map, List.length_take]; omega
      have hd : decide ((m : Int) < (l.length : Int)) = false := decide_eq_false (by omega)
      rw [HL.out] at hnb
      have HM := Lib.hid (made_tail (w := w) (wr := wr) l (fA := fA) (fc := fc) (k := m) hln hnb.out)
      clear hnb hln HL hml
      go_wp2_with fail
      refine HM.out.mono ?_
      rintro e w2 ⟨v', E, rfl, hE⟩
      rcases hE with ⟨rfl, hn⟩ | ⟨rfl, hn⟩
      · have HN := Lib.hid hn
        clear hn HM
        go_wp2_with fail
        go_ret
        unfold RetMd
        rw [if_pos HN.out.1]
        exact ⟨_, rfl, HN.out.2⟩
      · have HN := Lib.hid hn
        clear hn HM
        go_wp2_with fail
        go_ret
        unfold RetMd
        rw [if_neg HN.out.1]
        exact ⟨rfl, HN.out.2⟩

end Go.Proofs.YtpjicajifdandaaDoor
