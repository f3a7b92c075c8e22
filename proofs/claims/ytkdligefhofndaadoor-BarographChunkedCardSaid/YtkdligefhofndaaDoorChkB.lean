/-
  Top 09: the walk of block.Chunks on chunks that were made.
-/
import Derived.Test.YtkdligefhofndaaDoorChkA
import Derived.Test.YtkdligefhofndaaDoorXorB
import Derived.Test.YtkdligefhofndaaDoorXorD
import Derived.Test.YtkdligefhofndaaDoorFrmN
namespace Go.Proofs.YtkdligefhofndaaDoor
open Go.RowKit Go.Bar Go.Bar.Leb Go.Bar.Frm Go.Bar.Xor

theorem smc1 (l : List Sm) : ∀ u ∈ smc l, u.oneCell' = true := by
  intro u hu
  unfold smc at hu
  obtain ⟨x, _, hx⟩ := List.mem_flatMap.1 hu
  simp only [List.mem_cons, List.not_mem_nil, or_false] at hx
  rcases hx with rfl | rfl <;> rfl
theorem recAt {w : World} {A : Option Addr} {n c i : Nat} {rs : List Rc} {k : UInt8} {d : List UInt8} (h : SlAt w 2 (.slice A n c) rs.length (rcs rs)) (hi : rs[i]? = some (k, d)) : ∃ b o, A = some ⟨b, o, none⟩ ∧ b < w.heap.size ∧ w.cell? ⟨b, o + i * 2, none⟩ = some (.int .u8 k.toNat) ∧ w.cell? ⟨b, o + i * 2 + 1, none⟩ = some (.string (bs d)) := by
  have hlt : i < rs.length := (List.getElem?_eq_some_iff.1 hi).1
  obtain ⟨A', c', he, _⟩ := h.shape
  injection he with h1 h2 h3
  subst h1; subst h2; subst h3
  obtain ⟨b, o, rfl, hb, hc⟩ := SlAt.cells h (by omega)
  obtain ⟨g1, g2⟩ := flat2 (fun r : Rc => Value.int .u8 r.1.toNat) (fun r : Rc => Value.string (bs r.2)) rs i _ hi
  exact ⟨b, o, rfl, hb, hc _ _ g1, hc _ _ g2⟩

/-- chunks: their bytes, and their samples -/
abbrev Ck := List UInt8 × List Sm
def ckRecs (ps : List Ck) : List Rc := ps.map fun p => (4, p.1)
def ckAll (ps : List Ck) : List Sm := ps.flatMap (·.2)
/-- chunks that may stand one behind the other -/
structure CkOk (ps : List Ck) : Prop where
  one : ∀ p ∈ ps, samplesR p.1 = (p.2, 0) ∧ p.2 ≠ [] ∧ p.1.length ≤ 1048576
  rise : (ckAll ps).Pairwise (fun a b => a.1 < b.1)
theorem ckAll_snoc (ps : List Ck) (p : Ck) : ckAll (ps ++ [p]) = ckAll ps ++ p.2 := by simp [ckAll]
theorem ckAll_take {ps : List Ck} {k : Nat} {p : Ck} (h : ps[k]? = some p) : ckAll (ps.take (k + 1)) = ckAll (ps.take k) ++ p.2 := by
  rw [List.take_add_one, h]; exact ckAll_snoc _ _
theorem ckAll_len (ps : List Ck) (k : Nat) : (ckAll (ps.take k)).length ≤ (ckAll ps).length := by
  have : ckAll ps = ckAll (ps.take k) ++ ckAll (ps.drop k) := by
    unfold ckAll
    rw [← List.flatMap_append, List.take_append_drop]
  rw [this, List.length_append]; omega
theorem ck_rise {ps : List Ck} (h : CkOk ps) {k m : Nat} {p : Ck} {x y : Sm} (hk : ps[k]? = some p) (hx : (ckAll (ps.take k))[m]? = some x) (hy : p.2[0]? = some y) : x.1 < y.1 := by
  have he : ckAll ps = ckAll (ps.take (k + 1)) ++ ckAll (ps.drop (k + 1)) := by
    unfold ckAll
    rw [← List.flatMap_append, List.take_append_drop]
  have h1 := h.rise
  rw [he, ckAll_take hk, List.append_assoc] at h1
  have h2 := (List.pairwise_append.1 h1).2.2
  exact h2 x (List.mem_of_getElem? hx) y (List.mem_append_left _ (List.mem_of_getElem? hy))

set_option maxHeartbeats 8000000 in
set_option maxRecDepth 10000 in
theorem chunks_any (ps : List Ck) (W : List UInt8) (w : World) (hW : WidthsAt w) (hok : CkOk ps) (hWe : W = laid (ckRecs ps)) (hl : W.length ≤ 1000000000) (hn : (ckAll ps).length ≤ 1000000) (hps : ps.length ≤ 1000000) :
    Calls Tryd.prog 7 #[.string (bs W)] w fun e w' => ∃ v, e = .returned (.tuple #[v, .int .i64 0]) ∧ NBuf w w' 27 2 v (ckAll ps).length (smc (ckAll ps)) := by
  have hrl := recs_laid (ckRecs ps) [] (fun r hr => by
    unfold ckRecs at hr
    obtain ⟨p, hp, rfl⟩ := List.mem_map.1 hr
    exact (hok.one p hp).2.2) (by decide)
  rw [List.append_nil, ← hWe] at hrl
  have hall := fun w => all_any W w (by omega)
  rw [hrl.1, hrl.2] at hall
  rw [show ((W.length : Int) - (([] : List UInt8).length : Nat)) = (W.length : Int) by simp] at hall
  have HALL := Lib.hid hall
  have HRL := Lib.hid (show (ckRecs ps).length = ps.length by unfold ckRecs; rw [List.length_map])
  have HOK := Lib.hid hok
  have HW := Lib.hid hW
  clear hall hrl hok hW hWe
  go_enter Tryd.func7, Tryd.ntmps7
  go_wp2_with fail
  refine (HALL.out _).mono ?_
  rintro e w1 ⟨v, rfl, hb1, hbl1⟩
  obtain ⟨rA, rc, rfl, hrc⟩ := hb1.shape
  rw [HRL.out] at hrc
  have HB1 := Lib.hid (SlAt.of_buf hb1)
  have HBL := Lib.hid hbl1
  clear hb1 hbl1
  rw [HRL.out]
  go_wp2_with fail
  go_loopw [23, 6] (fun i d wr => ∃ k : Nat, k ≤ ps.length ∧ i = .int .i64 k ∧ Hid (NBuf w1 wr 27 2 d (ckAll (ps.take k)).length (smc (ckAll (ps.take k))))) (fun i _ _ => ps.length - (intOf i).toNat)
  case atStart => exact ⟨0, Nat.zero_le _, rfl, Lib.hid (NBuf.nil (Below.refl _ _) _ _)⟩
  case round =>
    obtain ⟨k, hk, rfl, hnb⟩ := hrel
    have hbw := Lib.hid hnb.out.below
    obtain ⟨fA, fc, rfl, hfc⟩ := hnb.out.buf.shape
    by_cases hgo : k < ps.length
    · obtain ⟨p, hpk⟩ : ∃ p, ps[k]? = some p := ⟨_, List.getElem?_eq_getElem hgo⟩
      obtain ⟨hs1, hs2, hs3⟩ := HOK.out.one p (List.mem_of_getElem? hpk)
      have hrk : (ckRecs ps)[k]? = some (4, p.1) := by unfold ckRecs; rw [List.getElem?_map, hpk]; rfl
      obtain ⟨b, o, rfl, hbb, g1, g2⟩ := recAt (HB1.out.below hbw.out) hrk
      have HTK := Lib.hid (ckAll_take hpk)
      have HCR := Lib.hid (fun m x y => ck_rise (m := m) (x := x) (y := y) HOK.out hpk)
      have hln := ckAll_len ps (k + 1)
      rw [HTK.out, List.length_append] at hln
      obtain ⟨acc, hacc⟩ : ∃ acc, acc = ckAll (ps.take k) := ⟨_, rfl⟩
      rw [← hacc] at HTK HCR hln hnb hfc
      rw [← hacc]
      have hsm := fun w hW => samples_any p.1 w hW (by omega)
      obtain ⟨y, hy⟩ : ∃ y, p.2[0]? = some y := by
        rcases h : p.2 with _ | ⟨y, r⟩
        · exact absurd h hs2
        · exact ⟨y, rfl⟩
      have hp0 : 0 < p.2.length := (List.getElem?_eq_some_iff.1 hy).1
      rw [hs1] at hsm
      have HSM := Lib.hid hsm
      have HY := Lib.hid hy
      have hq := Blk.new wr #[.int .u8 ((4 : UInt8).toNat : Nat), .string (bs p.1)] 34
      have HN1 := Lib.hid (hnb.out.alloc (.cells #[.int .u8 ((4 : UInt8).toNat : Nat), .string (bs p.1)] 34))
      have HBW1 := Lib.hid (below_trans hbw.out (ba1 wr (.cells #[.int .u8 ((4 : UInt8).toNat : Nat), .string (bs p.1)] 34)))
      clear hacc hpk hs1 hs2 hs3 hrk hsm hy
      go_wp2_with fail
      refine (HSM.out _ (HW.out.below (below_trans HBL.out HBW1.out))).mono ?_
      rintro e w2 ⟨v2, rfl, _, hf, hb2⟩
      obtain ⟨sA, sc, rfl, hsc⟩ := (hf rfl).buf.shape
      have HSX0 := Lib.hid (hf rfl).slice
      have HNX0 := Lib.hid (HN1.out.then_below hb2)
      have HBW2 := Lib.hid (below_trans HBW1.out hb2)
      have q0 : w2.cell? ⟨wr.heap.size, 0, none⟩ = some (.int .u8 4) := (hq.below hb2).cell (i := 0) rfl
      obtain ⟨sb, so, rfl, hsb, y0, _⟩ := SmsAt.at_ (l := p.2) HSX0.out HY.out
      rw [Nat.zero_mul, Nat.add_zero] at y0
      have hpz : ((p.2.length : Int) == 0) = false := by rw [beq_eq_false_iff_ne]; omega
      clear hf hb2 hq
      rcases hm : acc.length with _ | m
      · rw [hm] at HNX0 hln
        have hae : acc = [] := List.eq_nil_of_length_eq_zero hm
        have HD := Lib.hid (fun q => HNX0.out.drewN q)
        have HAL := Lib.hid hm
        have HS := Lib.hid (fun q => SlAt.below HSX0.out (below_draws w2 q))
        clear hm
        go_wp2_with fail
        go_quiet (fail)
        go_wp2_with (at_builtin; refine wpList_append_el rfl (.tmp 62) (.tmp 63) 24 24 rfl sm_ty rfl (HD.out _).buf rfl ((HS.out _).src (by omega) (t := 24) Tryd.underlying24 (smc1 p.2)) (by simp only [maxLen]; omega) (by omega) ?_; intro v' w' hb ha hg; have HN5 := Lib.hid ((HD.out _).step hb ha hg); clear hb ha hg)
        go_roundw
        case rel => exact ⟨k + 1, by omega, by go_num, Lib.hid (by rw [HTK.out, List.length_append, smc_append, HAL.out]; exact HN5.out)⟩
        case measure => simp [intOf]; try omega
      · rw [hm] at HNX0 hln
        obtain ⟨x, hx⟩ : ∃ x, acc[m]? = some x := ⟨_, List.getElem?_eq_getElem (by omega)⟩
        have hlt := HCR.out m x y hx HY.out
        have hd : decide (y.1 ≤ x.1) = false := decide_eq_false (by omega)
        have hacs := HNX0.out.slice
        rw [← hm] at hacs
        obtain ⟨ab, ao, rfl, hab, x0, _⟩ := SmsAt.at_ (l := acc) hacs hx
        have hd0 : decide (0 < ((m : Int) + 1)) = true := decide_eq_true (by omega)
        have HAL := Lib.hid hm
        have HS := Lib.hid (fun q => SlAt.below HSX0.out (below_draws w2 q))
        have HD := Lib.hid (fun q => HNX0.out.drewN q)
        have hwm : IntKind.i64.wrap (m : Int) = (m : Int) := IntWalk.i64_in _ ⟨by omega, by omega⟩
        have hml : (m : Int) < ((m : Int) + 1) := by omega
        clear hm hacs hx hlt
        go_wp2_with fail
        go_quiet (fail)
        go_wp2_with (at_builtin; refine wpList_append_el rfl (.tmp 62) (.tmp 63) 24 24 rfl sm_ty rfl (HD.out _).buf rfl ((HS.out _).src (by omega) (t := 24) Tryd.underlying24 (smc1 p.2)) (by simp only [maxLen]; omega) (by omega) ?_; intro v' w' hb ha hg; have HN5 := Lib.hid ((HD.out _).step hb ha hg); clear hb ha hg)
        go_roundw
        case rel => exact ⟨k + 1, by omega, by go_num, Lib.hid (by rw [HTK.out, List.length_append, smc_append, HAL.out]; exact HN5.out)⟩
        case measure => simp [intOf]; try omega
    · obtain rfl : k = ps.length := by omega
      have hnb2 := hnb.out
      rw [List.take_length] at hnb2
      have HN := Lib.hid (hnb2.after HBL.out)
      rw [List.take_length]
      clear hnb2 hnb
      go_wp2_with fail
      go_ret2
      exact ⟨_, rfl, HN.out⟩

end Go.Proofs.YtkdligefhofndaaDoor
