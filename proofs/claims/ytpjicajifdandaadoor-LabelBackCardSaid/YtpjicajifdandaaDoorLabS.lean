/-
  Layer 6: the walks of Told and of the reference's Check, Get, Text, Key.
-/
import Derived.Test.YtpjicajifdandaaDoorLabR
namespace Go.Proofs.YtpjicajifdandaaDoor
open Go.RowKit Go.Bar Go.Bar.Leb Go.Bar.Lab

theorem rpair_ty : ElemTy Tryd.prog 29 61 (.agg #[.string ByteArray.empty, .string ByteArray.empty]) 2 32 :=
  ⟨Tryd.underlying29, info_parts (show (Tryd.prog.info? 61).map (fun i => (i.zero, i.size, i.bytes)) = some (some (.agg #[.string ByteArray.empty, .string ByteArray.empty]), 2, 32) by kernel_rfl), rfl⟩

/-- the reference's pairs in a buffer of the call's own -/
def RetRN (w : World) (l : List Pr) (e : Ending) (w' : World) : Prop := ∃ v, e = .returned v ∧ NBuf w w' 61 2 v l.length (pcs l)

set_option maxHeartbeats 4000000 in
set_option maxRecDepth 10000 in
theorem told_any6 (v : Value) (l : List Pr) (w : World) (h : PsAt w v l) (hl : l.length ≤ 1000000) :
    Calls Tryd.prog 13 #[v] w (RetRN w l) := by
  obtain ⟨A, c, rfl, hlc, hcm⟩ := h.shape
  unfold maxLen at hcm
  have HN0 := Lib.hid (NBuf.lit0 (Below.refl w.heap.size w) 61 2)
  go_enter Tryd.func13, Tryd.ntmps13
  go_wp2_with fail
  go_loopw [9, 3] (fun i d wr => ∃ k : Nat, k ≤ l.length ∧ i = .int .i64 k ∧ Hid (NBuf w wr 61 2 d k (pcs (l.take k)))) (fun i _ _ => l.length - (intOf i).toNat)
  case atStart => exact ⟨0, Nat.zero_le _, rfl, HN0⟩
  case round =>
    obtain ⟨k, hk, rfl, hnb⟩ := hrel
    obtain ⟨fA, fc, rfl, hfc⟩ := hnb.out.buf.shape
    by_cases hgo : k < l.length
    · obtain ⟨p, hpk⟩ : ∃ p, l[k]? = some p := ⟨_, List.getElem?_eq_getElem hgo⟩
      obtain ⟨b, o, rfl, hbb, g1, g2⟩ := (h.below hnb.out.below).at_ hpk
      have HN1 := Lib.hid (hnb.out.alloc (.cells #[.string (bs p.1), .string (bs p.2)] 57))
      have HPK := Lib.hid hpk
      clear hpk
      go_wp2_with (at_builtin; refine wpList_append_nlit rfl (.tmp 13) (.tmp 15) 29 rfl rpair_ty rfl HN1.out rfl (by simp) rfl (by simp [Value.oneCell']) (by simp only [maxLen]; omega) (by omega) ?_; intro v3 w3 hn3 _; have HN3 := Lib.hid hn3; clear hn3)
      go_roundw
      case rel =>
        refine ⟨k + 1, by omega, by go_num, Lib.hid ?_⟩
        rw [List.take_add_one, HPK.out, pcs_append]
        exact HN3.out
      case measure => simp [intOf]; omega
    · obtain rfl : k = l.length := by omega
      have hn := hnb.out
      rw [List.take_length] at hn
      have HN := Lib.hid hn
      clear hn hgo
      go_wp2_with fail
      go_ret
      exact ⟨_, rfl, HN.out⟩

set_option maxHeartbeats 4000000 in
set_option maxRecDepth 10000 in
theorem rget_any (v : Value) (l : List Pr) (x : List UInt8) (w : World) (h : PsAt w v l) :
    Calls Tryd.prog 20 #[v, .string (bs x)] w (RetBelow w (.string (bs (Lab.get l x)))) := by
  obtain ⟨A, c, rfl, hlc, hcm⟩ := h.shape
  unfold maxLen at hcm
  obtain ⟨Z, hZ⟩ : ∃ Z, Z = Lab.get l x := ⟨_, rfl⟩
  rw [← hZ]
  have HZ := Lib.hid hZ
  clear hZ
  go_enter Tryd.func20, Tryd.ntmps20
  go_wp2_with fail
  go_loopw [9] (fun i wr => ∃ k : Nat, k ≤ l.length ∧ i = .int .i64 k ∧ Below w.heap.size w wr ∧ Hid (∀ p ∈ l.take k, (p.1 == x) = false)) (fun i _ => l.length - (intOf i).toNat)
  case atStart => exact ⟨0, Nat.zero_le _, rfl, Below.refl _ _, Lib.hid (by simp)⟩
  case round =>
    obtain ⟨k, hk, rfl, hb, hx⟩ := hrel
    by_cases hgo : k < l.length
    · obtain ⟨p, hp⟩ : ∃ p, l[k]? = some p := ⟨_, List.getElem?_eq_getElem hgo⟩
      obtain ⟨b, o, rfl, hbb, h1, h2⟩ := (h.below hb).at_ hp
      have HP := Lib.hid hp
      clear hp
      by_cases he : (p.1 == x) = true
      · have hz : Z = p.2 := by
          rw [HZ.out]
          unfold Lab.get
          have : l.find? (fun p => p.1 == x) = some p := by
            obtain ⟨hl, hq⟩ := List.getElem?_eq_some_iff.1 HP.out
            have hsplit : l = l.take k ++ p :: l.drop (k + 1) := by
              rw [← hq, List.getElem_cons_drop, List.take_append_drop]
            rw [hsplit, List.find?_append, List.find?_eq_none.2 (fun q hq => by rw [hx.out q hq]; simp)]
            simp [he]
          rw [this]
        have HZ2 := Lib.hid hz
        clear hz
        go_wp2_with fail
        go_ret
        exact ⟨by rw [HZ2.out]; rfl, below_trans hb (below_alloc1 _ _)⟩
      · have he : (p.1 == x) = false := by simpa using he
        go_wp2_with fail
        go_roundw
        case rel =>
          refine ⟨k + 1, by omega, by go_num, below_trans hb (below_alloc1 _ _), Lib.hid (fun q hq => ?_)⟩
          rw [List.take_add_one, HP.out, List.mem_append] at hq
          rcases hq with hq | hq
          · exact hx.out q hq
          · simp at hq
            subst hq
            exact he
        case measure => simp [intOf]; omega
    · have hz : Z = [] := by
        rw [HZ.out]
        unfold Lab.get
        have h0 := hx.out
        rw [List.take_of_length_le (by omega)] at h0
        rw [List.find?_eq_none.2 (fun q hq => by rw [h0 q hq]; simp)]
      have HZ2 := Lib.hid hz
      clear hz
      go_wp2_with fail
      go_ret
      exact ⟨by rw [HZ2.out]; rfl, hb⟩

theorem rtext_eq0 (ys : List UInt8) (p : Pr) : bs ys ++ (bs p.1 ++ ({ data := #[61] } : ByteArray) ++ bs p.2) = bs (ys ++ (p.1 ++ 61 :: p.2)) := by
  rw [pair_str, bs_append]
theorem rtext_eq1 (ys : List UInt8) : bs ys ++ ({ data := #[44] } : ByteArray) = bs (ys ++ [44]) := by
  show bs ys ++ bs [44] = _
  rw [bs_append]

set_option maxHeartbeats 4000000 in
set_option maxRecDepth 10000 in
theorem rtext_any (v : Value) (l : List Pr) (w : World) (h : PsAt w v l) (hl : l.length ≤ 1000) (hp : ∀ p ∈ l, p.1.length ≤ 1000000 ∧ p.2.length ≤ 1000000) :
    Calls Tryd.prog 24 #[v] w (RetBelow w (.string (bs (Lab.text l)))) := by
  obtain ⟨A, c, rfl, hlc, hcm⟩ := h.shape
  unfold maxLen at hcm
  go_enter Tryd.func24, Tryd.ntmps24
  go_wp2_with fail
  go_loopw [8, 3] (fun i s wr => ∃ (k : Nat) (ys : List UInt8), k ≤ l.length ∧ i = .int .i64 k ∧ s = .string (bs ys) ∧ Below w.heap.size w wr ∧ ys.length ≤ k * 2000020 ∧ Hid (ys = Lab.text (l.take k))) (fun i _ _ => l.length - (intOf i).toNat)
  case atStart => exact ⟨0, [], Nat.zero_le _, rfl, rfl, Below.refl _ _, by simp, Lib.hid rfl⟩
  case round =>
    obtain ⟨k, ys, hk, rfl, rfl, hB, hyl, hy⟩ := hrel
    by_cases hgo : k < l.length
    · obtain ⟨p, hpk⟩ : ∃ p, l[k]? = some p := ⟨_, List.getElem?_eq_getElem hgo⟩
      obtain ⟨b, o, rfl, hbb, g1, g2⟩ := (h.below hB).at_ hpk
      have HT := Lib.hid (text_take_succ hpk)
      obtain ⟨hp1, hp2⟩ := hp p (List.mem_of_getElem? hpk)
      have hB2 := below_trans hB (below_alloc1 wr (.cells #[.string (bs p.1), .string (bs p.2)] 61))
      clear hpk
      rcases k with _ | j
      · simp only [Nat.zero_mul, Nat.add_zero] at g1 g2
        have HE := Lib.hid (rtext_eq0 ys p)
        go_wp2_with fail
        go_roundw
        case rel =>
          refine ⟨0 + 1, ys ++ (p.1 ++ 61 :: p.2), by omega, by go_num, by rw [HE.out], hB2, by simp; omega, Lib.hid ?_⟩
          rw [HT.out, if_pos rfl, hy.out]
          simp [Lab.one]
        case measure => simp [intOf]; try omega
      · have hj0 : decide (0 < ((j : Int) + 1)) = true := decide_eq_true (by omega)
        have HE := Lib.hid (rtext_eq0 (ys ++ [44]) p)
        have HE1 := Lib.hid (rtext_eq1 ys)
        go_wp2_with fail
        go_roundw
        case rel =>
          refine ⟨j + 1 + 1, (ys ++ [44]) ++ (p.1 ++ 61 :: p.2), by omega, by go_num, by rw [HE1.out, HE.out], hB2, by simp; omega, Lib.hid ?_⟩
          rw [HT.out, if_neg (by omega), hy.out]
          simp [Lab.one]
        case measure => simp [intOf]; try omega
    · obtain rfl : k = l.length := by omega
      have hz : ys = Lab.text l := by rw [hy.out, List.take_length]
      have HZ := Lib.hid hz
      clear hz hy
      go_wp2_with fail
      go_ret
      exact ⟨by rw [HZ.out]; rfl, hB⟩

end Go.Proofs.YtpjicajifdandaaDoor
