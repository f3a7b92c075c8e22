/-
  The laws' Cut: the first n bytes of a string.
-/
import Derived.Test.YtjklcojnbcemoaaGreatDoorZLib1
import Derived.Lib.Strings
import Derived.Test.YtjklcojnbcemoaaGreatDoorZLabB
import Derived.Test.YtjklcojnbcemoaaGreatDoorZLabD
import Derived.Test.YtjklcojnbcemoaaGreatDoorZLabG
import Derived.Test.YtjklcojnbcemoaaGreatDoorZLib7
import Derived.Test.YtjklcojnbcemoaaGreatDoorZLib23
import Derived.Test.YtjklcojnbcemoaaGreatDoorZLebA
import Derived.Deep.QuietTactic
import Derived.BigQuiet

namespace Go.Proofs.YtjklcojnbcemoaaGreatDoor
open Go.RowKit Go.Bar

end Go.Proofs.YtjklcojnbcemoaaGreatDoor

/-
  Layer 6: the laws' helpers: Few, Told, unlike, awake.
-/
namespace Go.Proofs.YtjklcojnbcemoaaGreatDoor
open Go.RowKit Go.Bar Go.Bar.Leb Go.Bar.Lab

/-- at most ten pairs of short texts -/
def cut42 (p : Pr) : Pr := (p.1.take 42, p.2.take 42)
def few (l : List Pr) : List Pr := (l.take 10).map cut42
theorem few_len (l : List Pr) : (few l).length ≤ 10 := by unfold few; rw [List.length_map, List.length_take]; omega
theorem few_sm (l : List Pr) : ∀ p ∈ few l, p.1.length ≤ 42 ∧ p.2.length ≤ 42 := by
  intro p hp
  unfold few at hp
  obtain ⟨q, _, rfl⟩ := List.mem_map.1 hp
  unfold cut42
  simp only [List.length_take]
  omega
/-- pairs in a buffer of the call's own -/
def RetN (w : World) (l : List Pr) (e : Ending) (w' : World) : Prop := ∃ v, e = .returned v ∧ NBuf w w' 84 2 v l.length (pcs l)

theorem isSl_some' (n : Nat) : ∃ v : Value, isSl n v := isSl_some n

theorem drewN_two (w : World) (a b : Nat) : ∃ n, (w.drewN a).drewN b = w.drewN n := ⟨a + b, by simp [World.drewN, Nat.add_assoc]⟩

theorem parse1 : parse [98, 61, 50, 44, 97, 61, 49] = ([([97], [49]), ([98], [50])], 0) := by decide
theorem parse2 : parse [97, 61, 49, 44, 97, 61, 50] = ([], 12) := by decide
theorem parse3 : parse [97] = ([], 3) := by decide

end Go.Proofs.YtjklcojnbcemoaaGreatDoor

/-
  Layer 1: the walks of the document's answer (barographref01): it computes what leb computes.
-/
namespace Go.Proofs.YtjklcojnbcemoaaGreatDoor
open Go.RowKit Go.Bar Go.Bar.Leb

end Go.Proofs.YtjklcojnbcemoaaGreatDoor

/-
  Layer 6: the walks of the reference's functions that look at pairs (letter, name, Check, Get, Key, Text, Compare).
-/
namespace Go.Proofs.YtjklcojnbcemoaaGreatDoor
open Go.RowKit Go.Bar Go.Bar.Leb Go.Bar.Lab

theorem digit_cases {c : UInt8} : digit c = true ∧ 48 ≤ (c.toNat : Int) ∧ (c.toNat : Int) ≤ 57 ∨ digit c = false ∧ (c.toNat : Int) < 48 ∨ digit c = false ∧ 57 < (c.toNat : Int) ∧ 48 ≤ (c.toNat : Int) := by
  rw [digit_nat]
  by_cases h1 : (c.toNat : Int) < 48
  · exact .inr (.inl ⟨decide_eq_false (by omega), h1⟩)
  · by_cases h2 : 57 < (c.toNat : Int)
    · exact .inr (.inr ⟨decide_eq_false (by omega), h2, by omega⟩)
    · exact .inl ⟨decide_eq_true (by omega), by omega, by omega⟩

end Go.Proofs.YtjklcojnbcemoaaGreatDoor

/-
  Layer 6: the walks of Told and of the reference's Check, Get, Text, Key.
-/
namespace Go.Proofs.YtjklcojnbcemoaaGreatDoor
open Go.RowKit Go.Bar Go.Bar.Leb Go.Bar.Lab

theorem rpair_ty : ElemTy Tryz.prog 66 105 (.agg #[.string ByteArray.empty, .string ByteArray.empty]) 2 32 :=
  ⟨Tryz.underlying66, info_parts (show (Tryz.prog.info? 105).map (fun i => (i.zero, i.size, i.bytes)) = some (some (.agg #[.string ByteArray.empty, .string ByteArray.empty]), 2, 32) by kernel_rfl), rfl⟩

/-- the reference's pairs in a buffer of the call's own -/
def RetRN (w : World) (l : List Pr) (e : Ending) (w' : World) : Prop := ∃ v, e = .returned v ∧ NBuf w w' 105 2 v l.length (pcs l)

set_option maxHeartbeats 4000000 in
set_option maxRecDepth 10000 in
theorem told_any6 (v : Value) (l : List Pr) (w : World) (h : PsAt w v l) (hl : l.length ≤ 1000000) :
    Calls Tryz.prog 24 #[v] w (RetRN w l) := by
  obtain ⟨A, c, rfl, hlc, hcm⟩ := h.shape
  unfold maxLen at hcm
  have HN0 := Lib.hid (NBuf.lit0 (Below.refl w.heap.size w) 105 2)
  go_enter Tryz.func24, Tryz.ntmps24
  go_wp2_with fail
  go_loopw [9, 3] (fun i d wr => ∃ k : Nat, k ≤ l.length ∧ i = .int .i64 k ∧ Hid (NBuf w wr 105 2 d k (pcs (l.take k)))) (fun i _ _ => l.length - (intOf i).toNat)
  case atStart => exact ⟨0, Nat.zero_le _, rfl, HN0⟩
  case round =>
    obtain ⟨k, hk, rfl, hnb⟩ := hrel
    obtain ⟨fA, fc, rfl, hfc⟩ := hnb.out.buf.shape
    by_cases hgo : k < l.length
    · obtain ⟨p, hpk⟩ : ∃ p, l[k]? = some p := ⟨_, List.getElem?_eq_getElem hgo⟩
      obtain ⟨b, o, rfl, hbb, g1, g2⟩ := (h.below hnb.out.below).at_ hpk
      have HN1 := Lib.hid (hnb.out.alloc (.cells #[.string (bs p.1), .string (bs p.2)] 84))
      have HPK := Lib.hid hpk
      clear hpk
      go_wp2_with (at_builtin; refine wpList_append_nlit rfl (.tmp 13) (.tmp 15) 66 rfl rpair_ty rfl HN1.out rfl (by simp) rfl (by simp [Value.oneCell']) (by simp only [maxLen]; omega) (by omega) ?_; intro v3 w3 hn3 _; have HN3 := Lib.hid hn3; clear hn3)
      go_roundw
      case rel =>
        refine ⟨k + 1, by omega, by go_num, Lib.hid ?_⟩
        rw [List.take_add_one, HPK.out, pcs_append]
        exact HN3.out
      case measure => simp [intOf]; omega
    · obtain rfl : k = l.length := by omega
      have hn := hnb.out
      rw [List.take_length] at hn
      have HN := Lib.hid hn
      clear hn hgo
      go_wp2_with fail
      go_ret
      exact ⟨_, rfl, HN.out⟩

theorem rtext_eq0 (ys : List UInt8) (p : Pr) : bs ys ++ (bs p.1 ++ ({ data := #[61] } : ByteArray) ++ bs p.2) = bs (ys ++ (p.1 ++ 61 :: p.2)) := by
  rw [pair_str, bs_append]
theorem rtext_eq1 (ys : List UInt8) : bs ys ++ ({ data := #[44] } : ByteArray) = bs (ys ++ [44]) := by
  show bs ys ++ bs [44] = _
  rw [bs_append]

end Go.Proofs.YtjklcojnbcemoaaGreatDoor

/-
  Layer 6: the walks of the reference's Check, Key and Compare.
-/
namespace Go.Proofs.YtjklcojnbcemoaaGreatDoor
open Go.RowKit Go.Bar Go.Bar.Leb Go.Bar.Lab

/-- a pair that may stand at its place, as the reference says it -/
def goodR (l : List Pr) (i : Nat) : Prop := okP (l.getD i ([], [])) = true ∧ ∀ k, k < i → (l.getD k ([], [])).1 < (l.getD i ([], [])).1
theorem ok_iffR (l : List Pr) : Ok l ↔ 0 < l.length ∧ l.length ≤ 8 ∧ ∀ i, i < l.length → goodR l i := by
  rw [ok_iff]
  constructor
  · rintro ⟨h1, h2, h3⟩
    refine ⟨h1, h2, fun i hi => ⟨(h3 i hi).1, fun k hk => ?_⟩⟩
    have := chain_lt h3 (i - k - 1) k (by omega)
    rwa [show k + (i - k - 1) + 1 = i by omega] at this
  · rintro ⟨h1, h2, h3⟩
    exact ⟨h1, h2, fun i hi => ⟨(h3 i hi).1, fun h0 => (h3 i hi).2 (i - 1) (by omega)⟩⟩

end Go.Proofs.YtjklcojnbcemoaaGreatDoor

/-
  Layer 6: the walk of the reference's Compare.
-/
namespace Go.Proofs.YtjklcojnbcemoaaGreatDoor
open Go.RowKit Go.Bar Go.Bar.Leb Go.Bar.Lab

theorem less_t {a b : List UInt8} (h : a < b) : Op.bytesLess a b = true := by rw [less_eq]; exact decide_eq_true h
theorem less_f {a b : List UInt8} (h : ¬ a < b) : Op.bytesLess a b = false := by rw [less_eq]; exact decide_eq_false h
theorem eqb_f {a b : List UInt8} (h : a ≠ b) : (a == b) = false := by rw [beq_eq_false_iff_ne]; exact h
theorem b_ne {a b : List UInt8} (h : a < b) : a ≠ b := fun he => by rw [he] at h; exact b_irrefl _ h

set_option maxHeartbeats 8000000 in
set_option maxRecDepth 10000 in
theorem rcompare_any (v v' : Value) (a b : List Pr) (w : World) (h : PsAt w v a) (h' : PsAt w v' b) :
    Calls Tryz.prog 34 #[v, v'] w (RetBelow w (.int .i64 (cmpL a b))) := by
  obtain ⟨A, c, rfl, hlc, hcm⟩ := h.shape
  obtain ⟨A', c', rfl, hlc', hcm'⟩ := h'.shape
  unfold maxLen at hcm hcm'
  obtain ⟨Z, hZ⟩ : ∃ Z, Z = cmpL a b := ⟨_, rfl⟩
  rw [← hZ]
  have HZ := Lib.hid hZ
  clear hZ
  go_enter Tryz.func34, Tryz.ntmps34
  go_wp2_with fail
  go_loopw [5] (fun i wr => ∃ k : Nat, k ≤ a.length ∧ k ≤ b.length ∧ i = .int .i64 k ∧ Below w.heap.size w wr ∧ Hid (Z = cmpL (a.drop k) (b.drop k))) (fun i _ => a.length - (intOf i).toNat)
  case atStart => exact ⟨0, Nat.zero_le _, Nat.zero_le _, rfl, Below.refl _ _, HZ⟩
  case round =>
    obtain ⟨k, hk, hkb, rfl, hbl, hz⟩ := hrel
    by_cases hgo : k < a.length
    · by_cases hgb : k < b.length
      · obtain ⟨p, hpk⟩ : ∃ p, a[k]? = some p := ⟨_, List.getElem?_eq_getElem hgo⟩
        obtain ⟨ba, oa, rfl, hba, g1, g2⟩ := (h.below hbl).at_ hpk
        obtain ⟨q, hqk⟩ : ∃ q, b[k]? = some q := ⟨_, List.getElem?_eq_getElem hgb⟩
        obtain ⟨bb, ob, rfl, hbb, f1, f2⟩ := (h'.below hbl).at_ hqk
        have hd1 : decide ((k : Int) < (a.length : Int)) = true := decide_eq_true (by omega)
        have hd2 : decide ((k : Int) < (b.length : Int)) = true := decide_eq_true (by omega)
        have HS := Lib.hid (cmpL_step hpk hqk)
        clear hpk hqk
        have hbl2 : Below w.heap.size w ((wr.alloc (.cells #[.string (bs p.1), .string (bs p.2)] 105)).alloc (.cells #[.string (bs q.1), .string (bs q.2)] 105)) := below_trans (below_trans hbl (below_alloc1 _ _)) (below_alloc1 _ _)
        by_cases hlt : p.1 < q.1
        · have hls := less_t hlt
          have HZ2 := Lib.hid (show Z = -1 by rw [hz.out, HS.out]; unfold cmpP cmpB; simp [hlt])
          clear hlt hz
          go_wp2_with fail
          go_ret
          exact ⟨by rw [HZ2.out]; rfl, hbl2⟩
        · have hls := less_f hlt
          by_cases hgt : q.1 < p.1
          · have heq : (p.1 == q.1) = false := eqb_f (fun h => b_ne hgt h.symm)
            have HZ2 := Lib.hid (show Z = 1 by rw [hz.out, HS.out]; unfold cmpP cmpB; simp [hlt, hgt])
            clear hlt hz hgt
            go_wp2_with fail
            go_ret
            exact ⟨by rw [HZ2.out]; rfl, hbl2⟩
          · have he := b_tri hlt hgt
            have heq : (p.1 == q.1) = true := by rw [beq_iff_eq]; exact he
            by_cases hlt2 : p.2 < q.2
            · have hls2 := less_t hlt2
              have HZ2 := Lib.hid (show Z = -1 by rw [hz.out, HS.out]; unfold cmpP cmpB; simp [hlt, hgt, hlt2])
              clear hlt hz hgt he hlt2
              go_wp2_with fail
              go_ret
              exact ⟨by rw [HZ2.out]; rfl, hbl2⟩
            · have hls2 := less_f hlt2
              by_cases hgt2 : q.2 < p.2
              · have heq2 : (p.2 == q.2) = false := eqb_f (fun h => b_ne hgt2 h.symm)
                have HZ2 := Lib.hid (show Z = 1 by rw [hz.out, HS.out]; unfold cmpP cmpB; simp [hlt, hgt, hlt2, hgt2])
                clear hlt hz hgt he hlt2 hgt2
                go_wp2_with fail
                go_ret
                exact ⟨by rw [HZ2.out]; rfl, hbl2⟩
              · have he2 := b_tri hlt2 hgt2
                have heq2 : (p.2 == q.2) = true := by rw [beq_iff_eq]; exact he2
                have HZ2 := Lib.hid (show Z = cmpL (a.drop (k + 1)) (b.drop (k + 1)) by rw [hz.out, HS.out]; unfold cmpP cmpB; simp [hlt, hgt, hlt2, hgt2])
                clear hlt hz hgt he hlt2 hgt2 he2
                go_wp2_with fail
                go_roundw
                case rel => exact ⟨k + 1, by omega, by omega, by go_num, hbl2, HZ2⟩
                case measure => simp [intOf]; omega
      · obtain rfl : k = b.length := by omega
        have hd1 : decide ((b.length : Int) < (a.length : Int)) = true := decide_eq_true (by omega)
        have hd2 : decide ((a.length : Int) < (b.length : Int)) = false := decide_eq_false (by omega)
        have HZ2 := Lib.hid (show Z = 1 by rw [hz.out, cmpL_right hgo (by omega)])
        clear hz
        go_wp2_with fail
        go_ret
        exact ⟨by rw [HZ2.out]; rfl, hbl⟩
    · obtain rfl : k = a.length := by omega
      have hz2 := hz.out
      rw [cmpL_end] at hz2
      by_cases hlt : a.length < b.length
      · rw [if_pos hlt] at hz2
        have HZ2 := Lib.hid hz2
        have hd : decide ((a.length : Int) < (b.length : Int)) = true := decide_eq_true (by omega)
        clear hz2 hz
        go_wp2_with fail
        go_ret
        exact ⟨by rw [HZ2.out]; rfl, hbl⟩
      · rw [if_neg hlt] at hz2
        have HZ2 := Lib.hid hz2
        have hd : decide ((a.length : Int) < (b.length : Int)) = false := decide_eq_false (by omega)
        have hd' : decide ((b.length : Int) < (a.length : Int)) = false := decide_eq_false (by omega)
        clear hz2 hz
        go_wp2_with fail
        go_ret
        exact ⟨by rw [HZ2.out]; rfl, hbl⟩

end Go.Proofs.YtjklcojnbcemoaaGreatDoor
