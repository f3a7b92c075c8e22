/-
  Layer 3: the walks of bitrow's eyes: what each method takes.
-/
import Derived.Test.YtgabmfibfikdbaaGreatDoorZBitA

namespace Go.Proofs.YtgabmfibfikdbaaGreatDoor
open Go.RowKit Go.Bar Go.Bar.Bit

/-- the eye behind the address (b, o): over the bits L, at p, with the error e -/
structure EyeAt (w : World) (b o : Nat) (L : List Bool) (p e : Nat) : Prop where
  bits : ∃ s : List UInt8, w.cell? ⟨b, o, none⟩ = some (.string (bs s)) ∧ L.length ≤ 8 * s.length ∧ L = (unpack s).take L.length
  c1 : w.cell? ⟨b, o + 1, none⟩ = some (.int .i64 (L.length : Int))
  c2 : w.cell? ⟨b, o + 2, none⟩ = some (.int .i64 (p : Int))
  c3 : w.cell? ⟨b, o + 3, none⟩ = some (.int .i64 (e : Int))
  f2 : w.frozen? ⟨b, o + 2, none⟩ = false
  f3 : w.frozen? ⟨b, o + 3, none⟩ = false
  le : p ≤ L.length

def EyeS (b o k i : Nat) : Prop := k = b ∧ (i = o + 2 ∨ i = o + 3)
def EyeTo (w : World) (b o : Nat) (L : List Bool) (v : Value) (p e : Nat) (en : Ending) (w' : World) : Prop := en = .returned v ∧ EyeAt w' b o L p e ∧ Fr (EyeS b o) w w'

theorem EyeAt.at_ {w : World} {b o : Nat} {L : List Bool} {p e q : Nat} (h : EyeAt w b o L p e) (hq : q ≤ L.length) : EyeAt (w.setCell ⟨b, o + 2, none⟩ (.int .i64 (q : Int))) b o L q e := by
  have hb : Fr (fun k i => k = b ∧ i = o + 2) w (w.setCell ⟨b, o + 2, none⟩ (.int .i64 (q : Int))) := (Fr.refl _ _).setCell (fun _ => ⟨rfl, rfl⟩) _
  obtain ⟨⟨s, hs, hl, hL⟩, c1, c2, c3, f2, f3, le⟩ := h
  exact ⟨⟨s, hb.cell hs (fun e => by omega), hl, hL⟩, hb.cell c1 (fun e => by omega), by rw [World.cell?_setCell_same w _ _ c2], hb.cell c3 (fun e => by omega), hb.free c2 f2, hb.free c3 f3, hq⟩
theorem EyeAt.bad {w : World} {b o : Nat} {L : List Bool} {p e q : Nat} (h : EyeAt w b o L p e) : EyeAt (w.setCell ⟨b, o + 3, none⟩ (.int .i64 (q : Int))) b o L p q := by
  have hb : Fr (fun k i => k = b ∧ i = o + 3) w (w.setCell ⟨b, o + 3, none⟩ (.int .i64 (q : Int))) := (Fr.refl _ _).setCell (fun _ => ⟨rfl, rfl⟩) _
  obtain ⟨⟨s, hs, hl, hL⟩, c1, c2, c3, f2, f3, le⟩ := h
  exact ⟨⟨s, hb.cell hs (fun e => by omega), hl, hL⟩, hb.cell c1 (fun e => by omega), hb.cell c2 (fun e => by omega), by rw [World.cell?_setCell_same w _ _ c3], hb.free c2 f2, hb.free c3 f3, le⟩
theorem EyeAt.drewN {w : World} {b o : Nat} {L : List Bool} {p e : Nat} (h : EyeAt w b o L p e) (n : Nat) : EyeAt (w.drewN n) b o L p e := ⟨h.bits, h.c1, h.c2, h.c3, h.f2, h.f3, h.le⟩
theorem EyeAt.keep {S : Nat → Nat → Prop} {w w' : World} {b o : Nat} {L : List Bool} {p e : Nat} (h : EyeAt w b o L p e) (hf : Fr S w w') (hS : ∀ i, o ≤ i → i ≤ o + 3 → ¬ S b i) : EyeAt w' b o L p e := by
  obtain ⟨⟨s, hs, hl, hL⟩, c1, c2, c3, f2, f3, le⟩ := h
  exact ⟨⟨s, hf.cell hs (hS _ (by omega) (by omega)), hl, hL⟩, hf.cell c1 (hS _ (by omega) (by omega)), hf.cell c2 (hS _ (by omega) (by omega)), hf.cell c3 (hS _ (by omega) (by omega)), hf.free c2 f2, hf.free c3 f3, le⟩

set_option maxHeartbeats 400000 in
set_option maxRecDepth 10000 in
theorem eyeBit_bad (b o : Nat) (L : List Bool) (p e : Nat) (w : World) (h : EyeAt w b o L p e) (he : e ≠ 0) :
    Calls Tryz.prog 122 #[.pointer (some ⟨b, o, none⟩)] w (EyeTo w b o L (.bool false) p e) := by
  have H := Lib.hid h
  obtain ⟨⟨s, hs, hl, hL⟩, c1, c2, c3, f2, f3, le⟩ := h
  have k1 : ((e : Int) == 0) = false := by rw [beq_eq_false_iff_ne]; omega
  have k2 : ((e : Int) != 0) = true := by rw [bne_iff_ne]; omega
  clear hL he
  go_enter Tryz.func122, Tryz.ntmps122
  go_wp2
  go_quiet (fail)
  go_wp2
  go_ret
  exact ⟨rfl, H.out.drewN _, (Fr.refl _ _).drewN _⟩

set_option maxHeartbeats 400000 in
set_option maxRecDepth 10000 in
theorem eyeBit_end (b o : Nat) (L : List Bool) (p : Nat) (w : World) (h : EyeAt w b o L p 0) (hp : L.length ≤ p) :
    Calls Tryz.prog 122 #[.pointer (some ⟨b, o, none⟩)] w (EyeTo w b o L (.bool false) p 2) := by
  have hfin : ∀ n, EyeTo w b o L (.bool false) p 2 (.returned (.bool false)) ((w.setCell ⟨b, o + 3, none⟩ (.int .i64 2)).drewN n) := fun n => ⟨rfl, (h.bad (q := 2)).drewN n, ((Fr.refl _ _).setCell (fun _ => ⟨rfl, .inr rfl⟩) _).drewN n⟩
  obtain ⟨⟨s, hs, hl, hL⟩, c1, c2, c3, f2, f3, le⟩ := h
  clear hL
  go_enter Tryz.func122, Tryz.ntmps122
  go_wp2
  go_quiet (fail)
  go_wp2
  go_ret
  exact hfin nq

set_option maxHeartbeats 400000 in
set_option maxRecDepth 10000 in
theorem eyeBit_ok (b o : Nat) (L : List Bool) (p : Nat) (w : World) (h : EyeAt w b o L p 0) (hp : p < L.length) (hn : L.length < 100000000000) :
    Calls Tryz.prog 122 #[.pointer (some ⟨b, o, none⟩)] w (EyeTo w b o L (.bool (L.getD p false)) (p + 1) 0) := by
  have hfin : ∀ n, EyeTo w b o L (.bool (L.getD p false)) (p + 1) 0 (.returned (.bool (L.getD p false))) ((w.setCell ⟨b, o + 2, none⟩ (.int .i64 ((p : Int) + 1))).drewN n) := fun n =>
    ⟨rfl, (h.at_ (q := p + 1) (by omega)).drewN n, ((Fr.refl _ _).setCell (fun _ => ⟨rfl, .inl rfl⟩) _).drewN n⟩
  obtain ⟨⟨s, hs, hl, hL⟩, c1, c2, c3, f2, f3, le⟩ := h
  have hps : p / 8 < s.length := by omega
  have hg : L.getD p false = bitOf s[p / 8] (p % 8) := by
    rw [hL, List.getD, List.getElem?_take, if_pos hp, unpack_get s p (by omega)]
    simp [List.getD, List.getElem?_eq_getElem hps]
  rw [hg] at hfin ⊢
  have hx : (bs s)[p / 8]'hps = s[p / 8] := rfl
  have hsh := bit_shl s[p / 8] (p % 8) (Nat.mod_lt _ (by omega))
  have h7 := i64_and7 p (by omega)
  have h9 : p % 8 < 8 := Nat.mod_lt _ (by omega)
  have hsz : p / 8 < (bs s).size := hps
  have i0 : (0 : Int) ≤ (p : Int) / 8 := by omega
  have i1 : (p : Int) / 8 < (s.length : Int) := by omega
  have HG := Lib.hid hg
  clear hL hg
  go_enter Tryz.func122, Tryz.ntmps122
  go_wp2
  go_quiet (fail)
  go_wp2
  go_quiet (fail)
  go_wp2
  go_ret
  rw [← hsh] at hfin ⊢
  exact hfin _

/-- A BIT IS TAKEN -/
theorem eyeBit_any (b o : Nat) (L : List Bool) (p e : Nat) (w : World) (h : EyeAt w b o L p e) (hn : L.length < 100000000000) :
    Calls Tryz.prog 122 #[.pointer (some ⟨b, o, none⟩)] w (EyeTo w b o L (.bool (eyeBit L p e).1) (eyeBit L p e).2.1 (eyeBit L p e).2.2) := by
  unfold eyeBit
  by_cases he : e = 0
  · subst he
    rw [if_neg (fun h => h rfl)]
    by_cases hp : p < L.length
    · rw [if_pos hp]; exact eyeBit_ok b o L p w h hp hn
    · rw [if_neg hp]; exact eyeBit_end b o L p w h (by omega)
  · rw [if_pos he]; exact eyeBit_bad b o L p e w h he

set_option maxHeartbeats 400000 in
theorem eyeLeft_any (b o : Nat) (L : List Bool) (p e : Nat) (w : World) (h : EyeAt w b o L p e) (hn : L.length < 100000000000) :
    Calls Tryz.prog 121 #[.pointer (some ⟨b, o, none⟩)] w fun en w' => en = .returned (.int .i64 ((L.length : Int) - p)) ∧ ∃ n, w' = w.drewN n := by
  obtain ⟨⟨s, hs, hl, hL⟩, c1, c2, c3, f2, f3, le⟩ := h
  clear hL
  go_enter Tryz.func121, Tryz.ntmps121
  go_wp2
  go_quiet (fail)
  go_wp2
  go_ret
  exact ⟨rfl, _, rfl⟩

set_option maxHeartbeats 400000 in
theorem eyeErr_any (b o : Nat) (L : List Bool) (p e : Nat) (w : World) (h : EyeAt w b o L p e) :
    Calls Tryz.prog 104 #[.pointer (some ⟨b, o, none⟩)] w fun en w' => en = .returned (.int .i64 e) ∧ w = w' := by
  obtain ⟨⟨s, hs, hl, hL⟩, c1, c2, c3, f2, f3, le⟩ := h
  clear hL
  go_enter Tryz.func104, Tryz.ntmps104
  go_wp2
  go_ret
  exact ⟨rfl, rfl⟩

/-- how many bits there are to look at -/
def clipTo (n : Int) (m : Nat) : Nat := (min (max n 0) m).toNat

set_option maxHeartbeats 400000 in
theorem over_any (s : List UInt8) (n : Int) (w : World) (hn1 : -9223372036854775808 ≤ n) (hn2 : n ≤ 9223372036854775807) (hs : s.length < 10000000000) :
    Calls Tryz.prog 82 #[.string (bs s), .int .i64 n] w fun en w' => en = .returned (.pointer (some ⟨w.heap.size, 0, none⟩)) ∧ EyeAt w' w.heap.size 0 ((unpack s).take (clipTo n (8 * s.length))) 0 0 ∧ Below w.heap.size w w' := by
  obtain ⟨m, hm1, hm2⟩ : ∃ m : Nat, m = clipTo n (8 * s.length) ∧ (m : Int) = min (max n 0) ((8 * s.length : Nat) : Int) := ⟨_, rfl, by unfold clipTo; omega⟩
  rw [← hm1]
  have hlen : ((unpack s).take m).length = m := by rw [List.length_take, unpack_length]; omega
  have hfin : ∀ k : Int, k = (m : Int) → EyeAt (w.alloc (.cells #[.string (bs s), .int .i64 k, .int .i64 0, .int .i64 0] 203)) w.heap.size 0 ((unpack s).take m) 0 0 := by
    rintro k rfl
    refine ⟨⟨s, ?_, by rw [hlen]; omega, by rw [hlen]⟩, ?_, ?_, ?_, ?_, ?_, Nat.zero_le _⟩
    · rw [World.cell?_alloc_new]; rfl
    · rw [World.cell?_alloc_new, hlen]; rfl
    · rw [World.cell?_alloc_new]; rfl
    · rw [World.cell?_alloc_new]; rfl
    · exact World.frozen?_alloc_new w _ _ _
    · exact World.frozen?_alloc_new w _ _ _
  have HF := Lib.hid hfin
  have hA1 : (m : Int) ≤ max n 0 := by omega
  have hA2 : (m : Int) ≤ 8 * (s.length : Int) := by omega
  have hA3 : max n 0 ≤ (m : Int) ∨ 8 * (s.length : Int) ≤ (m : Int) := by omega
  clear hm1 hm2 hlen hfin
  go_enter Tryz.func82, Tryz.ntmps82
  go_wp2
  all_goals
    go_ret
    exact ⟨rfl, HF.out _ (by omega), (Below.refl _ _).alloc (Nat.le_refl _) _⟩

/-- the eye's state is kept by a bit that fails -/
theorem EyeTo.trans {w w' w'' : World} {b o : Nat} {L : List Bool} {v : Value} {p e : Nat} {en : Ending} (h : Fr (EyeS b o) w w') (h' : EyeTo w' b o L v p e en w'') : EyeTo w b o L v p e en w'' := ⟨h'.1, h'.2.1, h.trans h'.2.2⟩

set_option maxHeartbeats 1000000 in
set_option maxRecDepth 10000 in
theorem eyeBits_bad (b o : Nat) (L : List Bool) (p e : Nat) (n : Int) (w : World) (h : EyeAt w b o L p e) (hn1 : -9223372036854775808 ≤ n) (hn2 : n ≤ 9223372036854775807) (he : e ≠ 0) :
    Calls Tryz.prog 103 #[.pointer (some ⟨b, o, none⟩), .int .i64 n] w (EyeTo w b o L (.int .u64 0) p e) := by
  have hcl := clip_le n
  obtain ⟨m, hm1, hm2⟩ : ∃ m : Nat, m = clip n ∧ (m : Int) = min (max n 0) 64 := ⟨clip n, rfl, by unfold clip; omega⟩
  rw [← hm1] at hcl
  have hA1 : (m : Int) ≤ max n 0 := by omega
  have hA3 : max n 0 ≤ (m : Int) ∨ 64 ≤ (m : Int) := by omega
  clear hm1 hm2
  have H := Lib.hid h
  have HE := Lib.hid he
  obtain ⟨⟨s, hs, hl, hL⟩, c1, c2, c3, f2, f3, le⟩ := h
  have k1 : ((e : Int) == 0) = false := by rw [beq_eq_false_iff_ne]; omega
  clear hL he
  rcases (show n < 0 ∨ 0 ≤ n ∧ n ≤ 64 ∨ 64 < n by omega) with hc | hc | hc
  all_goals
    go_enter Tryz.func103, Tryz.ntmps103
    go_wp2_with fail
    go_loopw [5, 24] (fun x i wr => ∃ k : Nat, k ≤ m ∧ i = .int .i64 k ∧ x = .int .u64 0 ∧ EyeAt wr b o L p e ∧ Fr (EyeS b o) w wr) (fun _ i _ => m - (intOf i).toNat)
    case atStart => exact ⟨0, Nat.zero_le _, rfl, rfl, H.out, Fr.refl _ _⟩
    case round =>
      obtain ⟨k, hk, rfl, rfl, hat, hfr⟩ := hrel
      have HA := Lib.hid hat
      clear hat
      by_cases h0 : k < m
      · first
        | (exfalso; omega)
        | (go_wp2_with fail
           refine (eyeBit_bad b o L p e _ HA.out HE.out).mono ?_
           rintro en w'' ⟨rfl, hat', hfr'⟩
           have HB := Lib.hid hat'
           clear hat'
           go_wp2_with fail
           go_roundw
           case rel => exact ⟨k + 1, by omega, by go_num, rfl, HB.out, hfr.trans hfr'⟩
           case measure => simp [intOf]; omega)
      · go_wp2_with fail
        go_ret
        exact ⟨rfl, HA.out, hfr⟩

set_option maxHeartbeats 1000000 in
set_option maxRecDepth 10000 in
theorem eyeBits_end (b o : Nat) (L : List Bool) (p : Nat) (n : Int) (w : World) (h : EyeAt w b o L p 0) (hn : L.length < 100000000000) (hn1 : -9223372036854775808 ≤ n) (hn2 : n ≤ 9223372036854775807) (hlt : L.length - p < clip n) :
    Calls Tryz.prog 103 #[.pointer (some ⟨b, o, none⟩), .int .i64 n] w (EyeTo w b o L (.int .u64 0) p 2) := by
  have hcl := clip_le n
  obtain ⟨m, hm1, hm2⟩ : ∃ m : Nat, m = clip n ∧ (m : Int) = min (max n 0) 64 := ⟨clip n, rfl, by unfold clip; omega⟩
  rw [← hm1] at hcl hlt
  have hA1 : (m : Int) ≤ max n 0 := by omega
  have hA3 : max n 0 ≤ (m : Int) ∨ 64 ≤ (m : Int) := by omega
  clear hm1 hm2
  have H := Lib.hid h
  have le0 := h.le
  have c3 := h.c3
  have f3 := h.f3
  have hlt2 : (L.length : Int) - p < (m : Int) := by omega
  clear h hlt
  rcases (show n < 0 ∨ 0 ≤ n ∧ n ≤ 64 ∨ 64 < n by omega) with hc | hc | hc
  · exfalso; omega
  all_goals
    have hd1 : decide ((L.length : Int) - (p : Int) < n) = true := by simp only [decide_eq_true_eq]; omega
    have hd2 : decide ((L.length : Int) - (p : Int) < 64) = true := by simp only [decide_eq_true_eq]; omega
    go_enter Tryz.func103, Tryz.ntmps103
    go_wp2_with fail
    refine (eyeLeft_any b o L p 0 _ H.out hn).mono ?_
    rintro en w1 ⟨rfl, nq, rfl⟩
    go_wp2_with fail
    go_loopw [5, 24] (fun x i wr => ∃ k : Nat, k ≤ m ∧ i = .int .i64 k ∧ x = .int .u64 0 ∧ EyeAt wr b o L p 2 ∧ Fr (EyeS b o) w wr) (fun _ i _ => m - (intOf i).toNat)
    case atStart => exact ⟨0, Nat.zero_le _, rfl, rfl, (H.out.drewN nq).bad (q := 2), ((Fr.refl _ _).drewN nq).setCell (fun _ => ⟨rfl, .inr rfl⟩) _⟩
    case round =>
      obtain ⟨k, hk, rfl, rfl, hat, hfr⟩ := hrel
      have HA := Lib.hid hat
      clear hat
      by_cases h0 : k < m
      · go_wp2_with fail
        refine (eyeBit_bad b o L p 2 _ HA.out (by decide)).mono ?_
        rintro en w'' ⟨rfl, hat', hfr'⟩
        have HB := Lib.hid hat'
        clear hat'
        go_wp2_with fail
        go_roundw
        case rel => first | exact ⟨k + 1, by omega, by go_num, rfl, HB.out, hfr.trans hfr'⟩ | ((repeat apply Exists.intro); exact ⟨⟨k + 1, by omega, by go_num, rfl, HB.out, hfr.trans hfr'⟩, rfl⟩)
        case measure => simp [intOf]; omega
      · go_wp2_with fail
        go_ret
        exact ⟨rfl, HA.out, hfr⟩

set_option maxHeartbeats 1000000 in
set_option maxRecDepth 10000 in
theorem eyeBits_ok (b o : Nat) (L : List Bool) (p : Nat) (n : Int) (w : World) (h : EyeAt w b o L p 0) (hn : L.length < 100000000000) (hn1 : -9223372036854775808 ≤ n) (hn2 : n ≤ 9223372036854775807) (hlt : clip n ≤ L.length - p) :
    Calls Tryz.prog 103 #[.pointer (some ⟨b, o, none⟩), .int .i64 n] w (EyeTo w b o L (.int .u64 (num ((L.drop p).take (clip n)) : Nat)) (p + clip n) 0) := by
  have hcl := clip_le n
  obtain ⟨m, hm1, hm2⟩ : ∃ m : Nat, m = clip n ∧ (m : Int) = min (max n 0) 64 := ⟨clip n, rfl, by unfold clip; omega⟩
  rw [← hm1] at hcl hlt ⊢
  have hA1 : (m : Int) ≤ max n 0 := by omega
  have hA3 : max n 0 ≤ (m : Int) ∨ 64 ≤ (m : Int) := by omega
  clear hm1 hm2
  have H := Lib.hid h
  have le0 := h.le
  have c3 := h.c3
  have f3 := h.f3
  have hlt2 : (m : Int) ≤ (L.length : Int) - p := by omega
  clear h hlt
  rcases (show n < 0 ∨ 0 ≤ n ∧ n ≤ 64 ∨ 64 < n by omega) with hc | hc | hc
  all_goals
    go_enter Tryz.func103, Tryz.ntmps103
    go_wp2_with fail
    refine (eyeLeft_any b o L p 0 _ H.out hn).mono ?_
    rintro en w1 ⟨rfl, nq, rfl⟩
    go_wp2_with fail
    go_loopw [5, 24] (fun x i wr => ∃ k : Nat, k ≤ m ∧ i = .int .i64 k ∧ x = .int .u64 (num ((L.drop p).take k) : Nat) ∧ EyeAt wr b o L (p + k) 0 ∧ Fr (EyeS b o) w wr) (fun _ i _ => m - (intOf i).toNat)
    case atStart => exact ⟨0, Nat.zero_le _, rfl, rfl, H.out.drewN nq, (Fr.refl _ _).drewN nq⟩
    case round =>
      obtain ⟨k, hk, rfl, rfl, hat, hfr⟩ := hrel
      have HA := Lib.hid hat
      clear hat
      by_cases h0 : k < m
      · first
        | (exfalso; omega)
        | (have hv := num_lt k ((L.drop p).take k) (by rw [List.length_take, List.length_drop]; omega)
           have hvp : 2 ^ k ≤ 2 ^ 63 := Nat.pow_le_pow_right (by omega) (by omega)
           obtain ⟨x, hx⟩ : ∃ x, x = num ((L.drop p).take k) := ⟨_, rfl⟩
           rw [← hx] at hv ⊢
           have hx63 : x < 9223372036854775808 := by omega
           have HX := Lib.hid hx
           clear hx hv hvp
           have hor := or_one x hx63
           go_wp2_with fail
           refine (eyeBit_ok b o L (p + k) _ HA.out (by omega) hn).mono ?_
           rintro en w'' ⟨rfl, hat', hfr'⟩
           have HB := Lib.hid hat'
           clear hat'
           cases hgd : L.getD (p + k) false
           all_goals
             have HG := Lib.hid hgd
             clear hgd
             go_wp2_with fail
             go_roundw
             case rel => exact ⟨k + 1, by omega, by go_num, by rw [take_next L p k (by omega), num_snoc, ← HX.out, HG.out]; first | (rw [hor _ (by go_num)]; rfl) | go_num, HB.out, hfr.trans hfr'⟩
             case measure => simp [intOf]; omega)
      · go_wp2_with fail
        go_ret
        obtain rfl : k = m := by omega
        exact ⟨rfl, HA.out, hfr⟩

/-- BITS ARE TAKEN -/
theorem eyeBits_any (b o : Nat) (L : List Bool) (p e : Nat) (n : Int) (w : World) (h : EyeAt w b o L p e) (hn : L.length < 100000000000) (hn1 : -9223372036854775808 ≤ n) (hn2 : n ≤ 9223372036854775807) :
    Calls Tryz.prog 103 #[.pointer (some ⟨b, o, none⟩), .int .i64 n] w (EyeTo w b o L (.int .u64 ((eyeBits L p e n).1 : Nat)) (eyeBits L p e n).2.1 (eyeBits L p e n).2.2) := by
  unfold eyeBits
  by_cases he : e = 0
  · subst he
    rw [if_neg (fun h => h rfl)]
    by_cases hlt : L.length - p < clip n
    · rw [if_pos hlt]; exact eyeBits_end b o L p n w h hn hn1 hn2 hlt
    · rw [if_neg hlt]; exact eyeBits_ok b o L p n w h hn hn1 hn2 (by omega)
  · rw [if_pos he]; exact eyeBits_bad b o L p e n w h hn1 hn2 he

set_option maxHeartbeats 1000000 in
set_option maxRecDepth 10000 in
theorem eyeUnary_bad (b o : Nat) (L : List Bool) (p e : Nat) (most : Int) (w : World) (h : EyeAt w b o L p e) (he : e ≠ 0) :
    Calls Tryz.prog 123 #[.pointer (some ⟨b, o, none⟩), .int .i64 most] w (EyeTo w b o L (.int .i64 0) p e) := by
  have H := Lib.hid h
  have HE := Lib.hid he
  have k2 : ((e : Int) != 0) = true := by rw [bne_iff_ne]; omega
  have c3 := h.c3
  clear h he
  by_cases hm : 0 < most
  all_goals
    go_enter Tryz.func123, Tryz.ntmps123
    go_wp2_with fail
    go_loopw [5] (fun x wr => x = .int .i64 0 ∧ wr = w) (fun _ _ => 0)
    case atStart => exact ⟨rfl, rfl⟩
    case round =>
      obtain ⟨rfl, rfl⟩ := hrel
      first
      | (go_wp2_with fail
         go_ret
         exact ⟨rfl, H.out, Fr.refl _ _⟩)
      | (go_wp2_with fail
         refine (eyeBit_bad b o L p e _ H.out HE.out).mono ?_
         rintro en w'' ⟨rfl, hat', hfr'⟩
         have d3 := hat'.c3
         have HB := Lib.hid hat'
         clear hat'
         go_wp2_with fail
         go_ret
         exact ⟨rfl, HB.out, hfr'⟩)

set_option maxHeartbeats 1000000 in
set_option maxRecDepth 10000 in
theorem eyeUnary_ok (b o : Nat) (L : List Bool) (p : Nat) (most : Int) (w : World) (h : EyeAt w b o L p 0) (hn : L.length < 100000000000) (hm2 : most ≤ 9223372036854775807) :
    Calls Tryz.prog 123 #[.pointer (some ⟨b, o, none⟩), .int .i64 most] w (EyeTo w b o L (.int .i64 ((eyeUnary L p 0 most).1 : Nat)) (eyeUnary L p 0 most).2.1 (eyeUnary L p 0 most).2.2) := by
  have H := Lib.hid h
  clear h
  obtain ⟨m, hm⟩ : ∃ m, m = most.toNat := ⟨_, rfl⟩
  have hA1 : (m : Int) ≤ max most 0 := by omega
  have hA2 : max most 0 ≤ (m : Int) := by omega
  have hun : eyeUnary L p 0 most = if run L p m = m then (m, p + m, 0) else if p + run L p m < L.length then (run L p m, p + run L p m + 1, 0) else (0, p + run L p m, 2) := by
    unfold eyeUnary; rw [if_neg (fun h => h rfl), ← hm]
  have HU := Lib.hid hun
  have HM := Lib.hid hm
  clear hm hun
  go_enter Tryz.func123, Tryz.ntmps123
  go_wp2_with fail
  go_loopw [5] (fun x wr => ∃ k : Nat, k ≤ m ∧ x = .int .i64 k ∧ run L p m = k + run L (p + k) (m - k) ∧ EyeAt wr b o L (p + k) 0 ∧ Fr (EyeS b o) w wr) (fun x _ => m - (intOf x).toNat)
  case atStart => exact ⟨0, Nat.zero_le _, rfl, by simp, H.out, Fr.refl _ _⟩
  case round =>
    obtain ⟨k, hk, rfl, hrun, hat, hfr⟩ := hrel
    have HA := Lib.hid hat
    have HR := Lib.hid hrun
    have c3 := hat.c3
    have hle := hat.le
    clear hat hrun
    by_cases h0 : k < m
    · have h1 : (k : Int) < most := by omega
      have hmk : m - k = (m - (k + 1)) + 1 := by omega
      have HK := Lib.hid hmk
      clear hmk
      by_cases hp : p + k < L.length
      · cases hgd : L.getD (p + k) false
        · have hfin : run L p m = k := by rw [HR.out, HK.out, run_false L (p + k) _ hgd]; rfl
          have HF := Lib.hid hfin
          have HG := Lib.hid hgd
          clear hfin hgd
          go_wp2_with fail
          refine (eyeBit_ok b o L (p + k) _ HA.out hp hn).mono ?_
          rw [HG.out]
          rintro en w'' ⟨rfl, hat', hfr'⟩
          have d3 := hat'.c3
          have HB := Lib.hid hat'
          clear hat' c3
          go_wp2_with fail
          go_ret
          rw [HU.out, HF.out, if_neg (by omega), if_pos hp]
          exact ⟨rfl, HB.out, hfr.trans hfr'⟩
        · have hfin : run L p m = (k + 1) + run L (p + (k + 1)) (m - (k + 1)) := by rw [HR.out, HK.out, run_true L (p + k) _ hgd, Nat.add_assoc p k 1]; omega
          have HF := Lib.hid hfin
          have HG := Lib.hid hgd
          clear hfin hgd
          go_wp2_with fail
          refine (eyeBit_ok b o L (p + k) _ HA.out hp hn).mono ?_
          rw [HG.out]
          rintro en w'' ⟨rfl, hat', hfr'⟩
          have HB := Lib.hid hat'
          clear hat' c3
          go_wp2_with fail
          go_roundw
          case rel => exact ⟨k + 1, by omega, by go_num, HF.out, HB.out, hfr.trans hfr'⟩
          case measure => simp [intOf]; omega
      · have hgd : L.getD (p + k) false = false := by simp [List.getD, List.getElem?_eq_none (show L.length ≤ p + k by omega)]
        have hfin : run L p m = k := by rw [HR.out, HK.out, run_false L (p + k) _ hgd]; rfl
        have HF := Lib.hid hfin
        clear hfin hgd
        go_wp2_with fail
        refine (eyeBit_end b o L (p + k) _ HA.out (by omega)).mono ?_
        rintro en w'' ⟨rfl, hat', hfr'⟩
        have d3 := hat'.c3
        have HB := Lib.hid hat'
        clear hat' c3
        go_wp2_with fail
        go_ret
        rw [HU.out, HF.out, if_neg (by omega), if_neg hp]
        exact ⟨rfl, HB.out, hfr.trans hfr'⟩
    · obtain rfl : k = m := by omega
      have hfin : run L p k = k := by rw [HR.out, Nat.sub_self]; rfl
      have HF := Lib.hid hfin
      clear hfin
      have h1 : most ≤ (k : Int) := by omega
      go_wp2_with fail
      go_ret
      rw [HU.out, HF.out, if_pos rfl]
      exact ⟨rfl, HA.out, hfr⟩

/-- ONES ARE TAKEN -/
theorem eyeUnary_any (b o : Nat) (L : List Bool) (p e : Nat) (most : Int) (w : World) (h : EyeAt w b o L p e) (hn : L.length < 100000000000) (hm2 : most ≤ 9223372036854775807) :
    Calls Tryz.prog 123 #[.pointer (some ⟨b, o, none⟩), .int .i64 most] w (EyeTo w b o L (.int .i64 ((eyeUnary L p e most).1 : Nat)) (eyeUnary L p e most).2.1 (eyeUnary L p e most).2.2) := by
  by_cases he : e = 0
  · subst he; exact eyeUnary_ok b o L p most w h hn hm2
  · unfold eyeUnary; rw [if_pos he]; exact eyeUnary_bad b o L p e most w h he

end Go.Proofs.YtgabmfibfikdbaaGreatDoor

/-
  Layer 3: the walks of the document's answer (barographref03).
-/
namespace Go.Proofs.YtgabmfibfikdbaaGreatDoor
open Go.RowKit Go.Bar Go.Bar.Bit

/-- truths as cells -/
def bls (l : List Bool) : List Value := l.map .bool
/-- a list of truths, in memory of the call's own -/
structure BoolsAt (B : Nat) (w : World) (v : Value) (l : List Bool) : Prop where
  buf : Buf w 4 1 v l.length (bls l)
  new : ∀ k, v.ownBlock = some k → B ≤ k
theorem BoolsAt.below {B : Nat} {w w' : World} {v : Value} {l : List Bool} (h : BoolsAt B w v l) (hb : Below w.heap.size w w') : BoolsAt B w' v l := ⟨h.buf.below hb, h.new⟩
theorem BoolsAt.alloc {B : Nat} {w : World} {v : Value} {l : List Bool} (h : BoolsAt B w v l) (o : Obj) : BoolsAt B (w.alloc o) v l := ⟨h.buf.alloc o, h.new⟩
theorem BoolsAt.empty {B : Nat} {w : World} (h : B ≤ w.heap.size) : BoolsAt B (w.alloc (.cells #[] 4)) (.slice (some ⟨w.heap.size, 0, none⟩) 0 0) [] :=
  ⟨Buf.lit w 4 1 0 [] rfl (by decide), fun k hk => by simp [Value.ownBlock] at hk; omega⟩

end Go.Proofs.YtgabmfibfikdbaaGreatDoor

/-
  Layer 3: new rows and new eyes (of a law's own), and awake.
-/
namespace Go.Proofs.YtgabmfibfikdbaaGreatDoor
open Go.RowKit Go.Bar Go.Bar.Bit

/-- a row that was made after w0 -/
structure RowNew (w0 w : World) (b : Nat) (v : Value) (l : List Bool) : Prop where
  at_ : RowAt w b 0 v l
  below : Below w0.heap.size w0 w
  b_new : w0.heap.size ≤ b
  v_new : ∀ k, v.ownBlock = some k → w0.heap.size ≤ k
/-- an eye that was made after w0 -/
structure EyeNew (w0 w : World) (b : Nat) (L : List Bool) (p e : Nat) : Prop where
  at_ : EyeAt w b 0 L p e
  below : Below w0.heap.size w0 w
  b_new : w0.heap.size ≤ b

theorem RowNew.start {w0 w : World} (h : Below w0.heap.size w0 w) (t : TypeId) : RowNew w0 (w.alloc (.cells #[.slice none 0 0, .int .i64 0] t)) w.heap.size (.slice none 0 0) [] := by
  refine ⟨⟨?_, ?_, ?_, ?_, BBuf.nil _ _, by simp [Value.ownBlock], by simp [Value.ownBlock]⟩, h.alloc h.size _, h.size, by simp [Value.ownBlock]⟩
  · rw [World.cell?_alloc_new]; rfl
  · rw [World.cell?_alloc_new]; rfl
  · exact World.frozen?_alloc_new w _ _ _
  · exact World.frozen?_alloc_new w _ _ _
theorem RowNew.step {w0 w w' : World} {b : Nat} {v : Value} {l l' : List Bool} (h : RowNew w0 w b v l) {e : Ending} (h' : RowTo w b 0 v l' e w') : e = .returned (.tuple #[]) ∧ ∃ v', RowNew w0 w' b v' l' := by
  obtain ⟨v', he, ha, hf, hm⟩ := h'
  refine ⟨he, v', ha, h.below.trans (hf.below h.below.size ?_), h.b_new, ?_⟩
  · rintro k i hk (⟨rfl, _⟩ | hS)
    · exact absurd h.b_new (by omega)
    · exact absurd (h.v_new k hS) (by omega)
  · intro k hk
    rcases hm with e1 | ⟨g, e1, hg⟩
    · exact h.v_new k (by rw [← e1]; exact hk)
    · rw [e1] at hk; injection hk with hk
      have := h.below.size
      omega
theorem RowAt.keep {S : Nat → Nat → Prop} {w w' : World} {b : Nat} {v : Value} {l : List Bool} (h : RowAt w b 0 v l) (hf : Fr S w w') (h1 : ∀ i, ¬ S b i) (h2 : ∀ k i, v.ownBlock = some k → ¬ S k i) : RowAt w' b 0 v l :=
  ⟨hf.cell h.c0 (h1 _), hf.cell h.c1 (h1 _), hf.free h.c0 h.f0, hf.free h.c1 h.f1, hf.buf h.buf h2, h.ne, fun k hk => Nat.lt_of_lt_of_le (h.lt k hk) hf.size⟩
theorem RowNew.then_below {w0 w w' : World} {b : Nat} {v : Value} {l : List Bool} (h : RowNew w0 w b v l) (hb : Below w.heap.size w w') : RowNew w0 w' b v l := by
  have hf : Fr (fun _ _ => False) w w' := Fr.of_below hb
  exact ⟨h.at_.keep hf (fun _ => id) (fun _ _ _ => id), h.below.trans (hb.mono h.below.size), h.b_new, h.v_new⟩
theorem RowNew.drewN {w0 w : World} {b : Nat} {v : Value} {l : List Bool} (h : RowNew w0 w b v l) (n : Nat) : RowNew w0 (w.drewN n) b v l := h.then_below (below_draws _ _)
theorem EyeNew.then_below {w0 w w' : World} {b : Nat} {L : List Bool} {p e : Nat} (h : EyeNew w0 w b L p e) (hb : Below w.heap.size w w') : EyeNew w0 w' b L p e := by
  have hf : Fr (fun _ _ => False) w w' := Fr.of_below hb
  exact ⟨h.at_.keep hf (fun _ _ _ => id), h.below.trans (hb.mono h.below.size), h.b_new⟩
theorem EyeNew.step {w0 w w' : World} {b : Nat} {L : List Bool} {p e p' e' : Nat} {v : Value} (h : EyeNew w0 w b L p e) {en : Ending} (h' : EyeTo w b 0 L v p' e' en w') : en = .returned v ∧ EyeNew w0 w' b L p' e' := by
  obtain ⟨he, ha, hf⟩ := h'
  refine ⟨he, ha, h.below.trans (hf.below h.below.size ?_), h.b_new⟩
  rintro k i hk ⟨rfl, _⟩
  exact absurd h.b_new (by omega)
theorem EyeNew.start {w0 w w' : World} {L : List Bool} (h : Below w0.heap.size w0 w) (ha : EyeAt w' w.heap.size 0 L 0 0) (hb : Below w.heap.size w w') : EyeNew w0 w' w.heap.size L 0 0 :=
  ⟨ha, h.trans (hb.mono h.size), h.size⟩

end Go.Proofs.YtgabmfibfikdbaaGreatDoor
