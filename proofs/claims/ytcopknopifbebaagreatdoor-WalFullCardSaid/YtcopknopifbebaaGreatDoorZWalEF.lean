/-
  Layer 11 (wal): Fresh.
-/
import Derived.Test.YtcopknopifbebaaGreatDoorZWalDK
import Derived.Test.YtcopknopifbebaaGreatDoorZLebM
import Derived.Test.YtcopknopifbebaaGreatDoorZWalP

namespace Go.Bar.Wal
open Go.RowKit Go.Bar
theorem sync_room (d : Ds) (n : Nm) : (d.sync n).2.room = d.room := by
  unfold Ds.sync
  split
  · rfl
  · exact do_room d _ fun _ => rfl
theorem remove_room (d : Ds) (n : Nm) : (d.remove n).2.room = d.room := by
  unfold Ds.remove
  split
  · rfl
  · exact do_room d _ fun _ => rfl
theorem rename_room (d : Ds) (o n : Nm) : (d.rename o n).2.room = d.room := by
  unfold Ds.rename
  split
  · rfl
  · split
    · rfl
    · exact do_room d _ fun d => by split <;> rfl
theorem truncate_room (d : Ds) (n : Nm) (k : Nat) : (d.truncate n k).2.room = d.room := by
  unfold Ds.truncate
  split
  · rfl
  · split
    · rfl
    · exact do_room d _ fun _ => rfl
theorem unTmp_room (d : Ds) : (unTmp d).2.room = d.room := by
  unfold unTmp
  split
  · exact remove_room _ _
  · rfl
theorem fresh_room (d : Ds) (n : Nm) (s : List UInt8) : (fresh d n s).2.room = d.room := by
  unfold fresh
  split
  · exact unTmp_room d
  · split
    · rw [append_room, unTmp_room]
    · split
      · rw [sync_room, append_room, unTmp_room]
      · rw [rename_room, sync_room, append_room, unTmp_room]
end Go.Bar.Wal
namespace Go.Proofs.YtcopknopifbebaaGreatDoor
open Go.RowKit Go.Bar Go.Bar.Wal Go.Bar.Leb Go.Bar.Frm Go.Conc
attribute [local go_sem] Oper.semAt_some

set_option maxHeartbeats 8000000 in
set_option maxRecDepth 10000 in
theorem fresh_anyw (w : World) (h : Hd) (d : Ds) (B c : Nat) (n s : List UInt8) (k : DkAt w h d) (hB : h.Hi B) (ha : Wal.Acc c d) (hc : c ≤ 100000) (hr : d.room ≤ 10000000) (hn : n.length ≤ maxLen) (hs : s.length ≤ maxLen) :
    Calls Tryz.prog 28 #[.pointer (some ⟨h.D, 0, none⟩), .string (bs n), .string (bs s)] w (DkTo B w h (fresh d n s).2 (.int .i64 ((fresh d n s).1 : Nat))) := by
  obtain ⟨T, hT⟩ : ∃ T : ByteArray, T = { data := #[116, 109, 112, 45, 119, 97, 108] } := ⟨_, rfl⟩
  have hTb : bs tmpN = T := by rw [hT]; rfl
  have hB0 := hiA k hB
  obtain ⟨u, hu⟩ : ∃ u, u = unTmp d := ⟨_, rfl⟩
  obtain ⟨a, hae⟩ : ∃ a, a = u.2.append tmpN s := ⟨_, rfl⟩
  obtain ⟨b, hbe⟩ : ∃ b, b = a.2.sync tmpN := ⟨_, rfl⟩
  obtain ⟨f, hfe⟩ : ∃ f, f = b.2.rename tmpN n := ⟨_, rfl⟩
  have hau : Wal.Acc c u.2 := by rw [hu]; exact ha.unTmp
  have hru : u.2.room = d.room := by rw [hu]; exact unTmp_room d
  have haa : Wal.Acc (c + 1) a.2 := by rw [hae]; exact hau.append _ _
  have hra : a.2.room = d.room := by rw [hae, append_room, hru]
  have hab : Wal.Acc (c + 1) b.2 := by rw [hbe]; exact haa.sync _
  have hrb : b.2.room = d.room := by rw [hbe, sync_room, hra]
  have hfr : fresh d n s = if u.1 ≠ 0 then u else if a.1 ≠ 0 then a else if b.1 ≠ 0 then b else f := by
    rw [hfe, hbe, hae, hu]; rfl
  have c1 := fun w' (k' : DkAt w' h u.2) => dAppend_any w' h u.2 B c k' hB hau (by omega) (by omega) tmpN s (by decide) hs
  have c2 := fun w' (k' : DkAt w' h a.2) => dSync_any w' h a.2 B (c + 1) k' hB haa (by omega) (by omega) tmpN (by decide)
  have c3 := fun w' (k' : DkAt w' h b.2) => dRename_any w' h b.2 B (c + 1) k' hB hab (by omega) (by omega) tmpN n (by decide) hn
  rw [hTb] at c1 c2 c3
  simp only [← hae] at c1
  simp only [← hbe] at c2
  simp only [← hfe] at c3
  have c0 : ∀ w', DkAt w' h d → Calls Tryz.prog 54 #[.pointer (some ⟨h.D, 0, none⟩), .string T] w' (DkTo B w' h (d.remove tmpN).2 (.int .i64 ((d.remove tmpN).1 : Nat))) := fun w' k' => by
    rw [← hTb]; exact dRemove_any w' h d B c k' hB ha (by omega) (by omega) tmpN (by decide)
  have cr := dRead_any w h d k tmpN (by decide)
  rw [hTb] at cr
  have hrd : ((d.read tmpN).2 = 0 ∧ u = d.remove tmpN) ∨ ((d.read tmpN).2 = 5 ∧ u = (0, d)) := by
    have e1 : u = if (d.read tmpN).2 = 0 then d.remove tmpN else (0, d) := hu
    have e2 : (d.read tmpN).2 = 0 ∨ (d.read tmpN).2 = 5 := by
      unfold Ds.read
      cases fnd d.fs tmpN with
      | none => exact .inr rfl
      | some f => exact .inl rfl
    rcases e2 with e2 | e2
    · exact .inl ⟨e2, by rw [e1, if_pos e2]⟩
    · exact .inr ⟨e2, by rw [e1, if_neg (by omega)]⟩
  obtain ⟨rd, hrde⟩ : ∃ rd, rd = d.read tmpN := ⟨_, rfl⟩
  rw [← hrde] at cr hrd
  obtain ⟨r, hre⟩ : ∃ r, r = fresh d n s := ⟨_, rfl⟩
  rw [← hre]
  rw [← hre] at hfr
  clear hre hrde hTb hu hae hbe hfe
  replace c1 := Lib.hid c1
  replace c2 := Lib.hid c2
  replace c3 := Lib.hid c3
  replace c0 := Lib.hid c0
  replace cr := Lib.hid cr
  replace hfr := Lib.hid hfr
  rw [hT] at c0 c1 c2 c3 cr
  clear hT
  -- from Append on
  have hoff : ∀ w1, Below w.heap.size w w1 → Off DTs B w w1 := fun w1 hb => Off.of_below hb hB0
  replace hoff := Lib.hid hoff
  rcases hrd with ⟨hz, hue⟩ | ⟨hz, hue⟩
  · have hz2 : Hid (rd.2 = 0) := hz
    rw [← hue] at c0
    clear hue
    obtain ⟨r1, r2⟩ := rd
    simp only at hz
    subst hz
    clear hz2
    by_cases hu0 : u.1 = 0
    · rw [hu0] at c0
      by_cases ha0 : a.1 = 0
      · have ha1 : Hid (a.1 = 0) := ha0
        rw [ha0] at c1
        by_cases hb0 : b.1 = 0
        · have e : Hid (r = f) := by have := hfr.out; rwa [if_neg (fun h => h hu0), if_neg (fun h => h ha0), if_neg (fun h => h hb0)] at this
          rw [hb0] at c2
          clear hu0 ha0 hb0
          go_enter Tryz.func28, Tryz.ntmps28
          go_wp2_with (first
            | (go_at_call 23; refine cr.out.mono ?_; rintro e1 w1 ⟨rfl, hb1⟩; have k1 := k.below hb1; have o1 := hoff.out _ hb1)
            | (go_at_call 54; refine (c0.out _ k1).mono ?_; rintro e1 w2 ⟨rfl, k2, o2⟩)
            | (go_at_call 36; refine (c1.out _ k2).mono ?_; rintro e1 w3 ⟨rfl, k3, o3⟩)
            | (go_at_call 42; refine (c2.out _ k3).mono ?_; rintro e1 w4 ⟨rfl, k4, o4⟩)
            | (go_at_call 55; refine (c3.out _ k4).mono ?_; rintro e1 w5 ⟨rfl, k5, o5⟩))
          go_ret
          rw [e.out]
          exact ⟨rfl, k5, ((((o1).trans o2).trans o3).trans o4).trans o5⟩
        · have e : Hid (r = b) := by have := hfr.out; rwa [if_neg (fun h => h hu0), if_neg (fun h => h ha0), if_pos hb0] at this
          have hb2 : ¬ (b.1 : Int) = 0 := by omega
          clear hu0 ha0
          go_enter Tryz.func28, Tryz.ntmps28
          go_wp2_with (first
            | (go_at_call 23; refine cr.out.mono ?_; rintro e1 w1 ⟨rfl, hb1⟩; have k1 := k.below hb1; have o1 := hoff.out _ hb1)
            | (go_at_call 54; refine (c0.out _ k1).mono ?_; rintro e1 w2 ⟨rfl, k2, o2⟩)
            | (go_at_call 36; refine (c1.out _ k2).mono ?_; rintro e1 w3 ⟨rfl, k3, o3⟩)
            | (go_at_call 42; refine (c2.out _ k3).mono ?_; rintro e1 w4 ⟨rfl, k4, o4⟩))
          go_ret
          rw [e.out]
          exact ⟨rfl, k4, (((o1).trans o2).trans o3).trans o4⟩
      · have e : Hid (r = a) := by have := hfr.out; rwa [if_neg (fun h => h hu0), if_pos ha0] at this
        have ha2 : ¬ (a.1 : Int) = 0 := by omega
        clear hu0
        go_enter Tryz.func28, Tryz.ntmps28
        go_wp2_with (first
          | (go_at_call 23; refine cr.out.mono ?_; rintro e1 w1 ⟨rfl, hb1⟩; have k1 := k.below hb1; have o1 := hoff.out _ hb1)
          | (go_at_call 54; refine (c0.out _ k1).mono ?_; rintro e1 w2 ⟨rfl, k2, o2⟩)
          | (go_at_call 36; refine (c1.out _ k2).mono ?_; rintro e1 w3 ⟨rfl, k3, o3⟩))
        go_ret
        rw [e.out]
        exact ⟨rfl, k3, ((o1).trans o2).trans o3⟩
    · have e : Hid (r = u) := by have := hfr.out; rwa [if_pos hu0] at this
      have hu2 : ¬ (u.1 : Int) = 0 := by omega
      go_enter Tryz.func28, Tryz.ntmps28
      go_wp2_with (first
        | (go_at_call 23; refine cr.out.mono ?_; rintro e1 w1 ⟨rfl, hb1⟩; have k1 := k.below hb1; have o1 := hoff.out _ hb1)
        | (go_at_call 54; refine (c0.out _ k1).mono ?_; rintro e1 w2 ⟨rfl, k2, o2⟩))
      go_ret
      rw [e.out]
      exact ⟨rfl, k2, (o1).trans o2⟩
  · obtain ⟨r1, r2⟩ := rd
    simp only at hz
    subst hz
    subst hue
    have hu0 : ((0, d) : Nat × Ds).1 = 0 := rfl
    simp only at c1 hfr
    by_cases ha0 : a.1 = 0
    · have ha1 : Hid (a.1 = 0) := ha0
      rw [ha0] at c1
      by_cases hb0 : b.1 = 0
      · have e : Hid (r = f) := by have := hfr.out; rwa [if_neg (fun h => h hu0), if_neg (fun h => h ha0), if_neg (fun h => h hb0)] at this
        rw [hb0] at c2
        clear hu0 ha0 hb0
        go_enter Tryz.func28, Tryz.ntmps28
        go_wp2_with (first
          | (go_at_call 23; refine cr.out.mono ?_; rintro e1 w1 ⟨rfl, hb1⟩; have k1 := k.below hb1; have o1 := hoff.out _ hb1)
          | (go_at_call 36; refine (c1.out _ k1).mono ?_; rintro e1 w3 ⟨rfl, k3, o3⟩)
          | (go_at_call 42; refine (c2.out _ k3).mono ?_; rintro e1 w4 ⟨rfl, k4, o4⟩)
          | (go_at_call 55; refine (c3.out _ k4).mono ?_; rintro e1 w5 ⟨rfl, k5, o5⟩))
        go_ret
        rw [e.out]
        exact ⟨rfl, k5, (((o1).trans o3).trans o4).trans o5⟩
      · have e : Hid (r = b) := by have := hfr.out; rwa [if_neg (fun h => h hu0), if_neg (fun h => h ha0), if_pos hb0] at this
        have hb2 : ¬ (b.1 : Int) = 0 := by omega
        clear hu0 ha0
        go_enter Tryz.func28, Tryz.ntmps28
        go_wp2_with (first
          | (go_at_call 23; refine cr.out.mono ?_; rintro e1 w1 ⟨rfl, hb1⟩; have k1 := k.below hb1; have o1 := hoff.out _ hb1)
          | (go_at_call 36; refine (c1.out _ k1).mono ?_; rintro e1 w3 ⟨rfl, k3, o3⟩)
          | (go_at_call 42; refine (c2.out _ k3).mono ?_; rintro e1 w4 ⟨rfl, k4, o4⟩))
        go_ret
        rw [e.out]
        exact ⟨rfl, k4, ((o1).trans o3).trans o4⟩
    · have e : Hid (r = a) := by have := hfr.out; rwa [if_neg (fun h => h hu0), if_pos ha0] at this
      have ha2 : ¬ (a.1 : Int) = 0 := by omega
      clear hu0
      go_enter Tryz.func28, Tryz.ntmps28
      go_wp2_with (first
        | (go_at_call 23; refine cr.out.mono ?_; rintro e1 w1 ⟨rfl, hb1⟩; have k1 := k.below hb1; have o1 := hoff.out _ hb1)
        | (go_at_call 36; refine (c1.out _ k1).mono ?_; rintro e1 w3 ⟨rfl, k3, o3⟩))
      go_ret
      rw [e.out]
      exact ⟨rfl, k3, (o1).trans o3⟩
end Go.Proofs.YtcopknopifbebaaGreatDoor

/-
  Layer 11 (wal): plain: the document's number of a file's name is the program's: no program in sight; no condition.
-/
namespace Go.Bar.Wal
open Go.RowKit Go.Bar Go.Bar.Leb Go.Bar.Frm

def isD (c : UInt8) : Prop := 48 ≤ c.toNat ∧ c.toNat ≤ 57
instance (c : UInt8) : Decidable (isD c) := by unfold isD; exact inferInstance
def dval (a : Nat) : List UInt8 → Nat
  | [] => a
  | c :: r => dval (10 * a + (c.toNat - 48)) r
def refNum (s : Nm) : Nat :=
  if s.length < 12 ∨ 17 < s.length ∨ s.take 4 ≠ pre ∨ (12 < s.length ∧ s.getD 4 0 = 48) then 0
  else if ∀ c ∈ s.drop 4, isD c then (if 1099511627776 < dval 0 (s.drop 4) then 0 else dval 0 (s.drop 4)) else 0
theorem dval_snoc : ∀ (l : List UInt8) (a : Nat) (c : UInt8), dval a (l ++ [c]) = 10 * dval a l + (c.toNat - 48)
  | [], _, _ => rfl
  | _ :: l, _, c => dval_snoc l _ c
theorem isD_eq {c : UInt8} (h : isD c) : UInt8.ofNat (48 + (c.toNat - 48)) = c := by
  have h1 := h.1
  rw [show 48 + (c.toNat - 48) = c.toNat by omega]
  exact UInt8.ofNat_toNat
theorem snoc_ex {α : Type} (l : List α) (m : Nat) (h : l.length = m + 1) : ∃ i c, l = i ++ [c] ∧ i.length = m := by
  have hne : l ≠ [] := by intro e; rw [e] at h; cases h
  refine ⟨l.dropLast, l.getLast hne, (List.dropLast_concat_getLast hne).symm, ?_⟩
  rw [List.length_dropLast, h]; rfl
theorem dval_d10 : ∀ (m : Nat) (l : List UInt8), l.length = m → (∀ c ∈ l, isD c) → dval 0 l < 10 ^ m ∧ d10 m (dval 0 l) = l
  | 0, l, h, _ => by
    obtain rfl := List.eq_nil_of_length_eq_zero h
    exact ⟨by decide, rfl⟩
  | m + 1, l, h, hd => by
    obtain ⟨i, c, rfl, hi⟩ := snoc_ex l m h
    obtain ⟨h1, h2⟩ := dval_d10 m i hi (fun x hx => hd x (List.mem_append_left _ hx))
    have hc := hd c (List.mem_append_right _ (List.mem_singleton.2 rfl))
    have hc2 := hc.2
    have hc1 := hc.1
    rw [dval_snoc]
    have e1 : (10 * dval 0 i + (c.toNat - 48)) / 10 = dval 0 i := by omega
    have e2 : (10 * dval 0 i + (c.toNat - 48)) % 10 = c.toNat - 48 := by omega
    refine ⟨by rw [Nat.pow_succ]; omega, ?_⟩
    rw [d10, e1, e2, h2, isD_eq hc]
theorem parse_snoc2 : ∀ (l : List UInt8) (acc u k : Nat), Lib.parseUint10 acc l = .ok u → k < 10 → u < 100000000000000000 → Lib.parseUint10 acc (l ++ [UInt8.ofNat (48 + k)]) = .ok (u * 10 + k)
  | [], acc, u, k, h, hk, hu => by
    simp only [Lib.parseUint10] at h
    injection h with h
    subst h
    show Lib.parseUint10 acc [UInt8.ofNat (48 + k)] = _
    simp only [Lib.parseUint10, dig_toNat k hk]
    rw [if_pos (by omega), if_neg (by omega), if_neg (by omega), show 48 + k - 48 = k by omega]
  | c :: r, acc, u, k, h, hk, hu => by
    rw [List.cons_append]
    simp only [Lib.parseUint10] at h ⊢
    split at h
    · rename_i h1
      rw [if_pos h1]
      split at h
      · cases h
      · rename_i h2
        rw [if_neg h2]
        split at h
        · cases h
        · rename_i h3
          rw [if_neg h3]
          exact parse_snoc2 r _ u k h hk hu
    · cases h
theorem parse_d102 : ∀ (m a : Nat), m ≤ 16 → a < 10 ^ m → Lib.parseUint10 0 (d10 m a) = .ok a
  | 0, a, _, h => by
    have : a = 0 := by simpa using h
    rw [this]; rfl
  | m + 1, a, hm, h => by
    rw [d10]
    have h1 : a / 10 < 10 ^ m := by rw [Nat.pow_succ] at h; omega
    have h2 : 10 ^ m ≤ 10 ^ 16 := Nat.pow_le_pow_right (by decide) (by omega)
    rw [parse_snoc2 _ _ _ _ (parse_d102 m (a / 10) (by omega) h1) (Nat.mod_lt _ (by decide)) (by omega), show a / 10 * 10 + a % 10 = a by omega]
theorem atoi_digits {l : List UInt8} (h0 : 0 < l.length) (h1 : l.length ≤ 13) (hd : ∀ c ∈ l, isD c) : Lib.atoiAll l = .ok (dval 0 l : Int) := by
  obtain ⟨h2, h3⟩ := dval_d10 l.length l rfl hd
  have hp := parse_d102 l.length (dval 0 l) (by omega) h2
  rw [h3] at hp
  have hb : 10 ^ l.length ≤ 10 ^ 13 := Nat.pow_le_pow_right (by decide) h1
  cases hc : l with
  | nil => rw [hc] at h0; cases h0
  | cons c r =>
    have hcd := hd c (by rw [hc]; exact List.mem_cons_self ..)
    have hc1 := hcd.1
    rw [← hc]
    unfold Lib.atoiAll
    rw [hc]
    simp only [show ¬ (c.toNat = 43 ∨ c.toNat = 45) by omega, if_false]
    rw [← hc]
    unfold Lib.parseMag
    rw [if_neg (by rw [hc]; simp), hp]
    simp only [show ¬ c.toNat = 45 by omega, not_false_eq_true, true_and, false_and, if_false]
    rw [if_neg (by omega)]
theorem dec_digits : ∀ (n : Nat), (∀ c ∈ Lib.decDigits n, isD c) ∧ dval 0 (Lib.decDigits n) = n ∧ (1 ≤ n → (Lib.decDigits n).headD 0 ≠ 48) := by
  intro n
  induction n using Nat.strongRecOn with
  | ind n ih =>
    rw [Lib.decDigits]
    by_cases h : n < 10
    · rw [dif_pos h]
      have hn := dig_toNat n h
      refine ⟨fun c hc => ?_, ?_, fun h1 e => ?_⟩
      · obtain rfl := List.mem_singleton.1 hc
        unfold isD; omega
      · show 10 * 0 + ((UInt8.ofNat (48 + n)).toNat - 48) = n
        omega
      · have e : UInt8.ofNat (48 + n) = 48 := e
        rw [e] at hn
        have : (48 : UInt8).toNat = 48 := rfl
        omega
    · rw [dif_neg h]
      obtain ⟨h1, h2, h3⟩ := ih (n / 10) (by omega)
      have hm := dig_toNat (n % 10) (Nat.mod_lt _ (by decide))
      refine ⟨fun c hc => ?_, ?_, fun _ => ?_⟩
      · rcases List.mem_append.1 hc with hc | hc
        · exact h1 c hc
        · obtain rfl := List.mem_singleton.1 hc
          unfold isD
          have := Nat.mod_lt n (show 10 > 0 by decide)
          omega
      · rw [dval_snoc, h2]; omega
      · have h4 := h3 (by omega)
        have hne : Lib.decDigits (n / 10) ≠ [] := by
          intro e
          have := h2
          rw [e] at this
          have : 0 = n / 10 := this
          omega
        cases hc : Lib.decDigits (n / 10) with
        | nil => exact absurd hc hne
        | cons x r => rw [hc] at h4; exact h4
theorem dval_zeros : ∀ (k : Nat) (l : List UInt8), dval 0 (List.replicate k 48 ++ l) = dval 0 l
  | 0, l => rfl
  | k + 1, l => by
    rw [List.replicate_succ, List.cons_append]
    show dval (10 * 0 + ((48 : UInt8).toNat - 48)) _ = _
    exact dval_zeros k l
theorem dec_len {n m : Nat} (h : n < 10 ^ (m + 1)) : (Lib.decDigits n).length ≤ m + 1 := (pad_d10 m n h).1
theorem lt_dec (n : Nat) : n < 10 ^ (Lib.decDigits n).length := by
  obtain ⟨h1, h2, _⟩ := dec_digits n
  have := (dval_d10 _ _ rfl h1).1
  rwa [h2] at this
theorem seg_of_digits {l : List UInt8} (hd : ∀ c ∈ l, isD c) (h8 : 8 ≤ l.length) (h13 : l.length ≤ 13) (hz : 8 < l.length → l.headD 0 ≠ 48) : segN (dval 0 l) = pre ++ l := by
  obtain ⟨h1, h2⟩ := dval_d10 l.length l rfl hd
  by_cases h : l.length = 8
  · rw [h] at h1 h2
    rw [segN_eq (by omega), h2]
  · obtain ⟨m, hm⟩ : ∃ m, l.length = m + 1 := ⟨l.length - 1, by omega⟩
    have hlen : (Lib.decDigits (dval 0 l)).length = m + 1 := by
      have h3 := dec_len (n := dval 0 l) (m := m) (by rw [← hm]; exact h1)
      have h4 := lt_dec (dval 0 l)
      -- the first digit is not zero
      have h5 : 10 ^ m ≤ dval 0 l := by
        cases hc : l with
        | nil => rw [hc] at hm; cases hm
        | cons c r =>
          have hcd := hd c (by rw [hc]; exact List.mem_cons_self ..)
          have hc0 : c ≠ 48 := by have := hz (by omega); rw [hc] at this; exact this
          have hct : c.toNat ≠ 48 := fun e => hc0 (UInt8.toNat_inj.1 (e.trans rfl))
          have hge : ∀ (r : List UInt8) (a : Nat), a * 10 ^ r.length ≤ dval a r := by
            intro r
            induction r with
            | nil => intro a; exact Nat.le_of_eq (Nat.mul_one a)
            | cons x r ih =>
              intro a
              have := ih (10 * a + (x.toNat - 48))
              refine Nat.le_trans ?_ this
              rw [List.length_cons, Nat.pow_succ, Nat.mul_comm (10 ^ r.length), ← Nat.mul_assoc]
              exact Nat.mul_le_mul_right _ (by omega)
          have h6 := hge r (10 * 0 + (c.toNat - 48))
          have h7 : r.length = m := by rw [hc, List.length_cons] at hm; omega
          rw [h7] at h6
          refine Nat.le_trans ?_ h6
          have h8 : 1 ≤ 10 * 0 + (c.toNat - 48) := by have := hcd.1; omega
          calc 10 ^ m = 1 * 10 ^ m := (Nat.one_mul _).symm
            _ ≤ _ := Nat.mul_le_mul_right _ h8
      rcases Nat.lt_or_ge (Lib.decDigits (dval 0 l)).length (m + 1) with h6 | h6
      · have h7 : 10 ^ (Lib.decDigits (dval 0 l)).length ≤ 10 ^ m := Nat.pow_le_pow_right (by decide) (by omega)
        omega
      · omega
    have hp := (pad_d10 m (dval 0 l) (by rw [← hm]; exact h1)).2
    rw [hlen, Nat.sub_self, List.replicate_zero, List.nil_append, ← hm, h2] at hp
    unfold segN
    rw [hlen, show 8 - (m + 1) = 0 by omega, List.replicate_zero, List.nil_append, hp]
theorem refNum_pos {s : Nm} (h : 0 < refNum s) : numN s = refNum s := by
  unfold refNum at h ⊢
  split at h
  · cases h
  · rename_i hc
    rw [if_neg hc]
    simp only [not_or, Nat.not_lt, Decidable.not_not, not_and] at hc
    obtain ⟨h12, h17, hp, hz⟩ := hc
    split at h
    · rename_i hd
      rw [if_pos hd]
      split at h
      · cases h
      · rename_i hm
        rw [if_neg hm]
        have hs : s = pre ++ s.drop 4 := by conv => lhs; rw [← List.take_append_drop 4 s, hp]
        have hl : (s.drop 4).length = s.length - 4 := List.length_drop
        have ht : trim s = s.drop 4 := by
          unfold trim
          rw [if_pos (by rw [hs]; exact List.isPrefixOf_iff_prefix.2 (List.prefix_append _ _))]
        have hat := atoi_digits (l := s.drop 4) (by omega) (by omega) hd
        have hno : numOf (trim s) = dval 0 (s.drop 4) := by
          rw [ht]
          unfold numOf
          rw [hat]
          show (if (1 : Int) ≤ (dval 0 (s.drop 4) : Int) ∧ (dval 0 (s.drop 4) : Int) ≤ 1099511627776 then _ else 0) = _
          rw [if_pos (by omega)]
          exact Int.toNat_natCast _
        have hsg : segN (dval 0 (s.drop 4)) = s := by
          have hz2 : 8 < (s.drop 4).length → (s.drop 4).headD 0 ≠ 48 := fun h8 e => by
            refine hz (by omega) ?_
            rw [← e, List.headD_eq_head?_getD, List.head?_drop, List.getD_eq_getElem?_getD]
          rw [seg_of_digits hd (by omega) (by omega) hz2]
          exact hs.symm
        unfold numN
        rw [hno, hsg, if_pos rfl]
    · cases h
theorem numOf_le (l : List UInt8) : numOf l ≤ 1099511627776 := by
  unfold numOf
  generalize Lib.atoiAll l = r
  split
  · rename_i v
    by_cases h : 1 ≤ v ∧ v ≤ 1099511627776
    · rw [if_pos h]
      have h1 := h.1
      have h2 := h.2
      omega
    · rw [if_neg h]
      exact Nat.zero_le _
  · exact Nat.zero_le _
theorem numN_pos {s : Nm} (h : 0 < numN s) : refNum s = numN s := by
  unfold numN at h ⊢
  split at h
  · rename_i e
    rw [if_pos e]
    obtain ⟨n, hn⟩ : ∃ n, n = numOf (trim s) := ⟨_, rfl⟩
    have hle := numOf_le (trim s)
    rw [← hn] at e h hle ⊢
    obtain ⟨d1, d2, d3⟩ := dec_digits n
    have hlen := dec_len (n := n) (m := 12) (by omega)
    obtain ⟨D, hD⟩ : ∃ D, D = List.replicate (8 - (Lib.decDigits n).length) 48 ++ Lib.decDigits n := ⟨_, rfl⟩
    have hs : s = pre ++ D := by rw [← e, hD]; rfl
    have hDd : ∀ c ∈ D, isD c := fun c hc => by
      rw [hD] at hc
      rcases List.mem_append.1 hc with hc | hc
      · obtain rfl := List.eq_of_mem_replicate hc
        exact ⟨by decide, by decide⟩
      · exact d1 c hc
    have hDv : dval 0 D = n := by rw [hD, dval_zeros, d2]
    have hDl : 8 ≤ D.length ∧ D.length ≤ 13 := by
      rw [hD, List.length_append, List.length_replicate]; omega
    have hDz : 8 < D.length → D.headD 0 ≠ 48 := fun h8 => by
      have h9 : 8 - (Lib.decDigits n).length = 0 := by
        rw [hD, List.length_append, List.length_replicate] at h8; omega
      rw [hD, h9]
      exact d3 h
    have hpl : pre.length = 4 := rfl
    have hdr : s.drop 4 = D := by rw [hs]; exact List.drop_left' hpl
    have htk : s.take 4 = pre := by rw [hs]; exact List.take_left' hpl
    have hsl : s.length = 4 + D.length := by rw [hs, List.length_append, hpl]
    unfold refNum
    rw [hdr, htk]
    have hneg : ¬ (s.length < 12 ∨ 17 < s.length ∨ pre ≠ pre ∨ (12 < s.length ∧ s.getD 4 0 = 48)) := by
      rintro (h1 | h1 | h1 | ⟨h1, h2⟩)
      · omega
      · omega
      · exact h1 rfl
      · refine hDz (by omega) ?_
        rw [← hdr, List.headD_eq_head?_getD, List.head?_drop, ← h2, List.getD_eq_getElem?_getD]
    rw [if_neg hneg, if_pos hDd, hDv, if_neg (by omega)]
  · cases h
theorem refNum_eq (s : Nm) : refNum s = numN s := by
  rcases Nat.eq_zero_or_pos (refNum s) with h | h
  · rcases Nat.eq_zero_or_pos (numN s) with h2 | h2
    · rw [h, h2]
    · exact numN_pos h2
  · exact (refNum_pos h).symm
end Go.Bar.Wal

/-
  Layer 11 (wal): plain: files by the document's order are segments by rising numbers: no program in sight; no condition.
-/
namespace Go.Bar.Wal
open Go.RowKit Go.Bar Go.Bar.Leb Go.Bar.Frm

theorem segN_d10 (n : Nat) : segN n = pre ++ d10 ((segN n).length - 4) n := by
  have hpl : pre.length = 4 := rfl
  have h1 := lt_dec n
  have h0 : 0 < (Lib.decDigits n).length := by
    rcases Nat.eq_zero_or_pos (Lib.decDigits n).length with h | h
    · have h2 := (dec_digits n).2.1
      rw [List.eq_nil_of_length_eq_zero h] at h2
      have h2 : 0 = n := h2
      subst h2
      rw [Lib.decDigits] at h
      cases h
    · exact h
  have hl : (segN n).length - 4 = max 8 (Lib.decDigits n).length := by
    unfold segN
    rw [List.length_append, List.length_append, List.length_replicate, hpl]; omega
  obtain ⟨m, hm⟩ : ∃ m, max 8 (Lib.decDigits n).length = m + 1 := ⟨max 8 (Lib.decDigits n).length - 1, by omega⟩
  have h2 : n < 10 ^ (m + 1) := Nat.lt_of_lt_of_le h1 (Nat.pow_le_pow_right (by decide) (by omega))
  have h3 := (pad_d10 m n h2).2
  rw [hl, hm, ← h3]
  unfold segN
  rw [show 8 - (Lib.decDigits n).length = m + 1 - (Lib.decDigits n).length by omega]
theorem segN_bound (n : Nat) : n < 10 ^ ((segN n).length - 4) := by
  have h1 := lt_dec n
  have hpl : pre.length = 4 := rfl
  have hl : (Lib.decDigits n).length ≤ (segN n).length - 4 := by
    unfold segN
    rw [List.length_append, List.length_append, List.length_replicate, hpl]; omega
  exact Nat.lt_of_lt_of_le h1 (Nat.pow_le_pow_right (by decide) hl)
theorem segN_low {n m : Nat} (h : (segN n).length = 4 + (m + 1)) (hm : 8 ≤ m) : 10 ^ m ≤ n := by
  rcases Nat.lt_or_ge n (10 ^ m) with h1 | h1
  · obtain ⟨k, hk⟩ : ∃ k, m = k + 1 := ⟨m - 1, by omega⟩
    have h2 := dec_len (n := n) (m := k) (by rw [← hk]; exact h1)
    have hpl : pre.length = 4 := rfl
    unfold segN at h
    rw [List.length_append, List.length_append, List.length_replicate, hpl] at h
    omega
  · exact h1
theorem segN_lt2 {a b : Nat} (h : a < b) (hl : (segN a).length = (segN b).length) : segN a < segN b := by
  rw [segN_d10 a, segN_d10 b, hl]
  exact append_lt_append (d10_lt _ _ _ h (segN_bound b))
theorem segN_wide {a b : Nat} (h : (segN a).length < (segN b).length) (h12 : 12 ≤ (segN a).length) : a < b := by
  obtain ⟨m, hm⟩ : ∃ m, (segN b).length = 4 + (m + 1) := ⟨(segN b).length - 5, by omega⟩
  have h1 := segN_low hm (by omega)
  have h2 := segN_bound a
  have h3 : 10 ^ ((segN a).length - 4) ≤ 10 ^ m := Nat.pow_le_pow_right (by decide) (by omega)
  omega
theorem numN_seg2 {s : Nm} (h : 0 < numN s) : segN (numN s) = s := by
  unfold numN at h ⊢
  split at h
  · rename_i e; rw [if_pos e]; exact e
  · cases h
theorem numN_len {s : Nm} (h : 0 < numN s) : 12 ≤ s.length ∧ s.length ≤ 17 := by
  have h1 : 0 < refNum s := by rw [refNum_eq]; exact h
  unfold refNum at h1
  split at h1
  · cases h1
  · rename_i hc
    simp only [not_or, Nat.not_lt] at hc
    exact ⟨hc.1, hc.2.1⟩
theorem numN_pre {s : Nm} (h : 0 < numN s) : pre.isPrefixOf s = true := by
  rw [← numN_seg2 h]; exact segN_pre _

def refFs (fs : Fs) : Fs := (List.range' 12 6).flatMap fun wide => fs.filter fun p => decide (p.1.length = wide ∧ 0 < refNum p.1)
def refAll (fs : Fs) : List Rc := (refFs fs).flatMap fun p => recs p.2.s
theorem refFs_mem {fs : Fs} {p : Nm × Fi} : p ∈ refFs fs ↔ p ∈ fs ∧ 0 < numN p.1 := by
  unfold refFs
  rw [List.mem_flatMap]
  constructor
  · rintro ⟨w, _, hp⟩
    rw [List.mem_filter] at hp
    have h := of_decide_eq_true hp.2
    rw [refNum_eq] at h
    exact ⟨hp.1, h.2⟩
  · rintro ⟨hp, hn⟩
    have hl := numN_len hn
    refine ⟨p.1.length, ?_, ?_⟩
    · rw [List.mem_range']
      exact ⟨p.1.length - 12, by omega, by omega⟩
    · rw [List.mem_filter]
      exact ⟨hp, decide_eq_true ⟨rfl, by rw [refNum_eq]; exact hn⟩⟩
theorem refFs_rise {fs : Fs} (h : Srt fs) : (refFs fs).Pairwise (fun p q => numN p.1 < numN q.1) := by
  unfold refFs
  rw [List.pairwise_flatMap]
  refine ⟨fun w _ => ?_, ?_⟩
  · have hs : (fs.filter fun p => decide (p.1.length = w ∧ 0 < refNum p.1)).Pairwise (fun a b => a.1 < b.1) := h.sublist List.filter_sublist
    refine List.Pairwise.imp_of_mem (fun {p q} hp hq hlt => ?_) hs
    have h1 := of_decide_eq_true (List.mem_filter.1 hp).2
    have h2 := of_decide_eq_true (List.mem_filter.1 hq).2
    rw [refNum_eq] at h1 h2
    have e1 := numN_seg2 h1.2
    have e2 := numN_seg2 h2.2
    rcases Nat.lt_trichotomy (numN p.1) (numN q.1) with h3 | h3 | h3
    · exact h3
    · rw [h3, e2] at e1
      rw [e1] at hlt
      exact absurd hlt (List.lt_irrefl _)
    · have h4 := segN_lt2 h3 (by rw [e1, e2, h1.1, h2.1])
      rw [e1, e2] at h4
      exact absurd (List.lt_trans hlt h4) (List.lt_irrefl _)
  · have hr : (List.range' 12 6).Pairwise (fun a b => a < b) := List.pairwise_lt_range'
    refine List.Pairwise.imp (fun {a b} hab p hp q hq => ?_) hr
    have h1 := of_decide_eq_true (List.mem_filter.1 hp).2
    have h2 := of_decide_eq_true (List.mem_filter.1 hq).2
    rw [refNum_eq] at h1 h2
    have e1 := numN_seg2 h1.2
    have e2 := numN_seg2 h2.2
    refine segN_wide (by rw [e1, e2, h1.1, h2.1]; exact hab) (by rw [e1]; exact (numN_len h1.2).1)
theorem rise_eq : ∀ {l m : List Nat}, l.Pairwise (· < ·) → m.Pairwise (· < ·) → (∀ x, x ∈ l ↔ x ∈ m) → l = m
  | [], [], _, _, _ => rfl
  | [], b :: m, _, _, h => absurd ((h b).2 (List.mem_cons_self ..)) (by simp)
  | a :: l, [], _, _, h => absurd ((h a).1 (List.mem_cons_self ..)) (by simp)
  | a :: l, b :: m, hl, hm, h => by
    obtain ⟨h1, h2⟩ := List.pairwise_cons.1 hl
    obtain ⟨h3, h4⟩ := List.pairwise_cons.1 hm
    have hab : a = b := by
      rcases List.mem_cons.1 ((h a).1 (List.mem_cons_self ..)) with e | e
      · exact e
      · rcases List.mem_cons.1 ((h b).2 (List.mem_cons_self ..)) with e2 | e2
        · exact e2.symm
        · have := h3 a e; have := h1 b e2; omega
    subst hab
    rw [rise_eq h2 h4 fun x => ?_]
    have hx := h x
    rw [List.mem_cons, List.mem_cons] at hx
    constructor
    · intro hm'
      rcases hx.1 (.inr hm') with e | e
      · subst e; exact absurd (h1 x hm') (Nat.lt_irrefl _)
      · exact e
    · intro hm'
      rcases hx.2 (.inr hm') with e | e
      · subst e; exact absurd (h3 x hm') (Nat.lt_irrefl _)
      · exact e
theorem segs_mem {d : Ds} {n : Nat} : n ∈ segsOf d ↔ ∃ p ∈ d.fs, numN p.1 = n ∧ 0 < n := by
  unfold segsOf Ds.list
  rw [List.mem_mergeSort, List.mem_filter, List.mem_map]
  constructor
  · rintro ⟨⟨s, hs, rfl⟩, hn⟩
    obtain ⟨p, hp, rfl⟩ := List.mem_map.1 (List.mem_filter.1 hs).1
    exact ⟨p, hp, rfl, of_decide_eq_true hn⟩
  · rintro ⟨p, hp, rfl, hn⟩
    exact ⟨⟨p.1, List.mem_filter.2 ⟨List.mem_map_of_mem hp, numN_pre hn⟩, rfl⟩, decide_eq_true hn⟩
theorem numN_inj {s t : Nm} (h : 0 < numN s) (e : numN s = numN t) : s = t := by
  rw [← numN_seg2 h, e, numN_seg2 (by omega)]
theorem segs_rise {d : Ds} (h : Srt d.fs) : (segsOf d).Pairwise (· < ·) := by
  have h1 : (segsOf d).Pairwise (fun a b => decide (a ≤ b) = true) := List.pairwise_mergeSort (fun a b c h1 h2 => by simp at *; omega) (fun a b => by simp; omega) _
  have h2 : (segsOf d).Nodup := by
    unfold segsOf
    rw [(List.mergeSort_perm _ _).nodup_iff]
    unfold Ds.list
    have hn : d.fs.Pairwise (fun a b => a.1 ≠ b.1) := h.imp fun hab e => by rw [e] at hab; exact List.lt_irrefl _ hab
    have hn2 : ((d.fs.map (·.1)).filter fun n => pre.isPrefixOf n).Nodup := List.Nodup.sublist List.filter_sublist (by rw [List.nodup_iff_pairwise_ne, List.pairwise_map]; exact hn)
    generalize ((d.fs.map (·.1)).filter fun n => pre.isPrefixOf n) = l at hn2
    induction l with
    | nil => exact List.nodup_nil
    | cons x l ih =>
      obtain ⟨h3, h4⟩ := List.nodup_cons.1 hn2
      rw [List.map_cons, List.filter_cons]
      split
      · rename_i hx
        refine List.nodup_cons.2 ⟨fun hm => h3 ?_, ih h4⟩
        obtain ⟨y, hy, e⟩ := List.mem_map.1 (List.mem_filter.1 hm).1
        rw [numN_inj (of_decide_eq_true hx) e.symm]
        exact hy
      · exact ih h4
  rw [List.nodup_iff_pairwise_ne] at h2
  exact (h1.and h2).imp fun ⟨a, b⟩ => by have := of_decide_eq_true a; omega
theorem segs_eq {d : Ds} (h : Srt d.fs) : segsOf d = (refFs d.fs).map fun p => numN p.1 := by
  refine rise_eq (segs_rise h) (by rw [List.pairwise_map]; exact refFs_rise h) fun n => ?_
  rw [segs_mem, List.mem_map]
  constructor
  · rintro ⟨p, hp, rfl, hn⟩
    exact ⟨p, refFs_mem.2 ⟨hp, hn⟩, rfl⟩
  · rintro ⟨p, hp, rfl⟩
    obtain ⟨h1, h2⟩ := refFs_mem.1 hp
    exact ⟨p, h1, rfl, h2⟩
theorem segs_read {d : Ds} (h : Srt d.fs) : (segsOf d).flatMap (fun n => recs (d.read (segN n)).1) = refAll d.fs := by
  rw [segs_eq h, List.flatMap_map]
  unfold refAll
  have : ∀ l : Fs, (∀ p ∈ l, p ∈ refFs d.fs) → (l.flatMap fun p => recs (d.read (segN (numN p.1))).1) = l.flatMap fun p => recs p.2.s := by
    intro l hl
    induction l with
    | nil => rfl
    | cons p l ih =>
      obtain ⟨h1, h2⟩ := refFs_mem.1 (hl p (List.mem_cons_self ..))
      rw [List.flatMap_cons, List.flatMap_cons, ih fun q hq => hl q (List.mem_cons_of_mem _ hq), numN_seg2 h2]
      congr 2
      unfold Ds.read
      rw [h.fnd (show (p.1, p.2) ∈ d.fs from h1)]
  exact this _ fun _ h => h
end Go.Bar.Wal

/-
  Layer 11 (wal): Restart.
-/
namespace Go.Bar
open Go.RowKit
theorem NBuf.lit_ (w : World) (e : TypeId) (sz k : Nat) (news : List Value) (hl : news.length = k * sz) (hk : k ≤ maxLen) : NBuf w (w.alloc (.cells news.toArray e)) e sz (.slice (some ⟨w.heap.size, 0, none⟩) k k) k news :=
  ⟨Buf.lit w e sz k news hl hk, (Below.refl _ _).alloc (Nat.le_refl _) _, fun j hj => by simp [Value.ownBlock] at hj; omega⟩
end Go.Bar
namespace Go.Bar.Wal
open Go.RowKit Go.Bar Go.Bar.Leb Go.Bar.Frm Go.Proofs
theorem segs_small {c : Nat} {d : Ds} (ha : Acc c d) {n : Nat} (hn : n ∈ segsOf d) : n ≤ 1099511627776 ∧ (segN n).length ≤ 40 := by
  obtain ⟨p, hp, e, h0⟩ := segs_mem.1 hn
  have h1 : 0 < numN p.1 := by omega
  have h2 := numN_seg2 h1
  rw [e] at h2
  refine ⟨?_, by rw [h2]; exact ha.nm p hp⟩
  rw [← e]
  unfold numN
  split
  · exact numOf_le _
  · exact Nat.zero_le _
theorem lt_int : ¬ LTs 3 := fun c => by
  rcases c with c | c
  · exact absurd c nd_int
  · exact absurd c (by decide)
theorem LgAt.setE {w : World} {L : Nat} {h : Hd} {g : Lg} (k : LgAt w L h g) (b : Bool) : LgAt (w.setCell ⟨L, 4, none⟩ (.bool b)) L h ⟨g.limit, g.seg, g.size, b⟩ := Blk.set k 4 _
end Go.Bar.Wal
namespace Go.Proofs.YtcopknopifbebaaGreatDoor
open Go.RowKit Go.Bar Go.Bar.Wal Go.Bar.Leb Go.Bar.Frm Go.Conc
attribute [local go_sem] Oper.semAt_some

theorem frcs_one (rs : List Rc) : ∀ u ∈ frcs rs, u.oneCell' = true := fun u hu => by
  unfold frcs at hu
  simp only [List.mem_flatMap] at hu
  obtain ⟨r, _, hu⟩ := hu
  simp only [List.mem_cons, List.not_mem_nil, or_false] at hu
  rcases hu with rfl | rfl <;> rfl
theorem reset_at {w w2 : World} {v2 : Value} {rs : List Rc} (hb2 : Buf w2 34 2 v2 (1 + rs.length) ([Value.int .u8 255, .string ByteArray.empty] ++ frcs rs)) (ha2 : Ap (w.alloc (.cells #[.int .u8 255, .string ByteArray.empty] 34)) w2 2 (.slice (some ⟨w.heap.size, 0, none⟩) 1 1)) (hg2 : Grew (w.alloc (.cells #[.int .u8 255, .string ByteArray.empty] 34)) (.slice (some ⟨w.heap.size, 0, none⟩) 1 1) v2) : RecsAt w2 v2 (reset rs) ∧ Below w.heap.size w w2 := by
  have h0 := NBuf.lit_ w 34 2 1 [.int .u8 255, .string ByteArray.empty] rfl (by decide)
  have h1 := h0.step hb2 ha2 hg2
  rw [Nat.add_comm] at h1
  exact ⟨h1.slice, h1.below⟩
set_option maxHeartbeats 8000000 in
set_option maxRecDepth 10000 in
theorem lRestart_any (w : World) (L : Nat) (h : Hd) (d : Ds) (g : Lg) (B c : Nat) (v : Value) (rs : List Rc) (k : DkAt w h d) (kl : LgAt w L h g) (hE : EnvAt w) (hB : h.Hi B) (hL : B ≤ L) (hB4 : 4 ≤ B) (ha : Wal.Acc c d) (hc : c ≤ 10000) (hr : d.room ≤ 10000000)
    (hv : RecsAt w v rs) (hn : rs.length ≤ 10) (hs : ∀ r ∈ rs, r.2.length ≤ 1000) (hg3 : g.seg ≤ 1000000) :
    Calls Tryz.prog 27 #[.pointer (some ⟨L, 0, none⟩), v] w (LgTo B w L h (wRestart d g rs)) := by
  have hu1 : (0 : Int) ≤ d.used := by have := ha.use; omega
  have hu2 := ha.room
  have hs2 : ∀ r ∈ reset rs, r.2.length ≤ 1000 := fun r hr => by
    rcases List.mem_cons.1 hr with rfl | hr
    · exact Nat.zero_le _
    · exact hs r hr
  have hrl : (reset rs).length = rs.length + 1 := rfl
  have hspell := Lib.hid (fun w' v' (hv' : RecsAt w' v' (reset rs)) => spell_any v' (reset rs) w' hv' (by rw [hrl]; omega) hs2)
  have hSl := laid_small (reset rs) hs2
  have hB0 := hiA k hB
  have hE0 := Lib.hid hE
  obtain ⟨r, hre⟩ : ∃ r, r = wRestart d g rs := ⟨_, rfl⟩
  have hr9 : g.broken = true → r = (9, d, g) := fun hb => by rw [hre]; unfold wRestart; rw [if_pos hb]
  have hr7 : g.broken = false → d.free < (laid (reset rs)).length → r = (7, d, g) := fun hb hf => by rw [hre]; unfold wRestart; rw [if_neg (by rw [hb]; decide), if_pos hf]
  have hrt : g.broken = false → ¬ d.free < (laid (reset rs)).length → r = if (fresh d (segN (g.seg + 1)) (laid (reset rs))).1 ≠ 0 then ((fresh d (segN (g.seg + 1)) (laid (reset rs))).1, (fresh d (segN (g.seg + 1)) (laid (reset rs))).2, ⟨g.limit, g.seg, g.size, (fresh d (segN (g.seg + 1)) (laid (reset rs))).1 == 8⟩)
      else ((removeL (segsOf d) (fresh d (segN (g.seg + 1)) (laid (reset rs))).2).1, (removeL (segsOf d) (fresh d (segN (g.seg + 1)) (laid (reset rs))).2).2, ⟨g.limit, g.seg + 1, (laid (reset rs)).length, (removeL (segsOf d) (fresh d (segN (g.seg + 1)) (laid (reset rs))).2).1 == 8⟩) := fun hb hf => by
    rw [hre]; unfold wRestart; rw [if_neg (by rw [hb]; decide), if_neg hf]
  rw [← hre]
  clear hre
  obtain ⟨S, hS⟩ : ∃ S, S = laid (reset rs) := ⟨_, rfl⟩
  rw [← hS] at hspell hSl hr7 hrt
  clear hS
  rw [hrl] at hSl
  have hSl : S.length ≤ 100000 := by omega
  have hvs := Lib.hid hv
  clear hv hs
  replace hr9 := Lib.hid hr9
  replace hr7 := Lib.hid hr7
  replace hrt := Lib.hid hrt
  obtain ⟨c0, c1, c2, c3, c4⟩ := Blk.c5 kl
  cases hbk : g.broken with
  | true =>
    have e := Lib.hid (hr9.out hbk)
    rw [hbk] at c4
    clear hbk
    go_enter Tryz.func27, Tryz.ntmps27
    go_wp2_with fail
    go_ret
    rw [e.out]
    exact ⟨rfl, k, kl, Off.refl _ _ _⟩
  | false =>
    rw [hbk] at c4
    replace hr7 := Lib.hid (hr7.out hbk)
    replace hrt := Lib.hid (hrt.out hbk)
    have HBK := Lib.hid hbk
    clear hbk hr9
    have hsrc : ∀ wx, Below w.heap.size w wx → Src Tryz.prog 2 23 v rs.length (frcs rs) wx := fun wx hb => (SlAt.below hvs.out hb).src (by decide) (t := 23) Tryz.underlying23 (frcs_one rs)
    have HSRC := Lib.hid hsrc
    clear hsrc
    go_enter Tryz.func27, Tryz.ntmps27
    go_upto_region 4 with (first
      | (at_builtin; refine wpList_append_el rfl (.tmp 16) (.tmp 17) 23 23 rfl rec_ty rfl (Buf.lit w 34 2 1 [.int .u8 255, .string ByteArray.empty] rfl (by decide)) rfl (HSRC.out _ ((Below.refl _ _).alloc (Nat.le_refl _) _)) (by simp only [maxLen]; omega) (by omega) ?_; intro v2 w2 hb2 ha2 hg2; obtain ⟨hv2, hbw2⟩ := reset_at hb2 ha2 hg2; clear hb2 ha2 hg2)
      | (go_at_call 44; refine (hspell.out _ _ hv2).mono ?_; rintro e w3 ⟨rfl, hb3⟩))
    have hb : Below w.heap.size w w3 := below_trans hbw2 hb3
    replace k := k.below hb
    replace kl := kl.below hb
    have o3 : Off LTs B w w3 := Off.of_below hb hB0
    have hE3 := hE.below hb
    clear hb hbw2 hb3 hv2 hE hB0 c0 c1 c2 c3 c4 HSRC hvs hspell
    obtain ⟨c0, c1, c2, c3, c4⟩ := Blk.c5 kl
    have HF := Lib.hid (free_any w3 h d k (by omega) (by omega) (by omega) hu2)
    by_cases hfree : d.free < S.length
    · have e := Lib.hid (hr7.out hfree)
      clear hr7 hrt
      go_wp2_with (go_at_call 45; refine HF.out.mono ?_; rintro e2 w4 ⟨rfl, q, rfl⟩)
      go_ret
      rw [e.out]
      exact ⟨rfl, k.below (below_draws _ _), kl.below (below_draws _ _), o3.trans (Off.of_below (below_draws _ _) (hiA k hB))⟩
    · replace hrt := Lib.hid (hrt.out (by omega))
      clear hr7
      have hfree2 : ((S.length : Nat) : Int) ≤ d.free := by omega
      go_upto_region 6 with (go_at_call 45; refine HF.out.mono ?_; rintro e2 w4 ⟨rfl, q, rfl⟩)
      replace o3 := o3.trans (Off.of_below (below_draws _ q) (hiA k hB))
      replace k := k.below (below_draws _ q)
      replace kl := kl.below (below_draws _ q)
      replace hE3 := hE3.below (below_draws _ q)
      clear c0 c1 c2 c3 c4 HF
      obtain ⟨w5, hw5⟩ : ∃ w5, w5 = w3.drewN q := ⟨_, rfl⟩
      rw [← hw5] at o3 k kl hE3 ⊢
      clear hw5
      obtain ⟨c0, c1, c2, c3, c4⟩ := Blk.c5 kl
      have hsegs := Lib.hid (segments_any w5 h d c k hE3 ha (by omega))
      have hsm := fun n (hn : n ∈ segsOf d) => segs_small ha hn
      have hslen : (segsOf d).length ≤ 10000 := by
        unfold segsOf
        rw [List.length_mergeSort]
        refine Nat.le_trans (List.length_filter_le _ _) ?_
        rw [List.length_map]
        unfold Ds.list
        refine Nat.le_trans (List.length_filter_le _ _) ?_
        rw [List.length_map]
        exact Nat.le_trans ha.num hc
      obtain ⟨O, hO⟩ : ∃ O, O = segsOf d := ⟨_, rfl⟩
      rw [← hO] at hsegs hrt hsm hslen
      clear hO
      have hBK : B ≤ w5.heap.size := hiA k hB
      go_upto_region 7 with (go_at_call 40; refine hsegs.out.mono ?_; rintro e w6 ⟨ov, rfl, hold⟩)
      have hb6 := hold.below
      have hob := Lib.hid hold.buf
      replace k := k.below hb6
      replace kl := kl.below hb6
      replace hE3 := hE3.below hb6
      replace o3 := o3.trans (Off.of_below hb6 hBK)
      clear hold hsegs c0 c1 c2 c3 c4 hb6 hBK
      obtain ⟨N, hN⟩ : ∃ N, N = segN (g.seg + 1) := ⟨_, rfl⟩
      have hNl : N.length ≤ 40 := by rw [hN]; exact good_len (segN_good (by omega))
      have hnm : ∀ wx, Below w6.heap.size w6 wx → Calls Tryz.prog 25 #[.int .i64 (IntKind.i64.wrap ((g.seg : Int) + 1))] wx (RetBelow wx (.string (bs (segN (g.seg + 1))))) := fun wx hw => by
        rw [show IntKind.i64.wrap ((g.seg : Int) + 1) = ((g.seg + 1 : Nat) : Int) by rw [IntKind.wrap_i64]; omega]
        exact name_any wx (hE3.below hw) (g.seg + 1) (by omega)
      have hfr := fun wx (hw : Below w6.heap.size w6 wx) => fresh_anyw wx h d B c N S (k.below hw) hB ha (by omega) hr (by unfold maxLen; omega) (by unfold maxLen; omega)
      obtain ⟨fr, hfre⟩ : ∃ fr, fr = fresh d N S := ⟨_, rfl⟩
      have haf : Wal.Acc (c + 1) fr.2 := by rw [hfre]; exact ha.fresh N S
      have hrf : fr.2.room = d.room := by rw [hfre]; exact fresh_room d N S
      rw [← hN, ← hfre] at hrt
      rw [← hN] at hnm
      rw [← hfre] at hfr
      have hsi : (g.seg : Int) ≤ 1000000 := by omega
      clear hN hfre ha
      have HNM := Lib.hid hnm
      have HFR := Lib.hid hfr
      have HLA := Lib.hid kl
      have HB := Lib.hid (hiA k hB)
      clear hnm hfr
      have hstT : ∀ k v w w', Below w.heap.size w w' → Dv.factOf ([(3, ((fun v => v = (.pointer (some ⟨h.D, 0, none⟩))), noFact, 3)), (7, ((fun v => v = (.int .i64 (g.seg : Nat))), noFact, 7)), (9, ((fun v => v = (.string (bs N))), noFact, 9)), (11, ((fun v => v = .int .i64 (fr.1 : Nat)), noFact, 11))] : List (Nat × Dv.Kp)) k v w → Dv.factOf ([(3, ((fun v => v = (.pointer (some ⟨h.D, 0, none⟩))), noFact, 3)), (7, ((fun v => v = (.int .i64 (g.seg : Nat))), noFact, 7)), (9, ((fun v => v = (.string (bs N))), noFact, 9)), (11, ((fun v => v = .int .i64 (fr.1 : Nat)), noFact, 11))] : List (Nat × Dv.Kp)) k v w' := Dv.fact_st (by
        simp only [List.forall_mem_cons, List.not_mem_nil, false_imp_iff, implies_true, and_true]
        refine ⟨?_, ?_, ?_, ?_⟩
        · exact fun _ _ _ _ _ => trivial
        · exact fun _ _ _ _ _ => trivial
        · exact fun _ _ _ _ _ => trivial
        · exact fun _ _ _ _ _ => trivial)
      have htrT : ∀ x ∈ ([(3, ((fun v => v = (.pointer (some ⟨h.D, 0, none⟩))), noFact, 3)), (7, ((fun v => v = (.int .i64 (g.seg : Nat))), noFact, 7)), (9, ((fun v => v = (.string (bs N))), noFact, 9)), (11, ((fun v => v = .int .i64 (fr.1 : Nat)), noFact, 11))] : List (Nat × Dv.Kp)), (([(3, ((fun v => v = (.pointer (some ⟨h.D, 0, none⟩))), noFact, 3)), (7, ((fun v => v = (.int .i64 (g.seg : Nat))), noFact, 7)), (9, ((fun v => v = (.string (bs N))), noFact, 9)), (11, ((fun v => v = .int .i64 (fr.1 : Nat)), noFact, 11))] : List (Nat × Dv.Kp)).lookup x.2.2.2).isSome = true := by
        simp only [List.forall_mem_cons, List.not_mem_nil, false_imp_iff, implies_true, and_true]
        exact ⟨by kernel_rfl, by kernel_rfl, by kernel_rfl, by kernel_rfl⟩
      refine Dv.wp_region_two (L := ([(3, ((fun v => v = (.pointer (some ⟨h.D, 0, none⟩))), noFact, 3)), (7, ((fun v => v = (.int .i64 (g.seg : Nat))), noFact, 7)), (9, ((fun v => v = (.string (bs N))), noFact, 9)), (11, ((fun v => v = .int .i64 (fr.1 : Nat)), noFact, 11))] : List (Nat × Dv.Kp))) (m := 11) (Fin := (FinDk B w6 h fr.2)) (by kernel_rfl) 82 (by kernel_rfl) rfl (by kernel_rfl) ?_ ?_ ?_
      · simp only [List.forall_mem_cons, List.not_mem_nil, false_imp_iff, implies_true, and_true]
        exact ⟨⟨_, rfl⟩, ⟨_, rfl⟩, ⟨_, rfl⟩, ⟨_, rfl⟩⟩
      · exact (fun vs vs' w' _ hf => hf)
      repeat (first
        | (refine Dv.Chain.step (v := ?_) (a' := ?_) rfl rfl rfl ?_ ?_ ?_; rotate_left 2; (focus (intro w; go_simp; try with_reducible rfl)); focus (simp only [Act.put, pqA, pqS, pqZ]; try rfl))
        | (refine Dv.XT.call (i := 3) (a' := ?_) _ _ rfl (by decide) hstT rfl rfl (fun wx hw hF => ?_) htrT ?_ ?_; rotate_left 1; (focus (obtain ⟨g0, g1, g2, g3, g4⟩ := Blk.c5 ((LgAt.below HLA.out hw)); go_simp; first | exact ⟨rfl, rB⟩ | exact rB)); focus (simp only [Act.put, pqA, pqS, pqZ]; try rfl))
        | (refine Dv.XT.call (i := 7) (a' := ?_) _ _ rfl (by decide) hstT rfl rfl (fun wx hw hF => ?_) htrT ?_ ?_; rotate_left 1; (focus (obtain ⟨g0, g1, g2, g3, g4⟩ := Blk.c5 ((LgAt.below HLA.out hw)); go_simp; first | exact ⟨rfl, rB⟩ | exact rB)); focus (simp only [Act.put, pqA, pqS, pqZ]; try rfl))
        | (refine Dv.XT.call (i := 9) (a' := ?_) _ _ rfl (by decide) hstT rfl rfl (fun wx hw hF => ?_) htrT ?_ ?_; rotate_left 1; (focus (go_simp; (with_reducible refine (HNM.out wx hw).mono ?_); exact (fun e w' ⟨h1, h2⟩ => by subst h1; exact ⟨rfl, h2⟩))); focus (simp only [Act.put, pqA, pqS, pqZ]; try rfl))
        | (refine Dv.XT.last (i := 11) _ _ _ rfl rfl (by kernel_rfl) rfl rfl (fun vs wx hw hF => ?_) (fun v11 hv11 a' ha => ?_); (focus (go_simp); (with_reducible refine (HFR.out wx hw).mono ?_); (rintro e w' ⟨rfl, hd, ho⟩); (exact ⟨rfl, hd, (Off.of_below hw HB.out).trans ho⟩)); obtain rfl := hv11; simp only [Act.put, pqA, pqS, pqZ] at ha; subst ha)
        | (refine Dv.Chain.skip' (a' := ?_) rfl rfl rfl ?_ ?_; rotate_left 1; focus (simp only [Act.put, pqA, pqS, pqZ]; try rfl)))
      refine Dv.XT.end_ (by decide) (fun vs w10 hv hfin => ?_)
      obtain ⟨k10, o10⟩ := hfin
      have l10 := LgAt.off HLA.out o10
      have hob10 := Lib.hid (o10.kc.buf hob.out nd_int)
      replace o10 := o3.trans (o10.wide dlt)
      have hE10 : EnvAt w10 := hE0.out.bel o10.bel hB4
      clear hv HLA HNM HFR HB k kl o3 hE3 hob
      by_cases hf0 : fr.1 = 0
      · have hf1 : Hid (fr.1 = 0) := hf0
        have e := hrt.out
        rw [if_neg (fun h => h hf0)] at e
        replace e := Lib.hid e
        clear hrt
        have l10 : Blk w10 L 82 #[.pointer (some ⟨h.D, 0, none⟩), .int .i64 g.limit, .int .i64 (g.seg : Nat), .int .i64 (g.size : Nat), .bool g.broken] := l10
        obtain ⟨c0, c1, c2, c3, c4⟩ := Blk.c5 l10
        have f2 := l10.free 2
        have f3 := l10.free 3
        go_upto_region 11 with fail
        have k11 := (k10.other l10 ndk_log 2 (.int .i64 ((g.seg : Int) + 1))).other (l10.set 2 (.int .i64 ((g.seg : Int) + 1))) ndk_log 3 (.int .i64 (S.length : Nat))
        have o11' := (Off.set (Ts := LTs) l10 (.inr rfl) hL 2 (.int .i64 ((g.seg : Int) + 1))).trans (Off.set (l10.set 2 (.int .i64 ((g.seg : Int) + 1))) (.inr rfl) hL 3 (.int .i64 (S.length : Nat)))
        have hob11 := o11'.kc.buf hob10.out lt_int
        have o11 := o10.trans o11'
        have l11 : LgAt ((w10.setCell ⟨L, 2, none⟩ (.int .i64 ((g.seg : Int) + 1))).setCell ⟨L, 3, none⟩ (.int .i64 (S.length : Nat))) L h ⟨g.limit, g.seg + 1, S.length, g.broken⟩ := (l10.set 2 (.int .i64 ((g.seg : Int) + 1))).set 3 (.int .i64 (S.length : Nat))
        obtain ⟨w11, hw11⟩ : ∃ w11, w11 = (w10.setCell ⟨L, 2, none⟩ (.int .i64 ((g.seg : Int) + 1))).setCell ⟨L, 3, none⟩ (.int .i64 (S.length : Nat)) := ⟨_, rfl⟩
        rw [← hw11] at k11 o11 l11 hob11 ⊢
        clear hw11 l10 k10 o10 o11' hob10 hE10 c0 c1 c2 c3 c4 f2 f3
        obtain ⟨gB, hgB⟩ : ∃ gB : Lg, gB = ⟨g.limit, g.seg + 1, S.length, g.broken⟩ := ⟨_, rfl⟩
        have hgb : Hid (gB.broken = false) := by rw [hgB]; exact HBK.out
        have hres : ∀ q : Nat × Ds, (⟨g.limit, g.seg + 1, S.length, q.1 == 8⟩ : Lg) = ⟨gB.limit, gB.seg, gB.size, q.1 == 8⟩ := fun q => by rw [hgB]
        rw [← hgB] at l11
        replace hres := Lib.hid hres
        clear hgB HBK
        obtain ⟨OA, oc, rfl, hlc, hcm⟩ := (SlAt.of_buf hob11).shape
        unfold maxLen at hcm
        have K11 := Lib.hid k11
        have L11 := Lib.hid l11
        have OB11 := Lib.hid hob11
        have O11 := Lib.hid o11
        clear k11 l11 hob11 o11
        go_wp2_with fail
        go_loopw [65] (fun i wr => ∃ (j : Nat) (dj : Ds), i = .int .i64 (j : Nat) ∧ j ≤ O.length ∧ dj.room ≤ 10000000 ∧ Hid (Wal.Acc (c + 1) dj) ∧ Hid (removeL O fr.2 = removeL (O.drop j) dj) ∧ Hid (DkAt wr h dj) ∧ Hid (LgAt wr L h gB) ∧ Hid (Off LTs B w11 wr)) (fun i _ => O.length - (intOf i).toNat)
        case atStart => exact ⟨0, fr.2, rfl, Nat.zero_le _, by omega, haf, rfl, K11, L11, Off.refl _ _ _⟩
        case round =>
          obtain ⟨j, dj, rfl, hj, hrj, haj, hrem, hkj, hlj, hoj⟩ := hrel
          by_cases hjl : j < O.length
          · obtain ⟨n, hn⟩ : ∃ n, O[j]? = some n := ⟨_, List.getElem?_eq_getElem hjl⟩
            obtain ⟨hn1, hn2⟩ := hsm n (List.mem_of_getElem? hn)
            have hbj := SlAt.of_buf (hoj.out.kc.buf OB11.out lt_int)
            obtain ⟨bb, oo, rfl, hlt, hcells⟩ := hbj.cells (by omega)
            have hcell := hcells j _ (ncs_at hn)
            have hci : (0 : Int) ≤ (j : Int) := by omega
            have hci2 : (j : Int) < O.length := by omega
            have hdrop : O.drop j = n :: O.drop (j + 1) := by
              obtain ⟨hlt, e⟩ := List.getElem?_eq_some_iff.1 hn
              rw [List.drop_eq_getElem_cons hlt, e]
            obtain ⟨N, hN⟩ : ∃ N, N = segN n := ⟨_, rfl⟩
            obtain ⟨rm, hrm⟩ : ∃ rm, rm = dj.remove N := ⟨_, rfl⟩
            have hstep : Hid (removeL O fr.2 = if rm.1 ≠ 0 then rm else removeL (O.drop (j + 1)) rm.2) := by
              have := hrem.out
              rw [hdrop, removeL, ← hN, ← hrm] at this
              exact this
            have hEj : EnvAt wr := hE0.out.bel (O11.out.trans hoj.out).bel hB4
            have harm : Wal.Acc (c + 1) rm.2 := by rw [hrm]; exact haj.out.remove N
            have hrrm : rm.2.room = dj.room := by rw [hrm]; exact remove_room dj N
            have hnm := fun wx (hw : Below wr.heap.size wr wx) => name_any wx (hEj.below hw) n (by omega)
            have hrmv := fun wx (hw : Below wr.heap.size wr wx) => dRemove_any wx h dj B (c + 1) (hkj.out.below hw) hB haj.out (by omega) (by omega) N (by rw [hN]; unfold maxLen; omega)
            rw [← hN] at hnm
            simp only [← hrm] at hrmv
            have HNM := Lib.hid hnm
            have HRM := Lib.hid hrmv
            have HB := Lib.hid (hiA hkj.out hB)
            clear hnm hrmv hrm hN hdrop hn hcells hbj hrem
            go_upto_region 14 with fail
            have hstT : ∀ k v w w', Below w.heap.size w w' → Dv.factOf ([(3, ((fun v => v = (.pointer (some ⟨h.D, 0, none⟩))), noFact, 3)), (5, ((fun v => v = (.string (bs N))), noFact, 5)), (6, ((fun v => v = .int .i64 (rm.1 : Nat)), noFact, 6))] : List (Nat × Dv.Kp)) k v w → Dv.factOf ([(3, ((fun v => v = (.pointer (some ⟨h.D, 0, none⟩))), noFact, 3)), (5, ((fun v => v = (.string (bs N))), noFact, 5)), (6, ((fun v => v = .int .i64 (rm.1 : Nat)), noFact, 6))] : List (Nat × Dv.Kp)) k v w' := Dv.fact_st (by
              simp only [List.forall_mem_cons, List.not_mem_nil, false_imp_iff, implies_true, and_true]
              refine ⟨?_, ?_, ?_⟩
              · exact fun _ _ _ _ _ => trivial
              · exact fun _ _ _ _ _ => trivial
              · exact fun _ _ _ _ _ => trivial)
            have htrT : ∀ x ∈ ([(3, ((fun v => v = (.pointer (some ⟨h.D, 0, none⟩))), noFact, 3)), (5, ((fun v => v = (.string (bs N))), noFact, 5)), (6, ((fun v => v = .int .i64 (rm.1 : Nat)), noFact, 6))] : List (Nat × Dv.Kp)), (([(3, ((fun v => v = (.pointer (some ⟨h.D, 0, none⟩))), noFact, 3)), (5, ((fun v => v = (.string (bs N))), noFact, 5)), (6, ((fun v => v = .int .i64 (rm.1 : Nat)), noFact, 6))] : List (Nat × Dv.Kp)).lookup x.2.2.2).isSome = true := by
              simp only [List.forall_mem_cons, List.not_mem_nil, false_imp_iff, implies_true, and_true]
              exact ⟨by kernel_rfl, by kernel_rfl, by kernel_rfl⟩
            refine Dv.wp_region_two (L := ([(3, ((fun v => v = (.pointer (some ⟨h.D, 0, none⟩))), noFact, 3)), (5, ((fun v => v = (.string (bs N))), noFact, 5)), (6, ((fun v => v = .int .i64 (rm.1 : Nat)), noFact, 6))] : List (Nat × Dv.Kp))) (m := 6) (Fin := (FinDk B wr h rm.2)) (by kernel_rfl) 82 (by kernel_rfl) rfl (by kernel_rfl) ?_ ?_ ?_
            · simp only [List.forall_mem_cons, List.not_mem_nil, false_imp_iff, implies_true, and_true]
              exact ⟨⟨_, rfl⟩, ⟨_, rfl⟩, ⟨_, rfl⟩⟩
            · exact (fun vs vs' w' _ hf => hf)
            repeat (first
              | (refine Dv.Chain.step (v := ?_) (a' := ?_) rfl rfl rfl ?_ ?_ ?_; rotate_left 2; (focus (intro w; go_simp; try with_reducible rfl)); focus (simp only [Act.put, pqA, pqS, pqZ]; try rfl))
              | (refine Dv.XT.call (i := 3) (a' := ?_) _ _ rfl (by decide) hstT rfl rfl (fun wx hw hF => ?_) htrT ?_ ?_; rotate_left 1; (focus (obtain ⟨g0, g1, g2, g3, g4⟩ := Blk.c5 ((LgAt.below hlj.out hw)); go_simp; first | exact ⟨rfl, rB⟩ | exact rB)); focus (simp only [Act.put, pqA, pqS, pqZ]; try rfl))
              | (refine Dv.XT.call (i := 5) (a' := ?_) _ _ rfl (by decide) hstT rfl rfl (fun wx hw hF => ?_) htrT ?_ ?_; rotate_left 1; (focus (go_simp; (with_reducible refine (HNM.out wx hw).mono ?_); exact (fun e w' ⟨h1, h2⟩ => by subst h1; exact ⟨rfl, h2⟩))); focus (simp only [Act.put, pqA, pqS, pqZ]; try rfl))
              | (refine Dv.XT.last (i := 6) _ _ _ rfl rfl (by kernel_rfl) rfl rfl (fun vs wx hw hF => ?_) (fun v6 hv6 a' ha => ?_); (focus (go_simp); (with_reducible refine (HRM.out wx hw).mono ?_); (rintro e w' ⟨rfl, hd, ho⟩); (exact ⟨rfl, hd, (Off.of_below hw HB.out).trans ho⟩)); obtain rfl := hv6; simp only [Act.put, pqA, pqS, pqZ] at ha; subst ha)
              | (refine Dv.Chain.skip' (a' := ?_) rfl rfl rfl ?_ ?_; rotate_left 1; focus (simp only [Act.put, pqA, pqS, pqZ]; try rfl)))
            refine Dv.XT.end_ (by decide) (fun vs w12 hv hfin => ?_)
            obtain ⟨k12, o12⟩ := hfin
            have l12 := LgAt.off hlj.out o12
            have o13 := hoj.out.trans (o12.wide dlt)
            clear hv
            by_cases hr0 : rm.1 = 0
            · have hr1 : Hid (rm.1 = 0) := hr0
              have hst : Hid (removeL O fr.2 = removeL (O.drop (j + 1)) rm.2) := by have := hstep.out; rwa [if_neg (fun h => h hr0)] at this
              clear hstep
              go_wp2_with fail
              go_roundw
              case rel => exact ⟨j + 1, rm.2, by go_num, by omega, by omega, harm, hst, k12, l12, o13⟩
              case measure => simp [intOf]; omega
            · have hst : Hid (removeL O fr.2 = rm) := by have := hstep.out; rwa [if_pos hr0] at this
              have hr2 : ¬ (rm.1 : Int) = 0 := by omega
              have hfin : Hid (r = (rm.1, rm.2, (⟨gB.limit, gB.seg, gB.size, rm.1 == 8⟩ : Lg))) := by
                have := e.out
                rw [hst.out, hres.out rm] at this
                exact this
              have HSK := Lib.hid (sick_any w12 L h gB rm.1 l12 hgb.out)
              have HL := Lib.hid l12
              clear hstep
              go_wp2_with (go_at_call 46; refine HSK.out.mono ?_; rintro e1 w13 ⟨rfl, rfl⟩)
              go_ret
              rw [hfin.out]
              exact ⟨rfl, k12.other HL.out ndk_log 4 _, LgAt.setE HL.out _, (O11.out.trans o13).trans (Off.set HL.out (.inr rfl) hL 4 _)⟩
          · have hje : j = O.length := by omega
            have hfin : Hid (r = (0, dj, gB)) := by
              have h1 := e.out
              have h2 := hrem.out
              rw [hje, List.drop_length] at h2
              have h3 : removeL [] dj = (0, dj) := rfl
              rw [h3] at h2
              rw [h2, hres.out (0, dj)] at h1
              rw [h1]
              have h4 := hgb.out
              obtain ⟨g1, g2, g3, g4⟩ := gB
              simp only at h4
              subst h4
              rfl
            clear hjl
            have hj2 : (O.length : Int) ≤ (j : Int) := by omega
            go_wp2_with fail
            go_ret
            rw [hfin.out]
            exact ⟨rfl, hkj.out, hlj.out, O11.out.trans hoj.out⟩
      · have e : Hid (r = (fr.1, fr.2, (⟨g.limit, g.seg, g.size, fr.1 == 8⟩ : Lg))) := by have := hrt.out; rwa [if_pos hf0] at this
        clear hrt
        have hf2 : ¬ (fr.1 : Int) = 0 := by omega
        have HSK := Lib.hid (sick_any w10 L h g fr.1 l10 HBK.out)
        have HL := Lib.hid l10
        go_wp2_with (go_at_call 46; refine HSK.out.mono ?_; rintro e1 w11 ⟨rfl, rfl⟩)
        go_ret
        rw [e.out]
        exact ⟨rfl, k10.other HL.out ndk_log 4 _, LgAt.setE HL.out _, o10.trans (Off.set HL.out (.inr rfl) hL 4 _)⟩
end Go.Proofs.YtcopknopifbebaaGreatDoor
