/-
 Layer 7: the walks of the small functions of the document's answer (barographref07).
-/
import Derived.Test.YtgabmfibfikdbaaGreatDoorZXorD
import Derived.Test.YtgabmfibfikdbaaGreatDoorZBokM
import Derived.Test.YtgabmfibfikdbaaGreatDoorZBitO
import Derived.Test.YtgabmfibfikdbaaGreatDoorZIdtA
import Derived.Handy
import Derived.Test.YtgabmfibfikdbaaGreatDoorZLib9
import Derived.Deep.RegionLaw
import Derived.Test.YtgabmfibfikdbaaGreatDoorZBokF

set_option maxHeartbeats 32000000
set_option maxRecDepth 10000
namespace Go.Proofs.YtgabmfibfikdbaaGreatDoor
open Go.RowKit Go.Bar Go.Bar.Bit Go.Bar.Leb Go.Bar.Xor

theorem bitsOf_get (v : Nat) : ∀ (n k : Nat), k < n -> (bitsOf v n)[k]? = some (v / 2 ^ (n - 1 - k) % 2 == 1)
 | 0, k, h => absurd h (by omega)
 | n + 1, 0, _ => by rw [bitsOf]; simp
 | n + 1, k + 1, h => by
  rw [bitsOf, List.getElem?_cons_succ, bitsOf_get v n k (by omega), show n + 1 - 1 - (k + 1) = n - 1 - k by omega]
theorem width_iff (v n : Nat) : v / 2 ^ n = 0 ↔ width v <= n := by
 constructor
 ·intro h
  refine width_lt n v ?_
  rcases Nat.div_eq_zero_iff.1 h with h | h
  ·have := Nat.two_pow_pos n; omega
  ·exact h
 ·intro h
  exact Nat.div_eq_of_lt (Nat.lt_of_lt_of_le (width_spec v).1 (Nat.pow_le_pow_right (by omega) h))
theorem lead_bits {x k : Nat} (h0 : 0 < x) (hx : x < 18446744073709551616) (hk : k <= 64 - width x) (hk2 : k < 64) :
  (x / 2 ^ (63 - k) % 2 == 1) = decide (k = 64 - width x) := by
 have hw := width_le x hx
 have hp : 0 < width x := by rw [width_pos x h0]; omega
 obtain ⟨h1, h2⟩ := width_spec x
 have h2 := h2 h0
 by_cases h : k = 64 - width x
 ·subst h
  rw [show 63 - (64 - width x) = width x - 1 by omega, decide_eq_true rfl, beq_iff_eq]
  have h3 : x / 2 ^ (width x - 1) < 2 := by
   rw [Nat.div_lt_iff_lt_mul (Nat.two_pow_pos _)]
   have : 2 ^ width x = 2 * 2 ^ (width x - 1) := by rw [<- Nat.pow_succ']; congr 1; omega
   omega
  have h4 : 1 <= x / 2 ^ (width x - 1) := by rw [Nat.le_div_iff_mul_le (Nat.two_pow_pos _)]; omega
  omega
 ·rw [decide_eq_false h, beq_eq_false_iff_ne, (width_iff x (63 - k)).2 (by omega)]
  decide
theorem last_bits {x k : Nat} (h0 : 0 < x) (hx : x < 18446744073709551616) (hk : 63 - tz x <= k) (hk2 : k < 64) :
  (x / 2 ^ (63 - k) % 2 == 1) = decide (k = 63 - tz x) := by
 have hw := width_le x hx
 obtain ⟨h1, h2, h3⟩ := tz_spec x h0
 by_cases h : k = 63 - tz x
 ·subst h
  rw [show 63 - (63 - tz x) = tz x by omega, decide_eq_true rfl, beq_iff_eq]
  exact h2
 ·rw [decide_eq_false h, beq_eq_false_iff_ne, tz_low x (63 - k) (by omega)]
  decide

theorem rfold_any (v : Int) (w : World) (h1 : -9223372036854775808 <= v) (h2 : v <= 9223372036854775807) :
  Calls Tryz.prog 131 #[.int .i64 v] w fun e w' => e = .returned (.int .u64 (fold v : Nat)) /\ w = w' := by
 go_enter Tryz.func131, Tryz.ntmps131
 go_wp2_with fail
 refine (refFold_any v _ h1 h2).mono ?_
 rintro e w' ⟨rfl, rfl⟩
 go_wp2_with fail
 go_ret
 exact ⟨rfl, rfl⟩

theorem rfits_any (u n : Nat) (w : World) (hn : n <= 64) (hu : u < 18446744073709551616) :
  Calls Tryz.prog 132 #[.int .u64 (u : Int), .int .i64 (n : Int)] w fun e w' => e = .returned (.bool (decide (width u <= n))) /\ w = w' := by
 have HW := Lib.hid (width_iff u n)
 go_enter Tryz.func132, Tryz.ntmps132
 go_wp2_with fail
 go_loop [0, 5] (fun v i => ∃ (k c : Nat), k <= n /\ c < 18446744073709551616 /\ v = .int .u64 (c : Int) /\ i = .int .i64 (k : Int) /\ Hid (c = u / 2 ^ k)) (fun _ i => n - (intOf i).toNat)
 case atStart => exact ⟨0, u, Nat.zero_le _, hu, rfl, rfl, Lib.hid (by simp)⟩
 case round =>
  obtain ⟨k, c, hk, hc, rfl, rfl, HC⟩ := hrel
  by_cases hgo : k < n
  ·go_wp2_with fail
   go_round
   case rel => exact ⟨k + 1, c / 2, by omega, by omega, by go_num, by go_num, Lib.hid (by rw [HC.out, Nat.pow_succ, Nat.div_div_eq_div_mul])⟩
   case measure => simp [intOf]; omega
  ·obtain rfl : k = n := by omega
   by_cases h0 : c = 0
   ·have hd : (((c : Nat) : Int) == 0) = true := by rw [beq_iff_eq]; omega
    have hr := decide_eq_true (HW.out.1 (by rw [<- HC.out]; exact h0))
    have HR := Lib.hid hr
    clear hr h0
    go_wp2_with fail
    go_ret
    rw [HR.out]
    exact ⟨rfl, rfl⟩
   ·have hd : (((c : Nat) : Int) == 0) = false := by rw [beq_eq_false_iff_ne]; omega
    have hr := decide_eq_false (fun h => h0 (by rw [HC.out]; exact HW.out.2 h))
    have HR := Lib.hid hr
    clear hr h0
    go_wp2_with fail
    go_ret
    rw [HR.out]
    exact ⟨rfl, rfl⟩

theorem rsize_any (k : Nat) (w : World) (hk : k <= 4) :
  Calls Tryz.prog 87 #[.int .i64 (k : Int)] w fun e w' => e = .returned (.int .i64 (wd k : Nat)) /\ w = w' := by
 rcases (show k = 0 \/ k = 1 \/ k = 2 \/ k = 3 \/ k = 4 by omega) with rfl | rfl | rfl | rfl | rfl
 all_goals
  go_enter Tryz.func87, Tryz.ntmps87
  go_wp2_with fail
  go_ret
  exact ⟨rfl, rfl⟩

theorem rzeros_any (x : Nat) (w : World) (h0 : 0 < x) (hx : x < 18446744073709551616) :
  Calls Tryz.prog 134 #[.int .u64 (x : Int)] w (RetBelow w (.int .i64 ((64 - width x : Nat) : Int))) := by
 have hp : 0 < width x := by rw [width_pos x h0]; omega
 obtain ⟨z, hz⟩ : ∃ z, z = 64 - width x := ⟨_, rfl⟩
 have hz2 : z < 64 := by omega
 have HL := Lib.hid (fun k (h : k <= z) => (show (bitsOf x 64)[k]? = some (decide (k = z)) by
  rw [bitsOf_get x 64 k (by omega), show 64 - 1 - k = 63 - k by omega, lead_bits h0 hx (by omega) (by omega), hz]))
 have HBT := Lib.hid (fun w => refBits_any x 64 w (by omega) (by omega) hx)
 rw [<- hz]
 clear hz hp
 obtain ⟨L, hL⟩ : ∃ L, L = bitsOf x 64 := ⟨_, rfl⟩
 have hlen : L.length = 64 := by rw [hL, bitsOf_length]
 rw [<- hL] at HL
 have HBT : Hid (∀ w, Calls Tryz.prog 109 #[.int .u64 (x : Int), .int .i64 64] w (RetBools w L)) := Lib.hid (fun w => by rw [hL]; exact HBT.out w)
 clear hL
 go_enter Tryz.func134, Tryz.ntmps134
 go_wp2_with fail
 refine (HBT.out _).mono ?_
 rintro e w1 ⟨v1, rfl, hat, hb1⟩
 obtain ⟨b, o, c, rfl, hbl0, hc, hcell, _⟩ := Buf.at_ hat.buf (by omega)
 rw [hlen] at hcell hc ⊢
 have HCE := Lib.hid (fun k (h : k <= z) => (show w1.cell? ⟨b, o + k, none⟩ = some (.bool (decide (k = z))) by
  rw [hcell k (by omega)]
  unfold bls
  rw [List.getElem?_map, HL.out k h]
  rfl))
 clear hcell hat hlen
 go_wp2_with fail
 go_loopw [8] (fun i wr => ∃ k : Nat, k <= z /\ i = .int .i64 (k : Int) /\ wr = w1) (fun i _ => 64 - (intOf i).toNat)
 case atStart => exact ⟨0, Nat.zero_le _, rfl, rfl⟩
 case round =>
  obtain ⟨k, hk, rfl, rfl⟩ := hrel
  have hce := HCE.out k hk
  by_cases hkz : k = z
  ·subst hkz
   rw [decide_eq_true rfl] at hce
   go_wp2_with fail
   go_ret
   exact ⟨rfl, hb1⟩
  ·rw [decide_eq_false hkz] at hce
   go_wp2_with fail
   go_roundw
   case rel => exact ⟨k + 1, by omega, by go_num, by first | trivial | rfl⟩
   case measure => simp [intOf]; omega

theorem rlast_any (x : Nat) (w : World) (h0 : 0 < x) (hx : x < 18446744073709551616) :
  Calls Tryz.prog 135 #[.int .u64 (x : Int)] w (RetBelow w (.int .i64 ((63 - tz x : Nat) : Int))) := by
 obtain ⟨z, hz⟩ : ∃ z, z = 63 - tz x := ⟨_, rfl⟩
 have hz2 : z < 64 := by omega
 have HL := Lib.hid (fun k (h : z <= k) (h2 : k < 64) => (show (bitsOf x 64)[k]? = some (decide (k = z)) by
  rw [bitsOf_get x 64 k (by omega), show 64 - 1 - k = 63 - k by omega, last_bits h0 hx (by omega) (by omega), hz]))
 have HBT := Lib.hid (fun w => refBits_any x 64 w (by omega) (by omega) hx)
 rw [<- hz]
 clear hz
 obtain ⟨L, hL⟩ : ∃ L, L = bitsOf x 64 := ⟨_, rfl⟩
 have hlen : L.length = 64 := by rw [hL, bitsOf_length]
 rw [<- hL] at HL
 have HBT : Hid (∀ w, Calls Tryz.prog 109 #[.int .u64 (x : Int), .int .i64 64] w (RetBools w L)) := Lib.hid (fun w => by rw [hL]; exact HBT.out w)
 clear hL
 go_enter Tryz.func135, Tryz.ntmps135
 go_wp2_with fail
 refine (HBT.out _).mono ?_
 rintro e w1 ⟨v1, rfl, hat, hb1⟩
 obtain ⟨b, o, c, rfl, hbl0, hc, hcell, _⟩ := Buf.at_ hat.buf (by omega)
 rw [hlen] at hcell hc ⊢
 have HCE := Lib.hid (fun k (h : k < 64) => (show ∃ y, w1.cell? ⟨b, o + k, none⟩ = some (.bool y) /\ (z <= k -> y = decide (k = z)) by
  obtain ⟨y, hy⟩ : ∃ y, L[k]? = some y := ⟨_, List.getElem?_eq_getElem (by omega)⟩
  refine ⟨y, ?_, fun hk => ?_⟩
  ·rw [hcell k (by omega)]
   unfold bls
   rw [List.getElem?_map, hy]
   rfl
  ·have := HL.out k hk h
   rw [hy] at this
   exact Option.some.inj this))
 clear hcell hat hlen
 go_wp2_with fail
 go_loopw [3, 9] (fun at_ i wr => ∃ (k : Nat) (y : Int), k <= 64 /\ i = .int .i64 (k : Int) /\ at_ = .int .i64 y /\ -1 <= y /\ y <= 64 /\ Hid (z < k -> y = z) /\ wr = w1) (fun _ i _ => 64 - (intOf i).toNat)
 case atStart => exact ⟨0, -1, by omega, rfl, rfl, by omega, by omega, Lib.hid (fun h => absurd h (by omega)), rfl⟩
 case round =>
  obtain ⟨k, y, hk, rfl, rfl, hy1, hy2, HY, rfl⟩ := hrel
  by_cases hk64 : k < 64
  ·obtain ⟨t, hce, ht⟩ := HCE.out k hk64
   have HT := Lib.hid ht
   clear ht
   cases t
   ·have HN := Lib.hid (show z < k + 1 -> y = (z : Int) from fun h => HY.out (by
     rcases Nat.lt_or_ge z k with h1 | h1
     ·exact h1
     ·obtain rfl : k = z := by omega
      have := HT.out (Nat.le_refl _)
      simp at this))
    go_wp2_with fail
    go_roundw
    case rel => exact ⟨k + 1, y, by omega, by go_num, rfl, hy1, hy2, HN, by first | trivial | rfl⟩
    case measure => simp [intOf]; omega
   ·have HN := Lib.hid (show z < k + 1 -> (k : Int) = (z : Int) from fun h => by
     have := HT.out (by omega)
     have := of_decide_eq_true this.symm
     omega)
    go_wp2_with fail
    go_roundw
    case rel => exact ⟨k + 1, k, by omega, by go_num, rfl, by omega, by omega, HN, by first | trivial | rfl⟩
    case measure => simp [intOf]; omega
  ·have hyz : y = z := HY.out (by omega)
   subst hyz
   go_wp2_with fail
   go_ret
   exact ⟨rfl, hb1⟩

end Go.Proofs.YtgabmfibfikdbaaGreatDoor

set_option maxHeartbeats 32000000
set_option maxRecDepth 10000
namespace Go.Proofs.YtgabmfibfikdbaaGreatDoor
open Go.RowKit Go.Bar Go.Bar.Bit Go.Bar.Leb Go.Bar.Xor

theorem bls_append (l m : List Bool) : bls (l ++ m) = bls l ++ bls m := List.map_append
theorem src_at {w : World} {b o k c : Nat} {l : List Bool} (hl : l.length = k) (hc : ∀ j x, l[j]? = some x -> w.cell? ⟨b, o + j, none⟩ = some (.bool x)) : Src Tryz.prog 1 180 (.slice (some ⟨b, o, none⟩) k c) k (bls l) w := by
  refine Src.ofSlice w Tryz.underlying180 ⟨b, o, none⟩ k c (bls l) (by rw [bls_length, hl, Nat.mul_one]) (fun j u hu => ?_) (bls_one l)
  unfold bls at hu
  rw [List.getElem?_map] at hu
  rcases hx : l[j]? with _ | x
  · rw [hx] at hu; cases hu
  · rw [hx] at hu
    obtain rfl := Option.some.inj hu
    rw [addr_add]
    exact hc j x hx
theorem BoolsAt.src {B : Nat} {w : World} {v : Value} {l : List Bool} (h : BoolsAt B w v l) : Src Tryz.prog 1 180 v l.length (bls l) w := h.buf.src Tryz.underlying180 (bls_one l)
structure RC (w0 : World) (X : Nat) (cur : Array Value) (w : World) (v : Value) (l : List Bool) : Prop where
  at_ : BoolsAt w0.heap.size w v l
  bel : Below w0.heap.size w0 w
  blk : Blk w X 41 cur
theorem RC.below {w0 : World} {X : Nat} {cur : Array Value} {w w' : World} {v : Value} {l : List Bool} (h : RC w0 X cur w v l) (hb : Below w.heap.size w w') : RC w0 X cur w' v l :=
  ⟨h.at_.below hb, below_trans h.bel hb, h.blk.below hb⟩
theorem wpList_rc {ops : Array Oper} {rest : List Oper} {o : Oper} {a : Act} {Q : Exit -> Act -> World -> Prop} {w : World} (hgd : o.guard = none) (s x : Operand)
    (ho : o.op = .call { callee := .builtin .append, args := #[s, x], argTypes := #[180, 180] })
    {w0 : World} {X : Nat} {cur : Array Value} {v : Value} {l : List Bool} (h : RC w0 X cur w v l) (hv : a.eval s = v) {y : Value} {m : List Bool} (hx : a.eval x = y) (hs : Src Tryz.prog 1 180 y m.length (bls m) w) (hlen : l.length + m.length < 100000000000)
    (K : ∀ v' w', RC w0 X cur w' v' (l ++ m) -> wpList Tryz.prog ops Q rest (a.put o.dst v') w') : wpList Tryz.prog ops Q (o :: rest) a w := by
  refine wpList_append_el hgd s x 180 180 ho bools_ty hv h.at_.buf hx hs (by simp only [maxLen]; omega) (by omega) ?_
  intro v' w' hb ha hg
  have hB := h.bel.size
  refine K v' w' ⟨⟨?_, hg.new hB h.at_.new⟩, h.bel.trans (ha.below hB h.at_.new), h.blk.ap h.at_.buf ha (by decide)⟩
  rw [List.length_append, bls_append]
  exact hb
theorem wpList_rc1 {ops : Array Oper} {rest : List Oper} {o : Oper} {a : Act} {Q : Exit -> Act -> World -> Prop} {w : World} (hgd : o.guard = none) (s x : Operand)
    (ho : o.op = .call { callee := .builtin .append, args := #[s, x], argTypes := #[180, 180] })
    {w0 : World} {X : Nat} {cur : Array Value} {v : Value} {l : List Bool} {y : Bool} (h : RC w0 X cur w v l) (hv : a.eval s = v) (hx : a.eval x = .slice (some ⟨w.heap.size, 0, none⟩) 1 1) (hlen : l.length < 10000000000)
    (K : ∀ v' w', RC w0 X cur w' v' (l ++ [y]) -> wpList Tryz.prog ops Q rest (a.put o.dst v') w') : wpList Tryz.prog ops Q (o :: rest) a (w.alloc (.cells #[.bool y] 4)) :=
  wpList_rc hgd s x ho (h.below (ba1 w _)) hv (m := [y]) hx ((Buf.lit w 4 1 1 [.bool y] rfl (by decide)).src (t := 180) Tryz.underlying180 (by intro u hu; simp at hu; subst hu; rfl)) (by simp only [List.length_singleton]; omega) K

theorem bitsOf_part (x a b n : Nat) (h : a + b <= n) : ((bitsOf x n).drop a).take b = bitsOf (x / 2 ^ (n - a - b)) b := by
  apply List.ext_getElem?
  intro i
  by_cases hi : i < b
  · rw [List.getElem?_take_of_lt hi, List.getElem?_drop, bitsOf_get x n (a + i) (by omega), bitsOf_get _ b i hi, Nat.div_div_eq_div_mul, <- Nat.pow_add]
    congr 5
    omega
  · rw [List.getElem?_eq_none (by rw [List.length_take]; omega), List.getElem?_eq_none (by rw [bitsOf_length]; omega)]

theorem part_src {w : World} {b o c : Nat} {x : Nat} (h : ∀ j, j < 64 -> w.cell? ⟨b, o + j, none⟩ = (bls (bitsOf x 64))[j]?) (a k : Nat) (hak : a + k <= 64) :
    Src Tryz.prog 1 180 (.slice (some ⟨b, o + a, none⟩) k c) (bitsOf (x / 2 ^ (64 - a - k)) k).length (bls (bitsOf (x / 2 ^ (64 - a - k)) k)) w := by
  rw [bitsOf_length]
  refine src_at (bitsOf_length _ _) (fun j y hj => ?_)
  have hjk : j < k := by have := (List.getElem?_eq_some_iff.1 hj).1; rw [bitsOf_length] at this; exact this
  rw [<- bitsOf_part x a k 64 hak, List.getElem?_take_of_lt hjk, List.getElem?_drop] at hj
  rw [Nat.add_assoc, h (a + j) (by omega)]
  unfold bls
  rw [List.getElem?_map, hj]
  rfl

structure RB (w0 wr : World) (out : Value) (l : List Sm) (S : St) (k : Nat) (s : St) : Prop where
  at_ : BoolsAt w0.heap.size wr out s.bits
  below : Below w0.heap.size w0 wr
  ok : s.Ok
  n : s.n = k
  win : s.wide = 0 -> s.lead = 0
  prev : 0 < k -> l[k - 1]? = some (s.t, s.v)
  of : ofS s (l.drop k) = (S, 0)

theorem rbits_any (l : List Sm) (v : Value) (w : World) (S : St) (h : SmsAt w v l) (hS : ofS St.zero l = (S, 0)) (hx : ∀ x ∈ l, x.2 < 18446744073709551616) :
    Calls Tryz.prog 111 #[v] w (RetBools w S.bits) := by
  obtain ⟨A, c, rfl, hlc, hcm⟩ := h.shape
  unfold maxLen at hcm
  have HXX := Lib.hid hx
  have HS := Lib.hid hS
  have HSZ := Lib.hid (show wd 0 = 0 from rfl)
  clear hx hS
  go_enter Tryz.func111, Tryz.ntmps111
  go_wp2_with fail
  go_loopw [3, 4, 5, 6, 18] (fun out st fr tt i wr => ∃ (k : Nat) (s : St) (TO : Int), k <= l.length /\ i = .int .i64 (k : Int) /\ st = .int .i64 s.step /\ fr = .int .i64 (s.lead : Nat) /\ tt = .int .i64 TO /\ -1 <= TO /\ TO <= 63 /\ Hid (TO = (s.lead : Nat) + (s.wide : Nat) - 1) /\ Hid (RB w wr out l S k s)) (fun _ _ _ _ i _ => l.length - (intOf i).toNat)
  case atStart => exact ⟨0, St.zero, -1, Nat.zero_le _, rfl, rfl, rfl, rfl, by omega, by omega, Lib.hid rfl, Lib.hid ⟨BoolsAt.empty (Nat.le_refl _), ba1 _ _, St.zero_ok, rfl, fun _ => rfl, fun h => absurd h (by omega), HS.out⟩⟩
  case round =>
    obtain ⟨k, s, TO, hk, rfl, rfl, rfl, rfl, hto1, hto2, HTO, HB⟩ := hrel
    rename_i u3
    obtain ⟨wo, rfl⟩ : ∃ wo : World, wo = wr := ⟨_, rfl⟩
    have hB := HB.out.below
    have hszB : w.heap.size <= wo.heap.size := hB.size
    by_cases hgo : k < l.length
    · obtain ⟨x, hxk⟩ : ∃ x, l[k]? = some x := ⟨_, List.getElem?_eq_getElem hgo⟩
      have hx2 := HXX.out x (List.mem_of_getElem? hxk)
      have hdr := ofS_drop (s := s) hxk
      have he : err s x = 0 := by
        rcases Nat.eq_zero_or_pos (err s x) with h1 | h1
        · exact h1
        · rw [if_neg (by omega), HB.out.of] at hdr
          have := congrArg Prod.snd hdr
          simp only at this
          omega
      rw [if_pos he] at hdr
      have HO2 := Lib.hid (show ofS (s.put x) (l.drop (k + 1)) = (S, 0) by rw [<- hdr, HB.out.of])
      have HOK2 := Lib.hid (HB.out.ok.put he hx2)
      have hpn := put_n s x
      have HPN := Lib.hid hpn
      obtain ⟨ev1, ev2, ev3, ev4⟩ := err_zero he
      have hlen := HB.out.ok.len
      have hn120 := HB.out.ok.n
      have hnk := HB.out.n
      have hwin := HB.out.ok.win
      have hst := HB.out.ok.step
      obtain ⟨b, o, rfl, hb, f0, f1⟩ := (h.below hB).at_ hxk
      have hci : (0 : Int) <= (k : Int) := by omega
      have hci2 : (k : Int) < l.length := by omega
      have HXK := Lib.hid hxk
      have HBX := Lib.hid (ba1 wo (.cells #[.int .i64 x.1, .int .u64 (x.2 : Nat)] 41))
      have HBK := Lib.hid (Blk.new wo #[.int .i64 x.1, .int .u64 (x.2 : Nat)] 41)
      obtain ⟨T, V⟩ := x
      simp only at f0 f1 HBX HBK HXK ev1 ev2 ev3 hx2
      have hx0 : (wo.alloc (.cells #[.int .i64 T, .int .u64 (V : Nat)] 41)).cell? ⟨wo.heap.size, 0, none⟩ = some (.int .i64 T) := HBK.out.cell (i := 0) rfl
      have HC := Lib.hid (show RC w wo.heap.size #[.int .i64 T, .int .u64 (V : Nat)] (wo.alloc (.cells #[.int .i64 T, .int .u64 (V : Nat)] 41)) u3 s.bits from ⟨HB.out.at_.below HBX.out, below_trans hB HBX.out, HBK.out⟩)
      clear hdr hxk he hpn
      by_cases hk0 : (k : Int) <= 0
      · have dk : ((k : Int) == 0) = true := by rw [beq_iff_eq]; omega
        have hs0 : s.n = 0 := by omega
        have HPU := Lib.hid (show s.put (T, V) = ⟨s.bits ++ bitsOf T.toNat 41 ++ bitsOf V 64, 1, T, V, s.step, s.lead, s.wide⟩ by unfold St.put; rw [if_pos hs0])
        obtain ⟨tn, rfl⟩ : ∃ tn : Nat, T = tn := ⟨T.toNat, by omega⟩
        rw [Int.toNat_natCast] at HPU
        have hb0 : s.bits.length = 0 := by omega
        go_wp2_with fail
        refine (refBits_z _ tn rfl 41 _ (by omega) (by omega) (by omega)).mono ?_
        rintro e w2 ⟨v2, rfl, h2, hb2⟩
        rw [show clip 41 = 41 from rfl] at h2
        have HC2 := Lib.hid (HC.out.below hb2)
        have hsr := h2.src
        have hl2 : (bitsOf tn 41).length = 41 := bitsOf_length _ _
        clear hb2 h2
        go_wp2_with (at_builtin; refine wpList_rc rfl (.tmp 25) (.tmp 29) rfl HC2.out rfl rfl hsr (by omega) ?_; intro v3 w3 h3; have HC3 := Lib.hid h3; have x1 := h3.blk.cell (i := 1) rfl; clear h3 hsr hl2 HC2)
        refine (refBits_any V 64 _ (by omega) (by omega) hx2).mono ?_
        rintro e w4 ⟨v4, rfl, h4, hb4⟩
        rw [show clip 64 = 64 from rfl] at h4
        have HC4 := Lib.hid (HC3.out.below hb4)
        have hsr := h4.src
        have hl4 : (bitsOf V 64).length = 64 := bitsOf_length _ _
        have hl2 : (bitsOf tn 41).length = 41 := bitsOf_length _ _
        clear hb4 h4 x1
        go_wp2_with (at_builtin; refine wpList_rc rfl (.tmp 31) (.tmp 34) rfl HC4.out rfl rfl hsr (by rw [List.length_append]; omega) ?_; intro v5 w5 h5; have HC5 := Lib.hid h5; clear h5 hsr hl2 hl4 HC4)
        go_roundw
        case rel =>
          have h1 := HPU.out
          refine ⟨k + 1, s.put (↑tn, V), TO, by omega, by go_num, by rw [h1], by rw [h1], rfl, hto1, hto2, by rw [h1]; exact HTO, ?_⟩
          have h5 := HC5.out
          have hbits : (s.put (↑tn, V)).bits = s.bits ++ bitsOf tn 41 ++ bitsOf V 64 := by rw [h1]
          exact Lib.hid ⟨by rw [hbits]; exact h5.at_, h5.bel, HOK2.out, by rw [HPN.out.1]; omega, by rw [h1]; exact HB.out.win, fun _ => by rw [show k + 1 - 1 = k by omega, HXK.out, HPN.out.2.1, HPN.out.2.2], HO2.out⟩
        case measure => simp [intOf]; omega
      · obtain ⟨j, rfl⟩ : ∃ j, k = j + 1 := ⟨k - 1, by omega⟩
        have hs0 : 0 < s.n := by omega
        have hsT := ev3 hs0
        have hprev := HB.out.prev (by omega)
        rw [show j + 1 - 1 = j by omega] at hprev
        obtain ⟨b', o', he', _, p0, p1⟩ := h.at_ hprev
        injection he' with he'
        injection he' with e1 e2
        subst e1; subst e2
        have hst2 := HB.out.ok.t
        have hsv := HB.out.ok.v
        obtain ⟨st, hstd⟩ : ∃ st, st = s.t := ⟨_, rfl⟩
        obtain ⟨sv, hsvd⟩ : ∃ sv, sv = s.v := ⟨_, rfl⟩
        simp only at p0 p1
        rw [<- hstd] at p0 hst2 hsT
        rw [<- hsvd] at p1 hsv
        obtain ⟨D, hD⟩ : ∃ D : Int, D = T - st := ⟨_, rfl⟩
        obtain ⟨U, hU⟩ : ∃ U : Nat, U = fold (D - s.step) := ⟨_, rfl⟩
        obtain ⟨XV, hXV⟩ : ∃ XV : Nat, XV = V ^^^ sv := ⟨_, rfl⟩
        obtain ⟨K, hK⟩ : ∃ K, K = kind U := ⟨_, rfl⟩
        have hK4 : K <= 4 := by rw [hK]; exact kind_le U
        have hUl : U < 18446744073709551616 := by rw [hU]; exact fold_lt _ (by omega) (by omega)
        have HPU := Lib.hid (show s.put (T, V) = ⟨s.bits ++ (unary (K : Int) 4 ++ bitsOf U (wd K)) ++ valB s.lead s.wide XV, s.n + 1, T, V, D, valL s.lead s.wide XV, valW s.lead s.wide XV⟩ by
          unfold St.put; rw [if_neg (by omega), <- hstd, <- hsvd, hXV, hD, hK, hU, hD]; rfl)
        have HD := Lib.hid (show IntKind.i64.wrap (T - st) = D by rw [IntWalk.i64_in _ ⟨by omega, by omega⟩, hD])
        have HD2 := Lib.hid (show IntKind.i64.wrap (D - s.step) = D - s.step from IntWalk.i64_in _ ⟨by omega, by omega⟩)
        have HX0 := Lib.hid (show bits .xor .u64 (V : Int) (sv : Int) = (XV : Int) by rw [u64_xor_nat V sv hx2 hsv, hXV])
        have hXL : XV < 18446744073709551616 := by rw [hXV]; exact xor_lt hx2 hsv
        have hD1 : 0 < D := by omega
        have hD2 : D <= 1099511627776 := by omega
        have HFO := Lib.hid (fun w => (show Calls Tryz.prog 131 #[.int .i64 (D - s.step)] w fun e w' => e = .returned (.int .u64 (U : Nat)) /\ w = w' by rw [hU]; exact rfold_any _ w (by omega) (by omega)))
        have HFI := Lib.hid (fun q w (hq : q <= 4) => rfits_any U (wd q) w (wd_le q) hUl)
        have HKL := Lib.hid (fun q => kind_lt (k := q) hUl)
        rw [<- hK] at HKL
        clear hD hU hXV hK hstd hsvd hprev
        have hjz : (0 : Int) <= (j : Int) := by omega
        have hjl : (j : Int) < l.length := by omega
        have hwj : IntKind.i64.wrap (j : Int) = (j : Int) := IntWalk.i64_in _ ⟨by omega, by omega⟩
        have djk : ((j : Int) + 1 == 0) = false := by rw [beq_eq_false_iff_ne]; omega
        have HP0 := Lib.hid p0
        have HP1 := Lib.hid p1
        clear p0 p1 hk0
        go_upto_region 11 with fail
        obtain ⟨wA, hwA⟩ : ∃ x : World, x = wo.alloc (.cells #[.int .i64 T, .int .u64 (V : Nat)] 41) := ⟨_, rfl⟩
        rw [<- hwA]
        have HC1 : Hid (RC w wo.heap.size #[.int .i64 T, .int .u64 (V : Nat)] wA u3 s.bits) := by rw [hwA]; exact HC
        have HA := Lib.hid (show Below wo.heap.size wo wA by rw [hwA]; exact HBX.out)
        have hDe := HD.out
        clear hx0 hwA f0 f1 djk
        refine wp_region_known [(1, .int .i64 T), (7, .int .i64 st)] (by kernel_rfl) 133 (by kernel_rfl) rfl ?_
        repeat (first
          | (refine Chain.step (v := ?_) (a' := ?_) rfl rfl rfl ?_ ?_ ?_; rotate_left 2; (focus (intro w; go_simp; try with_reducible rfl)); focus (simp only [Act.put, pqA, pqS, pqZ]; try rfl))
          | (refine Chain.call (a' := ?_) _ rfl rfl rfl (fun wx hw => ?_) ?_ ?_
             rotate_left 1
             focus
               first
               | (have g0 := (HC1.out.below hw).blk.cell (i := 0) rfl
                  have g1 := ((below_trans HC1.out.bel hw).cell (p := ⟨b, o + j * 2, none⟩) (World.block_lt_of_cell? _ _ HP0.out)).trans HP0.out
                  go_simp
                  first | exact ⟨rfl, Below.refl _ _⟩ | exact Below.refl _ _)
             focus (simp only [Act.put, pqA, pqS, pqZ]; try rfl))
          | (refine Chain.skip (a' := ?_) rfl rfl rfl ?_ ?_; rotate_left 1; focus (simp only [Act.put, pqA, pqS, pqZ]; try rfl)))
        refine Chain.end_ (fun wz hwz _ => ?_)
        have HC2 := Lib.hid (HC1.out.below hwz)
        have HZ := Lib.hid (below_trans HA.out hwz)
        have hDe2 := HD2.out
        clear hwz hDe
        go_wp2_with fail
        refine (HFO.out _).mono ?_
        rintro e w' ⟨rfl, rfl⟩
        go_wp2_with fail
        go_loop [11] (fun i => ∃ q : Nat, q <= K /\ i = .int .i64 (q : Int)) (fun i => K - (intOf i).toNat)
        case atStart => exact ⟨0, Nat.zero_le _, rfl⟩
        case round =>
          obtain ⟨q, hq, rfl⟩ := hrel
          by_cases hqK : q < K
          · have hfit : decide (width U <= wd q) = false := decide_eq_false (by have := (HKL.out q).1 hqK; omega)
            have hq4 : q < 4 := by omega
            go_wp2_with fail
            refine (rsize_any q _ (by omega)).mono ?_
            rintro e w' ⟨rfl, rfl⟩
            go_wp2_with fail
            refine (HFI.out q _ (by omega)).mono ?_
            rintro e w' ⟨rfl, rfl⟩
            rw [hfit]
            go_wp2_with fail
            go_round
            case rel => exact ⟨q + 1, by omega, by go_num⟩
            case measure => simp [intOf]; omega
          · obtain rfl : q = K := by omega
            have hfit : decide (width U <= wd q) = true := decide_eq_true ((HKL.out q).2 rfl)
            have HUN := Lib.hid (fun w => refUnary_any (q : Int) 4 w (by omega) (by omega) (by omega) (by omega))
            have HBT := Lib.hid (fun w => (show Calls Tryz.prog 109 #[.int .u64 (U : Int), .int .i64 (wd q : Nat)] w (RetBools w (bitsOf U (wd q))) by
              have := refBits_any U (wd q : Nat) w (by have := wd_le q; omega) (by have := wd_le q; omega) hUl
              rw [show clip ((wd q : Nat) : Int) = wd q from clip_nat _ (wd_le q)] at this
              exact this))
            have hul := ones_len q hK4
            have hwq := wd_le q
            obtain ⟨UN, hUN⟩ : ∃ UN, UN = unary (q : Int) 4 := ⟨_, rfl⟩
            obtain ⟨BU, hBU⟩ : ∃ BU, BU = bitsOf U (wd q) := ⟨_, rfl⟩
            have hbul : BU.length <= 64 := by rw [hBU, bitsOf_length]; exact hwq
            rw [<- hUN] at HUN HPU hul
            rw [<- hBU] at HBT HPU
            clear hUN hBU hq
            have step : ∀ (Q : Prop), (q < 4 -> Q) -> (q = 4 -> Q) -> Q := fun Q h1 h2 => by
              rcases Nat.lt_or_ge q 4 with h | h
              · exact h1 h
              · exact h2 (by omega)
            refine step _ (fun hq4 => ?_) (fun hq4 => ?_)
            focus
              go_wp2_with fail
              refine (rsize_any q _ (by omega)).mono ?_
              rintro e w' ⟨rfl, rfl⟩
              go_wp2_with fail
              refine (HFI.out q _ (by omega)).mono ?_
              rintro e w' ⟨rfl, rfl⟩
              rw [hfit]
              go_wp2_with fail
            rotate_left
            focus
              have dq : decide (q < 4) = false := decide_eq_false (by omega)
              have hq40 : 4 <= q := by omega
              clear hq4
              go_wp2_with fail
            all_goals
              refine (HUN.out _).mono ?_
              rintro e w2 ⟨v2, rfl, h2, hb2⟩
              have HC3 := Lib.hid (HC2.out.below hb2)
              have HZ3 := Lib.hid (below_trans HZ.out hb2)
              have hsr := h2.src
              clear hb2 h2
              go_wp2_with (at_builtin; refine wpList_rc rfl (.tmp 61) (.tmp 63) rfl HC3.out rfl rfl hsr (by omega) ?_; intro v3 w3 h3; have HC4 := Lib.hid h3; clear h3 hsr)
              refine (rsize_any q _ (by omega)).mono ?_
              rintro e w' ⟨rfl, rfl⟩
              go_wp2_with fail
              refine (HBT.out _).mono ?_
              rintro e w4 ⟨v4, rfl, h4, hb4⟩
              have HC5 := Lib.hid (HC4.out.below hb4)
              have hsr := h4.src
              clear hb4 h4
              go_wp2_with (at_builtin; refine wpList_rc rfl (.tmp 65) (.tmp 69) rfl HC5.out rfl rfl hsr (by rw [List.length_append]; omega) ?_; intro v5 w5 h5; have HC6 := Lib.hid h5; clear h5 hsr)
              have hX0 := HX0.out
              refine wp_region_known [(1, .int .u64 (V : Nat)), (7, .int .u64 (sv : Nat))] (by kernel_rfl) 133 (by kernel_rfl) rfl ?_
              repeat (first
                | (refine Chain.step (v := ?_) (a' := ?_) rfl rfl rfl ?_ ?_ ?_; rotate_left 2; (focus (intro w; go_simp; try with_reducible rfl)); focus (simp only [Act.put, pqA, pqS, pqZ]; try rfl))
                | (refine Chain.call (a' := ?_) _ rfl rfl rfl (fun wx hw => ?_) ?_ ?_
                   rotate_left 1
                   focus
                     first
                     | (have g0 := (HC6.out.below hw).blk.cell (i := 1) rfl
                        have g1 := ((below_trans HC6.out.bel hw).cell (p := ⟨b, o + j * 2 + 1, none⟩) (World.block_lt_of_cell? _ _ HP1.out)).trans HP1.out
                        go_simp
                        first | exact ⟨rfl, Below.refl _ _⟩ | exact Below.refl _ _)
                   focus (simp only [Act.put, pqA, pqS, pqZ]; try rfl))
                | (refine Chain.skip (a' := ?_) rfl rfl rfl ?_ ?_; rotate_left 1; focus (simp only [Act.put, pqA, pqS, pqZ]; try rfl)))
              refine Chain.end_ (fun wy hwy _ => ?_)
              obtain ⟨L1, hL1⟩ : ∃ L1, L1 = s.bits ++ UN ++ BU := ⟨_, rfl⟩
              have hl1 : L1.length <= 20000 := by rw [hL1, List.length_append, List.length_append]; omega
              rw [<- hL1] at HC6
              have HL1 := Lib.hid hL1
              have HC7 := Lib.hid (HC6.out.below hwy)
              clear hwy hX0 hL1 HC6 HC5 HC4 HC3 HZ3 HUN HBT HFI HKL
              by_cases hx0 : XV = 0
              · have dx : ((XV : Int) != 0) = false := by rw [hx0]; rfl
                have dx2 : ((XV : Int) == 0) = true := by rw [hx0]; rfl
                have HX00 := Lib.hid hx0
                clear hx0
                go_wp2_with (at_builtin; refine wpList_rc1 rfl (.tmp 80) (.tmp 83) rfl HC7.out rfl rfl (by omega) ?_; intro v8 w8 h8; have HC8 := Lib.hid h8; clear h8)
                go_roundw
                case rel =>
                  have h1 := HPU.out
                  have hx0 := HX00.out
                  have hv1 : valB s.lead s.wide XV = [false] := by unfold valB; rw [if_pos hx0]
                  have hv2 : valL s.lead s.wide XV = s.lead := by unfold valL; rw [if_pos (.inl hx0)]
                  have hv3 : valW s.lead s.wide XV = s.wide := by unfold valW; rw [if_pos (.inl hx0)]
                  rw [hv1, hv2, hv3] at h1
                  refine ⟨j + 1 + 1, s.put (T, V), TO, by omega, by go_num, by rw [h1], by rw [h1], rfl, hto1, hto2, by rw [h1]; exact HTO, ?_⟩
                  have h8 := HC8.out
                  have hbits : (s.put (T, V)).bits = L1 ++ [false] := by rw [h1, HL1.out]; simp only [List.append_assoc]
                  exact Lib.hid ⟨by rw [hbits]; exact h8.at_, h8.bel, HOK2.out, by rw [HPN.out.1]; omega, by rw [h1]; exact HB.out.win, fun _ => by rw [show j + 1 + 1 - 1 = j + 1 by omega, HXK.out, HPN.out.2.1, HPN.out.2.2], HO2.out⟩
                case measure => simp [intOf]; omega
              · have dx : ((XV : Int) != 0) = true := by rw [bne_iff_ne]; omega
                have dx2 : ((XV : Int) == 0) = false := by rw [beq_eq_false_iff_ne]; omega
                have hxp : 0 < XV := by omega
                obtain ⟨t1, t2, t3⟩ := tz_spec XV hxp
                have hwx := width_le XV hXL
                obtain ⟨WX, hWX⟩ : ∃ WX, WX = width XV := ⟨_, rfl⟩
                obtain ⟨TZ, hTZ⟩ : ∃ TZ, TZ = tz XV := ⟨_, rfl⟩
                rw [<- hWX] at t3 hwx
                rw [<- hTZ] at t3
                obtain ⟨AZ, hAZ⟩ : ∃ AZ, AZ = 64 - WX := ⟨_, rfl⟩
                obtain ⟨BZ, hBZ⟩ : ∃ BZ, BZ = 63 - TZ := ⟨_, rfl⟩
                have HZR := Lib.hid (fun w => (show Calls Tryz.prog 134 #[.int .u64 (XV : Int)] w (RetBelow w (.int .i64 (AZ : Nat))) by rw [hAZ, hWX]; exact rzeros_any XV w hxp hXL))
                have HLA := Lib.hid (fun w => (show Calls Tryz.prog 135 #[.int .u64 (XV : Int)] w (RetBelow w (.int .i64 (BZ : Nat))) by rw [hBZ, hTZ]; exact rlast_any XV w hxp hXL))
                have hab : AZ <= BZ := by omega
                have hb63 : BZ <= 63 := by omega
                have HFW := Lib.hid (show fitW s.lead s.wide XV ↔ 0 < s.wide /\ s.lead <= AZ /\ 63 - BZ >= 64 - s.lead - s.wide by unfold fitW; rw [<- hWX, <- hTZ]; omega)
                have HNW := Lib.hid (show 64 - width XV = AZ /\ width XV - tz XV - 1 = BZ - AZ /\ width XV - tz XV = BZ - AZ + 1 /\ tz XV = 63 - BZ by rw [<- hWX, <- hTZ]; omega)
                clear t1 t2 t3 hwx hWX hTZ hAZ hBZ hx0
                go_wp2_with (at_builtin; refine wpList_rc1 rfl (.tmp 80) (.tmp 83) rfl HC7.out rfl rfl (by omega) ?_; intro v8 w8 h8; have HC8 := Lib.hid h8; clear h8)
                refine (HZR.out _).mono ?_
                rintro e w9 ⟨rfl, hb9⟩
                have HC9 := Lib.hid (HC8.out.below hb9)
                clear hb9
                go_wp2_with fail
                refine (HLA.out _).mono ?_
                rintro e w10 ⟨rfl, hb10⟩
                have HC10 := Lib.hid (HC9.out.below hb10)
                clear hb10 dx dx2 HC9 HC8 HC7
                by_cases hfit : fitW s.lead s.wide XV
                · obtain ⟨f1, f2, f3⟩ := HFW.out.1 hfit
                  have hTOe := HTO.out
                  have d1 : decide (TO < 0) = false := decide_eq_false (by omega)
                  have d2 : decide (AZ < s.lead) = false := decide_eq_false (by omega)
                  have hTOn : ∃ n : Nat, TO = n := ⟨TO.toNat, by omega⟩
                  obtain ⟨TN, rfl⟩ := hTOn
                  have HTN := Lib.hid (show TN + 1 = s.lead + s.wide by omega)
                  have hln : s.lead <= TN + 1 := by omega
                  have hl64 : s.lead < 64 := by omega
                  have hHX : Hid (s.wide ≠ 0) := Lib.hid (by omega)
                  have d3 : decide (TN < BZ) = false := decide_eq_false (by omega)
                  clear hTOe f1 f2 f3
                  go_wp2_with (at_builtin; refine wpList_rc1 rfl (.tmp 120) (.tmp 121) rfl HC10.out rfl rfl (by simp only [List.length_append, List.length_singleton]; omega) ?_; intro v11 w11 h11; have HC11 := Lib.hid h11; clear h11)
                  refine (refBits_any XV 64 _ (by omega) (by omega) hXL).mono ?_
                  rintro e w12 ⟨v12, rfl, h12, hb12⟩
                  rw [show clip 64 = 64 from rfl] at h12
                  have HC12 := Lib.hid (HC11.out.below hb12)
                  obtain ⟨b12, o12, c12, rfl, _, hc12, hcell12, _⟩ := Buf.at_ h12.buf (by rw [bitsOf_length]; omega)
                  rw [bitsOf_length] at hc12 hcell12 ⊢
                  clear hb12 h12
                  have hsr := part_src (c := c12 - s.lead) hcell12 s.lead (TN + 1 - s.lead) (by have := HTN.out; omega)
                  obtain ⟨PB, hPB⟩ : ∃ PB, PB = bitsOf (XV / 2 ^ (64 - s.lead - (TN + 1 - s.lead))) (TN + 1 - s.lead) := ⟨_, rfl⟩
                  have hpl : PB.length <= 64 := by rw [hPB, bitsOf_length]; omega
                  rw [<- hPB] at hsr
                  have HPB := Lib.hid hPB
                  clear hPB hcell12
                  go_wp2_with (at_builtin; refine wpList_rc rfl (.tmp 123) (.tmp 129) rfl HC12.out rfl rfl hsr (by simp only [List.length_append, List.length_singleton]; omega) ?_; intro v13 w13 h13; have HC13 := Lib.hid h13; clear h13 hsr)
                  go_roundw
                  case rel =>
                    have h1 := HPU.out
                    have htn := HTN.out
                    have hwd : s.wide = TN + 1 - s.lead := by omega
                    have hv1 : valB s.lead s.wide XV = [true] ++ ([false] ++ PB) := by unfold valB; rw [if_neg (by omega), if_pos hfit, HPB.out, <- hwd]
                    have hv2 : valL s.lead s.wide XV = s.lead := by unfold valL; rw [if_pos (.inr hfit)]
                    have hv3 : valW s.lead s.wide XV = s.wide := by unfold valW; rw [if_pos (.inr hfit)]
                    rw [hv1, hv2, hv3] at h1
                    refine ⟨j + 1 + 1, s.put (T, V), (TN : Int), by omega, by go_num, by rw [h1], by rw [h1], rfl, hto1, hto2, by rw [h1]; exact HTO, ?_⟩
                    have h13 := HC13.out
                    have hbits : (s.put (T, V)).bits = L1 ++ [true] ++ [false] ++ PB := by rw [h1, HL1.out]; simp only [List.append_assoc]
                    exact Lib.hid ⟨by rw [hbits]; exact h13.at_, h13.bel, HOK2.out, by rw [HPN.out.1]; omega, by rw [h1]; exact HB.out.win, fun _ => by rw [show j + 1 + 1 - 1 = j + 1 by omega, HXK.out, HPN.out.2.1, HPN.out.2.2], HO2.out⟩
                  case measure => simp [intOf]; omega
                · have hor : TO < 0 \/ (0 <= TO /\ AZ < s.lead) \/ (0 <= TO /\ s.lead <= AZ /\ TO < (BZ : Int)) := by
                    have hTOe := HTO.out
                    have hn : ¬ (0 < s.wide /\ s.lead <= AZ /\ 63 - BZ >= 64 - s.lead - s.wide) := fun h => hfit (HFW.out.2 h)
                    have hwin0 : s.wide ≠ 0 \/ s.lead = 0 := by rcases Nat.eq_zero_or_pos s.wide with h | h; exact .inr (HB.out.win h); exact .inl (by omega)
                    omega
                  have HNF := Lib.hid hfit
                  obtain ⟨CZ, hCZ⟩ : ∃ CZ, CZ = BZ - AZ := ⟨_, rfl⟩
                  have hcz : (BZ : Int) - (AZ : Int) = (CZ : Int) := by omega
                  have hcz6 : CZ <= 63 := by omega
                  have HNW2 := Lib.hid (show BZ + 1 - AZ = CZ + 1 by omega)
                  have haz : AZ < 64 := by omega
                  have HAC := Lib.hid (show AZ + (CZ + 1) <= 64 by omega)
                  have HTB := Lib.hid (show 63 - BZ = 64 - AZ - (BZ - AZ + 1) by omega)
                  clear hfit
                  have cases3 : ∀ Q : Prop, (decide (TO < 0) = true -> Q) -> (decide (TO < 0) = false -> decide (AZ < s.lead) = true -> Q) -> (decide (TO < 0) = false -> decide (AZ < s.lead) = false -> decide (TO < (BZ : Int)) = true -> Q) -> Q := fun Q c1 c2 c3 => by
                    rcases hor with g | ⟨g1, g2⟩ | ⟨g1, g2, g3⟩
                    · exact c1 (decide_eq_true g)
                    · exact c2 (decide_eq_false (by omega)) (decide_eq_true g2)
                    · exact c3 (decide_eq_false (by omega)) (decide_eq_false (by omega)) (decide_eq_true g3)
                  clear hor
                  refine cases3 _ (fun d1 => ?_) (fun d1 d2 => ?_) (fun d1 d2 d3 => ?_)
                  all_goals
                    clear cases3
                    go_wp2_with (at_builtin; refine wpList_rc1 rfl (.tmp 105) (.tmp 106) rfl HC10.out rfl rfl (by simp only [List.length_append, List.length_singleton]; omega) ?_; intro v11 w11 h11; have HC11 := Lib.hid h11; clear h11)
                    refine (refBits_any AZ 6 _ (by omega) (by omega) (by omega)).mono ?_
                    rintro e w12 ⟨v12, rfl, h12, hb12⟩
                    rw [show clip 6 = 6 from rfl] at h12
                    have HC12 := Lib.hid (HC11.out.below hb12)
                    have hsr := h12.src
                    have hl6 : (bitsOf AZ 6).length = 6 := bitsOf_length _ _
                    clear hb12 h12
                    go_wp2_with (at_builtin; refine wpList_rc rfl (.tmp 108) (.tmp 111) rfl HC12.out rfl rfl hsr (by simp only [List.length_append, List.length_singleton]; omega) ?_; intro v13 w13 h13; have HC13 := Lib.hid h13; clear h13 hsr hl6)
                    refine (refBits_z _ CZ (by first | rfl | omega) 6 _ (by omega) (by omega) (by omega)).mono ?_
                    rintro e w14 ⟨v14, rfl, h14, hb14⟩
                    rw [show clip 6 = 6 from rfl] at h14
                    have HC14 := Lib.hid (HC13.out.below hb14)
                    have hsr := h14.src
                    have hl6 : (bitsOf CZ 6).length = 6 := bitsOf_length _ _
                    have hl6' : (bitsOf AZ 6).length = 6 := bitsOf_length _ _
                    clear hb14 h14
                    go_wp2_with (at_builtin; refine wpList_rc rfl (.tmp 113) (.tmp 118) rfl HC14.out rfl rfl hsr (by simp only [List.length_append, List.length_singleton]; omega) ?_; intro v15 w15 h15; have HC15 := Lib.hid h15; clear h15 hsr hl6 hl6')
                    refine (refBits_any XV 64 _ (by omega) (by omega) hXL).mono ?_
                    rintro e w16 ⟨v16, rfl, h16, hb16⟩
                    rw [show clip 64 = 64 from rfl] at h16
                    have HC16 := Lib.hid (HC15.out.below hb16)
                    obtain ⟨b16, o16, c16, rfl, _, hc16, hcell16, _⟩ := Buf.at_ h16.buf (by rw [bitsOf_length]; omega)
                    rw [bitsOf_length] at hc16 hcell16 ⊢
                    clear hb16 h16
                    have hsr := part_src (c := c16 - AZ) hcell16 AZ (BZ - AZ + 1) (by omega)
                    obtain ⟨PB, hPB⟩ : ∃ PB, PB = bitsOf (XV / 2 ^ (64 - AZ - (BZ - AZ + 1))) (BZ - AZ + 1) := ⟨_, rfl⟩
                    have hpl : PB.length <= 64 := by rw [hPB, bitsOf_length]; omega
                    have hl6 : (bitsOf CZ 6).length = 6 := bitsOf_length _ _
                    have hl6' : (bitsOf AZ 6).length = 6 := bitsOf_length _ _
                    rw [<- hPB] at hsr
                    have HPB := Lib.hid hPB
                    have hnw2 := HNW2.out
                    clear hPB hcell16
                    go_wp2_with (at_builtin; refine wpList_rc rfl (.tmp 123) (.tmp 129) rfl HC16.out rfl rfl hsr (by simp only [List.length_append, List.length_singleton]; omega) ?_; intro v17 w17 h17; have HC17 := Lib.hid h17; clear h17 hsr)
                    go_roundw
                    case rel =>
                      have h1 := HPU.out
                      obtain ⟨n1, n2, n3, n4⟩ := HNW.out
                      have hv1 : valB s.lead s.wide XV = [true] ++ ([true] ++ (bitsOf AZ 6 ++ (bitsOf CZ 6 ++ PB))) := by
                        unfold valB; rw [if_neg (by omega), if_neg HNF.out, n1, n2, n3, n4, HPB.out, HTB.out, hCZ]
                      have hv2 : valL s.lead s.wide XV = AZ := by unfold valL; rw [if_neg (fun h => h.elim (by omega) HNF.out), n1]
                      have hv3 : valW s.lead s.wide XV = CZ + 1 := by unfold valW; rw [if_neg (fun h => h.elim (by omega) HNF.out), n3, <- hCZ]
                      rw [hv1, hv2, hv3] at h1
                      refine ⟨j + 1 + 1, s.put (T, V), (BZ : Int), by omega, by go_num, by rw [h1], by rw [h1], rfl, by omega, by omega, Lib.hid (by rw [h1]; show (BZ : Int) = (AZ : Nat) + ((CZ + 1 : Nat) : Int) - 1; omega), ?_⟩
                      have h17 := HC17.out
                      have hbits : (s.put (T, V)).bits = L1 ++ [true] ++ [true] ++ bitsOf AZ 6 ++ bitsOf CZ 6 ++ PB := by rw [h1, HL1.out]; simp only [List.append_assoc]
                      exact Lib.hid ⟨by rw [hbits]; exact h17.at_, h17.bel, HOK2.out, by rw [HPN.out.1]; omega, by rw [h1]; exact fun h => absurd h (by show ¬ (CZ + 1 = 0); omega), fun _ => by rw [show j + 1 + 1 - 1 = j + 1 by omega, HXK.out, HPN.out.2.1, HPN.out.2.2], HO2.out⟩
                    case measure => simp [intOf]; omega
    · obtain rfl : k = l.length := by omega
      have hof := HB.out.of
      rw [List.drop_length] at hof
      have hsS : s = S := congrArg Prod.fst (show (s, 0) = (S, 0) from hof)
      subst hsS
      go_wp2_with fail
      go_ret
      exact ⟨_, rfl, HB.out.at_, HB.out.below⟩

theorem ofS_n {l : List Sm} {s S : St} (h : ofS s l = (S, 0)) : S.n = s.n + l.length := by
  induction l generalizing s with
  | nil => rw [ofS] at h; injection h with h; rw [<- h]; rfl
  | cons x l ih =>
    rw [ofS] at h
    split at h
    · rw [ih h, (put_n s x).1, List.length_cons]; omega
    · injection h with _ h; omega

theorem xtext_any (l : List Sm) (v : Value) (w : World) (S : St) (h : SmsAt w v l) (hS : ofS St.zero l = (S, 0)) (hx : ∀ x ∈ l, x.2 < 18446744073709551616) :
    Calls Tryz.prog 90 #[v] w (RetBelow w (.string (bs (text S)))) := by
  have hSn := ofS_n hS
  have hok := ofS_ok l St.zero St.zero_ok hx
  rw [hS] at hok
  have hn := hok.n
  have hlen := hok.len
  have HBI := Lib.hid (fun w' (hb : Below w.heap.size w w') => rbits_any l v w' S (h.below hb) hS hx)
  have HT := Lib.hid (show text S = u S.n ++ (u S.bits.length ++ pack S.bits) from rfl)
  obtain ⟨B, hB⟩ : ∃ B, B = S.bits := ⟨_, rfl⟩
  rw [<- hB] at hlen HBI HT
  have hln : l.length = S.n := by rw [hSn]; simp [St.zero]
  obtain ⟨A, c, rfl, hlc, hcm⟩ := h.shape
  unfold maxLen at hcm
  have hul1 := u_len S.n (by omega)
  have hul2 := u_len B.length (by omega)
  have hpl := pack_length B
  have hb1 : B.length <= 18000 := by omega
  have HU1 := Lib.hid (fun W => refUint_any S.n W (by omega))
  have HU2 := Lib.hid (fun W => refUint_any B.length W (by omega))
  have HPK := Lib.hid (fun v W (hb : Buf W 4 1 v B.length (bls B)) => bitText_any v B W (by omega) hb)
  rw [HT.out]
  obtain ⟨U1, hU1⟩ : ∃ x, x = u S.n := ⟨_, rfl⟩
  obtain ⟨U2, hU2⟩ : ∃ x, x = u B.length := ⟨_, rfl⟩
  obtain ⟨PK, hPK⟩ : ∃ x, x = pack B := ⟨_, rfl⟩
  have hpl : PK.length <= 20000 := by rw [hPK]; omega
  rw [<- hU1] at hul1 HU1
  rw [<- hU2] at hul2 HU2
  rw [<- hPK] at HPK
  rw [<- hU1, <- hU2, <- hPK]
  clear hS hok hSn hB hx hU1 hU2 hPK HT
  have HU1 : Hid (∀ W, Calls Tryz.prog 51 #[.int .u64 (l.length : Int)] W (RetBelow W (.string (bs U1)))) := Lib.hid (fun W => by rw [hln]; exact HU1.out W)
  have hl120 : l.length <= 120 := by rw [hln]; exact hn
  clear hln
  go_enter Tryz.func90, Tryz.ntmps90
  go_wp2_with fail
  refine (HBI.out _ (Below.refl _ _)).mono ?_
  rintro e w1 ⟨v1, rfl, hat, hb1⟩
  obtain ⟨A1, c1, rfl, hc1⟩ := hat.buf.shape
  have HAT := Lib.hid hat
  have HB1 := Lib.hid hb1
  clear hat hb1
  go_wp2_with fail
  refine (HU1.out _).mono ?_
  rintro e w2 ⟨rfl, hb2⟩
  have HB2 := Lib.hid hb2
  clear hb2
  go_wp2_with fail
  refine (HU2.out _).mono ?_
  rintro e w3 ⟨rfl, hb3⟩
  have HB3 := Lib.hid (below_trans HB2.out hb3)
  have HAT3 := Lib.hid (HAT.out.below HB3.out)
  clear hb3
  go_wp2_with fail
  refine (HPK.out _ _ HAT3.out.buf).mono ?_
  rintro e w4 ⟨rfl, hb4⟩
  have HB4 := Lib.hid (below_trans HB1.out (below_trans HB3.out hb4))
  clear hb4
  go_wp2_with fail
  go_ret
  exact ⟨rfl, HB4.out⟩

end Go.Proofs.YtgabmfibfikdbaaGreatDoor

namespace Go.Proofs.YtgabmfibfikdbaaGreatDoor
open Go.RowKit Go.Bar Go.Bar.Leb Go.Bar.Frm Go.Bar.Idt Go.Bar.Met

structure TkAt (w : World) (b : Nat) (s : List UInt8) (e : Nat) : Prop where
 c0 : w.cell? ⟨b, 0, none⟩ = some (.string (bs s))
 c1 : w.cell? ⟨b, 1, none⟩ = some (.int .i64 e)
 f0 : w.frozen? ⟨b, 0, none⟩ = false
 f1 : w.frozen? ⟨b, 1, none⟩ = false
theorem TkAt.below {w w' : World} {b : Nat} {s : List UInt8} {e : Nat} (h : TkAt w b s e) (hb : Below w.heap.size w w') : TkAt w' b s e := by
 have hlt := World.block_lt_of_cell? _ _ h.c0
 exact ⟨(hb.cell (p := ⟨b, 0, none⟩) hlt).trans h.c0, (hb.cell (p := ⟨b, 1, none⟩) hlt).trans h.c1, (hb.frozen (p := ⟨b, 0, none⟩) hlt).trans h.f0, (hb.frozen (p := ⟨b, 1, none⟩) hlt).trans h.f1⟩
theorem TkAt.box (w : World) (T : TypeId) (s : List UInt8) (e : Nat) : TkAt (w.alloc (.cells #[.string (bs s), .int .i64 e] T)) w.heap.size s e :=
 ⟨by rw [World.cell?_alloc_new]; rfl, by rw [World.cell?_alloc_new]; rfl, by simp only [World.frozen?, heap_alloc_new]; rfl, by simp only [World.frozen?, heap_alloc_new]; rfl⟩
def TkFr (b : Nat) (w w' : World) : Prop := Fr (fun k _ => k = b) w w'
theorem TkFr.below {w0 w1 w2 : World} {b : Nat} (h : TkFr b w1 w2) (hb : Below w0.heap.size w0 w1) (hbk : w0.heap.size <= b) : Below w0.heap.size w0 w2 :=
 hb.trans (Fr.below h hb.size (fun k i hk hS => by subst hS; omega))

end Go.Proofs.YtgabmfibfikdbaaGreatDoor

namespace Go.Proofs.YtgabmfibfikdbaaGreatDoor
open Go.RowKit Go.Bar Go.Bar.Leb Go.Bar.Frm Go.Bar.Idt Go.Bar.Met

theorem file_ty : ElemTy Tryz.prog 50 86 (.agg #[.string ByteArray.empty, .int .i64 0, .int .u32 0]) 3 32 :=
 ⟨Tryz.underlying50, info_parts (show (Tryz.prog.info? 86).map (fun i => (i.zero, i.size, i.bytes)) = some (some (.agg #[.string ByteArray.empty, .int .i64 0, .int .u32 0]), 3, 32) by kernel_rfl), rfl⟩

theorem blk_ne {b M i j : Nat} (h : b ≠ M) : (⟨b, i, none⟩ : Addr) ≠ ⟨M, j, none⟩ := fun e => h (Addr.mk.inj e).1
theorem TkAt.set {w : World} {b : Nat} {s : List UInt8} {e : Nat} (h : TkAt w b s e) {M : Nat} (hM : b ≠ M) (i : Nat) (v : Value) : TkAt (w.setCell ⟨M, i, none⟩ v) b s e :=
 ⟨(World.cell?_setCell_other w _ _ v (by first | exact blk_ne hM | exact (blk_ne hM).symm)).trans h.c0, (World.cell?_setCell_other w _ _ v (by first | exact blk_ne hM | exact (blk_ne hM).symm)).trans h.c1, by rw [World.frozen?_setCell]; exact h.f0, by rw [World.frozen?_setCell]; exact h.f1⟩
theorem TkAt.belowB {w w' : World} {b : Nat} {s : List UInt8} {e : Nat} (h : TkAt w b s e) {B : Nat} (hb : Below B w w') (hlt : b < B) : TkAt w' b s e :=
 ⟨(hb.cell (p := ⟨b, 0, none⟩) hlt).trans h.c0, (hb.cell (p := ⟨b, 1, none⟩) hlt).trans h.c1, (hb.frozen (p := ⟨b, 0, none⟩) hlt).trans h.f0, (hb.frozen (p := ⟨b, 1, none⟩) hlt).trans h.f1⟩

structure TS (w wr : World) (b : Nat) (s : List UInt8) (e : Nat) (cur : Array Value) : Prop where
 tk : TkAt wr b s e
 fr : TkFr b w wr
 res : Blk wr w.heap.size 53 #[.string ByteArray.empty, .int .i64 0, .int .i64 0, .int .i64 0, .int .i64 0, .int .i64 0, .slice none 0 0, .slice none 0 0]
 blk : Blk wr (w.heap.size + 1) 53 cur
 blt : b < w.heap.size
section
variable {w wr w2 : World} {b : Nat} {s s' : List UInt8} {e e' : Nat} {cur : Array Value}
theorem TS.step (h : TS w wr b s e cur) (hk : TkAt w2 b s' e') (hf : TkFr b wr w2) : TS w w2 b s' e' cur :=
 ⟨hk, Fr.trans h.fr hf, h.res.fr hf (fun i hi => absurd hi (by have := h.blt; omega)), h.blk.fr hf (fun i hi => absurd hi (by have := h.blt; omega)), h.blt⟩
theorem TS.below (h : TS w wr b s e cur) (hb : Below wr.heap.size wr w2) : TS w w2 b s e cur :=
 ⟨h.tk.below hb, Fr.then_below h.fr hb, h.res.below hb, h.blk.below hb, h.blt⟩
theorem TS.alloc (h : TS w wr b s e cur) (o : Obj) : TS w (wr.alloc o) b s e cur := h.below ((Below.refl _ _).alloc (Nat.le_refl _) o)
theorem TS.drew (h : TS w wr b s e cur) : TS w wr.drew b s e cur := h.below (Below.refl _ _).drew
theorem TS.set (h : TS w wr b s e cur) (i : Nat) (v : Value) : TS w (wr.setCell ⟨w.heap.size + 1, i, none⟩ v) b s e (cur.setIfInBounds i v) :=
 ⟨h.tk.set (by have := h.blt; omega) i v, Fr.setCell h.fr (fun hk => by omega) v, h.res.other (by omega) i v, h.blk.set i v, h.blt⟩
theorem TS.ap {ee : TypeId} {sz n : Nat} {v : Value} {xs : List Value} (h : TS w wr b s e cur) (hb : FBuf w wr ee sz v n xs) (ha : Ap wr w2 sz v) (hne : ee ≠ 53) : TS w w2 b s e cur := by
 have hB := hb.belowB h.fr.size ha
 exact ⟨h.tk.belowB hB h.blt, h.fr.then_belowB hB ha.size, h.res.ap hb.buf ha hne, h.blk.ap hb.buf ha hne, h.blt⟩
end

structure TE (w wr : World) (b : Nat) (s : List UInt8) (e : Nat) (fv sv : Value) (fs : List Fl) (ss : List (List UInt8)) : Prop where
 tk : TkAt wr b s e
 fr : TkFr b w wr
 res : ∃ c, Blk wr w.heap.size 53 c
 blt : b < w.heap.size
 fb : FBuf w wr 86 3 fv fs.length (fcs fs)
 sb : FBuf w wr 9 1 sv ss.length (scs ss)
theorem TE.set {w wr : World} {b : Nat} {s : List UInt8} {e : Nat} {fv sv : Value} {fs : List Fl} {ss : List (List UInt8)} (h : TE w wr b s e fv sv fs ss) (i : Nat) (v : Value) : TE w (wr.setCell ⟨w.heap.size, i, none⟩ v) b s e fv sv fs ss := by
 obtain ⟨c, hc⟩ := h.res
 exact ⟨h.tk.set (by have := h.blt; omega) i v, Fr.setCell h.fr (fun hk => by omega) v, ⟨_, hc.set i v⟩, h.blt, h.fb.set_ne hc (by decide) i v, h.sb.set_ne hc (by decide) i v⟩

theorem fcs_snoc (fs : List Fl) (f : Fl) : fcs (fs ++ [f]) = fcs fs ++ [.string (bs f.name), .int .i64 f.size, .int .u32 f.sum] := by simp [fcs]

end Go.Proofs.YtgabmfibfikdbaaGreatDoor

namespace Go.Proofs.YtgabmfibfikdbaaGreatDoor
open Go.RowKit Go.Bar Go.Bar.Leb Go.Bar.Frm Go.Bar.Idt Go.Bar.Met

def S2 (B : Nat) : Nat -> Nat -> Prop := fun k _ => k = B \/ k = B + 1
theorem S2.below {B : Nat} : ∀ k i, k < B -> ¬ S2 B k i := fun k i hk h => by rcases h with h | h <;> omega

end Go.Proofs.YtgabmfibfikdbaaGreatDoor

namespace Go.Proofs.YtgabmfibfikdbaaGreatDoor
open Go.RowKit Go.Bar Go.Bar.Leb Go.Bar.Frm Go.Bar.Idt Go.Bar.Met

theorem frR_set {w w' : World} {B : Nat} (h : TkFr B w w') (i : Nat) (v : Value) : TkFr B w (w'.setCell ⟨B, i, none⟩ v) := Fr.setCell h (fun _ => rfl) v

end Go.Proofs.YtgabmfibfikdbaaGreatDoor
