/-
  Layer 3: the walks of the document's answer (barographref03).
-/
import Derived.Test.YtmoocomlcbalbaaDoorBitA
namespace Go.Proofs.YtmoocomlcbalbaaDoor
open Go.RowKit Go.Bar Go.Bar.Bit

theorem bools_ty : ElemTy Tryd.prog 64 4 (.bool false) 1 1 :=
  ⟨Tryd.underlying64, info_parts (show (Tryd.prog.info? 4).map (fun i => (i.zero, i.size, i.bytes)) = some (some (.bool false), 1, 1) by kernel_rfl), rfl⟩

/-- truths as cells -/
def bls (l : List Bool) : List Value := l.map .bool
theorem bls_length (l : List Bool) : (bls l).length = l.length := List.length_map _
theorem bls_one (l : List Bool) : ∀ u ∈ bls l, u.oneCell' = true := by
  intro u hu
  obtain ⟨x, _, rfl⟩ := List.mem_map.1 hu
  rfl
/-- a list of truths, in memory of the call's own -/
structure BoolsAt (B : Nat) (w : World) (v : Value) (l : List Bool) : Prop where
  buf : Buf w 4 1 v l.length (bls l)
  new : ∀ k, v.ownBlock = some k → B ≤ k
/-- the call returned a list of truths, and nothing that was there has turned -/
def RetBools (W : World) (l : List Bool) (en : Ending) (w' : World) : Prop := ∃ v, en = .returned v ∧ BoolsAt W.heap.size w' v l ∧ Below W.heap.size W w'
theorem BoolsAt.below {B : Nat} {w w' : World} {v : Value} {l : List Bool} (h : BoolsAt B w v l) (hb : Below w.heap.size w w') : BoolsAt B w' v l := ⟨h.buf.below hb, h.new⟩
theorem BoolsAt.alloc {B : Nat} {w : World} {v : Value} {l : List Bool} (h : BoolsAt B w v l) (o : Obj) : BoolsAt B (w.alloc o) v l := ⟨h.buf.alloc o, h.new⟩
theorem BoolsAt.empty {B : Nat} {w : World} (h : B ≤ w.heap.size) : BoolsAt B (w.alloc (.cells #[] 4)) (.slice (some ⟨w.heap.size, 0, none⟩) 0 0) [] :=
  ⟨Buf.lit w 4 1 0 [] rfl (by decide), fun k hk => by simp [Value.ownBlock] at hk; omega⟩

/-- append(out, x): one truth more -/
theorem wpList_bool_more {ops : Array Oper} {rest : List Oper} {o : Oper} {a : Act} {Q : Exit → Act → World → Prop} {w : World} (hgd : o.guard = none) (s x : Operand)
    (ho : o.op = .call { callee := .builtin .append, args := #[s, x], argTypes := #[64, 64] })
    {B : Nat} {W : World} (hbl : Below B W w) (hB : B ≤ w.heap.size) {v : Value} {l : List Bool} {y : Bool} (hv : a.eval s = v) (h : BoolsAt B w v l) (hx : a.eval x = .slice (some ⟨w.heap.size, 0, none⟩) 1 1) (hlen : l.length < 100000000000)
    (K : ∀ v' w', BoolsAt B w' v' (l ++ [y]) → Below B W w' → B ≤ w'.heap.size → wpList Tryd.prog ops Q rest (a.put o.dst v') w') : wpList Tryd.prog ops Q (o :: rest) a (w.alloc (.cells #[.bool y] 4)) := by
  refine wpList_append_el hgd s x 64 64 ho bools_ty hv (h.buf.alloc _) hx ((Buf.lit w 4 1 1 [.bool y] rfl (by decide)).src (t := 64) Tryd.underlying64 (by intro u hu; simp at hu; subst hu; rfl)) (by simp only [maxLen]; omega) (by omega) ?_
  intro v' w' hb ha hg
  have hs : B ≤ (w.alloc (.cells #[.bool y] 4)).heap.size := by simp; omega
  have hb2 : Below B W w' := (hbl.alloc hB _).trans ((Below.refl B _).grown ha.grownBy hs (fun k hk => h.new k hk))
  refine K v' w' ⟨?_, hg.new hs h.new⟩ hb2 (Nat.le_trans hs ha.size)
  rw [List.length_append]
  have : bls (l ++ [y]) = bls l ++ [.bool y] := by simp [bls]
  rw [this]
  exact hb

/-- append([]bool{y}, out...): one truth ahead -/
theorem wpList_bool_front {ops : Array Oper} {rest : List Oper} {o : Oper} {a : Act} {Q : Exit → Act → World → Prop} {w : World} (hgd : o.guard = none) (s x : Operand)
    (ho : o.op = .call { callee := .builtin .append, args := #[s, x], argTypes := #[64, 64] })
    {B : Nat} {W : World} (hbl : Below B W w) (hB : B ≤ w.heap.size) {v : Value} {l : List Bool} {y : Bool} (hv : a.eval x = v) (h : BoolsAt B w v l) (hx : a.eval s = .slice (some ⟨w.heap.size, 0, none⟩) 1 1) (hlen : l.length < 100000000000)
    (K : ∀ v' w', BoolsAt B w' v' (y :: l) → Below B W w' → B ≤ w'.heap.size → wpList Tryd.prog ops Q rest (a.put o.dst v') w') : wpList Tryd.prog ops Q (o :: rest) a (w.alloc (.cells #[.bool y] 4)) := by
  refine wpList_append_el hgd s x 64 64 ho bools_ty hx (Buf.lit w 4 1 1 [.bool y] rfl (by decide)) hv ((h.buf.alloc _).src (t := 64) Tryd.underlying64 (bls_one l)) (by simp only [maxLen]; omega) (by omega) ?_
  intro v' w' hb ha hg
  have hs : B ≤ (w.alloc (.cells #[.bool y] 4)).heap.size := by simp; omega
  have hn : ∀ k, (Value.slice (some ⟨w.heap.size, 0, none⟩) 1 1).ownBlock = some k → B ≤ k := fun k hk => by simp [Value.ownBlock] at hk; omega
  have hb2 : Below B W w' := (hbl.alloc hB _).trans ((Below.refl B _).grown ha.grownBy hs hn)
  refine K v' w' ⟨?_, hg.new hs hn⟩ hb2 (Nat.le_trans hs ha.size)
  rw [List.length_cons, Nat.add_comm]
  exact hb

set_option maxHeartbeats 400000 in
set_option maxRecDepth 10000 in
theorem refBits_any (u : Nat) (n : Int) (W : World) (hn1 : -9223372036854775808 ≤ n) (hn2 : n ≤ 9223372036854775807) (hu : u < 18446744073709551616) :
    Calls Tryd.prog 46 #[.int .u64 u, .int .i64 n] W (RetBools W (bitsOf u (clip n))) := by
  have hcl := clip_le n
  obtain ⟨m, hm1, hm2⟩ : ∃ m : Nat, m = clip n ∧ (m : Int) = min (max n 0) 64 := ⟨clip n, rfl, by unfold clip; omega⟩
  rw [← hm1] at hcl ⊢
  have hA1 : (m : Int) ≤ max n 0 := by omega
  have hA3 : max n 0 ≤ (m : Int) ∨ 64 ≤ (m : Int) := by omega
  clear hm1 hm2
  rcases (show n < 0 ∨ 0 ≤ n ∧ n ≤ 64 ∨ 64 < n by omega) with hc | hc | hc
  all_goals
    go_enter Tryd.func46, Tryd.ntmps46
    go_wp2_with fail
    go_loopw [0, 5, 6] (fun x v i wr => ∃ (k c : Nat), k ≤ m ∧ c < 18446744073709551616 ∧ x = .int .u64 c ∧ c = u / 2 ^ k ∧ i = .int .i64 k ∧ BoolsAt W.heap.size wr v (bitsOf u k) ∧ Below W.heap.size W wr ∧ W.heap.size ≤ wr.heap.size) (fun _ _ i _ => m - (intOf i).toNat)
    case atStart => exact ⟨0, u, Nat.zero_le _, hu, rfl, by simp, rfl, BoolsAt.empty (Nat.le_refl _), (Below.refl _ _).alloc (Nat.le_refl _) _, by simp⟩
    case round =>
      obtain ⟨k, c, hk, hc2, rfl, hcu, rfl, hat, hbl, hsz⟩ := hrel
      have HC := Lib.hid hcu
      have HA := Lib.hid hat
      clear hcu hat
      by_cases h0 : k < m
      · first
        | (exfalso; omega)
        | (go_wp2_with (at_builtin; refine wpList_bool_front rfl (.tmp 19) (.tmp 20) rfl hbl hsz rfl HA.out rfl (by rw [bitsOf_length]; omega) ?_; intro v' w' hat' hbl' hsz'; have HB := Lib.hid hat'; clear hat' HA)
           go_roundw
           case rel =>
             refine ⟨k + 1, c / 2, by omega, by omega, by go_num, ?_, by go_num, ?_, hbl', hsz'⟩
             · rw [HC.out, Nat.pow_succ, Nat.div_div_eq_div_mul]
             · have := HB.out
               have e : ((c : Int) % 2 == 1) = (u / 2 ^ k % 2 == 1) := by rw [← HC.out, Bool.eq_iff_iff, beq_iff_eq, beq_iff_eq]; omega
               rw [e] at this
               exact this
           case measure => simp [intOf]; omega)
      · go_wp2_with fail
        go_ret
        obtain rfl : k = m := by omega
        exact ⟨_, rfl, HA.out, hbl⟩

set_option maxHeartbeats 400000 in
set_option maxRecDepth 10000 in
theorem refUnary_any (n most : Int) (W : World) (hn1 : -9223372036854775808 ≤ n) (hn2 : n ≤ 9223372036854775807) (hm1 : -9223372036854775808 ≤ most) (hm2 : most ≤ 100000) :
    Calls Tryd.prog 53 #[.int .i64 n, .int .i64 most] W (RetBools W (unary n most)) := by
  have hcl : ones n most ≤ 100000 := by unfold ones; omega
  obtain ⟨m, hm3, hm4⟩ : ∃ m : Nat, m = ones n most ∧ (m : Int) = min (max n 0) (max most 0) := ⟨ones n most, rfl, by unfold ones; omega⟩
  have hun : unary n most = List.replicate m true ++ if (m : Int) < most then [false] else [] := by rw [hm3]; rfl
  have HU := Lib.hid hun
  rw [← hm3] at hcl
  have hA1 : (m : Int) ≤ max n 0 := by omega
  have hA2 : (m : Int) ≤ max most 0 := by omega
  have hA3 : max n 0 ≤ (m : Int) ∨ max most 0 ≤ (m : Int) := by omega
  clear hm3 hm4 hun
  go_enter Tryd.func53, Tryd.ntmps53
  go_wp2_with fail
  go_loopw [5, 6] (fun v i wr => ∃ (k : Nat), k ≤ m ∧ i = .int .i64 k ∧ BoolsAt W.heap.size wr v (List.replicate k true) ∧ Below W.heap.size W wr ∧ W.heap.size ≤ wr.heap.size) (fun _ i _ => m - (intOf i).toNat)
  case atStart => exact ⟨0, Nat.zero_le _, rfl, BoolsAt.empty (Nat.le_refl _), (Below.refl _ _).alloc (Nat.le_refl _) _, by simp⟩
  case round =>
    obtain ⟨k, hk, rfl, hat, hbl, hsz⟩ := hrel
    have HA := Lib.hid hat
    clear hat
    by_cases h0 : k < m
    · have h1 : (k : Int) < n := by omega
      have h2 : (k : Int) < most := by omega
      go_wp2_with (at_builtin; refine wpList_bool_more rfl (.tmp 18) (.tmp 19) rfl hbl hsz rfl HA.out rfl (by rw [List.length_replicate]; omega) ?_; intro v' w' hat' hbl' hsz'; have HB := Lib.hid hat'; clear hat' HA)
      go_roundw
      case rel => exact ⟨k + 1, by omega, by go_num, by rw [List.replicate_succ']; exact HB.out, hbl', hsz'⟩
      case measure => simp [intOf]; omega
    · obtain rfl : k = m := by omega
      obtain ⟨A, c, rfl, _⟩ := Buf.shape HA.out.buf
      rw [List.length_replicate] at HA ⊢
      by_cases hlt : (k : Int) < most
      · have h1 : n ≤ (k : Int) := by omega
        go_wp2_with (at_builtin; refine wpList_bool_more rfl (.tmp 25) (.tmp 26) rfl hbl hsz rfl HA.out rfl (by rw [List.length_replicate]; omega) ?_; intro v' w' hat' hbl' hsz'; have HB := Lib.hid hat'; clear hat' HA)
        all_goals
          go_ret
          refine ⟨_, rfl, ?_, hbl'⟩
          rw [HU.out, if_pos (by omega)]
          exact HB.out
      · go_wp2_with fail
        all_goals
          go_ret
          refine ⟨_, rfl, ?_, hbl⟩
          rw [HU.out, if_neg (by omega), List.append_nil]
          exact HA.out

set_option maxHeartbeats 1000000 in
set_option maxRecDepth 10000 in
theorem bitText_any (v : Value) (l : List Bool) (W : World) (hn : l.length ≤ 100000) (hb : Buf W 4 1 v l.length (bls l)) :
    Calls Tryd.prog 39 #[v] W (RetBelow W (.string (bs (pack l)))) := by
  rcases Nat.eq_zero_or_pos l.length with h0 | h0
  · obtain rfl : l = [] := List.eq_nil_of_length_eq_zero h0
    obtain ⟨A, c, rfl, _⟩ := Buf.shape hb
    clear h0 hn hb
    go_enter Tryd.func39, Tryd.ntmps39
    go_wp2_with fail
    go_loopw [3, 4] (fun s i wr => s = .string (bs []) ∧ i = .int .i64 0 ∧ wr = W) (fun _ _ _ => 0)
    case atStart => exact ⟨rfl, rfl, rfl⟩
    case round =>
      obtain ⟨rfl, rfl, rfl⟩ := hrel
      go_wp2_with fail
      go_ret
      exact ⟨rfl, Below.refl _ _⟩
  · obtain ⟨b, o, c, rfl, hbl0, hc, hcell, _⟩ := Buf.at_ hb h0
    have hcell' : ∀ k, k < l.length → W.cell? ⟨b, o + k, none⟩ = some (.bool (l.getD k false)) := fun k hk => by
      rw [hcell k hk]
      simp [bls, List.getD, List.getElem?_eq_getElem hk]
    clear hcell hb
    go_enter Tryd.func39, Tryd.ntmps39
    go_wp2_with fail
    go_loopw [3, 4, 5, 6] (fun s i _ _ wr => ∃ q : Nat, q ≤ (l.length + 7) / 8 ∧ s = .string (bs ((pack l).take q)) ∧ i = .int .i64 ((8 * q : Nat) : Int) ∧ Below W.heap.size W wr) (fun _ i _ _ _ => l.length + 8 - (intOf i).toNat)
    case atStart => exact ⟨0, Nat.zero_le _, rfl, rfl, Below.refl _ _⟩
    case round =>
      obtain ⟨q, hq, rfl, rfl, hbl⟩ := hrel
      obtain ⟨wo, rfl⟩ : ∃ wo : World, wo = wr := ⟨_, rfl⟩
      have hpl := pack_length l
      have htl : ((pack l).take q).length ≤ 100000 := by rw [List.length_take]; omega
      by_cases h1 : 8 * q < l.length
      · go_wp2_with fail
        go_loop [5, 6] (fun x k => ∃ j : Nat, j ≤ 8 ∧ x = .int .i64 (vb l (8 * q) j : Nat) ∧ k = .int .i64 ((8 * q + j : Nat) : Int)) (fun _ k => 8 * q + 8 - (intOf k).toNat)
        case atStart => exact ⟨0, by omega, rfl, rfl⟩
        case round =>
          obtain ⟨j, hj, rfl, rfl⟩ := hrel
          have hvl := vb_lt l (8 * q) j
          have hvp : 2 ^ j ≤ 2 ^ 8 := Nat.pow_le_pow_right (by omega) hj
          obtain ⟨x, hx⟩ : ∃ x, x = vb l (8 * q) j := ⟨_, rfl⟩
          rw [← hx] at hvl ⊢
          have hxl : x < 256 := by omega
          have HX := Lib.hid hx
          clear hx hvl hvp
          by_cases hj8 : j < 8
          · by_cases hk : 8 * q + j < l.length
            · have hcx : wo.cell? ⟨b, o + (8 * q + j), none⟩ = some (.bool (l.getD (8 * q + j) false)) := by rw [hbl.cell (p := ⟨b, _, none⟩) hbl0]; exact hcell' _ hk
              cases hgd : l.getD (8 * q + j) false
              all_goals
                rw [hgd] at hcx
                have HG := Lib.hid hgd
                clear hgd
                go_wp2_with fail
                go_round
                case rel => exact ⟨j + 1, by omega, by rw [vb, ← HX.out, HG.out]; go_num, by go_num⟩
                case measure => simp [intOf]; omega
            · have hgd : l.getD (8 * q + j) false = false := by simp [List.getD, List.getElem?_eq_none (show l.length ≤ 8 * q + j by omega)]
              have HG := Lib.hid hgd
              clear hgd
              go_wp2_with fail
              go_round
              case rel => exact ⟨j + 1, by omega, by rw [vb, ← HX.out, HG.out]; go_num, by go_num⟩
              case measure => simp [intOf]; omega
          · obtain rfl : j = 8 := by omega
            rw [vb_byte] at HX
            have hc1 := fun w => conv_one bbytes_ty 9 Tryd.underlying9 w (x : Int) (byteAt l q) (by rw [← HX.out])
            go_wp2_with fail
            go_roundw
            case rel => exact ⟨q + 1, by omega, by rw [pack_take l q (by omega)], by go_num, hbl.alloc hbl.size _⟩
            case measure => simp [intOf]; omega
      · go_wp2_with fail
        go_ret
        rw [List.take_of_length_le (by rw [hpl]; omega)]
        exact ⟨rfl, hbl⟩

end Go.Proofs.YtmoocomlcbalbaaDoor
