/-
  Layer 14: tables under construction; the walks of the reference's Put and Add.
-/
import Derived.Test.YtjklcojnbcemoaaGreatDoorZRws
import Derived.Test.YtjklcojnbcemoaaGreatDoorZCut
import Derived.Test.YtjklcojnbcemoaaGreatDoorZLib25
import Derived.Test.YtjklcojnbcemoaaGreatDoorZLib9
import Derived.Deep.CutRange

namespace Go.Proofs.YtjklcojnbcemoaaGreatDoor
open Go.RowKit Go.Bar Go.Bar.Leb Go.Bar.Lab Go.Bar.Xor Go.Bar.Mrg

/-- a row whose slices were there at B, or are the call's own since W0 -/
def Deep (B W0 w : World) (Tp : TypeId) (x : Rv) : Prop := (PsAt B (.slice x.la x.ls.length x.lc) x.ls ∨ NBuf W0 w Tp 2 (.slice x.la x.ls.length x.lc) x.ls.length (pcs x.ls)) ∧ (SmsAt B (.slice x.sa x.ss.length x.sc) x.ss ∨ NBuf W0 w 42 2 (.slice x.sa x.ss.length x.sc) x.ss.length (smc x.ss))
/-- a table of such rows in a buffer that is new since W -/
structure DTb (B W0 W w : World) (T Tp : TypeId) (v : Value) (t : List Rv) : Prop where
  n : NBuf W w T 2 v t.length (rcs t)
  b : Below W0.heap.size W0 W
  d : ∀ x ∈ t, Deep B W0 w Tp x
section
variable {B W0 W w w' : World} {T Tp : TypeId} {v : Value} {t : List Rv} {x : Rv}
theorem nbuf_ke {Ts : TypeId → Prop} {e : TypeId} {sz n : Nat} {u : Value} {xs : List Value} (h : NBuf W0 w e sz u n xs) (hk : Ke Ts w w') (hb : Below W0.heap.size W0 w') (h1 : ¬ Ts e) : NBuf W0 w' e sz u n xs := ⟨hk.buf h.buf h1, hb, h.new⟩
theorem Deep.ke {Ts : TypeId → Prop} (h : Deep B W0 w Tp x) (hk : Ke Ts w w') (hb : Below W0.heap.size W0 w') (h1 : ¬ Ts Tp) (h2 : ¬ Ts 42) : Deep B W0 w' Tp x := ⟨h.1.imp id fun h => nbuf_ke h hk hb h1, h.2.imp id fun h => nbuf_ke h hk hb h2⟩
theorem Deep.below (h : Deep B W0 w Tp x) (hb : Below w.heap.size w w') : Deep B W0 w' Tp x := ⟨h.1.imp id fun h => h.then_below hb, h.2.imp id fun h => h.then_below hb⟩
theorem Deep.rat (h : Deep B W0 w Tp x) (hb : Below B.heap.size B w) : RAt w x := ⟨h.1.elim (fun h => h.below hb) fun h => h.slice, h.2.elim (fun h => h.below hb) fun h => h.slice⟩
theorem Deep.of (h : RAt B x) (W0 w : World) (Tp : TypeId) : Deep B W0 w Tp x := ⟨.inl h.1, .inl h.2⟩
theorem Deep.after {W1 : World} (h : Deep B W0 w Tp x) (hb : Below W1.heap.size W1 W0) : Deep B W1 w Tp x := ⟨h.1.imp id fun h => h.after hb, h.2.imp id fun h => h.after hb⟩
theorem DTb.below (h : DTb B W0 W w T Tp v t) (hb : Below w.heap.size w w') : DTb B W0 W w' T Tp v t := ⟨h.n.then_below hb, h.b, fun x hx => (h.d x hx).below hb⟩
theorem DTb.rtb (h : DTb B W0 W w T Tp v t) (hb : Below B.heap.size B W) : RTb W w T v t := ⟨h.n, fun x hx => (h.d x hx).rat (below_trans hb h.n.below)⟩
theorem DTb.after {W1 : World} (h : DTb B W0 W w T Tp v t) (hb : Below W1.heap.size W1 W) (h0 : Below W0.heap.size W0 W1) : DTb B W0 W1 w T Tp v t := ⟨h.n.after hb, h0, h.d⟩
theorem DTb.nil (hb : Below W.heap.size W w) (h0 : Below W0.heap.size W0 W) (T Tp : TypeId) : DTb B W0 W w T Tp (.slice none 0 0) [] := ⟨NBuf.nil hb _ _, h0, fun x hx => by cases hx⟩
theorem DTb.snoc {wa w2 : World} {v2 : Value} (h : DTb B W0 W wa T Tp v t) (hx : Deep B W0 wa Tp x) (hn : NBuf W w2 T 2 v2 (t.length + 1) (rcs t ++ encR x)) (ha : Ap wa w2 2 v) (h1 : Tp ≠ T) (h2 : 42 ≠ T) : DTb B W0 W w2 T Tp v2 (t ++ [x]) := by
  have hk : Ke (fun U => U = T) wa w2 := Ke.of_ap h.n.buf ha rfl
  have hb := below_trans h.b hn.below
  refine ⟨?_, h.b, fun y hy => ?_⟩
  · rw [List.length_append, rcs_app]
    have e : rcs [x] = encR x := List.append_nil _
    rw [e]
    exact hn
  · rcases List.mem_append.1 hy with hy | hy
    · exact (h.d y hy).ke hk hb h1 h2
    · obtain rfl := List.mem_singleton.1 hy
      exact hx.ke hk hb h1 h2
end

/-- samples in a buffer of the call's own -/
def RetSm (w : World) (l : List Sm) (e : Ending) (w' : World) : Prop := ∃ v, e = .returned v ∧ NBuf w w' 42 2 v l.length (smc l)
theorem nbuf_own {W w : World} {e : TypeId} {sz n : Nat} {v : Value} {xs : List Value} (h : NBuf W w e sz v n xs) (hn : 0 < n) : ∀ k, v.ownBlock = some k → k < w.heap.size := h.lt hn
theorem blk_ap {w w' : World} {M : Nat} {T : TypeId} {cur : Array Value} (h : Blk w M T cur) {sz : Nat} {v : Value} (ha : Ap w w' sz v) (hne : v.ownBlock ≠ some M) : Blk w' M T cur :=
  (ha.grownBy.block M h.lt (fun e => hne e.symm)).trans h

/-- the samples put so far -/
def putG (s : Sm) : Bool → List Sm → List Sm
  | true, l => l
  | false, l => putS l s
theorem putG_true (s : Sm) (x : Sm) (r : List Sm) : putG s true (x :: r) = x :: putG s true r := rfl
theorem putG_eq {s x : Sm} (r : List Sm) (h : x.1 = s.1) : putG s false (x :: r) = x :: putG s true r := by
  show (if x.1 = s.1 then x :: r else _) = _
  rw [if_pos h]; rfl
theorem putG_lt {s x : Sm} (r : List Sm) (h : s.1 < x.1) : putG s false (x :: r) = s :: x :: putG s true r := by
  show (if x.1 = s.1 then x :: r else if s.1 < x.1 then s :: x :: r else _) = _
  rw [if_neg (by omega), if_pos h]; rfl
theorem putG_gt {s x : Sm} (r : List Sm) (h : x.1 < s.1) : putG s false (x :: r) = x :: putG s false r := by
  show (if x.1 = s.1 then x :: r else if s.1 < x.1 then s :: x :: r else x :: putS r s) = _
  rw [if_neg (by omega), if_neg (by omega)]; rfl

set_option maxHeartbeats 8000000 in
set_option maxRecDepth 10000 in
theorem rput_any (v : Value) (l : List Sm) (s : Sm) (w : World) (h : SmsAt w v l) (hl : l.length ≤ 1000000) :
    Calls Tryz.prog 44 #[v, .agg #[.int .i64 s.1, .int .u64 (s.2 : Nat)]] w (RetSm w (putS l s)) := by
  obtain ⟨A, c, rfl, hlc, hcm⟩ := h.shape
  unfold maxLen at hcm
  obtain ⟨R, hR⟩ : ∃ R, R = putS l s := ⟨_, rfl⟩
  rw [← hR]
  obtain ⟨W, hW⟩ : ∃ W, W = w.alloc (.cells #[.int .i64 s.1, .int .u64 (s.2 : Nat)] 42) := ⟨_, rfl⟩
  have hbW : Below w.heap.size w W := by rw [hW]; exact below_alloc1 _ _
  have hbox : Blk W w.heap.size 42 #[.int .i64 s.1, .int .u64 (s.2 : Nat)] := by rw [hW]; exact Blk.new _ _ _
  have HS := Lib.hid h
  have HR := Lib.hid hR
  have HBW := Lib.hid hbW
  have HBX := Lib.hid hbox
  have hWs : W.heap.size = w.heap.size + 1 := by rw [hW]; simp
  have hn0 := NBuf.lit0 (Below.refl W.heap.size W) 42 2
  rw [hWs] at hn0
  have HN0 := Lib.hid hn0
  have HWS := Lib.hid hWs
  clear h hR hbW hbox hn0 hWs
  go_enter Tryz.func44, Tryz.ntmps44
  go_wp2_with fail
  rw [← hW]
  clear hW
  go_loopw [5, 6, 12] (fun d f i wr => ∃ (k : Nat) (b : Bool) (O : List Sm), k ≤ l.length ∧ i = .int .i64 k ∧ f = .bool b ∧ O.length ≤ k + b.toNat ∧ Hid (NBuf W wr 42 2 d O.length (smc O)) ∧ Hid (∀ q, d.ownBlock = some q → q < wr.heap.size) ∧ Hid (R = O ++ putG s b (l.drop k))) (fun _ _ i _ => l.length - (intOf i).toNat)
  case atStart => exact ⟨0, false, [], Nat.zero_le _, rfl, rfl, Nat.zero_le _, HN0, Lib.hid (fun q hq => by simp [Value.ownBlock] at hq; subst hq; simp [HWS.out]), Lib.hid HR.out⟩
  case round =>
    obtain ⟨k, b, O, hk, rfl, rfl, hO, HNB, HOW, HRR⟩ := hrel
    obtain ⟨fA, fc, rfl, hfc⟩ := HNB.out.buf.shape
    have hbw := HNB.out.below
    obtain ⟨c0, c1⟩ := (HBX.out.below hbw).c2
    clear HN0 HR
    by_cases hgo : k < l.length
    · obtain ⟨x, hx⟩ : ∃ x, l[k]? = some x := ⟨_, List.getElem?_eq_getElem hgo⟩
      obtain ⟨xb, xo, rfl, _, x0, x1⟩ := (HS.out.below (below_trans HBW.out hbw)).at_ hx
      have hdr : l.drop k = x :: l.drop (k + 1) := by
        obtain ⟨hlt, he⟩ := List.getElem?_eq_some_iff.1 hx
        rw [List.drop_eq_getElem_cons hlt, he]
      have hrr := HRR.out
      rw [hdr] at hrr
      have HX := Lib.hid hx
      have hbx : Below w.heap.size w (wr.alloc (.cells #[.int .i64 x.1, .int .u64 (x.2 : Nat)] 42)) := below_trans (below_trans HBW.out hbw) (below_alloc1 _ _)
      obtain ⟨d0, d1⟩ := (HBX.out.below (below_trans hbw (below_alloc1 wr (.cells #[.int .i64 x.1, .int .u64 (x.2 : Nat)] 42)))).c2
      have HXB := Lib.hid (Blk.new wr #[.int .i64 x.1, .int .u64 (x.2 : Nat)] 42)
      have HNX := Lib.hid (HNB.out.alloc (.cells #[.int .i64 x.1, .int .u64 (x.2 : Nat)] 42))
      have HNE := Lib.hid (fun (q : Nat) (h : (Value.slice fA O.length fc).ownBlock = some q) => Nat.ne_of_lt (HOW.out q h))
      clear hdr hx
      have hcase : (b = true ∧ x.1 = s.1) ∨ (b = true ∧ x.1 ≠ s.1) ∨ (b = false ∧ x.1 = s.1) ∨ (b = false ∧ s.1 < x.1) ∨ (b = false ∧ x.1 < s.1) := by
        cases b
        · rcases Int.lt_trichotomy x.1 s.1 with h1 | h1 | h1
          · exact .inr (.inr (.inr (.inr ⟨rfl, h1⟩)))
          · exact .inr (.inr (.inl ⟨rfl, h1⟩))
          · exact .inr (.inr (.inr (.inl ⟨rfl, h1⟩)))
        · by_cases h1 : x.1 = s.1
          · exact .inl ⟨rfl, h1⟩
          · exact .inr (.inl ⟨rfl, h1⟩)
      have hO2 : O.length ≤ k + 1 := by cases b <;> simp at hO <;> omega
      rcases hcase with ⟨rfl, hc⟩ | ⟨rfl, hc⟩ | ⟨rfl, hc⟩ | ⟨rfl, hc⟩ | ⟨rfl, hc⟩
      case inl =>
        rw [putG_true] at hrr
        have HR2 := Lib.hid hrr
        clear hrr HRR
        have he : (x.1 == s.1) = true := by rw [beq_iff_eq]; exact hc
        clear hc
        go_wp2_with (at_builtin; refine wpList_append_nlit rfl (.tmp 34) (.tmp 36) 48 rfl sm_ty rfl HNX.out rfl (by simp) rfl (by simp [Value.oneCell']) (by simp only [maxLen]; omega) (by omega) ?_; intro v3 w3 hn3 _; have HN3 := Lib.hid hn3; clear hn3)
        go_roundw
        case rel => exact ⟨k + 1, true, O ++ [x], by omega, by go_num, rfl, by simp at hO ⊢; omega, by rw [List.length_append, smc_snoc]; exact HN3, Lib.hid (HN3.out.lt (by omega)), Lib.hid (by rw [HR2.out, List.append_assoc]; rfl)⟩
        case measure => simp [intOf]; omega
      case inr.inl =>
        rw [putG_true] at hrr
        have HR2 := Lib.hid hrr
        clear hrr HRR
        have he : (x.1 == s.1) = false := by rw [beq_eq_false_iff_ne]; omega
        go_wp2_with (at_builtin; refine wpList_append_nlit rfl (.tmp 34) (.tmp 36) 48 rfl sm_ty rfl HNX.out rfl (by simp) rfl (by simp [Value.oneCell']) (by simp only [maxLen]; omega) (by omega) ?_; intro v3 w3 hn3 _; have HN3 := Lib.hid hn3; clear hn3)
        go_roundw
        case rel => exact ⟨k + 1, true, O ++ [x], by omega, by go_num, rfl, by simp at hO ⊢; omega, by rw [List.length_append, smc_snoc]; exact HN3, Lib.hid (HN3.out.lt (by omega)), Lib.hid (by rw [HR2.out, List.append_assoc]; rfl)⟩
        case measure => simp [intOf]; omega
      case inr.inr.inl =>
        rw [putG_eq _ hc] at hrr
        have HR2 := Lib.hid hrr
        clear hrr HRR
        have he : (x.1 == s.1) = true := by rw [beq_iff_eq]; exact hc
        clear hc
        go_wp2_with (at_builtin; refine wpList_append_nlit rfl (.tmp 34) (.tmp 36) 48 rfl sm_ty rfl HNX.out rfl (by simp) rfl (by simp [Value.oneCell']) (by simp only [maxLen]; omega) (by omega) ?_; intro v3 w3 hn3 _; have HN3 := Lib.hid hn3; clear hn3)
        go_roundw
        case rel => exact ⟨k + 1, true, O ++ [x], by omega, by go_num, rfl, by simp at hO ⊢; omega, by rw [List.length_append, smc_snoc]; exact HN3, Lib.hid (HN3.out.lt (by omega)), Lib.hid (by rw [HR2.out, List.append_assoc]; rfl)⟩
        case measure => simp [intOf]; omega
      case inr.inr.inr.inr =>
        rw [putG_gt _ hc] at hrr
        have HR2 := Lib.hid hrr
        clear hrr HRR
        have he : (x.1 == s.1) = false := by rw [beq_eq_false_iff_ne]; omega
        have hd : decide (s.1 < x.1) = false := decide_eq_false (by omega)
        go_wp2_with (at_builtin; refine wpList_append_nlit rfl (.tmp 34) (.tmp 36) 48 rfl sm_ty rfl HNX.out rfl (by simp) rfl (by simp [Value.oneCell']) (by simp only [maxLen]; omega) (by omega) ?_; intro v3 w3 hn3 _; have HN3 := Lib.hid hn3; clear hn3)
        go_roundw
        case rel => exact ⟨k + 1, false, O ++ [x], by omega, by go_num, rfl, by simp at hO ⊢; omega, by rw [List.length_append, smc_snoc]; exact HN3, Lib.hid (HN3.out.lt (by omega)), Lib.hid (by rw [HR2.out, List.append_assoc]; rfl)⟩
        case measure => simp [intOf]; omega
      case inr.inr.inr.inl =>
        rw [putG_lt _ hc] at hrr
        have HR2 := Lib.hid hrr
        clear hrr HRR
        have he : (x.1 == s.1) = false := by rw [beq_eq_false_iff_ne]; omega
        have hd : decide (s.1 < x.1) = true := decide_eq_true hc
        go_wp2_with (at_builtin; first | (refine wpList_append_nlit rfl (.tmp 30) (.tmp 32) 48 rfl sm_ty rfl HNX.out rfl (by simp) rfl (by simp [Value.oneCell']) (by simp only [maxLen]; omega) (by omega) ?_; intro v3 w3 hn3 ha3; have hx3 := (blk_ap (HXB.out.alloc _) ha3 (fun e => HNE.out _ e rfl)).c2; have HN3 := Lib.hid (show NBuf W w3 42 2 v3 (O ++ [s]).length (smc (O ++ [s])) by rw [List.length_append, smc_snoc]; exact hn3); obtain ⟨y0, y1⟩ := hx3; clear hn3 ha3) | (refine wpList_append_nlit rfl (.tmp 34) (.tmp 36) 48 rfl sm_ty rfl HN3.out rfl (by simp) rfl (by simp [Value.oneCell']) (by simp only [maxLen, List.length_append, List.length_cons, List.length_nil]; omega) (by simp only [List.length_append, List.length_cons, List.length_nil]; omega) ?_; intro v4 w4 hn4 _; have HN4 := Lib.hid hn4; clear hn4))
        go_roundw
        case rel => exact ⟨k + 1, true, O ++ [s] ++ [x], by omega, by go_num, rfl, by simp at hO ⊢; omega, by rw [List.length_append, smc_snoc]; exact HN4, Lib.hid (HN4.out.lt (by omega)), Lib.hid (by rw [HR2.out, List.append_assoc, List.append_assoc]; rfl)⟩
        case measure => simp [intOf]; omega
    · obtain rfl : k = l.length := by omega
      have hrr := HRR.out
      rw [List.drop_length] at hrr
      have hO2 : O.length ≤ l.length + 1 := by cases b <;> simp at hO <;> omega
      rcases b with _ | _
      · have hrr : R = O ++ [s] := hrr
        have HR2 := Lib.hid hrr
        clear hrr HRR
        go_wp2_with (at_builtin; refine wpList_append_nlit rfl (.tmp 41) (.tmp 43) 48 rfl sm_ty rfl HNB.out rfl (by simp) rfl (by simp [Value.oneCell']) (by simp only [maxLen]; omega) (by omega) ?_; intro v3 w3 hn3 _; have HN3 := Lib.hid hn3; clear hn3)
        go_ret
        exact ⟨_, rfl, by rw [HR2.out, List.length_append, smc_snoc]; exact HN3.out.after HBW.out⟩
      · have hrr : R = O := by rw [hrr]; exact List.append_nil _
        have HR2 := Lib.hid hrr
        clear hrr HRR
        go_wp2_with fail
        go_ret
        exact ⟨_, rfl, by rw [HR2.out]; exact HNB.out.after HBW.out⟩
end Go.Proofs.YtjklcojnbcemoaaGreatDoor

/-
  Layer 14: the walk of the reference's Add.
-/
namespace Go.Proofs.YtjklcojnbcemoaaGreatDoor
open Go.RowKit Go.Bar Go.Bar.Leb Go.Bar.Lab Go.Bar.Xor Go.Bar.Mrg

theorem nbuf_lit {W w : World} (hb : Below W.heap.size W w) (e : TypeId) (sz k : Nat) (news : List Value) (hl : news.length = k * sz) (hk : k ≤ maxLen) : NBuf W (w.alloc (.cells news.toArray e)) e sz (.slice (some ⟨w.heap.size, 0, none⟩) k k) k news :=
  ⟨Buf.lit w e sz k news hl hk, hb.alloc hb.size _, fun q hq => by simp [Value.ownBlock] at hq; subst hq; exact hb.size⟩
section
variable {B W0 W w : World} {T Tp : TypeId} {v : Value} {t : List Rv} {X : Nat} {cur : Array Value}
/-- a store into a block of the table's own type that is another one -/
theorem DTb.setX (h : DTb B W0 W w T Tp v t) (hX : Blk w X T cur) (hW : W.heap.size ≤ X) (hv : v.ownBlock ≠ some X) (h1 : Tp ≠ T) (h2 : 42 ≠ T) (i : Nat) (u : Value) : DTb B W0 W (w.setCell ⟨X, i, none⟩ u) T Tp v t := by
  have hk : Ke (fun U => U = T) w (w.setCell ⟨X, i, none⟩ u) := Ke.of_set (Ts := fun U => U = T) hX rfl i u
  have hb : Below W0.heap.size W0 (w.setCell ⟨X, i, none⟩ u) := (below_trans h.b h.n.below).setCell (p := ⟨X, i, none⟩) (Nat.le_trans h.b.size hW) _
  exact ⟨h.n.set_blk hW hv i u, h.b, fun x hx => (h.d x hx).ke hk hb h1 h2⟩
end
/-- a call that hands back such a table -/
def RetDt (B W0 w : World) (T Tp : TypeId) (R : List Row) (e : Ending) (w' : World) : Prop := ∃ v t, e = .returned v ∧ DTb B W0 w w' T Tp v t ∧ t.map plR = R
section
variable {L : List Pr} {s : Sm} {r : Row} {R : List Row}
theorem addG_t0 (h : cmpL L r.1 = 0) : addG L s true (r :: R) = (r.1, putS r.2 s) :: addG L s true R := by
  show (if cmpL L r.1 = 0 then _ else r) :: _ = _
  rw [if_pos h]
theorem addG_t1 (h : ¬ cmpL L r.1 = 0) : addG L s true (r :: R) = r :: addG L s true R := by
  show (if cmpL L r.1 = 0 then _ else r) :: _ = _
  rw [if_neg h]
theorem addG_f0 (h : cmpL L r.1 = 0) : addG L s false (r :: R) = (r.1, putS r.2 s) :: addG L s true R := by
  show (if cmpL L r.1 = 0 then _ else _ : List Row) = _
  rw [if_pos h]
theorem addG_f1 (h : cmpL L r.1 < 0) : addG L s false (r :: R) = (L, [s]) :: r :: addG L s true R := by
  show (if cmpL L r.1 = 0 then _ else if cmpL L r.1 < 0 then _ else _ : List Row) = _
  rw [if_neg (by omega), if_pos h]
theorem addG_f2 (h : 0 < cmpL L r.1) : addG L s false (r :: R) = r :: addG L s false R := by
  show (if cmpL L r.1 = 0 then _ else if cmpL L r.1 < 0 then _ else _ : List Row) = _
  rw [if_neg (by omega), if_neg (by omega)]
end

set_option maxHeartbeats 16000000 in
set_option maxRecDepth 10000 in
theorem radd_any (B W0 : World) (v lv : Value) (t : List Rv) (L : List Pr) (s : Sm) (w : World) (h : TbAt w v t) (hL : PsAt w lv L) (hB0 : Below W0.heap.size W0 w) (hd : ∀ x ∈ t, Deep B W0 w 105 x) (hLd : PsAt B lv L ∨ NBuf W0 w 105 2 lv L.length (pcs L)) (hl : t.length ≤ 1000000) (hs : ∀ x ∈ t, x.ss.length ≤ 1000000) :
    Calls Tryz.prog 23 #[v, lv, .agg #[.int .i64 s.1, .int .u64 (s.2 : Nat)]] w (RetDt B W0 w 88 105 (addR (t.map plR) L s)) := by
  obtain ⟨A, c, rfl, hlc, hcm⟩ := h.shape
  obtain ⟨LA, Lc, rfl, hLc, hLm⟩ := hL.shape
  unfold maxLen at hcm hLm
  obtain ⟨R, hR⟩ : ∃ R, R = addR (t.map plR) L s := ⟨_, rfl⟩
  rw [← hR]
  obtain ⟨W, hW⟩ : ∃ W, W = w.alloc (.cells #[.int .i64 s.1, .int .u64 (s.2 : Nat)] 42) := ⟨_, rfl⟩
  have hbW : Below w.heap.size w W := by rw [hW]; exact below_alloc1 _ _
  have hbox : Blk W w.heap.size 42 #[.int .i64 s.1, .int .u64 (s.2 : Nat)] := by rw [hW]; exact Blk.new _ _ _
  have HT := Lib.hid (h.below hbW)
  have HPL := Lib.hid hL
  have HT0 := Lib.hid h
  have HB0 := Lib.hid hB0
  have HDP := Lib.hid hd
  have HLD := Lib.hid hLd
  have HR := Lib.hid hR
  have HBW := Lib.hid hbW
  have HBX := Lib.hid hbox
  have HSL := Lib.hid hs
  have hWs : W.heap.size = w.heap.size + 1 := by rw [hW]; simp
  have hn0 := NBuf.lit0 (Below.refl W.heap.size W) 88 2
  rw [hWs] at hn0
  have HN0 : Hid (DTb B W0 W (W.alloc (.cells #[] 88)) 88 105 (.slice (some ⟨w.heap.size + 1, 0, none⟩) 0 0) []) := Lib.hid ⟨hn0, below_trans hB0 hbW, fun x hx => by cases hx⟩
  have HWS := Lib.hid hWs
  clear h hR hbW hbox hn0 hWs hL hs hB0 hd hLd
  go_enter Tryz.func23, Tryz.ntmps23
  go_wp2_with fail
  rw [← hW]
  clear hW
  go_loopw [7, 8, 15] (fun d f i wr => ∃ (k : Nat) (b : Bool) (O : List Rv), k ≤ t.length ∧ i = .int .i64 k ∧ f = .bool b ∧ O.length ≤ k + b.toNat ∧ Hid (DTb B W0 W wr 88 105 d O) ∧ Hid (∀ q, d.ownBlock = some q → q < wr.heap.size) ∧ Hid (R = O.map plR ++ addG L s b ((t.map plR).drop k))) (fun _ _ i _ => t.length - (intOf i).toNat)
  case atStart => exact ⟨0, false, [], Nat.zero_le _, rfl, rfl, Nat.zero_le _, HN0, Lib.hid (fun q hq => by simp [Value.ownBlock] at hq; subst hq; simp [HWS.out]), Lib.hid HR.out⟩
  case round =>
    obtain ⟨k, b, O, hk, rfl, rfl, hO, HNB, HOW, HRR⟩ := hrel
    obtain ⟨fA, fc, rfl, hfc⟩ := HNB.out.n.buf.shape
    have hbw := HNB.out.n.below
    clear HN0 HR
    by_cases hgo : k < t.length
    · obtain ⟨x, hx⟩ : ∃ x, t[k]? = some x := ⟨_, List.getElem?_eq_getElem hgo⟩
      obtain ⟨xb, xo, rfl, x0, x1, hrx⟩ := (HT.out.below hbw).at_ hx
      have hdr : (t.map plR).drop k = plR x :: (t.map plR).drop (k + 1) := by
        have hx2 : (t.map plR)[k]? = some (plR x) := by rw [List.getElem?_map, hx]; rfl
        obtain ⟨hlt, he⟩ := List.getElem?_eq_some_iff.1 hx2
        rw [List.drop_eq_getElem_cons hlt, he]
      have hrr := HRR.out
      rw [hdr] at hrr
      have hxs := HSL.out x (List.mem_of_getElem? hx)
      have HRX := Lib.hid (HT0.out.2 x (List.mem_of_getElem? hx))
      have HDX := Lib.hid (fun w' (hb : Below w.heap.size w w') => (HDP.out x (List.mem_of_getElem? hx)).below hb)
      obtain ⟨wx, hwx⟩ : ∃ wx, wx = wr.alloc (.cells #[.slice x.la x.ls.length x.lc, .slice x.sa x.ss.length x.sc] 88) := ⟨_, rfl⟩
      have hbx : Below wr.heap.size wr wx := by rw [hwx]; exact below_alloc1 _ _
      have HXB : Hid (Blk wx wr.heap.size 88 #[.slice x.la x.ls.length x.lc, .slice x.sa x.ss.length x.sc]) := Lib.hid (by rw [hwx]; exact Blk.new _ _ _)
      have HNX := Lib.hid (HNB.out.below hbx)
      have HNE := Lib.hid (fun (q : Nat) (h : (Value.slice fA O.length fc).ownBlock = some q) => Nat.ne_of_lt (HOW.out q h))
      have hWX := hbw.size
      have hbWx := below_trans hbw hbx
      obtain ⟨Z, hZ⟩ : ∃ Z, Z = cmpL L x.ls := ⟨_, rfl⟩
      have hcm := rcompare_any (.slice LA L.length Lc) (.slice x.la x.ls.length x.lc) L x.ls wx (HPL.out.below (below_trans HBW.out hbWx)) (HRX.out.1.below (below_trans HBW.out hbWx))
      rw [← hZ] at hcm
      have HCM := Lib.hid hcm
      obtain ⟨y0, y1⟩ := HXB.out.c2
      have hO2 : O.length ≤ k + 1 := by cases b <;> simp at hO <;> omega
      clear hdr hx hcm hrx HNB HOW
      go_upto_region 6 with fail
      rw [← hwx]
      obtain ⟨X, hX⟩ : ∃ X, X = wr.heap.size := ⟨_, rfl⟩
      rw [← hX] at HXB HNE hWX y0 y1 ⊢
      clear hwx hX
      go_wp2_with fail
      refine HCM.out.mono ?_
      rintro e w1 ⟨rfl, hb1⟩
      have HN1 := Lib.hid (HNX.out.below hb1)
      have HX1 := Lib.hid (HXB.out.below hb1)
      have hbW1 := below_trans hbWx hb1
      obtain ⟨z0, z1⟩ := HX1.out.c2
      obtain ⟨c0, c1⟩ := (HBX.out.below hbW1).c2
      have hcase : (b = true ∧ Z = 0) ∨ (b = true ∧ Z ≠ 0) ∨ (b = false ∧ Z = 0) ∨ (b = false ∧ Z < 0) ∨ (b = false ∧ 0 < Z) := by
        cases b
        · rcases Int.lt_trichotomy Z 0 with h1 | h1 | h1
          · exact .inr (.inr (.inr (.inl ⟨rfl, h1⟩)))
          · exact .inr (.inr (.inl ⟨rfl, h1⟩))
          · exact .inr (.inr (.inr (.inr ⟨rfl, h1⟩)))
        · by_cases h1 : Z = 0
          · exact .inl ⟨rfl, h1⟩
          · exact .inr (.inl ⟨rfl, h1⟩)
      have HZ := Lib.hid hZ
      clear HNX HXB hbx HCM y0 y1 hb1 hbWx hbw hZ x0 x1
      rcases hcase with ⟨rfl, hc⟩ | ⟨rfl, hc⟩ | ⟨rfl, hc⟩ | ⟨rfl, hc⟩ | ⟨rfl, hc⟩
      case inr.inl =>
        rw [addG_t1 (by rw [← show Z = cmpL L (plR x).1 from HZ.out]; exact hc)] at hrr
        have HR2 := Lib.hid hrr
        have he : (Z == 0) = false := by rw [beq_eq_false_iff_ne]; exact hc
        clear hrr HRR
        go_wp2_with (at_builtin; refine wpList_append_nlit rfl (.tmp 43) (.tmp 45) 24 rfl rrow_ty rfl HN1.out.n rfl (by simp) rfl (by simp [Value.oneCell']) (by simp only [maxLen]; omega) (by omega) ?_; intro v3 w3 hn3 ha3; have HD3 := Lib.hid (DTb.snoc (HN1.out.below (below_alloc1 _ _)) (HDX.out _ (below_trans HBW.out (below_trans hbW1 (below_alloc1 _ _)))) hn3 ha3 (by decide) (by decide)); clear hn3 ha3)
        go_roundw
        case rel => exact ⟨k + 1, true, O ++ [x], by omega, by go_num, rfl, by simp at hO ⊢; omega, HD3, Lib.hid (HD3.out.n.lt (by simp)), Lib.hid (by rw [HR2.out, List.map_append, List.append_assoc]; rfl)⟩
        case measure => simp [intOf]; omega
      case inr.inr.inr.inr =>
        rw [addG_f2 (by rw [← show Z = cmpL L (plR x).1 from HZ.out]; exact hc)] at hrr
        have HR2 := Lib.hid hrr
        have he : (Z == 0) = false := by rw [beq_eq_false_iff_ne]; omega
        have hd : decide (Z < 0) = false := decide_eq_false (by omega)
        clear hrr HRR
        go_wp2_with (at_builtin; refine wpList_append_nlit rfl (.tmp 43) (.tmp 45) 24 rfl rrow_ty rfl HN1.out.n rfl (by simp) rfl (by simp [Value.oneCell']) (by simp only [maxLen]; omega) (by omega) ?_; intro v3 w3 hn3 ha3; have HD3 := Lib.hid (DTb.snoc (x := x) (HN1.out.below (below_alloc1 _ _)) (HDX.out _ (below_trans HBW.out (below_trans hbW1 (below_alloc1 _ _)))) hn3 ha3 (by decide) (by decide)); clear hn3 ha3)
        go_roundw
        case rel => exact ⟨k + 1, false, O ++ [x], by omega, by go_num, rfl, by simp at hO ⊢; omega, HD3, Lib.hid (HD3.out.n.lt (by simp)), Lib.hid (by rw [HR2.out, List.map_append, List.append_assoc]; rfl)⟩
        case measure => simp [intOf]; omega
      case inl =>
        subst hc
        rw [addG_t0 HZ.out.symm] at hrr
        have HR2 := Lib.hid hrr
        have hput := rput_any (.slice x.sa x.ss.length x.sc) x.ss s w1 (HRX.out.2.below (below_trans HBW.out hbW1)) hxs
        have HPUT := Lib.hid hput
        clear hrr HRR hput
        go_wp2_with fail
        refine HPUT.out.mono ?_
        rintro e w2 ⟨pv, rfl, hpn⟩
        obtain ⟨pA, pc, rfl, hpc⟩ := hpn.buf.shape
        have hX2 := HX1.out.below hpn.below
        have HN2 := Lib.hid ((HN1.out.below hpn.below).setX hX2 hWX (fun e => HNE.out _ e rfl) (by decide) (by decide) 1 (.slice pA (putS x.ss s).length pc))
        have HP2 := Lib.hid (nbuf_ke (hpn.after (below_trans HB0.out (below_trans HBW.out hbW1))) (Ke.of_set (Ts := fun U => U = 88) hX2 rfl 1 (.slice pA (putS x.ss s).length pc)) (below_trans HB0.out (below_trans HBW.out HN2.out.n.below)) (by decide))
        have HDX2 := Lib.hid (HDX.out _ (below_trans HBW.out (below_trans HN2.out.n.below (below_alloc1 _ (.cells #[.slice x.la x.ls.length x.lc, .slice pA (putS x.ss s).length pc] 88)))))
        obtain ⟨PS, hPS⟩ : ∃ PS, PS = putS x.ss s := ⟨_, rfl⟩
        obtain ⟨u0, u1⟩ := hX2.c2
        have u2 := hX2.free 1
        rw [← hPS] at HN2 HP2 HDX2 ⊢
        have HPS := Lib.hid hPS
        clear hX2 hpn z0 z1 c0 c1 HN1 hPS
        go_wp2_with (at_builtin; refine wpList_append_nlit rfl (.tmp 43) (.tmp 45) 24 rfl rrow_ty rfl HN2.out.n rfl (by simp) rfl (by simp [Value.oneCell']) (by simp only [maxLen]; omega) (by omega) ?_; intro v3 w3 hn3 ha3; have HD3 := Lib.hid (DTb.snoc (x := ⟨x.ls, PS, x.la, x.lc, pA, pc⟩) (HN2.out.below (below_alloc1 _ _)) (⟨(HDX2.out).1, .inr (HP2.out.alloc _)⟩) hn3 ha3 (by decide) (by decide)); clear hn3 ha3)
        go_roundw
        case rel => exact ⟨k + 1, true, _, by omega, by go_num, rfl, by simp at hO ⊢; omega, HD3, Lib.hid (HD3.out.n.lt (by simp)), Lib.hid (by rw [HR2.out, List.map_append, List.append_assoc, HPS.out]; rfl)⟩
        case measure => simp [intOf]; omega
      case inr.inr.inl =>
        subst hc
        rw [addG_f0 HZ.out.symm] at hrr
        have HR2 := Lib.hid hrr
        have hput := rput_any (.slice x.sa x.ss.length x.sc) x.ss s w1 (HRX.out.2.below (below_trans HBW.out hbW1)) hxs
        have HPUT := Lib.hid hput
        clear hrr HRR hput
        go_wp2_with fail
        refine HPUT.out.mono ?_
        rintro e w2 ⟨pv, rfl, hpn⟩
        obtain ⟨pA, pc, rfl, hpc⟩ := hpn.buf.shape
        have hX2 := HX1.out.below hpn.below
        have HN2 := Lib.hid ((HN1.out.below hpn.below).setX hX2 hWX (fun e => HNE.out _ e rfl) (by decide) (by decide) 1 (.slice pA (putS x.ss s).length pc))
        have HP2 := Lib.hid (nbuf_ke (hpn.after (below_trans HB0.out (below_trans HBW.out hbW1))) (Ke.of_set (Ts := fun U => U = 88) hX2 rfl 1 (.slice pA (putS x.ss s).length pc)) (below_trans HB0.out (below_trans HBW.out HN2.out.n.below)) (by decide))
        have HDX2 := Lib.hid (HDX.out _ (below_trans HBW.out (below_trans HN2.out.n.below (below_alloc1 _ (.cells #[.slice x.la x.ls.length x.lc, .slice pA (putS x.ss s).length pc] 88)))))
        obtain ⟨PS, hPS⟩ : ∃ PS, PS = putS x.ss s := ⟨_, rfl⟩
        obtain ⟨u0, u1⟩ := hX2.c2
        have u2 := hX2.free 1
        rw [← hPS] at HN2 HP2 HDX2 ⊢
        have HPS := Lib.hid hPS
        clear hX2 hpn z0 z1 c0 c1 HN1 hPS
        go_wp2_with (at_builtin; refine wpList_append_nlit rfl (.tmp 43) (.tmp 45) 24 rfl rrow_ty rfl HN2.out.n rfl (by simp) rfl (by simp [Value.oneCell']) (by simp only [maxLen]; omega) (by omega) ?_; intro v3 w3 hn3 ha3; have HD3 := Lib.hid (DTb.snoc (x := ⟨x.ls, PS, x.la, x.lc, pA, pc⟩) (HN2.out.below (below_alloc1 _ _)) (⟨(HDX2.out).1, .inr (HP2.out.alloc _)⟩) hn3 ha3 (by decide) (by decide)); clear hn3 ha3)
        go_roundw
        case rel => exact ⟨k + 1, true, _, by omega, by go_num, rfl, by simp at hO ⊢; omega, HD3, Lib.hid (HD3.out.n.lt (by simp)), Lib.hid (by rw [HR2.out, List.map_append, List.append_assoc, HPS.out]; rfl)⟩
        case measure => simp [intOf]; omega
      case inr.inr.inr.inl =>
        rw [addG_f1 (by rw [← show Z = cmpL L (plR x).1 from HZ.out]; exact hc)] at hrr
        have HR2 := Lib.hid hrr
        have he : (Z == 0) = false := by rw [beq_eq_false_iff_ne]; omega
        have hd : decide (Z < 0) = true := decide_eq_true hc
        have hn2 := (HN1.out.below (below_alloc1 w1 (.cells #[.int .i64 s.1, .int .u64 (s.2 : Nat)] 42)))
        have hlit := nbuf_lit (W := W0) (w := w1) (below_trans HB0.out (below_trans HBW.out hbW1)) 42 2 1 (smc [s]) rfl (by decide)
        have HN2 := Lib.hid hn2
        have HLT := Lib.hid hlit
        have HX2 := Lib.hid (HX1.out.below (below_alloc1 w1 (.cells #[.int .i64 s.1, .int .u64 (s.2 : Nat)] 42)))
        clear hrr HRR hn2 hlit
        go_wp2_with (at_builtin; first | (refine wpList_append_nlit rfl (.tmp 36) (.tmp 41) 24 rfl rrow_ty rfl HN2.out.n rfl (by simp) rfl (by simp [Value.oneCell']) (by simp only [maxLen]; omega) (by omega) ?_; intro v2 w2 hn2 ha2; have hd2 := DTb.snoc (x := ⟨L, [s], LA, Lc, some ⟨w1.heap.size, 0, none⟩, 1⟩) (HN2.out.below (below_alloc1 _ _)) ⟨HLD.out.imp id (fun h => h.then_below (below_trans HBW.out (below_trans HN2.out.n.below (below_alloc1 _ _)))), .inr (HLT.out.alloc _)⟩ hn2 ha2 (by decide) (by decide); have hx2 := (blk_ap (HX2.out.alloc _) ha2 (fun e => HNE.out _ e rfl)).c2; have HD2 := Lib.hid hd2; obtain ⟨u0, u1⟩ := hx2; clear hn2 ha2 hd2) | (refine wpList_append_nlit rfl (.tmp 43) (.tmp 45) 24 rfl rrow_ty rfl HD2.out.n rfl (by simp) rfl (by simp [Value.oneCell']) (by simp only [maxLen, List.length_append, List.length_cons, List.length_nil]; omega) (by simp only [List.length_append, List.length_cons, List.length_nil]; omega) ?_; intro v3 w3 hn3 ha3; have HD3 := Lib.hid (DTb.snoc (x := x) (HD2.out.below (below_alloc1 _ _)) (HDX.out _ (below_trans HBW.out (below_trans HD2.out.n.below (below_alloc1 _ _)))) hn3 ha3 (by decide) (by decide)); clear hn3 ha3))
        go_roundw
        case rel => exact ⟨k + 1, true, _, by omega, by go_num, rfl, by simp at hO ⊢; omega, HD3, Lib.hid (HD3.out.n.lt (by simp)), Lib.hid (by rw [HR2.out, List.map_append, List.map_append, List.append_assoc, List.append_assoc]; rfl)⟩
        case measure => simp [intOf]; omega
    · obtain rfl : k = t.length := by omega
      have hrr := HRR.out
      rw [List.drop_of_length_le (by rw [List.length_map]; exact Nat.le_refl _)] at hrr
      have hO2 : O.length ≤ t.length + 1 := by cases b <;> simp at hO <;> omega
      obtain ⟨c0, c1⟩ := (HBX.out.below hbw).c2
      rcases b with _ | _
      · have hrr : R = O.map plR ++ [(L, [s])] := hrr
        have HR2 := Lib.hid hrr
        have HN2 := Lib.hid (HNB.out.below (below_alloc1 wr (.cells #[.int .i64 s.1, .int .u64 (s.2 : Nat)] 42)))
        have HLT := Lib.hid (nbuf_lit (W := W0) (w := wr) (below_trans HB0.out (below_trans HBW.out hbw)) 42 2 1 (smc [s]) rfl (by decide))
        clear hrr HRR
        go_wp2_with (at_builtin; refine wpList_append_nlit rfl (.tmp 50) (.tmp 55) 24 rfl rrow_ty rfl HN2.out.n rfl (by simp) rfl (by simp [Value.oneCell']) (by simp only [maxLen]; omega) (by omega) ?_; intro v2 w2 hn2 ha2; have hd2 := DTb.snoc (x := ⟨L, [s], LA, Lc, some ⟨wr.heap.size, 0, none⟩, 1⟩) (HN2.out.below (below_alloc1 _ _)) ⟨HLD.out.imp id (fun h => h.then_below (below_trans HBW.out (below_trans HN2.out.n.below (below_alloc1 _ _)))), .inr (HLT.out.alloc _)⟩ hn2 ha2 (by decide) (by decide); have HD2 := Lib.hid hd2; clear hn2 ha2 hd2)
        go_ret
        exact ⟨_, _, rfl, HD2.out.after HBW.out HB0.out, by rw [List.map_append, HR2.out]; rfl⟩
      · have hrr : R = O.map plR := by rw [hrr]; exact List.append_nil _
        have HR2 := Lib.hid hrr
        clear hrr HRR
        go_wp2_with fail
        go_ret
        exact ⟨_, _, rfl, HNB.out.after HBW.out HB0.out, HR2.out.symm⟩
end Go.Proofs.YtjklcojnbcemoaaGreatDoor
