/-
  Layer 14: heap.Init, heap.Push, heap.Pop over cursors.
-/
import Derived.Test.YtjklcojnbcemoaaGreatDoorZRws
import Derived.Test.YtjklcojnbcemoaaGreatDoorZLib23
import Derived.Test.YtjklcojnbcemoaaGreatDoorZLib24
import Derived.Test.YtjklcojnbcemoaaGreatDoorZMrgU

namespace Go.Proofs.YtjklcojnbcemoaaGreatDoor
open Go.RowKit Go.Bar Go.Bar.Leb Go.Bar.Lab Go.Bar.Xor Go.Bar.Mrg

/-- blocks of other types are as they were -/
structure Kt (w w' : World) : Prop where
  os : w'.os = w.os
  tape : w'.tape = w.tape
  output : w'.output = w.output
  size : w.heap.size ≤ w'.heap.size
  block : ∀ k, k < w.heap.size → (∀ cur T fr, w.heap[k]? = some (.cells cur T fr) → T ≠ 74 ∧ T ≠ 72) → w'.heap[k]? = w.heap[k]?
theorem Kt.refl (w : World) : Kt w w := ⟨rfl, rfl, rfl, Nat.le_refl _, fun _ _ _ => rfl⟩
theorem Kt.trans {a b c : World} (h : Kt a b) (k : Kt b c) : Kt a c := ⟨k.os.trans h.os, k.tape.trans h.tape, k.output.trans h.output, Nat.le_trans h.size k.size, fun i hi ht => by
  have e := h.block i hi ht
  rw [k.block i (Nat.lt_of_lt_of_le hi h.size) (by rw [e]; exact ht), e]⟩
theorem Kt.of_below {w w' : World} (h : Below w.heap.size w w') : Kt w w' := ⟨h.os, h.tape, h.output, h.size, fun k hk _ => h.block k hk⟩
theorem Kt.blk {w w' : World} (h : Kt w w') {M : Nat} {T : TypeId} {cur : Array Value} (hb : Blk w M T cur) (h1 : T ≠ 74) (h2 : T ≠ 72) : Blk w' M T cur := by
  refine (h.block M hb.lt fun cur' T' fr he => ?_).trans hb
  unfold Blk at hb
  rw [hb] at he
  injection he with he
  injection he with _ ht _
  subst ht
  exact ⟨h1, h2⟩
theorem Kt.buf {w w' : World} (h : Kt w w') {e : TypeId} {sz n : Nat} {v : Value} {xs : List Value} (hb : Buf w e sz v n xs) (h1 : e ≠ 74) (h2 : e ≠ 72) : Buf w' e sz v n xs := by
  obtain ⟨hl, A, c, he, hnc, hc, hv⟩ := hb
  refine ⟨hl, A, c, he, hnc, hc, fun h0 => ?_⟩
  obtain ⟨b, o, cur, fr, hA, hbk, hs, hf, hx⟩ := hv h0
  refine ⟨b, o, cur, fr, hA, (h.block b (Array.getElem?_eq_some_iff.1 hbk).1 fun cur' T' fr' he' => ?_).trans hbk, hs, hf, hx⟩
  rw [hbk] at he'
  injection he' with he'
  injection he' with _ ht _
  subst ht
  exact ⟨h1, h2⟩
/-- stores into the queue's two blocks -/
theorem Kt.of_fr {w w' : World} {b Q : Nat} (h : Fr (fun k _ => k = b ∨ k = Q) w w') (hb : ∀ o, w.heap[b]? = some o → ∃ cur fr, o = .cells cur 74 fr) (hq : ∀ o, w.heap[Q]? = some o → ∃ cur fr, o = .cells cur 72 fr) : Kt w w' :=
  ⟨h.os, h.tape, h.output, h.size, fun k hk ht => h.block hk fun i hi => by
    obtain ⟨o, ho⟩ : ∃ o, w.heap[k]? = some o := ⟨_, Array.getElem?_eq_getElem hk⟩
    rcases hi with rfl | rfl
    · obtain ⟨cur, fr, rfl⟩ := hb o ho
      exact (ht _ _ _ ho).1 rfl
    · obtain ⟨cur, fr, rfl⟩ := hq o ho
      exact (ht _ _ _ ho).2 rfl⟩
/-- a store into the queue's variable -/
theorem Kt.of_set {w : World} {Q : Nat} {cur : Array Value} (h : Blk w Q 72 cur) (i : Nat) (u : Value) : Kt w (w.setCell ⟨Q, i, none⟩ u) := by
  have hf : Fr (fun k _ => k = Q) w (w.setCell ⟨Q, i, none⟩ u) := (Fr.refl (fun k _ => k = Q) w).setCell (fun _ => rfl) _
  refine ⟨hf.os, hf.tape, hf.output, hf.size, fun k hk ht => hf.block hk fun j hj => ?_⟩
  have hj : k = Q := hj
  subst hj
  exact (ht _ _ _ h).2 rfl
/-- an append to the queue's buffer -/
theorem Kt.of_ap {w w' : World} {sz n : Nat} {v : Value} {xs : List Value} (hb : Buf w 74 sz v n xs) (ha : Ap w w' sz v) : Kt w w' := by
  refine ⟨ha.os, ha.tape, ha.output, ha.size, fun k hk ht => ?_⟩
  rcases ha.block k hk with h1 | ⟨o, n', c, cur, cur', e, fr, hv, h2, h3, h4, h5⟩
  · exact h1
  · obtain ⟨_, A, c', he, hnc, _, hval⟩ := hb
    rw [he] at hv
    injection hv with e1 e2 e3
    subst e1; subst e2; subst e3
    rcases Nat.eq_zero_or_pos c' with h0 | h0
    · subst h0
      have : cur' = cur := Array.ext_getElem? (fun i => h5 i (by omega))
      rw [h2, h3, this]
    · obtain ⟨b', o', cur2, fr2, hA, hbk, _⟩ := hval h0
      injection hA with hA
      injection hA with hA _ _
      subst hA
      exact absurd rfl (ht _ _ _ hbk).1
/-- the queue of a call that began at W0 -/
structure Hs (W0 : World) (Q n : Nat) (f : Nat → Cu) (A : Option Addr) (c : Nat) (w : World) : Prop where
  var : Blk w Q 72 #[.slice A n c]
  buf : NBuf W0 w 74 4 (.slice A n c) n (ccs (row n f))
  newQ : W0.heap.size ≤ Q
  rows : QR W0 n f
section
variable {W0 w w' : World} {Q n c : Nat} {f : Nat → Cu} {A : Option Addr}
theorem Hs.below (h : Hs W0 Q n f A c w) (hb : Below w.heap.size w w') : Hs W0 Q n f A c w' := ⟨h.var.below hb, h.buf.then_below hb, h.newQ, h.rows⟩
theorem Hs.qu {b o : Nat} (h : Hs W0 Q n f (some ⟨b, o, none⟩) c w) : Qu w Q b o n c f w := ⟨h.buf.buf, h.var, Fr.refl _ _⟩
theorem Hs.some_ (h : Hs W0 Q n f A c w) (hn : 0 < n) : ∃ b o, A = some ⟨b, o, none⟩ ∧ W0.heap.size ≤ b := by
  obtain ⟨b, o, rfl, _⟩ := h.buf.buf.some_at hn
  exact ⟨b, o, rfl, h.buf.new b rfl⟩
theorem Hs.typeB {b o : Nat} (h : Hs W0 Q n f (some ⟨b, o, none⟩) c w) (hn : 0 < n) : ∀ ob, w.heap[b]? = some ob → ∃ cur fr, ob = .cells cur 74 fr := by
  intro ob hob
  obtain ⟨_, A', c', he, hnc, _, hv⟩ := h.buf.buf
  injection he with h1 h2 h3
  subst h1; subst h3
  obtain ⟨b', o', cur, fr, h4, hbk, _⟩ := hv (by omega)
  injection h4 with h4
  injection h4 with h4 _ _
  subst h4
  rw [hbk] at hob
  injection hob with hob
  exact ⟨cur, fr, hob.symm⟩
theorem Hs.typeQ (h : Hs W0 Q n f A c w) : ∀ ob, w.heap[Q]? = some ob → ∃ cur fr, ob = .cells cur 72 fr := by
  intro ob hob
  have hv := h.var
  unfold Blk at hv
  rw [hv] at hob
  injection hob with hob
  exact ⟨_, _, hob.symm⟩
/-- behind up, down, Swap -/
theorem Hs.back {b o : Nat} {g : Nat → Cu} (h : Hs W0 Q n f (some ⟨b, o, none⟩) c w) (hn : 0 < n) (hq : Qu w Q b o n c g w') (hr : QR W0 n g) : Hs W0 Q n g (some ⟨b, o, none⟩) c w' ∧ Kt w w' :=
  ⟨⟨hq.var, ⟨hq.buf, hq.base h.buf.below (h.buf.new b rfl) h.newQ, h.buf.new⟩, h.newQ, hr⟩, Kt.of_fr hq.fr (h.typeB hn) h.typeQ⟩
end

/-- what Init leaves -/
def RetIn (W0 w : World) (Q n : Nat) (f : Nat → Cu) (A : Option Addr) (c : Nat) (e : Ending) (w' : World) : Prop := e = .returned (.tuple #[]) ∧ ∃ g, PermOn 0 n f g ∧ Hp lsC 0 n g ∧ Hs W0 Q n g A c w' ∧ Kt w w'

set_option maxHeartbeats 4000000 in
set_option maxRecDepth 10000 in
theorem init_any (Q n c : Nat) (f : Nat → Cu) (A : Option Addr) (W0 w : World) (h : Hs W0 Q n f A c w) (hn : n < 1000000) :
    Calls Tryz.prog 27 #[.iface 76 (.pointer (some ⟨Q, 0, none⟩))] w (RetIn W0 w Q n f A c) := by
  have HLN := Lib.hid (qLen_any A n c w)
  have mN : Sem.run Tryz.prog (method 298 76 (.pointer (some ⟨Q, 0, none⟩)) "Len") w = .ok (132, .slice A n c) w := finds_val queue_len h.var.c1 _
  obtain ⟨k0, hk0⟩ : ∃ k0, k0 = n / 2 := ⟨_, rfl⟩
  have e1 : (n : Int) / 2 = (k0 : Int) := by omega
  have e2 : IntKind.i64.wrap ((k0 : Int) - 1) = (k0 : Int) - 1 := by rw [IntKind.wrap_i64]; omega
  have hs0 : Hp lsC k0 n f := fun i j hi hc hj => by unfold Ch at hc; omega
  have HS0 := Lib.hid hs0
  have hk0n : k0 ≤ n := by omega
  clear hk0 hs0
  go_enter Tryz.func27, Tryz.ntmps27
  go_wp2_with fail
  refine HLN.out.mono ?_
  rintro e w1 ⟨rfl, rfl⟩
  go_wp2_with fail
  clear mN
  go_loopw [3] (fun iv wr => ∃ (k : Nat) (g : Nat → Cu), iv = .int .i64 ((k : Int) - 1) ∧ k ≤ n ∧ Hid (PermOn 0 n f g ∧ Hp lsC k n g) ∧ Hs W0 Q n g A c wr ∧ Kt w wr) (fun iv _ => (intOf iv + 1).toNat)
  case atStart => exact ⟨k0, f, rfl, hk0n, Lib.hid ⟨PermOn.refl _ _ _, HS0.out⟩, h, Kt.refl _⟩
  case round =>
    obtain ⟨k, g, rfl, hkn, HG, hH, hK⟩ := hrel
    clear h
    rcases k with _ | k
    · have hz : ¬ (0 : Int) ≤ ((0 : Nat) : Int) - 1 := by omega
      go_wp2_with fail
      go_end0
      exact ⟨rfl, g, HG.out.1, HG.out.2, hH, hK⟩
    · obtain ⟨b, o, rfl, hb0⟩ := hH.some_ (by omega)
      have hd := down_any Q b o n c k n g W0 wr wr hH.qu hH.buf.below hb0 hH.newQ hH.rows (by omega) (Nat.le_refl _) (by omega) HG.out.2
      have ez : ((k + 1 : Nat) : Int) - 1 = (k : Int) := by omega
      have hw : IntKind.i64.wrap ((k : Int) - 1) = (k : Int) - 1 := by rw [IntKind.wrap_i64]; omega
      have HD := Lib.hid hd
      have HH := Lib.hid hH
      have HK := Lib.hid hK
      rw [ez]
      clear hd hH hK
      go_wp2_with fail
      refine HD.out.mono ?_
      rintro e w2 ⟨v, rfl, g2, p2, q2, hQ2⟩
      have p2' := p2.mono (a' := 0) (b' := n) (Nat.zero_le _) (Nat.le_refl _)
      obtain ⟨hH2, hK2⟩ := HH.out.back (by omega) hQ2 (HH.out.rows.perm p2')
      have HG2 := Lib.hid (And.intro (HG.out.1.trans p2') q2)
      have hK3 := HK.out.trans hK2
      clear HD hQ2 p2 p2' q2 hK2 HG
      go_wp2_with fail
      go_roundw
      case rel => exact ⟨k, g2, rfl, by omega, HG2, hH2, hK3⟩
      case measure => simp [intOf]

set_option maxHeartbeats 4000000 in
set_option maxRecDepth 10000 in
theorem qPop_any (Q n c : Nat) (f : Nat → Cu) (A : Option Addr) (W0 w : World) (h : Hs W0 Q (n + 1) f A c w) (hn : n < 1000000) :
    Calls Tryz.prog 135 #[.pointer (some ⟨Q, 0, none⟩)] w (fun e w' => e = .returned (.iface 74 (.agg #[.int .i64 (f n).tb, .int .i64 (f n).ix, .slice (f n).x.la (f n).x.ls.length (f n).x.lc, .slice (f n).x.sa (f n).x.ss.length (f n).x.sc])) ∧ Hs W0 Q n f A c w' ∧ Kt w w') := by
  obtain ⟨b, o, rfl, hb0⟩ := h.some_ (by omega)
  obtain ⟨⟨a0, a1, a2, a3⟩, _⟩ := h.qu.at_ (i := n) (by omega)
  have hnc : n + 1 ≤ c := by obtain ⟨_, _, he, hc, _⟩ := h.buf.buf.val; injection he with _ _ h3; omega
  obtain ⟨q, hq⟩ : ∃ q, q = f n := ⟨_, rfl⟩
  rw [← hq] at a0 a1 a2 a3 ⊢
  have g0 := h.var.c1
  have u0 := h.var.free 0
  have b1 : Below w.heap.size w (w.alloc (.cells #[.int .i64 q.tb, .int .i64 q.ix, .slice q.x.la q.x.ls.length q.x.lc, .slice q.x.sa q.x.ss.length q.x.sc] 74)) := (Below.refl _ _).alloc (Nat.le_refl _) _
  have hH1 := h.below b1
  have hfin : Hs W0 Q n f (some ⟨b, o, none⟩) c ((w.alloc (.cells #[.int .i64 q.tb, .int .i64 q.ix, .slice q.x.la q.x.ls.length q.x.lc, .slice q.x.sa q.x.ss.length q.x.sc] 74)).setCell ⟨Q, 0, none⟩ (.slice (some ⟨b, o, none⟩) n c)) := by
    refine ⟨hH1.var.set 0 _, ⟨?_, hH1.buf.below.setCell (p := ⟨Q, 0, none⟩) hH1.newQ _, hH1.buf.new⟩, hH1.newQ, fun k hk => hH1.rows k (by omega)⟩
    have hf := hH1.buf.buf.first n (by omega)
    have e : (ccs (row (n + 1) f)).take (n * 4) = ccs (row n f) := by
      rw [show ccs (row (n + 1) f) = (row (n + 1) f).flatMap encC from rfl, flat_take encC 4 encC_four]
      unfold row
      rw [← List.map_take, List.take_range, Nat.min_eq_left (by omega)]
      rfl
    rw [e] at hf
    exact hf.set_ne hH1.var (by decide) 0 _
  have hkt : Kt w ((w.alloc (.cells #[.int .i64 q.tb, .int .i64 q.ix, .slice q.x.la q.x.ls.length q.x.lc, .slice q.x.sa q.x.ss.length q.x.sc] 74)).setCell ⟨Q, 0, none⟩ (.slice (some ⟨b, o, none⟩) n c)) := by
    refine (Kt.of_below b1).trans (Kt.of_fr (b := b) (Q := Q) ((Fr.refl _ _).setCell (fun _ => .inr rfl) _) (hH1.typeB (by omega)) hH1.typeQ)
  have HFIN := Lib.hid (And.intro hfin hkt)
  have C1 := Blk.new w #[.int .i64 q.tb, .int .i64 q.ix, .slice q.x.la q.x.ls.length q.x.lc, .slice q.x.sa q.x.ss.length q.x.sc] 74
  have hQne : Q ≠ w.heap.size := by have := h.var.lt; omega
  have C2 := C1.other (b := Q) (by omega) 0 (.slice (some ⟨b, o, none⟩) n c)
  obtain ⟨k0, k1, k2, k3⟩ := C2.c4
  have x0 := hH1.var.c1
  have x1 := hH1.var.free 0
  have hn1 : (n : Int) < (n : Int) + 1 := by omega
  have hw1 : IntKind.i64.wrap ((n : Int) + 1 - 1) = (n : Int) := by rw [IntKind.wrap_i64]; omega
  have hnle : (n : Int) ≤ (c : Int) := by omega
  have hnlec : n ≤ c := by omega
  clear hfin hkt C1 C2 hH1 hq h
  go_enter Tryz.func135, Tryz.ntmps135
  go_wp2_with fail
  go_ret
  exact ⟨rfl, HFIN.out.1, HFIN.out.2⟩

theorem down0_any (Q : Nat) (w : World) : Calls Tryz.prog 47 #[.iface 76 (.pointer (some ⟨Q, 0, none⟩)), .int .i64 0, .int .i64 0] w (fun e w' => ∃ v, e = .returned v ∧ w = w') := by
  go_enter Tryz.func47, Tryz.ntmps47
  go_wp2_with fail
  go_loopw [7] (fun iv wr => iv = .int .i64 0 ∧ wr = w) (fun _ _ => 0)
  case atStart => exact ⟨rfl, rfl⟩
  case round =>
    obtain ⟨rfl, rfl⟩ := hrel
    go_wp2_with fail
    go_ret
    exact ⟨_, rfl, rfl⟩

set_option maxHeartbeats 4000000 in
set_option maxRecDepth 10000 in
theorem heapPop_any (Q n c : Nat) (f : Nat → Cu) (A : Option Addr) (W0 w : World) (h : Hs W0 Q (n + 1) f A c w) (hp : Hp lsC 0 (n + 1) f) (hn : n < 1000000) :
    Calls Tryz.prog 30 #[.iface 76 (.pointer (some ⟨Q, 0, none⟩))] w (fun e w' => e = .returned (.iface 74 (.agg #[.int .i64 (f 0).tb, .int .i64 (f 0).ix, .slice (f 0).x.la (f 0).x.ls.length (f 0).x.lc, .slice (f 0).x.sa (f 0).x.ss.length (f 0).x.sc])) ∧
      ∃ g, Hp lsC 0 n g ∧ (f 0 :: row n g).Perm (row (n + 1) f) ∧ Hs W0 Q n g A c w' ∧ Kt w w') := by
  obtain ⟨b, o, rfl, hb0⟩ := h.some_ (by omega)
  have HLN := Lib.hid (qLen_any (some ⟨b, o, none⟩) (n + 1) c w)
  have mN : Sem.run Tryz.prog (method 298 76 (.pointer (some ⟨Q, 0, none⟩)) "Len") w = .ok (132, .slice (some ⟨b, o, none⟩) (n + 1) c) w := finds_val queue_len h.var.c1 _
  have mS : Sem.run Tryz.prog (method 298 76 (.pointer (some ⟨Q, 0, none⟩)) "Swap") w = .ok (134, .slice (some ⟨b, o, none⟩) (n + 1) c) w := finds_val queue_swap h.var.c1 _
  have hsw := qSwap_any Q b o (n + 1) c 0 n f w w h.qu (by omega) (by omega) (by omega)
  have HSW := Lib.hid hsw
  have e1 : IntKind.i64.wrap ((n : Int) + 1 - 1) = (n : Int) := by rw [IntKind.wrap_i64]; omega
  have HH := Lib.hid h
  clear h hsw
  go_enter Tryz.func30, Tryz.ntmps30
  go_wp2_with fail
  refine HLN.out.mono ?_
  rintro e w1 ⟨rfl, rfl⟩
  go_wp2_with fail
  refine HSW.out.mono ?_
  rintro e w2 ⟨rfl, hQ2⟩
  have p1 : PermOn 0 (n + 1) f (swf 0 n f) := PermOn.swf ⟨Nat.le_refl _, by omega⟩ ⟨Nat.zero_le _, by omega⟩ f
  obtain ⟨hH2, hK2⟩ := HH.out.back (by omega) hQ2 (HH.out.rows.perm p1)
  clear mN mS HSW HLN
  have hdown : Calls Tryz.prog 47 #[.iface 76 (.pointer (some ⟨Q, 0, none⟩)), .int .i64 0, .int .i64 (n : Nat)] w2 (fun e w' => ∃ v, e = .returned v ∧ ∃ g, PermOn 0 n (swf 0 n f) g ∧ Hp lsC 0 n g ∧ Hs W0 Q (n + 1) g (some ⟨b, o, none⟩) c w' ∧ Kt w w') := by
    rcases Nat.eq_zero_or_pos n with h0 | h0
    · subst h0
      refine (down0_any Q w2).mono ?_
      rintro e w3 ⟨v, rfl, rfl⟩
      exact ⟨v, rfl, _, PermOn.refl _ _ _, fun i j _ _ hj => by omega, hH2, hK2⟩
    · have hd := down_any Q b o (n + 1) c 0 n (swf 0 n f) W0 w2 w2 hH2.qu hH2.buf.below hb0 hH2.newQ hH2.rows h0 (by omega) (by omega) ((hp.mono (a' := 1) (n' := n) (by omega) (by omega)).congr fun k k1 k2 => swf_3 (by omega) (by omega) f)
      refine hd.mono ?_
      rintro e w3 ⟨v, rfl, g, p2, q2, hQ3⟩
      obtain ⟨hH3, hK3⟩ := hH2.back (by omega) hQ3 (hH2.rows.perm (p2.mono (Nat.le_refl _) (by omega)))
      exact ⟨v, rfl, g, p2, q2, hH3, hK2.trans hK3⟩
  have HDN := Lib.hid hdown
  clear hdown hH2 hK2 hQ2 HH
  go_wp2_with fail
  refine HDN.out.mono ?_
  rintro e w3 ⟨v, rfl, g, p2, q2, hH3, hK3⟩
  have mP : Sem.run Tryz.prog (method 298 76 (.pointer (some ⟨Q, 0, none⟩)) "Pop") w3 = .ok (135, .pointer (some ⟨Q, 0, none⟩)) w3 := finds_ptr queue_pop _
  have hqp := qPop_any Q n c g (some ⟨b, o, none⟩) W0 w3 hH3 hn
  have hgn : g n = f 0 := by rw [p2.out (by omega)]; exact swf_2 0 n f
  rw [hgn] at hqp
  have hperm : (f 0 :: row n g).Perm (row (n + 1) f) := by
    have h1 := (p1.trans (p2.mono (Nat.le_refl _) (by omega))).perm
    have h2 : row (n + 1) g = row n g ++ [g n] := by unfold row; rw [List.range_succ, List.map_append]; rfl
    rw [h2, hgn] at h1
    exact (List.perm_append_singleton (f 0) (row n g)).symm.trans h1
  have HQP := Lib.hid hqp
  have HRES := Lib.hid (And.intro q2 (And.intro hperm hK3))
  clear hqp hperm q2 p1 p2 hK3 hgn hH3 HDN
  go_wp2_with fail
  refine HQP.out.mono ?_
  rintro e w4 ⟨rfl, hH4, hK4⟩
  have HF := Lib.hid (And.intro hH4 (HRES.out.2.2.trans hK4))
  clear hH4 hK4 mP
  go_wp2_with fail
  go_ret
  exact ⟨rfl, g, HRES.out.1, HRES.out.2.1, HF.out.1, HF.out.2⟩

theorem cur_ty : ElemTy Tryz.prog 72 74 (.agg #[.int .i64 0, .int .i64 0, .slice none 0 0, .slice none 0 0]) 4 64 :=
  ⟨Tryz.underlying72, info_parts (show (Tryz.prog.info? 74).map (fun i => (i.zero, i.size, i.bytes)) = some (some (.agg #[.int .i64 0, .int .i64 0, .slice none 0 0, .slice none 0 0]), 4, 64) by kernel_rfl), rfl⟩

/-- x.(cursor) -/
theorem assert_cur (v : Value) (T : TypeId) (w : World) : Sem.run Tryz.prog (Instr.typeAssert (.iface 74 v) T 74 true) w = .ok (.tuple #[v, .bool true]) w := by
  simp [Instr.typeAssert, run_underlying Tryz.underlying74]

/-- a row with one more -/
def snocF (n : Nat) (f : Nat → Cu) (q : Cu) : Nat → Cu := fun k => if k < n then f k else q
theorem row_snocF (n : Nat) (f : Nat → Cu) (q : Cu) : row (n + 1) (snocF n f q) = row n f ++ [q] := by
  unfold row
  rw [List.range_succ, List.map_append]
  congr 1
  · exact List.map_congr_left fun k hk => if_pos (List.mem_range.1 hk)
  · show [if n < n then f n else q] = [q]
    rw [if_neg (by omega)]

theorem push_fin {W0 w1 wa w2 : World} {Q n c c2 : Nat} {f : Nat → Cu} {A A2 : Option Addr} {q : Cu} (hH : Hs W0 Q n f A c w1) (hba : Below w1.heap.size w1 wa) (hb2 : Buf w2 74 4 (.slice A2 (n + 1) c2) (n + 1) (ccs (row n f) ++ encC q)) (ha2 : Ap wa w2 4 (.slice A n c))
    (hg2 : Grew wa (.slice A n c) (.slice A2 (n + 1) c2)) (hR : QR W0 (n + 1) (snocF n f q)) : Hs W0 Q (n + 1) (snocF n f q) A2 c2 (w2.setCell ⟨Q, 0, none⟩ (.slice A2 (n + 1) c2)) ∧ Kt w1 (w2.setCell ⟨Q, 0, none⟩ (.slice A2 (n + 1) c2)) := by
  have hHa := hH.below hba
  have hY : Blk w2 Q 72 #[.slice A n c] := hHa.var.ap hHa.buf.buf ha2 (by decide)
  have e : ccs (row n f) ++ encC q = ccs (row (n + 1) (snocF n f q)) := by rw [row_snocF]; simp [ccs]
  rw [e] at hb2
  have hbel : Below W0.heap.size W0 w2 := hHa.buf.below.trans (ha2.below hHa.buf.below.size hHa.buf.new)
  refine ⟨⟨hY.set 0 _, ⟨hb2.set_ne hY (by decide) 0 _, hbel.setCell (p := ⟨Q, 0, none⟩) hH.newQ _, hg2.new hHa.buf.below.size hHa.buf.new⟩, hH.newQ, hR⟩, ?_⟩
  exact (Kt.of_below hba).trans ((Kt.of_ap hHa.buf.buf ha2).trans (Kt.of_set hY 0 _))

set_option maxHeartbeats 4000000 in
set_option maxRecDepth 10000 in
theorem qPush_any (Q n c : Nat) (f : Nat → Cu) (A : Option Addr) (q : Cu) (W0 w : World) (h : Hs W0 Q n f A c w) (hn : n < 1000000) (hq : RAt W0 q.x) :
    Calls Tryz.prog 136 #[.pointer (some ⟨Q, 0, none⟩), .iface 74 (.agg #[.int .i64 q.tb, .int .i64 q.ix, .slice q.x.la q.x.ls.length q.x.lc, .slice q.x.sa q.x.ss.length q.x.sc])] w (fun e w' => e = .returned (.tuple #[]) ∧ ∃ A' c', Hs W0 Q (n + 1) (snocF n f q) A' c' w' ∧ Kt w w') := by
  have hrows : QR W0 (n + 1) (snocF n f q) := fun k hk => by
    unfold snocF
    split
    · exact h.rows k (by omega)
    · exact hq
  have HR := Lib.hid hrows
  have b1 : Below w.heap.size w (w.alloc (.cells #[.int .i64 q.tb, .int .i64 q.ix, .slice q.x.la q.x.ls.length q.x.lc, .slice q.x.sa q.x.ss.length q.x.sc] 74)) := (Below.refl _ _).alloc (Nat.le_refl _) _
  have hH1 := h.below b1
  have C1 := Blk.new w #[.int .i64 q.tb, .int .i64 q.ix, .slice q.x.la q.x.ls.length q.x.lc, .slice q.x.sa q.x.ss.length q.x.sc] 74
  have HK1 := Lib.hid (Kt.of_below b1)
  have hta := assert_cur
  clear hrows b1
  go_enter Tryz.func136, Tryz.ntmps136
  go_upto_region 2 with fail
  obtain ⟨w1, hw1⟩ : ∃ w1, w1 = w.alloc (.cells #[.int .i64 q.tb, .int .i64 q.ix, .slice q.x.la q.x.ls.length q.x.lc, .slice q.x.sa q.x.ss.length q.x.sc] 74) := ⟨_, rfl⟩
  rw [← hw1] at hH1 C1 HK1 ⊢
  clear hw1 h hta
  have HH := Lib.hid hH1
  have HC := Lib.hid C1
  have g0 : w1.cell? ⟨Q, 0, none⟩ = some (.slice A n c) := hH1.var.c1
  have g0' : ∀ o, (w1.alloc o).cell? ⟨Q, 0, none⟩ = some (.slice A n c) := fun o => (hH1.var.alloc o).c1
  obtain ⟨k0, k1, k2, k3⟩ := C1.c4
  clear hH1 C1
  go_region_law (refine step_append_buf rfl (.tmp 15) (.tmp 17) 72 rfl cur_ty rfl (HH.out.buf.buf.alloc _).drew rfl ((Buf.lit w1 74 4 1 [.int .i64 q.tb, .int .i64 q.ix, .slice q.x.la q.x.ls.length q.x.lc, .slice q.x.sa q.x.ss.length q.x.sc] rfl (by decide)).drew.src Tryz.underlying72 (by simp [Value.oneCell'])) (by simp only [maxLen]; omega) (by omega) ?_; intro v2 w2 hb2 ha2 hg2; obtain ⟨A2, c2, rfl, hc2⟩ := hb2.shape; have Y2 := (HH.out.var.alloc (.cells #[.int .i64 q.tb, .int .i64 q.ix, .slice q.x.la q.x.ls.length q.x.lc, .slice q.x.sa q.x.ss.length q.x.sc] 74)).drew.ap (HH.out.buf.buf.alloc _).drew ha2 (by decide); have HB2 := Lib.hid (And.intro hb2 (And.intro ha2 (And.intro hg2 Y2))); clear hb2 ha2 hg2; have d0 := Y2.c1; have d1 := Y2.free 0; clear Y2)
  all_goals
    obtain ⟨r1, r2⟩ := push_fin HH.out (((Below.refl _ _).alloc (Nat.le_refl _) _).drew) HB2.out.1 HB2.out.2.1 HB2.out.2.2.1 HR.out
    have HF := Lib.hid (And.intro r1 (HK1.out.trans r2))
    clear r1 r2 d0 d1 g0 g0' k0 k1 k2 k3
    go_wp2_with fail
    go_end0
    exact ⟨rfl, A2, c2, HF.out⟩

set_option maxHeartbeats 4000000 in
set_option maxRecDepth 10000 in
theorem heapPush_any (Q n c : Nat) (f : Nat → Cu) (A : Option Addr) (q : Cu) (W0 w : World) (h : Hs W0 Q n f A c w) (hp : Hp lsC 0 n f) (hn : n < 1000000) (hq : RAt W0 q.x) :
    Calls Tryz.prog 33 #[.iface 76 (.pointer (some ⟨Q, 0, none⟩)), .iface 74 (.agg #[.int .i64 q.tb, .int .i64 q.ix, .slice q.x.la q.x.ls.length q.x.lc, .slice q.x.sa q.x.ss.length q.x.sc])] w (fun e w' => e = .returned (.tuple #[]) ∧
      ∃ g A' c', Hp lsC 0 (n + 1) g ∧ (row (n + 1) g).Perm (q :: row n f) ∧ Hs W0 Q (n + 1) g A' c' w' ∧ Kt w w') := by
  have mP : Sem.run Tryz.prog (method 298 76 (.pointer (some ⟨Q, 0, none⟩)) "Push") w = .ok (136, .pointer (some ⟨Q, 0, none⟩)) w := finds_ptr queue_push _
  have HP := Lib.hid (qPush_any Q n c f A q W0 w h hn hq)
  have hp2 : Hp lsC 0 n (snocF n f q) := hp.congr fun k _ hk => by unfold snocF; rw [if_pos hk]
  have HP2 := Lib.hid hp2
  clear h hp hp2
  go_enter Tryz.func33, Tryz.ntmps33
  go_wp2_with fail
  refine HP.out.mono ?_
  rintro e w1 ⟨rfl, A1, c1, hH1, hK1⟩
  obtain ⟨b, o, rfl, hb0⟩ := hH1.some_ (by omega)
  have HLN := Lib.hid (qLen_any (some ⟨b, o, none⟩) (n + 1) c1 w1)
  have mN : Sem.run Tryz.prog (method 298 76 (.pointer (some ⟨Q, 0, none⟩)) "Len") w1 = .ok (132, .slice (some ⟨b, o, none⟩) (n + 1) c1) w1 := finds_val queue_len hH1.var.c1 _
  have hup := up_any Q b o (n + 1) c1 n (snocF n f q) W0 w1 w1 hH1.qu hH1.buf.below hb0 hH1.newQ hH1.rows (by omega) (by omega) (UpX.start HP2.out)
  have e1 : IntKind.i64.wrap ((n : Int) + 1 - 1) = (n : Int) := by rw [IntKind.wrap_i64]; omega
  have HUP := Lib.hid hup
  have HH := Lib.hid hH1
  have HK := Lib.hid hK1
  clear hup hH1 hK1 mP HP
  go_wp2_with fail
  refine HLN.out.mono ?_
  rintro e w2 ⟨rfl, rfl⟩
  clear HLN mN
  go_wp2_with fail
  refine HUP.out.mono ?_
  rintro e w3 ⟨v, rfl, g, p2, q2, hQ3⟩
  obtain ⟨hH3, hK3⟩ := HH.out.back (by omega) hQ3 (HH.out.rows.perm p2)
  have hperm : (row (n + 1) g).Perm (q :: row n f) := by
    have h1 := p2.perm
    rw [row_snocF] at h1
    exact h1.trans (List.perm_append_singleton q (row n f))
  have HF := Lib.hid (And.intro q2 (And.intro hperm (And.intro hH3 (HK.out.trans hK3))))
  clear q2 hperm hH3 hK3 p2 hQ3 HUP
  go_wp2_with fail
  go_end0
  exact ⟨rfl, g, _, _, HF.out⟩
end Go.Proofs.YtjklcojnbcemoaaGreatDoor

/-
  Layer 14: plain: what the loop of merge.Tables keeps: the events popped, the cursors left.
-/
namespace Go.Proofs.YtjklcojnbcemoaaGreatDoor
open Go.RowKit Go.Bar Go.Bar.Leb Go.Bar.Lab Go.Bar.Xor Go.Bar.Mrg

/-- the tables' plain content -/
def plT (tv : List (List Rv)) : List (List Row) := tv.map (fun t => t.map plR)
/-- a cursor's event -/
def evC (q : Cu) : Ev := (plR q.x, q.tb)
/-- what a cursor has ahead of it -/
def remQ (tv : List (List Rv)) (q : Cu) : List Ev := ((tv.getD q.tb []).drop q.ix).map (fun x => (plR x, q.tb))
def rem (tv : List (List Rv)) (cs : List Cu) : List Ev := cs.flatMap (remQ tv)
/-- a table's first cursor -/
def curOf (k : Nat) (t : List Rv) : List Cu := match t with
  | [] => []
  | x :: _ => [⟨k, 0, x⟩]
/-- the first cursors of the first m tables -/
def inits (tv : List (List Rv)) (m : Nat) : List Cu := (List.range m).flatMap (fun k => curOf k (tv.getD k []))
theorem inits_succ (tv : List (List Rv)) (m : Nat) : inits tv (m + 1) = inits tv m ++ curOf m (tv.getD m []) := by
  unfold inits
  rw [List.range_succ, List.flatMap_append, List.flatMap_cons, List.flatMap_nil, List.append_nil]
theorem evsK_range : ∀ (ls : List (List Row)) (k : Nat), evsK k ls = (List.range ls.length).flatMap (fun i => (ls.getD i []).map (fun x => (x, k + i)))
  | [], _ => rfl
  | t :: r, k => by
    rw [evsK, evsK_range r (k + 1), List.length_cons, List.range_succ_eq_map, List.flatMap_cons, List.flatMap_map]
    congr 1
    congr 1
    funext i
    have e : k + 1 + i = k + (i + 1) := by omega
    rw [e]
    rfl
/-- what the loop keeps -/
structure TI (tv : List (List Rv)) (S : List Ev) (cs : List Cu) : Prop where
  perm : (S ++ rem tv cs).Perm (evs (plT tv))
  sort : S.Pairwise ltE
  ahead : ∀ s ∈ S, ∀ r ∈ rem tv cs, ltE s r
  nodup : (cs.map (·.tb)).Nodup
  at_ : ∀ q ∈ cs, (tv.getD q.tb [])[q.ix]? = some q.x
theorem curOf_mem {k : Nat} {t : List Rv} {q : Cu} (h : q ∈ curOf k t) : q.tb = k ∧ t[q.ix]? = some q.x ∧ q.ix = 0 := by
  cases t with
  | nil => cases h
  | cons x t =>
    obtain rfl := List.mem_singleton.1 h
    exact ⟨rfl, rfl, rfl⟩
theorem inits_mem {tv : List (List Rv)} {m : Nat} {q : Cu} (h : q ∈ inits tv m) : q.tb < m ∧ (tv.getD q.tb [])[q.ix]? = some q.x := by
  obtain ⟨k, hk, hq⟩ := List.mem_flatMap.1 h
  obtain ⟨h1, h2, _⟩ := curOf_mem hq
  rw [h1]
  exact ⟨List.mem_range.1 hk, h2⟩
theorem inits_nodup (tv : List (List Rv)) : ∀ m, ((inits tv m).map (·.tb)).Nodup
  | 0 => List.nodup_nil
  | m + 1 => by
    rw [inits_succ, List.map_append]
    refine List.nodup_append.2 ⟨inits_nodup tv m, ?_, fun a ha b hb => ?_⟩
    · cases tv.getD m [] with
      | nil => exact List.nodup_nil
      | cons x t => simp [curOf]
    · obtain ⟨q, hq, rfl⟩ := List.mem_map.1 ha
      obtain ⟨p, hp, rfl⟩ := List.mem_map.1 hb
      have h1 := (inits_mem hq).1
      have h2 := (curOf_mem hp).1
      omega
theorem rem_curOf (tv : List (List Rv)) (k : Nat) : rem tv (curOf k (tv.getD k [])) = (tv.getD k []).map (fun x => (plR x, k)) := by
  rcases h : tv.getD k [] with _ | ⟨x, t⟩
  · rfl
  · show remQ tv ⟨k, 0, x⟩ ++ [] = _
    unfold remQ
    rw [List.append_nil, h]
    rfl
theorem rem_inits (tv : List (List Rv)) (m : Nat) : rem tv (inits tv m) = (List.range m).flatMap (fun k => (tv.getD k []).map (fun x => (plR x, k))) := by
  unfold rem inits
  rw [List.flatMap_assoc]
  congr 1
  funext k
  exact rem_curOf tv k
theorem TI.start (tv : List (List Rv)) : TI tv [] (inits tv tv.length) where
  perm := by
    have e : rem tv (inits tv tv.length) = evs (plT tv) := by
      rw [rem_inits]
      unfold evs
      rw [evsK_range]
      have el : (plT tv).length = tv.length := by unfold plT; rw [List.length_map]
      rw [el]
      congr 1
      funext k
      have eg : (plT tv).getD k [] = (tv.getD k []).map plR := by
        unfold plT
        rw [List.getD_eq_getElem?_getD, List.getD_eq_getElem?_getD, List.getElem?_map]
        cases tv[k]? <;> rfl
      rw [eg, List.map_map, Nat.zero_add]
      rfl
    rw [List.nil_append, e]
  sort := List.Pairwise.nil
  ahead := fun s hs => nomatch hs
  nodup := inits_nodup tv _
  at_ := fun q hq => (inits_mem hq).2
theorem rem_perm (tv : List (List Rv)) {cs ds : List Cu} (h : cs.Perm ds) : (rem tv cs).Perm (rem tv ds) := h.flatMap_right _
theorem TI.of_perm {tv : List (List Rv)} {S : List Ev} {cs ds : List Cu} (h : TI tv S cs) (hp : cs.Perm ds) : TI tv S ds where
  perm := ((rem_perm tv hp).symm.append_left S).trans h.perm
  sort := h.sort
  ahead := fun s hs r hr => h.ahead s hs r ((rem_perm tv hp).mem_iff.2 hr)
  nodup := ((hp.map (·.tb)).nodup_iff).1 h.nodup
  at_ := fun q hq => h.at_ q (hp.mem_iff.2 hq)
/-- a cursor one further, if its table goes on -/
def adv (tv : List (List Rv)) (q : Cu) : List Cu := match (tv.getD q.tb [])[q.ix + 1]? with
  | none => []
  | some x => [⟨q.tb, q.ix + 1, x⟩]
theorem remQ_adv {tv : List (List Rv)} {q : Cu} (h : (tv.getD q.tb [])[q.ix]? = some q.x) : remQ tv q = evC q :: rem tv (adv tv q) := by
  obtain ⟨hlt, hx⟩ := List.getElem?_eq_some_iff.1 h
  unfold remQ
  rw [List.drop_eq_getElem_cons hlt, List.map_cons, hx]
  congr 1
  unfold adv
  rcases h2 : (tv.getD q.tb [])[q.ix + 1]? with _ | y
  · rw [List.drop_eq_nil_of_le (by have := List.getElem?_eq_none_iff.1 h2; omega)]; rfl
  · simp [rem, remQ]
theorem adv_tb {tv : List (List Rv)} {q p : Cu} (h : p ∈ adv tv q) : p.tb = q.tb ∧ (tv.getD p.tb [])[p.ix]? = some p.x := by
  unfold adv at h
  rcases h2 : (tv.getD q.tb [])[q.ix + 1]? with _ | y
  · rw [h2] at h; cases h
  · rw [h2] at h
    obtain rfl := List.mem_singleton.1 h
    exact ⟨rfl, h2⟩
theorem lsC_ltE {p q : Cu} (h : lsC p q = false) (ht : p.tb ≠ q.tb) : ltE (evC q) (evC p) := by
  unfold lsC at h
  rw [Bool.or_eq_false_iff, decide_eq_false_iff_not] at h
  obtain ⟨h1, h2⟩ := h
  have hn := cmpL_neg p.x.ls q.x.ls
  show cmpL q.x.ls p.x.ls < 0 ∨ cmpL q.x.ls p.x.ls = 0 ∧ q.tb < p.tb
  by_cases e : cmpL p.x.ls q.x.ls = 0
  · rw [e, decide_eq_true rfl, Bool.true_and, decide_eq_false_iff_not] at h2
    exact .inr ⟨by omega, by omega⟩
  · exact .inl (by omega)
theorem ltE_trans {x y z : Ev} (h : ltE x y) (k : ltE y z) : ltE x z := ltE_tr h k
theorem TI.step {tv : List (List Rv)} {S : List Ev} {q : Cu} {cs : List Cu} (h : TI tv S (q :: cs)) (hr : ∀ t ∈ tv, Rls (t.map plR)) (hm : ∀ p ∈ cs, lsC p q = false) : TI tv (S ++ [evC q]) (adv tv q ++ cs) := by
  have hq := h.at_ q (List.mem_cons_self ..)
  have e1 : rem tv (q :: cs) = evC q :: (rem tv (adv tv q) ++ rem tv cs) := by
    show remQ tv q ++ rem tv cs = _
    rw [remQ_adv hq, List.cons_append]
  have e2 : rem tv (adv tv q ++ cs) = rem tv (adv tv q) ++ rem tv cs := by unfold rem; rw [List.flatMap_append]
  -- in a table its own rows rise
  have hown : ∀ p ∈ q :: cs, ∀ r ∈ rem tv (adv tv p), ltE (evC p) r := fun p hp r hrr => by
    have hpa := h.at_ p hp
    obtain ⟨hlt, hx⟩ := List.getElem?_eq_some_iff.1 hpa
    have hmem : (tv.getD p.tb []) ∈ tv := by
      rw [List.getD_eq_getElem?_getD] at hlt ⊢
      rcases ht : tv[p.tb]? with _ | t
      · rw [ht] at hlt; exact absurd hlt (Nat.not_lt_zero _)
      · exact List.mem_of_getElem? ht
    have hs := hr _ hmem
    have hd : ((tv.getD p.tb []).drop p.ix).map plR = plR p.x :: ((tv.getD p.tb []).drop (p.ix + 1)).map plR := by rw [List.drop_eq_getElem_cons hlt, hx]; rfl
    have hs2 : Rls (((tv.getD p.tb []).drop p.ix).map plR) := by
      rw [List.map_drop]
      exact List.Pairwise.sublist (List.drop_sublist _ _) hs
    rw [hd] at hs2
    have h3 := (List.pairwise_cons.1 hs2).1
    have e3 : rem tv (adv tv p) = ((tv.getD p.tb []).drop (p.ix + 1)).map (fun x => (plR x, p.tb)) := by
      have := remQ_adv hpa
      unfold remQ at this
      rw [List.drop_eq_getElem_cons hlt, List.map_cons] at this
      injection this with _ this
      exact this.symm
    rw [e3] at hrr
    obtain ⟨y, hy, rfl⟩ := List.mem_map.1 hrr
    exact .inl (h3 _ (List.mem_map_of_mem hy))
  have hoth : ∀ p ∈ cs, ∀ r ∈ remQ tv p, ltE (evC q) r := fun p hp r hrr => by
    have hne : p.tb ≠ q.tb := by
      intro e
      have hn := h.nodup
      rw [List.map_cons] at hn
      exact (List.nodup_cons.1 hn).1 (e ▸ List.mem_map_of_mem (f := (·.tb)) hp)
    have h1 := lsC_ltE (hm p hp) hne
    rw [remQ_adv (h.at_ p (List.mem_cons_of_mem _ hp))] at hrr
    rcases List.mem_cons.1 hrr with rfl | h2
    · exact h1
    · exact ltE_tr h1 (hown p (List.mem_cons_of_mem _ hp) r h2)
  refine ⟨?_, ?_, ?_, ?_, ?_⟩
  · have := h.perm
    rw [e1] at this
    rw [e2, List.append_assoc, List.singleton_append]
    exact this
  · refine List.pairwise_append.2 ⟨h.sort, List.pairwise_singleton _ _, fun a ha b hb => ?_⟩
    obtain rfl := List.mem_singleton.1 hb
    exact h.ahead a ha _ (by rw [e1]; exact List.mem_cons_self ..)
  · intro s hs r hrr
    rw [e2] at hrr
    rcases List.mem_append.1 hs with h1 | h1
    · exact h.ahead s h1 r (by rw [e1]; exact List.mem_cons_of_mem _ hrr)
    · obtain rfl := List.mem_singleton.1 h1
      rcases List.mem_append.1 hrr with h2 | h2
      · exact hown q (List.mem_cons_self ..) r h2
      · obtain ⟨p, hp, hr2⟩ := List.mem_flatMap.1 h2
        exact hoth p hp r hr2
  · have hn := h.nodup
    rw [List.map_cons] at hn
    obtain ⟨n1, n2⟩ := List.nodup_cons.1 hn
    rw [List.map_append]
    refine List.nodup_append.2 ⟨?_, n2, fun a ha b hb => ?_⟩
    · unfold adv
      cases (tv.getD q.tb [])[q.ix + 1]? with
      | none => exact List.nodup_nil
      | some y => simp
    · obtain ⟨p, hp, rfl⟩ := List.mem_map.1 ha
      intro e
      rw [(adv_tb hp).1] at e
      exact n1 (e ▸ hb)
  · intro p hp
    rcases List.mem_append.1 hp with h1 | h1
    · exact (adv_tb h1).2
    · exact h.at_ p (List.mem_cons_of_mem _ h1)
/-- at the end -/
theorem TI.done {tv : List (List Rv)} {S : List Ev} (h : TI tv S []) : S.Perm (evs (plT tv)) ∧ S.Pairwise ltE := by
  have h1 := h.perm
  rw [show rem tv [] = [] from rfl, List.append_nil] at h1
  exact ⟨h1, h.sort⟩
/-- how many are left -/
theorem TI.left {tv : List (List Rv)} {S : List Ev} {q : Cu} {cs : List Cu} (h : TI tv S (q :: cs)) : (rem tv (adv tv q ++ cs)).length < (rem tv (q :: cs)).length := by
  show (rem tv (adv tv q ++ cs)).length < (remQ tv q ++ rem tv cs).length
  rw [remQ_adv (h.at_ q (List.mem_cons_self ..)), show rem tv (adv tv q ++ cs) = rem tv (adv tv q) ++ rem tv cs by unfold rem; rw [List.flatMap_append]]
  simp
end Go.Proofs.YtjklcojnbcemoaaGreatDoor
