/-
 Layer 16: slices.Chunk over samples: the iterator's contract.
-/
import Derived.Test.YtgabmfibfikdbaaGreatDoorZXorD
import Derived.Test.YtgabmfibfikdbaaGreatDoorZLabF
import Derived.Test.YtgabmfibfikdbaaGreatDoorZLib16
import Derived.Test.YtgabmfibfikdbaaGreatDoorZLib28
import Derived.Test.YtgabmfibfikdbaaGreatDoorZLabT
import Derived.Test.YtgabmfibfikdbaaGreatDoorZIdtA
import Derived.Test.YtgabmfibfikdbaaGreatDoorZLabB
import Derived.Test.YtgabmfibfikdbaaGreatDoorZLib4
import Derived.Test.YtgabmfibfikdbaaGreatDoorZBokM
import Derived.Test.YtgabmfibfikdbaaGreatDoorZLib5
import Derived.Test.YtgabmfibfikdbaaGreatDoorZLib22
import Derived.Deep.CutRange
import Derived.Deep.QuietTactic
import Derived.BigQuiet
import Derived.Test.YtgabmfibfikdbaaGreatDoorZLib9
import Derived.BigRegion

set_option maxHeartbeats 32000000
set_option maxRecDepth 10000
namespace Go.Bar
open Go.RowKit

section
variable {P : Program} {t e : TypeId} {i : TypeInfo} {w : World} {a : Option Addr} {n c sz : Nat}
theorem run_slice_ftm (ht : P.underlying t = some (.slice e)) (hi : P.info? e = some i) (hs : i.size = sz) (l h m : Nat) (hlh : l <= h) (hm : h <= m) (hc : m <= c) (w : World) :
  (Instr.slice t (.slice a n c) (some (.int .i64 (l : Int))) (some (.int .i64 (h : Int))) (some (.int .i64 (m : Int)))).run P w = .ok (.slice (dropA a m l sz) (h - l) (m - l)) w := by
 simp [Instr.slice, run_underlying ht, Instr.sliceBounds, Instr.sliceBound, asIntOf, sizeOf, typeInfo, hi, hs, hlh, hm, hc, dropA]
theorem SlAt.part3 {xs : List Value} (h : SlAt w sz (.slice a n c) n xs) (l m : Nat) (hlm : l <= m) (hm : m <= n) : SlAt w sz (.slice (dropA a m l sz) (m - l) (m - l)) (m - l) ((xs.drop (l * sz)).take ((m - l) * sz)) := by
 obtain ⟨hl, A', c1, hv', hnc, hcm, hv⟩ := h
 injection hv' with h1 h2 h3
 subst h1; subst h3
 have e1 : (m - l) * sz = m * sz - l * sz := Nat.sub_mul _ _ _
 have e2 := Nat.mul_le_mul_right sz hlm
 have e3 := Nat.mul_le_mul_right sz hm
 refine ⟨by rw [List.length_take, List.length_drop]; omega, _, _, rfl, by omega, by omega, fun h0 => ?_⟩
 obtain ⟨b, o, rfl, hlt, hx⟩ := hv (by omega)
 have hne : ¬ m = l := by
  intro hcl
  subst hcl
  simp at h0
 refine ⟨b, o + l * sz, ?_, hlt, fun j hj => ?_⟩
 ·unfold dropA
  rw [if_neg hne]
  simp [addr_add]
 ·rw [Nat.add_assoc, hx (l * sz + j) (by omega), List.getElem?_take, if_pos (by omega), List.getElem?_drop]
end
end Go.Bar
namespace Go.Proofs.YtgabmfibfikdbaaGreatDoor
open Go.RowKit Go.Bar Go.Bar.Leb Go.Bar.Frm Go.Bar.Lab Go.Bar.Xor Go.Bar.Mrg Go.Bar.Met Go.Bar.Bok
attribute [local go_sem] Oper.semAt_some

structure CkB (w : World) (B : Nat) (v : Value) : Prop where
 b0 : Blk w B 32 #[v]
 b1 : Blk w (B + 1) 3 #[.int .i64 120]
theorem CkB.below {w w' : World} {B : Nat} {v : Value} (h : CkB w B v) (hb : Below w.heap.size w w') : CkB w' B v := ⟨h.b0.below hb, h.b1.below hb⟩
theorem CkB.kept {w w' : World} {B : Nat} {v : Value} (h : CkB w B v) (hb : ∀ k, B <= k -> k < B + 2 -> w'.heap[k]? = w.heap[k]?) : CkB w' B v := ⟨(hb B (by omega) (by omega)).trans h.b0, (hb (B + 1) (by omega) (by omega)).trans h.b1⟩
def ckE (n k : Nat) : Nat := min 120 (n - 120 * k)
def ckV (A : Option Addr) (n k : Nat) : Value := .slice (dropA A (120 * k + ckE n k) (120 * k) 2) (ckE n k) (ckE n k)

theorem range_prefix {a b : Nat} (h : a <= b) : List.range a <+: List.range b := by
 obtain ⟨d, rfl⟩ : ∃ d, b = a + d := ⟨b - a, by omega⟩
 rw [List.range_add]
 exact List.prefix_append _ _
theorem chunkFn_any (A : Option Addr) (N c : Nat) (w : World) :
  Calls Tryz.prog 96 #[.slice A N c, .int .i64 120] w fun e w' => e = .returned (.func (.func 116) #[] #[.pointer (some ⟨w.heap.size, 0, none⟩), .pointer (some ⟨w.heap.size + 1, 0, none⟩)]) /\
   w' = (w.alloc (.cells #[.slice A N c] 32)).alloc (.cells #[.int .i64 120] 3) := by
 go_enter Tryz.func96, Tryz.ntmps96
 go_wp2_with fail
 go_ret
 exact ⟨rfl, rfl⟩

theorem chunk_seq (A : Option Addr) (N c : Nat) (hNc : N <= c) (hN : N <= 1000000000) (n : Nat) (hn : 1 <= n) (B : Nat) (w : World) (h : CkB w B (.slice A N c)) :
  SeqD Fence.wide n Tryz.prog 116 #[.pointer (some ⟨B, 0, none⟩), .pointer (some ⟨B + 1, 0, none⟩)] (fun k : Nat => #[ckV A N k]) B (B + 2) (fun xs => xs = List.range ((N + 119) / 120)) (fun pre => pre <+: List.range ((N + 119) / 120)) ((N + 119) / 120) w := by
 intro l J Jx W hW hJs hY h0
 have h := h.below hW
 obtain ⟨M, hM⟩ : ∃ M, M = (N + 119) / 120 := ⟨_, rfl⟩
 rw [<- hM] at hY ⊢
 have hM1 : 120 * M <= N + 119 := by omega
 have hM2 : N <= 120 * M := by omega
 clear hM
 refine callsIn_of_wp Tryz.func116 rfl trivial ?_ rfl
 simp only [Tryz.ntmps116, List.size_toArray, List.length_cons, List.length_nil, Nat.reduceAdd, Nat.reduceSub, Array.replicate_succ, Array.replicate_zero, List.push_toArray, List.append_toArray, List.nil_append, List.cons_append]
 gi_wp2
 gi_loopw [4] (fun iv wr => ∃ k : Nat, iv = .int .i64 ((120 * k : Nat) : Int) /\ k <= M /\ Hid (CkB wr B (.slice A N c)) /\ Hid (J (List.range k) wr)) (fun iv _ => N + 119 - (intOf iv).toNat)
 case atStart => exact ⟨0, rfl, Nat.zero_le _, Lib.hid h, Lib.hid h0⟩
 case round =>
  obtain ⟨k, rfl, hk, hsp, hJ⟩ := hrel
  obtain ⟨I, hI⟩ : ∃ I, I = 120 * k := ⟨_, rfl⟩
  rw [<- hI]
  have a0 := hsp.out.b0.cell (i := 0) rfl
  have a1 := hsp.out.b1.cell (i := 0) rfl
  by_cases hgo : I < N
  ·have hkM : k < M := by omega
   have hlen : (List.range k).length < M := by rw [List.length_range]; exact hkM
   have hYD := fun q => hY (List.range k) k (wr.drewN q) (hJs _ _ q hJ.out) hlen
   obtain ⟨E, hE⟩ : ∃ E, E = ckE N k := ⟨_, rfl⟩
   have hE1 : E <= 120 := by rw [hE]; unfold ckE; omega
   have hE2 : I + E <= N := by rw [hE, hI]; unfold ckE; omega
   have hEm : min (120 : Int) ((N - I : Nat) : Int) = (E : Int) := by rw [hE, hI]; unfold ckE; omega
   obtain ⟨ti, hi0, hiz, hi2, _⟩ := sm_ty.info
   have hs1 := fun w => run_slice_f (P := Tryz.prog) (a := A) (n := N) (c := c) (t := 32) Tryz.underlying32 hi0 hi2 I (by omega) hNc w
   have hs2 := fun w => run_slice_ftm (P := Tryz.prog) (a := A) (n := N) (c := c) (t := 32) Tryz.underlying32 hi0 hi2 I (I + E) (I + E) (by omega) (Nat.le_refl _) (by omega) w
   rw [show ((I + E : Nat) : Int) = (I : Int) + (E : Int) by omega, show I + E - I = E by omega] at hs2
   have hw1 : IntKind.i64.wrap ((I : Int) + (E : Int)) = (I : Int) + (E : Int) := by rw [IntKind.wrap_i64]; omega
   have hw2 : IntKind.i64.wrap ((I : Int) + 120) = (I : Int) + 120 := by rw [IntKind.wrap_i64]; omega
   have hck : ckV A N k = .slice (dropA A (I + E) I 2) E E := by unfold ckV; rw [<- hE, <- hI]
   rw [hck] at hYD
   have HYD := Lib.hid hYD
   have HI := Lib.hid hI
   have HEE := Lib.hid hE
   have hci : (I : Int) < (N : Int) := by omega
   have hci0 : (0 : Int) <= (I : Int) := by omega
   clear hYD hI hE hck hi0 hiz hi2 hlen
   gi_wp2
   gi_big_quiet_th (fail)
   obtain ⟨fn, tmps, assign, body, hy, hR⟩ := HYD.out nq
   have HR := Lib.hid hR
   have a0' := (hsp.out.b0.drewN nq).cell (i := 0) rfl
   have a1' := (hsp.out.b1.drewN nq).cell (i := 0) rfl
   clear hR HYD
   gi_wp2
   refine HR.out.mono ?_
   rintro e w' (⟨rfl, hJ1, hk1⟩ | ⟨rfl, hJx⟩)
   ·have hsp1 := CkB.kept (w := wr) hsp.out hk1
    have HJ1 := Lib.hid hJ1
    have HSP := Lib.hid hsp1
    have a0 := hsp1.b0.cell (i := 0) rfl
    have a1 := hsp1.b1.cell (i := 0) rfl
    clear hJ1 hk1 hsp1 a0' a1' hy
    gi_wp2
    go_roundw
    case rel => exact ⟨k + 1, by rw [HI.out]; first | (congr 1; omega) | congr 1, by omega, HSP, by rw [List.range_succ]; exact HJ1⟩
    case measure => simp [intOf]; omega
   ·have HJ1 := Lib.hid hJx
    clear hJx hy
    gi_wp2
    refine bodyPost_ret (results_none rfl _ _ _) rfl ?_
    refine ⟨⟨_, rfl⟩, .inr ⟨_, ?_, HJ1.out⟩⟩
    rw [<- List.range_succ]
    exact range_prefix (by omega)
  ·have hJ2 := hJ.out
   have hkM : k = M := by omega
   rw [hkM] at hJ2
   have HJ2 := Lib.hid hJ2
   have hci : ¬ ((I : Int) < (N : Int)) := by omega
   clear hJ2 hkM hI
   gi_wp2
   go_end0
   exact ⟨⟨_, rfl⟩, .inl HJ2.out⟩
end Go.Proofs.YtgabmfibfikdbaaGreatDoor

set_option maxHeartbeats 32000000
set_option maxRecDepth 10000
namespace Go.Proofs.YtgabmfibfikdbaaGreatDoor
open Go.RowKit Go.Bar Go.Bar.Leb Go.Bar.Frm Go.Bar.Lab Go.Bar.Xor Go.Bar.Mrg Go.Bar.Met Go.Bar.Bok
attribute [local go_sem] Oper.semAt_some

theorem _root_.Go.RowKit.Ke.turned {Ts : TypeId -> Prop} {w W W' : World} {row : Option Nat} (h : Ke Ts w W) (hg : W.grownBy W' row) (hr : ∀ r, row = some r -> w.heap.size <= r) : Ke Ts w W' :=
 ⟨hg.os.trans h.os, hg.tape.trans h.tape, hg.output.trans h.output, Nat.le_trans h.size hg.size, fun k hk ht => (hg.block k (Nat.lt_of_lt_of_le hk h.size) (fun e => by have := hr k e.symm; omega)).trans (h.block k hk ht)⟩
theorem _root_.Go.RowKit.Ke.drewN {Ts : TypeId -> Prop} {w W : World} (h : Ke Ts w W) (q : Nat) : Ke Ts w (W.drewN q) := ⟨h.os, h.tape, h.output, h.size, h.block⟩
theorem _root_.Go.RowKit.Ke.set_new {Ts : TypeId -> Prop} {w W : World} (h : Ke Ts w W) {M : Nat} (hM : w.heap.size <= M) (i : Nat) (u : Value) : Ke Ts w (W.setCell ⟨M, i, none⟩ u) := by
 have hf : Fr (fun k _ => k = M) W (W.setCell ⟨M, i, none⟩ u) := (Fr.refl (fun k _ => k = M) W).setCell (fun _ => rfl) _
 exact ⟨hf.os.trans h.os, hf.tape.trans h.tape, hf.output.trans h.output, Nat.le_trans h.size hf.size, fun k hk ht => (hf.block (Nat.lt_of_lt_of_le hk h.size) fun j hj => by have hj : k = M := hj; omega).trans (h.block k hk ht)⟩
theorem _root_.Go.RowKit.Ke.alloc {Ts : TypeId -> Prop} {w W : World} (h : Ke Ts w W) (o : Obj) : Ke Ts w (W.alloc o) := h.trans (Ke.of_below ((Below.refl _ _).alloc (Nat.le_refl _) o))
abbrev ckL (L : List Sm) (pre : List Nat) : List UInt8 := laid (pre.map fun j => (4, ckT L j))
structure GI (w0 w W : World) (xs : List UInt8) (L : List Sm) (sv : Value) (pre : List Nat) (v : Value) : Prop where
 x0 : Blk W w.heap.size 96 #[v]
 x1 : Blk W (w.heap.size + 1) 96 #[.slice none 0 0]
 x2 : Blk W (w.heap.size + 1 + 1) 26 #[.int .i64 0]
 bx : CkB W (w.heap.size + 1 + 1 + 1) sv
 buf : NBuf w0 W 5 1 v (xs ++ ckL L pre).length (bcs (xs ++ ckL L pre))
 ke : Ke (fun T => T = 5) w W
theorem ckL_len {L : List Sm} (h : SmOk L) : ∀ pre : List Nat, (ckL L pre).length <= 2400 * pre.length
 | [] => Nat.le_refl _
 | j :: pre => by
  have ih := ckL_len h pre
  have h1 := ckT_len h j
  have h2 := u_len (ckT L j).length (by omega)
  unfold ckL at ih ⊢
  rw [List.map_cons, laid_cons, List.length_append, rec_len, List.length_cons]
  show 5 + (u (ckT L j).length).length + (ckT L j).length + _ <= _
  omega
theorem ckL_snoc (L : List Sm) (pre : List Nat) (j : Nat) : ckL L (pre ++ [j]) = ckL L pre ++ Frm.rec (4, ckT L j) := by
 unfold ckL
 rw [List.map_append, List.map_cons, List.map_nil, laid_snoc]
theorem ckV_at {w : World} {A : Option Addr} {c : Nat} {L : List Sm} (h : SmsAt w (.slice A L.length c) L) (k : Nat) : SmsAt w (ckV A L.length k) (Bok.part L k) := by
 have h1 : SlAt w 2 (.slice A L.length c) L.length (smc L) := h
 have hp : Bok.part L k = (L.drop (120 * k)).take (ckE L.length k) := by
  unfold Bok.part ckE
  rw [<- List.length_drop]
  exact List.take_eq_take_min
 have e1 : (Bok.part L k).length = ckE L.length k := by
  rw [hp, List.length_take, List.length_drop]
  unfold ckE
  omega
 by_cases hk : 120 * k <= L.length
 ·have h2 := h1.part3 (120 * k) (120 * k + ckE L.length k) (by omega) (by unfold ckE; omega)
  rw [show 120 * k + ckE L.length k - 120 * k = ckE L.length k by omega] at h2
  have e2 : smc (Bok.part L k) = ((smc L).drop (120 * k * 2)).take (ckE L.length k * 2) := by
   rw [hp]
   unfold smc
   rw [flat_drop _ 2 (fun _ => rfl), flat_take _ 2 (fun _ => rfl)]
  unfold SmsAt ckV
  rw [e1, e2]
  exact h2
 ·have h0 : ckE L.length k = 0 := by unfold ckE; omega
  have h3 : Bok.part L k = [] := List.eq_nil_of_length_eq_zero (by rw [e1, h0])
  unfold SmsAt ckV
  rw [h3, h0]
  exact ⟨rfl, _, 0, rfl, Nat.le_refl _, Nat.zero_le _, fun h => absurd h (by simp)⟩

theorem kchunk_any (w0 : World) (V : Value) (xs : List UInt8) (L : List Sm) (A : Option Addr) (c : Nat) (w : World) (hW : WidthsAt w0) (hL : SmsAt w0 (.slice A L.length c) L) (hok : SmOk L) (hn : L.length <= 1000000) (hx : xs.length <= 1000000000) (hb : NBuf w0 w 5 1 V xs.length (bcs xs)) :
  Calls Tryz.prog 59 #[V, .slice A L.length c] w (fun e w' => ∃ v, e = .returned (.tuple #[v, .int .i64 0]) /\ NBuf w0 w' 5 1 v (xs ++ chB L).length (bcs (xs ++ chB L)) /\ Ke (fun T => T = 5) w w') := by
 obtain ⟨A0, c0, rfl, hc0⟩ := hb.buf.shape
 have hlc : L.length <= c := by
  obtain ⟨_, _, he, hlc, _⟩ := SlAt.shape hL
  injection he with _ _ e3
  rw [e3]; exact hlc
 refine (callsIn_wide (n := 9)).1 ?_
 refine callsIn_of_wp_marks Tryz.func59 rfl trivial ?_ rfl
 simp only [Tryz.ntmps59, List.size_toArray, List.length_cons, List.length_nil, Nat.reduceAdd, Nat.reduceSub, Array.replicate_succ, Array.replicate_zero, List.push_toArray, List.append_toArray, List.nil_append, List.cons_append]
 gi_wp2_with (refine ⟨trivial, ?_⟩; gi_at_call 96; refine (callsIn_wide.2 (chunkFn_any A L.length c _)).mono ?_; rintro e w' ⟨rfl, rfl⟩)
 have hof : ∀ (x : Nat) (W : World), Below w0.heap.size w0 W -> Calls Tryz.prog 84 #[ckV A L.length x] W (RetBelow W (.tuple #[.string (bs (ckT L x)), .int .i64 0])) := fun x W hb => by
  have h1 := of_any (Bok.part L x) (ckV A L.length x) W (ckV_at (hL.below hb) x) (hW.below hb) (part_v hok x)
  have h2 := part_of hok x
  rw [ofTx_ok h2, h2] at h1
  exact h1
 have HOF := Lib.hid hof
 have HTL := Lib.hid (fun x => ckT_len hok x)
 have HCL := Lib.hid (ckL_len hok)
 have HNP := Lib.hid (show nP L <= 10000 by unfold nP; omega)
 clear hof hW
 refine wpIn_rangeFunc_ownD (w0 := (((((w.alloc (.cells #[.slice A0 xs.length c0] 96)).alloc (.cells #[.slice none 0 0] 96)).alloc (.cells #[.int .i64 0] 26)).alloc (.cells #[.slice A L.length c] 32)).alloc (.cells #[.int .i64 120] 3))) rfl (by omega) (gf := 116) (lb := #[.pointer (some ⟨w.heap.size + 1 + 1 + 1, 0, none⟩), .pointer (some ⟨w.heap.size + 1 + 1 + 1 + 1, 0, none⟩)]) rfl trivial (enters_of Tryz.func116 (by kernel_rfl) rfl)
  (lo := w.heap.size + 1 + 1 + 1) (up := w.heap.size + 1 + 1 + 1 + 2) (by omega) (chunk_seq A L.length c hlc (by omega) _ (by omega) (w.heap.size + 1 + 1 + 1) _ ?boxes) (by simp) (Below.refl _ _) (fun _ => rfl)
  (fun pre W => ∃ v, GI w0 w W xs L (.slice A L.length c) pre v) (fun _ _ _ => False) ?own ?ownx ?store ?start
  (fun x => { tmps := #[.slice A0 xs.length c0, .slice A L.length c, .pointer (some ⟨w.heap.size, 0, none⟩), undef, .pointer (some ⟨w.heap.size + 1, 0, none⟩), .pointer (some ⟨w.heap.size + 1 + 1, 0, none⟩), ckV A L.length x, undef, undef, .slice A L.length c, .func (.func 116) #[] #[.pointer (some ⟨w.heap.size + 1 + 1 + 1, 0, none⟩), .pointer (some ⟨w.heap.size + 1 + 1 + 1 + 1, 0, none⟩)], ckV A L.length x, undef, undef, undef, undef, undef, undef, undef, undef, undef, undef, undef, undef, undef], defers := [] }) ?assign ?body ?done ?stop
 case boxes => exact ⟨(Blk.new_at (by simp)).alloc _, Blk.new_at (by simp)⟩
 case own =>
  rintro pre W W' row ⟨v, h⟩ hg hr
  have hr2 : ∀ r, row = some r -> ∃ o : Obj, W.heap[r]? = some o /\ o.isCells = false := fun r e => (hr r e).2
  exact ⟨v, h.x0.turned hg hr2, h.x1.turned hg hr2, h.x2.turned hg hr2, ⟨h.bx.b0.turned hg hr2, h.bx.b1.turned hg hr2⟩, ⟨h.buf.buf.turned hg hr2, h.buf.below.grown hg h.buf.below.size (fun k e => by have := (hr k e).1; have := hb.below.size; simp at *; omega), h.buf.new⟩, h.ke.turned hg (fun r e => by have := (hr r e).1; simp at this; omega)⟩
 case ownx => rintro c pre W W' row h _ _; exact h
 case store =>
  rintro pre W q ⟨v, h⟩
  exact ⟨v, h.x0.drewN q, h.x1.drewN q, h.x2.drewN q, ⟨h.bx.b0.drewN q, h.bx.b1.drewN q⟩, h.buf.drewN q, h.ke.drewN q⟩
 case start =>
  refine ⟨.slice A0 xs.length c0, ((((Blk.new_at (by simp)).alloc _).alloc _).alloc _).alloc _, (((Blk.new_at (by simp)).alloc _).alloc _).alloc _, ((Blk.new_at (by simp)).alloc _).alloc _, ⟨(Blk.new_at (by simp)).alloc _, Blk.new_at (by simp)⟩, ?_, ?_⟩
  ·unfold ckL
   rw [List.map_nil, show laid [] = [] from rfl, List.append_nil]
   exact ((((hb.alloc _).alloc _).alloc _).alloc _).alloc _
  ·exact (((((Ke.refl _ _).alloc _).alloc _).alloc _).alloc _).alloc _
 case assign =>
  intro l x W K hK
  gi_wp2
  exact hK
 case body =>
  rintro l pre x W ⟨v, hI⟩ hlt
  obtain ⟨bA, bc, rfl, hbc⟩ := hI.buf.buf.shape
  have hlen := HCL.out pre
  have hnp : pre.length <= 10000 := by have := HNP.out; unfold nP at this; omega
  have hxl := HTL.out x
  obtain ⟨Y, hY⟩ : ∃ Y, Y = xs ++ ckL L pre := ⟨_, rfl⟩
  have hYl : Y.length <= 1100000000 := by rw [hY, List.length_append]; omega
  have hap : ∀ W, BBuf W 5 (.slice bA Y.length bc) Y -> Calls Tryz.prog 50 #[.slice bA Y.length bc, .agg #[.int .u8 4, .string (bs (ckT L x))]] W (RetB W (.slice bA Y.length bc) 5 Y (Frm.rec (4, ckT L x))) := fun W h => append_any (.slice bA Y.length bc) Y 4 (bs (ckT L x)) W (by rw [bs_size]; omega) h
  have HAP := Lib.hid hap
  have HI := Lib.hid hI
  have HYH := Lib.hid hY
  have hbuf := hI.buf
  rw [<- hY] at hbuf
  have HBUF := Lib.hid hbuf
  obtain ⟨T, hT⟩ : ∃ T, T = ckT L x := ⟨_, rfl⟩
  have hof := HOF.out x W hI.buf.below
  rw [<- hT] at hof HAP
  have HOFX := Lib.hid hof
  have HT := Lib.hid hT
  clear hap hI hY hbuf hof hT hlen hxl
  gi_wp2_with (first
   | (refine ⟨trivial, ?_⟩; gi_at_call 84; refine (CallsIn.inRound l (callsIn_wide.2 HOFX.out)).mono ?_; rintro e w3 ⟨rfl, hb3⟩; have r0 := (HI.out.x0.below hb3).cell (i := 0) rfl; have HB3 := Lib.hid hb3; rw [<- HYH.out] at r0; clear hb3)
   | (refine ⟨trivial, ?_⟩; gi_at_call 50; refine (CallsIn.inRound l (callsIn_wide.2 (HAP.out _ (HBUF.out.then_below HB3.out).buf))).mono ?_; rintro e w4 ⟨v4, rfl, h4⟩; have HA4 := Lib.hid h4; have hx4 := (HI.out.x0.below HB3.out).ap (HBUF.out.then_below HB3.out).buf h4.ap (by decide); have r0' := hx4.cell (i := 0) rfl; have q0' := hx4.free 0; have HX4 := Lib.hid hx4; obtain ⟨gA, gc, rfl, hgc⟩ := h4.buf.shape; clear h4 hx4))
  have hw0 : w0.heap.size <= w.heap.size := hb.below.size
  have hB3 := HB3.out
  have hbuf3 := HBUF.out.then_below hB3
  have hko : KeepsOthers W w3 := ⟨hB3.size, fun k o hk ho => (hB3.block k (Array.getElem?_eq_some_iff.1 hk).1).trans hk⟩
  have g0 := (HI.out.bx.b0.below hB3).ap hbuf3.buf HA4.out.ap (by decide)
  have g1 := (HI.out.bx.b1.below hB3).ap hbuf3.buf HA4.out.ap (by decide)
  refine ⟨(hko.trans HA4.out.ap.others).trans (KeepsOthers.setCell _ _ _), fun k k1 k2 => ?_, .slice gA (Y.length + (Frm.rec (4, T)).length) gc, ?_⟩
  ·rw [Below.heap_setCell w4 ⟨w.heap.size, 0, none⟩ _ k (by show k ≠ w.heap.size; omega)]
   have : k = w.heap.size + 1 + 1 + 1 \/ k = w.heap.size + 1 + 1 + 1 + 1 := by omega
   rcases this with rfl | rfl
   ·exact Eq.trans g0 (Eq.symm HI.out.bx.b0)
   ·exact Eq.trans g1 (Eq.symm HI.out.bx.b1)
  ·have e1 : xs ++ ckL L (pre ++ [x]) = Y ++ Frm.rec (4, T) := by rw [ckL_snoc, <- List.append_assoc, <- HYH.out, <- HT.out]
   have hn4 := hbuf3.step HA4.out.buf HA4.out.ap HA4.out.grew
   refine ⟨HX4.out.set 0 _, ((HI.out.x1.below hB3).ap hbuf3.buf HA4.out.ap (by decide)).other (by omega) 0 _, ((HI.out.x2.below hB3).ap hbuf3.buf HA4.out.ap (by decide)).other (by omega) 0 _, ⟨g0.other (by omega) 0 _, g1.other (by omega) 0 _⟩, ?_, ((HI.out.ke.trans (Ke.of_below hB3)).trans (Ke.of_ap hbuf3.buf HA4.out.ap rfl)).set_new (Nat.le_refl _) 0 _⟩
   have e2 : (Y ++ Frm.rec (4, T)).length = Y.length + (Frm.rec (4, T)).length := List.length_append
   rw [e2] at hn4
   rw [e1, e2]
   exact NBuf.set_ne hn4 HX4.out (by decide) hw0 0 _
 case done =>
  rintro D xs' W hD rfl ⟨v, hI⟩ hK
  have hw0 : w0.heap.size <= w.heap.size := hb.below.size
  have hD2 : w.heap.size + 5 <= D := by simpa using hD
  obtain ⟨gA, gc, rfl, hgc⟩ := hI.buf.buf.shape
  have hres : NBuf w0 W 5 1 (.slice gA (xs ++ ckL L (List.range ((L.length + 119) / 120))).length gc) (xs ++ chB L).length (bcs (xs ++ chB L)) := hI.buf
  obtain ⟨Y, hY⟩ : ∃ Y, Y = xs ++ ckL L (List.range ((L.length + 119) / 120)) := ⟨_, rfl⟩
  have r0 := hI.x0.cell (i := 0) rfl
  have r1 := hI.x1.cell (i := 0) rfl
  have r2 := hI.x2.cell (i := 0) rfl
  have q1 := hI.x1.free 0
  have q2 := hI.x2.free 0
  rw [<- hY] at r0 hres
  have HI := Lib.hid hI
  have HR := Lib.hid hres
  have HK := Lib.hid hK
  clear hI hres hK hY
  gi_wp2
  have y0 := (HI.out.x1.set 0 (.slice gA Y.length gc)).other (b := w.heap.size + 1 + 1) (by omega) 0 (.int .i64 0)
  have y1 := (HI.out.x2.other (b := w.heap.size + 1) (by omega) 0 (.slice gA Y.length gc)).set 0 (.int .i64 0)
  have hNF := (HR.out.set_ne HI.out.x1 (by decide) (by omega) 0 (.slice gA Y.length gc)).set_ne (HI.out.x2.other (b := w.heap.size + 1) (by omega) 0 (.slice gA Y.length gc)) (by decide) (by omega) 0 (.int .i64 0)
  have hKE := (HI.out.ke.set_new (M := w.heap.size + 1) (by omega) 0 (.slice gA Y.length gc)).set_new (M := w.heap.size + 1 + 1) (by omega) 0 (.int .i64 0)
  have hKF : ((W.setCell ⟨w.heap.size + 1, 0, none⟩ (.slice gA Y.length gc)).setCell ⟨w.heap.size + 1 + 1, 0, none⟩ (.int .i64 0)).heap[D]? = some (.deferred (some [])) := by
   rw [Below.heap_setCell _ ⟨w.heap.size + 1 + 1, 0, none⟩ _ D (by show D ≠ w.heap.size + 1 + 1; omega), Below.heap_setCell _ ⟨w.heap.size + 1, 0, none⟩ _ D (by show D ≠ w.heap.size + 1; omega)]
   exact HK.out
  have x0 := (y0.put hKF).cell (i := 0) rfl
  have x1 := (y1.put hKF).cell (i := 0) rfl
  refine ⟨by simp, .inl ⟨_, _, rfl, run_takeDeferred hKF, ?_⟩⟩
  refine ⟨_, by simp [results, Tryz.results59, go_sem, x0, x1]; rfl, ?_⟩
  exact ⟨_, rfl, hNF.put hKF (by omega), hKE.turned (grownBy_putObj' _ D _) (fun r e => by cases e; omega)⟩
 case stop => rintro D c pre W _ _ h _; exact h.elim
end Go.Proofs.YtgabmfibfikdbaaGreatDoor

set_option maxHeartbeats 32000000
set_option maxRecDepth 10000
namespace Go.Proofs.YtgabmfibfikdbaaGreatDoor
open Go.RowKit Go.Bar Go.Bar.Leb Go.Bar.Lab

theorem cset_ty16 : ElemTy Tryz.prog 43 128 (.agg #[.string ByteArray.empty, .string ByteArray.empty]) 2 32 :=
 ⟨Tryz.underlying43, info_parts (show (Tryz.prog.info? 128).map (fun i => (i.zero, i.size, i.bytes)) = some (some (.agg #[.string ByteArray.empty, .string ByteArray.empty]), 2, 32) by kernel_rfl), rfl⟩
theorem str_ty16 : ElemTy Tryz.prog 51 9 (.string ByteArray.empty) 1 16 :=
 ⟨Tryz.underlying51, info_parts (show (Tryz.prog.info? 9).map (fun i => (i.zero, i.size, i.bytes)) = some (some (.string ByteArray.empty), 1, 16) by kernel_rfl), rfl⟩

theorem cloneSet16_any (v : Value) (l : List Pr) (w : World) (h : PsAt w v l) (hl : l.length <= 1000000) :
  Calls Tryz.prog 60 #[v] w (RetP w l) := by
 obtain ⟨A, c, rfl, hlc, hcm⟩ := h.shape
 have hnil := fun w => run_eql_slice_nil (P := Tryz.prog) w 43 128 A l.length c Tryz.underlying43
 rcases A with _ | A
 ·have h0 : l.length = 0 := by
   rcases Nat.eq_zero_or_pos l.length with h0 | h0
   ·exact h0
   ·obtain ⟨p, hp⟩ : ∃ p, l[0]? = some p := ⟨_, List.getElem?_eq_getElem h0⟩
    obtain ⟨b, o, hA, _⟩ := h.at_ hp
    cases hA
  obtain rfl : l = [] := List.eq_nil_of_length_eq_zero h0
  clear h0 hnil
  have hnil := fun w => run_eql_slice_nil (P := Tryz.prog) w 43 128 none 0 c Tryz.underlying43
  go_enter Tryz.func60, Tryz.ntmps60
  go_wp2_with fail
  go_ret
  exact ⟨_, rfl, NBuf.nil (Below.refl _ _) _ _⟩
 ·have hs := fun o => SlAt.src (P := Tryz.prog) (h.below (below_alloc1 w o)) (by omega) (t := 43) Tryz.underlying43 (pcs_one l)
  have HS := Lib.hid hs
  have hnb := NBuf.lit0 (Below.refl w.heap.size w) 128 2
  clear hs
  go_enter Tryz.func60, Tryz.ntmps60
  go_wp2_with (at_builtin; refine wpList_append_el rfl (.tmp 5) (.tmp 6) 43 43 rfl cset_ty16 rfl hnb.buf rfl (HS.out _) (by simp only [maxLen]; omega) (by omega) ?_; intro v' w' hb ha hg; have hn2 := hnb.step hb ha hg; clear hb ha hg)
  go_ret
  rw [Nat.zero_add, List.nil_append] at hn2
  exact ⟨_, rfl, hn2⟩

def RetSr (w : World) (l : List (List UInt8)) (e : Ending) (w' : World) : Prop := ∃ v, e = .returned v /\ NBuf w w' 9 1 v l.length (scs l)

theorem cloneStr_any (v : Value) (l : List (List UInt8)) (w : World) (h : SrcAt w v l) (hl : l.length <= 1000000) :
  Calls Tryz.prog 62 #[v] w (RetSr w l) := by
 obtain ⟨A, c, rfl, hlc, hcm⟩ := h.shape
 have hnil := fun w => run_eql_slice_nil (P := Tryz.prog) w 51 9 A l.length c Tryz.underlying51
 rcases A with _ | A
 ·have h0 : l.length = 0 := by
   rcases Nat.eq_zero_or_pos l.length with h0 | h0
   ·exact h0
   ·obtain ⟨p, hp⟩ : ∃ p, l[0]? = some p := ⟨_, List.getElem?_eq_getElem h0⟩
    obtain ⟨b, o, hA, _⟩ := h.at_ hp
    cases hA
  obtain rfl : l = [] := List.eq_nil_of_length_eq_zero h0
  clear h0 hnil
  have hnil := fun w => run_eql_slice_nil (P := Tryz.prog) w 51 9 none 0 c Tryz.underlying51
  go_enter Tryz.func62, Tryz.ntmps62
  go_wp2_with fail
  go_ret
  exact ⟨_, rfl, NBuf.nil (Below.refl _ _) _ _⟩
 ·have hs := fun o => SlAt.src (P := Tryz.prog) (SrcAt.below h (below_alloc1 w o)) (by omega) (t := 51) Tryz.underlying51 (fun u hu => by
   unfold scs at hu
   obtain ⟨s, _, rfl⟩ := List.mem_map.1 hu
   simp [Value.oneCell'])
  have HS := Lib.hid hs
  have hnb := NBuf.lit0 (Below.refl w.heap.size w) 9 1
  clear hs
  go_enter Tryz.func62, Tryz.ntmps62
  go_wp2_with (at_builtin; refine wpList_append_el rfl (.tmp 5) (.tmp 6) 51 51 rfl str_ty16 rfl hnb.buf rfl (HS.out _) (by simp only [maxLen]; omega) (by omega) ?_; intro v' w' hb ha hg; have hn2 := hnb.step hb ha hg; clear hb ha hg)
  go_ret
  rw [Nat.zero_add, List.nil_append] at hn2
  exact ⟨_, rfl, hn2⟩
end Go.Proofs.YtgabmfibfikdbaaGreatDoor

set_option maxHeartbeats 32000000
set_option maxRecDepth 10000
namespace Go.Proofs.YtgabmfibfikdbaaGreatDoor
open Go.RowKit Go.Bar Go.Bar.Leb Go.Bar.Lab Go.Bar.Xor Go.Bar.Mrg

theorem mcount_any (v : Value) (t : List Rv) (w : World) (h : TbAt w v t) (hn : cntR (t.map plR) <= 1000000000) :
  Calls Tryz.prog 61 #[v] w (RetBelow w (.int .i64 (cntR (t.map plR) : Nat))) := by
 obtain ⟨A, c, rfl, hlc, hcm⟩ := h.shape
 unfold maxLen at hcm
 obtain ⟨N, hN⟩ : ∃ N, N = cntR (t.map plR) := ⟨_, rfl⟩
 rw [<- hN] at hn ⊢
 have HT := Lib.hid h
 have HN := Lib.hid hN
 clear h hN
 go_enter Tryz.func61, Tryz.ntmps61
 go_wp2_with fail
 go_loopw [3, 8] (fun s i wr => ∃ k m : Nat, k <= t.length /\ i = .int .i64 k /\ s = .int .i64 m /\ Below w.heap.size w wr /\ m <= N /\ Hid (m = cntR ((t.take k).map plR))) (fun _ i _ => t.length - (intOf i).toNat)
 case atStart => exact ⟨0, 0, Nat.zero_le _, rfl, rfl, Below.refl _ _, Nat.zero_le _, Lib.hid rfl⟩
 case round =>
  obtain ⟨k, m, hk, rfl, rfl, hb, hmn, hm⟩ := hrel
  by_cases hgo : k < t.length
  ·obtain ⟨x, hx⟩ : ∃ x, t[k]? = some x := ⟨_, List.getElem?_eq_getElem hgo⟩
   obtain ⟨b, o, rfl, a0, a1, _⟩ := (HT.out.below hb).at_ hx
   have hm2 : m + x.ss.length = cntR ((t.take (k + 1)).map plR) := by
    rw [List.take_add_one, hx, List.map_append]
    show _ = cntR ((t.take k).map plR ++ [plR x])
    rw [cntR_snoc, <- hm.out]
    rfl
   have hle : m + x.ss.length <= N := by
    rw [hm2, HN.out, List.map_take]
    exact cntR_take _ _
   have HM2 := Lib.hid hm2
   have hw : IntKind.i64.wrap ((m : Int) + (x.ss.length : Int)) = (m : Int) + (x.ss.length : Int) := by rw [IntKind.wrap_i64]; omega
   clear hx hm2 hm
   go_wp2_with fail
   go_roundw
   case rel => exact ⟨k + 1, m + x.ss.length, by omega, by go_num, by go_num, below_trans hb (below_alloc1 _ _), hle, HM2⟩
   case measure => simp [intOf]; omega
  ·obtain rfl : k = t.length := by omega
   have hz : m = N := by rw [hm.out, List.take_length, HN.out]
   subst hz
   clear hm HN
   go_wp2_with fail
   go_ret
   exact ⟨rfl, hb⟩

theorem mgood_any (v : Value) (t : List Rv) (w : World) (h : TbAt w v t) :
  Calls Tryz.prog 57 #[v] w (RetBelow w (.bool (goodB (t.map plR)))) := by
 obtain ⟨A, c, rfl, hlc, hcm⟩ := h.shape
 unfold maxLen at hcm
 obtain ⟨Z, hZ⟩ : ∃ Z, Z = goodB (t.map plR) := ⟨_, rfl⟩
 rw [<- hZ]
 have hZt : GoodP (t.map plR) -> Z = true := fun hg => by rw [hZ]; exact goodB_true hg
 have hZf : ¬ GoodP (t.map plR) -> Z = false := fun hg => by rw [hZ]; exact goodB_false hg
 have HZT := Lib.hid hZt
 have HZF := Lib.hid hZf
 have HT := Lib.hid h
 clear h hZ hZt hZf
 go_enter Tryz.func57, Tryz.ntmps57
 go_wp2_with fail
 go_loopw [8] (fun i wr => ∃ k : Nat, k <= t.length /\ i = .int .i64 k /\ Below w.heap.size w wr /\ Hid (GoodP ((t.map plR).take k))) (fun i _ => t.length - (intOf i).toNat)
 case atStart => exact ⟨0, Nat.zero_le _, rfl, Below.refl _ _, Lib.hid good_zero⟩
 case round =>
  obtain ⟨k, hk, rfl, hb, hg⟩ := hrel
  by_cases hgo : k < t.length
  ·obtain ⟨x, hx⟩ : ∃ x, t[k]? = some x := ⟨_, List.getElem?_eq_getElem hgo⟩
   obtain ⟨b, o, rfl, a0, a1, hrx⟩ := (HT.out.below hb).at_ hx
   have hb2 := below_trans hb (below_alloc1 wr (.cells #[.slice x.la x.ls.length x.lc, .slice x.sa x.ss.length x.sc] 94))
   obtain ⟨_, _, _, hs1, hs2⟩ := hrx.2.shape
   have hsl : x.ss.length <= 9223372036854775807 := by unfold maxLen at hs2; omega
   clear hs1 hs2
   have hB := Blk.new wr #[.slice x.la x.ls.length x.lc, .slice x.sa x.ss.length x.sc] 94
   go_upto_region 4 with fail
   obtain ⟨X, hX⟩ : ∃ X, X = wr.heap.size := ⟨_, rfl⟩
   obtain ⟨wb, hwb⟩ : ∃ wb, wb = wr.alloc (.cells #[.slice x.la x.ls.length x.lc, .slice x.sa x.ss.length x.sc] 94) := ⟨_, rfl⟩
   rw [<- hwb] at hb2 hB ⊢
   rw [<- hX] at hB ⊢
   have HX := Lib.hid hx
   have HB := Lib.hid hB
   clear a0 a1 hrx hX hwb hb hx hB
   obtain ⟨B, hBk⟩ : ∃ B, B = (match k with | 0 => false | n + 1 => !decide (cmpL ((t.map plR).getD n ([], [])).1 x.ls < 0)) := ⟨_, rfl⟩
   go_cut [8, 26] from 8 to 48 (fun i s wx => i = .int .i64 k /\ s = .bool B /\ Below wb.heap.size wb wx)
   case first =>
    rcases k with _ | n
    ·have hf : B = false := hBk
     subst hf
     clear hBk
     refine wp_region_known [] (by kernel_rfl) 49 (by kernel_rfl) rfl ?_
     repeat (first
      | (refine Chain.step (v := ?_) (a' := ?_) rfl rfl rfl ?_ ?_ ?_; rotate_left 2; (focus (intro w; go_simp; try with_reducible rfl)); focus (simp only [Act.put, pqA, pqS, pqZ]; try rfl))
      | (refine Chain.skip (a' := ?_) rfl rfl rfl ?_ ?_; rotate_left 1; focus (simp only [Act.put, pqA, pqS, pqZ]; try rfl)))
     refine Chain.end_ (fun wz hwz _ => ?_)
     go_wp2_with fail
     go_meet
     case rel => exact ⟨rfl, rfl, hwz⟩
    ·obtain ⟨y, hy⟩ : ∃ y, t[n]? = some y := ⟨_, List.getElem?_eq_getElem (by omega)⟩
     have hBk : B = !decide (cmpL ((t.map plR).getD n ([], [])).1 x.ls < 0) := hBk
     rw [List.getD_eq_getElem?_getD, List.getElem?_map, hy] at hBk
     have hBk : B = !decide (cmpL y.ls x.ls < 0) := hBk
     obtain ⟨C, hC⟩ : ∃ C, C = cmpL y.ls x.ls := ⟨_, rfl⟩
     have hcm := fun w' (hb : Below w.heap.size w w') => lcompare_any _ _ _ _ w' (((HT.out.below hb).at2 hy).2.2).1 (((HT.out.below hb).at2 HX.out).2.2).1
     rw [<- hC] at hcm hBk
     have HCM := Lib.hid hcm
     have HY := Lib.hid hy
     have HBK := Lib.hid hBk
     clear hC hcm hy hBk
     have hw1 : IntKind.i64.wrap (n : Int) = (n : Int) := by rw [IntKind.wrap_i64]; omega
     have hp : (0 : Int) < (n : Int) + 1 := by omega
     have h0n : (0 : Int) <= (n : Int) := by omega
     have hnt : (n : Int) < (t.length : Int) := by omega
     refine wp_region_known [(8, .slice y.la y.ls.length y.lc), (10, .slice x.la x.ls.length x.lc), (11, .int .i64 C)] (by kernel_rfl) 49 (by kernel_rfl) rfl ?_
     repeat (first
      | (refine Chain.step (v := ?_) (a' := ?_) rfl rfl rfl ?_ ?_ ?_; rotate_left 2; (focus (intro w; go_simp; try with_reducible rfl)); focus (simp only [Act.put, pqA, pqS, pqZ]; try rfl))
      | (refine Chain.call (i := 8) (a' := ?_) _ rfl rfl rfl (fun wx hw => ?_) ?_ ?_; rotate_left 1; (focus (have g0 := ((HT.out.below (below_trans hb2 hw)).at2 HY.out).1); (go_simp; first | exact ⟨rfl, Below.refl _ _⟩ | exact Below.refl _ _)); focus (simp only [Act.put, pqA, pqS, pqZ]; try rfl))
      | (refine Chain.call (i := 10) (a' := ?_) _ rfl rfl rfl (fun wx hw => ?_) ?_ ?_; rotate_left 1; (focus (obtain ⟨g0, g1⟩ := Blk.c2 (HB.out.below hw); go_simp; first | exact ⟨rfl, rB⟩ | exact rB)); focus (simp only [Act.put, pqA, pqS, pqZ]; try rfl))
      | (refine Chain.call (i := 11) (a' := ?_) _ rfl rfl rfl (fun wx hw => ?_) ?_ ?_; rotate_left 1; (focus (go_simp; (with_reducible refine (HCM.out _ (below_trans hb2 hw)).mono ?_); exact (fun e w' ⟨h1, h2⟩ => by subst h1; exact ⟨rfl, h2⟩))); focus (simp only [Act.put, pqA, pqS, pqZ]; try rfl))
      | (refine Chain.skip (a' := ?_) rfl rfl rfl ?_ ?_; rotate_left 1; focus (simp only [Act.put, pqA, pqS, pqZ]; try rfl)))
     refine Chain.end_ (fun wz hwz _ => ?_)
     go_wp2_with fail
     go_meet
     case rel =>
      refine ⟨rfl, ?_, hwz⟩
      rw [HBK.out]
      by_cases hc : C < 0
      ·rw [decide_eq_true hc, decide_eq_false (by omega)]; rfl
      ·rw [decide_eq_false hc, decide_eq_true (by omega)]; rfl
   case rest =>
    obtain ⟨rfl, rfl, hbw⟩ := hcut
    have hb3 := below_trans hb2 hbw
    have HB3 := Lib.hid (HB.out.below hbw)
    clear HB hb2 hbw
    rcases B with _ | _
    ·have hok : Ris x.ss -> GoodP ((t.map plR).take (k + 1)) := fun hi => by
      have hxr : (t.map plR)[k]? = some (plR x) := by rw [List.getElem?_map, HX.out]; rfl
      rcases k with _ | n
      ·exact good_first hxr hi
      ·obtain ⟨y, hy⟩ : ∃ y, t[n]? = some y := ⟨_, List.getElem?_eq_getElem (by omega)⟩
       have hBk : false = !decide (cmpL ((t.map plR).getD n ([], [])).1 x.ls < 0) := hBk
       rw [List.getD_eq_getElem?_getD, List.getElem?_map, hy] at hBk
       have hBk : false = !decide (cmpL y.ls x.ls < 0) := hBk
       refine good_step hg.out (p := plR y) (by rw [List.getElem?_map, hy]; rfl) hxr ?_ hi
       show cmpL y.ls x.ls < 0
       by_cases hc : cmpL y.ls x.ls < 0
       ·exact hc
       ·rw [decide_eq_false hc] at hBk; cases hBk
     have HOK := Lib.hid hok
     clear hok hBk hg
     go_wp2_with fail
     go_loopw [5] (fun i wr2 => ∃ j : Nat, i = .int .i64 ((j : Int) + 1) /\ j <= x.ss.length /\ Below w.heap.size w wr2 /\ Hid (Blk wr2 X 94 #[.slice x.la x.ls.length x.lc, .slice x.sa x.ss.length x.sc]) /\ Hid (Ris (x.ss.take (j + 1)))) (fun i _ => x.ss.length + 1 - (intOf i).toNat)
     case atStart => exact ⟨0, rfl, Nat.zero_le _, hb3, HB3, Lib.hid (ris_one _)⟩
     case round =>
      obtain ⟨j, rfl, hj, hb4, HB4, hris⟩ := hrel
      clear HB3 hb3
      obtain ⟨c0, c1⟩ := HB4.out.c2
      by_cases hgo2 : j + 1 < x.ss.length
      ·obtain ⟨p, hp⟩ : ∃ p, x.ss[j]? = some p := ⟨_, List.getElem?_eq_getElem (by omega)⟩
       obtain ⟨q, hq⟩ : ∃ q, x.ss[j + 1]? = some q := ⟨_, List.getElem?_eq_getElem hgo2⟩
       have hsm := fun w' hb => ((HT.out.below (w' := w') hb).at2 HX.out).2.2.2
       obtain ⟨sb, so, hsa, _, p0, _⟩ := (hsm _ (Below.refl _ _)).at_ hp
       have HSM := Lib.hid hsm
       have HP := Lib.hid hp
       have HQ := Lib.hid hq
       have h1 : (j : Int) + 1 < (x.ss.length : Int) := by omega
       have h2 : IntKind.i64.wrap (j : Int) = (j : Int) := by rw [IntKind.wrap_i64]; omega
       have h3 : (0 : Int) <= (j : Int) := by omega
       have h4 : (j : Int) < (x.ss.length : Int) := by omega
       have h5 : ((j : Int) + 1).toNat = j + 1 := by omega
       have h6 : (0 : Int) <= (j : Int) + 1 := by omega
       clear hsm hp hq p0
       go_upto_region 9 with fail
       refine wp_region_known [(1, .slice x.sa x.ss.length x.sc), (6, .int .i64 p.1), (8, .slice x.sa x.ss.length x.sc), (12, .int .i64 q.1)] (by kernel_rfl) 49 (by kernel_rfl) rfl ?_
       repeat (first
        | (refine Chain.step (v := ?_) (a' := ?_) rfl rfl rfl ?_ ?_ ?_; rotate_left 2; (focus (intro w; go_simp; try with_reducible rfl)); focus (simp only [Act.put, pqA, pqS, pqZ]; try rfl))
        | (refine Chain.call (i := 1) (a' := ?_) _ rfl rfl rfl (fun wx hw => ?_) ?_ ?_; rotate_left 1; (focus (obtain ⟨g0, g1⟩ := Blk.c2 (HB4.out.below hw); go_simp; first | exact ⟨rfl, rB⟩ | exact rB)); focus (simp only [Act.put, pqA, pqS, pqZ]; try rfl))
        | (refine Chain.call (i := 6) (a' := ?_) _ rfl rfl rfl (fun wx hw => ?_) ?_ ?_; rotate_left 1; (focus (obtain ⟨_, _, he, _, p0, _⟩ := (HSM.out _ (below_trans hb4 hw)).at_ HP.out); (rw [hsa] at he); (injection he with he); (injection he with e1 e2 _); (subst e1; subst e2); (go_simp; first | exact ⟨rfl, Below.refl _ _⟩ | exact Below.refl _ _)); focus (simp only [Act.put, pqA, pqS, pqZ]; try rfl))
        | (refine Chain.call (i := 8) (a' := ?_) _ rfl rfl rfl (fun wx hw => ?_) ?_ ?_; rotate_left 1; (focus (obtain ⟨g0, g1⟩ := Blk.c2 (HB4.out.below hw); go_simp; first | exact ⟨rfl, rB⟩ | exact rB)); focus (simp only [Act.put, pqA, pqS, pqZ]; try rfl))
        | (refine Chain.call (i := 12) (a' := ?_) _ rfl rfl rfl (fun wx hw => ?_) ?_ ?_; rotate_left 1; (focus (obtain ⟨_, _, he, _, p0, _⟩ := (HSM.out _ (below_trans hb4 hw)).at_ HQ.out); (rw [hsa] at he); (injection he with he); (injection he with e1 e2 _); (subst e1; subst e2); (go_simp; first | exact ⟨rfl, Below.refl _ _⟩ | exact Below.refl _ _)); focus (simp only [Act.put, pqA, pqS, pqZ]; try rfl))
        | (refine Chain.skip (a' := ?_) rfl rfl rfl ?_ ?_; rotate_left 1; focus (simp only [Act.put, pqA, pqS, pqZ]; try rfl)))
       refine Chain.end_ (fun wz hwz _ => ?_)
       have hb5 := below_trans hb4 hwz
       have HB5 := Lib.hid (HB4.out.below hwz)
       by_cases hlt : p.1 < q.1
       ·have hs := ris_step hris.out HP.out HQ.out hlt
        have HS := Lib.hid hs
        have hd : decide (q.1 <= p.1) = false := decide_eq_false (by omega)
        clear hs hris
        go_wp2_with fail
        go_roundw
        case rel => exact ⟨j + 1, by go_num, by omega, hb5, HB5, HS⟩
        case measure => simp [intOf]; omega
       ·have hz : Z = false := HZF.out (bad_times (k := k) (r := plR x) (by rw [List.getElem?_map, HX.out]; rfl) HP.out HQ.out hlt)
        subst hz
        have hd : decide (q.1 <= p.1) = true := decide_eq_true (by omega)
        clear hris
        go_wp2_with fail
        go_ret
        exact ⟨rfl, hb5⟩
      ·have hx2 := hris.out
       rw [List.take_of_length_le (by omega)] at hx2
       have HG2 := Lib.hid (HOK.out hx2)
       have h1 : (x.ss.length : Int) <= (j : Int) + 1 := by omega
       clear hx2 hris
       go_wp2_with fail
       go_roundw
       case rel => exact ⟨k + 1, by omega, by go_num, hb4, HG2⟩
       case measure => simp [intOf]; omega
    ·have hz : Z = false := HZF.out (by
      rcases k with _ | n
      ·cases hBk
      ·obtain ⟨y, hy⟩ : ∃ y, t[n]? = some y := ⟨_, List.getElem?_eq_getElem (by omega)⟩
       have hBk : true = !decide (cmpL ((t.map plR).getD n ([], [])).1 x.ls < 0) := hBk
       rw [List.getD_eq_getElem?_getD, List.getElem?_map, hy] at hBk
       have hBk : true = !decide (cmpL y.ls x.ls < 0) := hBk
       refine bad_labels (k := n) (p := plR y) (r := plR x) (by rw [List.getElem?_map, hy]; rfl) (by rw [List.getElem?_map, HX.out]; rfl) fun hlt => ?_
       have hlt : cmpL y.ls x.ls < 0 := hlt
       rw [decide_eq_true hlt] at hBk
       cases hBk)
     subst hz
     go_wp2_with fail
     go_ret
     exact ⟨rfl, hb3⟩
  ·obtain rfl : k = t.length := by omega
   have hz : Z = true := HZT.out (by have := hg.out; rwa [List.take_of_length_le (by rw [List.length_map]; exact Nat.le_refl _)] at this)
   subst hz
   clear hg
   go_wp2_with fail
   go_ret
   exact ⟨rfl, hb⟩
end Go.Proofs.YtgabmfibfikdbaaGreatDoor

set_option maxHeartbeats 32000000
set_option maxRecDepth 10000
namespace Go.Proofs.YtgabmfibfikdbaaGreatDoor
open Go.RowKit Go.Bar Go.Bar.Leb Go.Bar.Frm Go.Bar.Idt Go.Bar.Met

def sized (m : Mt) : Prop := m.fs.length = 2 /\ m.ss.length <= 50
theorem not_ok {m : Mt} (h : ¬ (sane m /\ sized m)) : ¬ Ok m := fun hk => h ⟨hk.1, hk.2.1, hk.2.2.1⟩
theorem bad_cases {m : Mt} (h : ¬ (sane m /\ sized m)) : idOk m.id = false \/ (idOk m.id = true /\ m.mn < 0) \/ (idOk m.id = true /\ 0 <= m.mn /\ m.mx <= m.mn) \/ (idOk m.id = true /\ 0 <= m.mn /\ m.mn < m.mx /\ 1099511627776 < m.mx) \/
  (idOk m.id = true /\ 0 <= m.mn /\ m.mn < m.mx /\ m.mx <= 1099511627776 /\ m.lv < 1) \/ (idOk m.id = true /\ 0 <= m.mn /\ m.mn < m.mx /\ m.mx <= 1099511627776 /\ 1 <= m.lv /\ 9 < m.lv) \/
  (idOk m.id = true /\ 0 <= m.mn /\ m.mn < m.mx /\ m.mx <= 1099511627776 /\ 1 <= m.lv /\ m.lv <= 9 /\ m.sr < 0) \/ (idOk m.id = true /\ 0 <= m.mn /\ m.mn < m.mx /\ m.mx <= 1099511627776 /\ 1 <= m.lv /\ m.lv <= 9 /\ 0 <= m.sr /\ m.sm < m.sr) \/
  (idOk m.id = true /\ 0 <= m.mn /\ m.mn < m.mx /\ m.mx <= 1099511627776 /\ 1 <= m.lv /\ m.lv <= 9 /\ 0 <= m.sr /\ m.sr <= m.sm /\ 1073741824 < m.sm) \/
  (idOk m.id = true /\ 0 <= m.mn /\ m.mn < m.mx /\ m.mx <= 1099511627776 /\ 1 <= m.lv /\ m.lv <= 9 /\ 0 <= m.sr /\ m.sr <= m.sm /\ m.sm <= 1073741824 /\ m.fs.length ≠ 2) \/
  (idOk m.id = true /\ 0 <= m.mn /\ m.mn < m.mx /\ m.mx <= 1099511627776 /\ 1 <= m.lv /\ m.lv <= 9 /\ 0 <= m.sr /\ m.sr <= m.sm /\ m.sm <= 1073741824 /\ m.fs.length = 2 /\ 50 < m.ss.length) := by
 unfold sane sized at h
 rcases hb : idOk m.id with _ | _
 ·exact .inl rfl
 ·rw [hb] at h
  simp only [true_and] at h
  by_cases h1 : m.mn < 0
  ·exact (.inr (.inl ⟨rfl, h1⟩))
  by_cases h2 : m.mx <= m.mn
  ·exact (.inr (.inr (.inl ⟨rfl, by omega, h2⟩)))
  by_cases h3 : 1099511627776 < m.mx
  ·exact (.inr (.inr (.inr (.inl ⟨rfl, by omega, by omega, h3⟩))))
  by_cases h4 : m.lv < 1
  ·exact (.inr (.inr (.inr (.inr (.inl ⟨rfl, by omega, by omega, by omega, h4⟩)))))
  by_cases h5 : 9 < m.lv
  ·exact (.inr (.inr (.inr (.inr (.inr (.inl ⟨rfl, by omega, by omega, by omega, by omega, h5⟩))))))
  by_cases h6 : m.sr < 0
  ·exact (.inr (.inr (.inr (.inr (.inr (.inr (.inl ⟨rfl, by omega, by omega, by omega, by omega, by omega, h6⟩)))))))
  by_cases h7 : m.sm < m.sr
  ·exact (.inr (.inr (.inr (.inr (.inr (.inr (.inr (.inl ⟨rfl, by omega, by omega, by omega, by omega, by omega, by omega, h7⟩))))))))
  by_cases h8 : 1073741824 < m.sm
  ·exact (.inr (.inr (.inr (.inr (.inr (.inr (.inr (.inr (.inl ⟨rfl, by omega, by omega, by omega, by omega, by omega, by omega, by omega, h8⟩)))))))))
  by_cases h9 : m.fs.length ≠ 2
  ·exact (.inr (.inr (.inr (.inr (.inr (.inr (.inr (.inr (.inr (.inl ⟨rfl, by omega, by omega, by omega, by omega, by omega, by omega, by omega, by omega, h9⟩))))))))))
  exact (.inr (.inr (.inr (.inr (.inr (.inr (.inr (.inr (.inr (.inr ⟨rfl, by omega, by omega, by omega, by omega, by omega, by omega, by omega, by omega, by omega, by omega⟩))))))))))

theorem mcheck_bad (m : Mt) (fv sv : Value) (w : World) (hf : FlsAt w fv m.fs) (hs : SrcAt w sv m.ss) (hid : m.id.length <= 1000000000000) (h : ¬ (sane m /\ sized m)) :
  Calls Tryz.prog 32 #[.agg #[.string (bs m.id), .int .i64 m.mn, .int .i64 m.mx, .int .i64 m.lv, .int .i64 m.sr, .int .i64 m.sm, fv, sv]] w (RetBelow w (.int .i64 3)) := by
 obtain ⟨A, c, rfl, hlc, hcm⟩ := hf.shape
 obtain ⟨A2, c2, rfl, hlc2, hcm2⟩ := hs.shape
 have hi := isID_any m.id
 have hc := bad_cases h
 obtain ⟨id, mn, mx, lv, sr, sm, fs, ss⟩ := m
 simp only at *
 clear h
 have hfl : fs.length = 2 \/ fs.length ≠ 2 := by omega
 rcases hc with h0 | ⟨h0, h1⟩ | ⟨h0, h1, h2⟩ | ⟨h0, h1, h2, h3⟩ | ⟨h0, h1, h2, h3, h4⟩ | ⟨h0, h1, h2, h3, h4, h5⟩ | ⟨h0, h1, h2, h3, h4, h5, h6⟩ | ⟨h0, h1, h2, h3, h4, h5, h6, h7⟩ | ⟨h0, h1, h2, h3, h4, h5, h6, h7, h8⟩ | ⟨h0, h1, h2, h3, h4, h5, h6, h7, h8, h9⟩ | ⟨h0, h1, h2, h3, h4, h5, h6, h7, h8, h9, h10⟩
 case inr.inr.inr.inr.inr.inr.inr.inr.inr.inl =>
  rw [h0] at hi
  have HI := Lib.hid hi
  have hb : ((fs.length : Int) != 2) = true := by rw [bne_iff_ne]; omega
  clear hi h0 h9 hfl
  go_enter Tryz.func32, Tryz.ntmps32
  go_wp2_with fail
  refine (HI.out _ hid).mono ?_
  rintro e w' ⟨rfl, rfl⟩
  go_wp2_with fail
  go_ret
  exact ⟨rfl, (Below.refl _ _).alloc (Nat.le_refl _) _⟩
 case inr.inr.inr.inr.inr.inr.inr.inr.inr.inr =>
  rw [h0] at hi
  have HI := Lib.hid hi
  have hb : ((fs.length : Int) != 2) = false := by rw [bne_eq_false_iff_eq]; omega
  clear hi h0 h9 hfl
  go_enter Tryz.func32, Tryz.ntmps32
  go_wp2_with fail
  refine (HI.out _ hid).mono ?_
  rintro e w' ⟨rfl, rfl⟩
  go_wp2_with fail
  go_ret
  exact ⟨rfl, (Below.refl _ _).alloc (Nat.le_refl _) _⟩
 all_goals
  rw [h0] at hi
  have HI := Lib.hid hi
  clear hi h0 hfl
  go_enter Tryz.func32, Tryz.ntmps32
  go_wp2_with fail
  refine (HI.out _ hid).mono ?_
  rintro e w' ⟨rfl, rfl⟩
  go_wp2_with fail
  go_ret
  exact ⟨rfl, (Below.refl _ _).alloc (Nat.le_refl _) _⟩

theorem mbelow_alloc1 (w : World) (o : Obj) : Below w.heap.size w (w.alloc o) := (Below.refl _ _).alloc (Nat.le_refl _) o
theorem below_ad2 (w : World) (a b : Obj) : Below w.heap.size w ((w.alloc a).alloc b).drew := (below_trans (mbelow_alloc1 w a) (mbelow_alloc1 _ b)).drew'
theorem chk_file {m : Mt} {k : Nat} (hk : k < 2) (h : ¬ fileOk m k) : chk m = 3 := chk_no (fun h' => h (h'.2.2.2.1 k hk))
theorem chk_src {m : Mt} {k : Nat} (hk : k < m.ss.length) (h : ¬ good m k) : chk m = 3 := chk_no (fun h' => h (h'.2.2.2.2 k hk))

theorem mcheck_good (m : Mt) (fv sv : Value) (w : World) (hf : FlsAt w fv m.fs) (hs : SrcAt w sv m.ss) (hid : m.id.length <= 1000000000000) (hsl : ∀ s ∈ m.ss, s.length <= 1000000000000) (hsane : sane m) (hsized : sized m) :
  Calls Tryz.prog 32 #[.agg #[.string (bs m.id), .int .i64 m.mn, .int .i64 m.mx, .int .i64 m.lv, .int .i64 m.sr, .int .i64 m.sm, fv, sv]] w (RetBelow w (.int .i64 (chk m))) := by
 have hfl := hsized.1
 obtain ⟨A, c, hfv, hlc, hcm⟩ := hf.shape
 rw [hfl] at hfv hlc
 subst hfv
 obtain ⟨A2, c2, rfl, hlc2, hcm2⟩ := hs.shape
 obtain ⟨Z, hZ⟩ : ∃ Z, Z = chk m := ⟨_, rfl⟩
 rw [<- hZ]
 have HF := Lib.hid (fun k (hk : k < 2) (h : ¬ fileOk m k) => hZ.trans (chk_file hk h))
 have HS := Lib.hid (fun k (hk : k < m.ss.length) (h : ¬ good m k) => hZ.trans (chk_src hk h))
 have HY := Lib.hid (fun (h : Ok m) => hZ.trans (chk_ok h))
 clear hZ
 have hss := Lib.hid (And.intro hsane hsized)
 obtain ⟨hi0, h1, h2, h3, h4, h5, h6, h7, h8⟩ := hsane
 obtain ⟨h9, h10⟩ := hsized
 have hi := isID_any m.id
 rw [hi0] at hi
 have HI := Lib.hid hi
 have h9 := Lib.hid h9
 clear hi hi0 hfl
 go_enter Tryz.func32, Tryz.ntmps32
 go_wp2_with fail
 refine (HI.out _ hid).mono ?_
 rintro e w' ⟨rfl, rfl⟩
 go_wp2_with fail
 clear h1 h2 h3 h4 h5 h6 h7 h8
 obtain ⟨BX, hBX⟩ : ∃ BX, BX = w.alloc (.cells #[.string (bs m.id), .int .i64 m.mn, .int .i64 m.mx, .int .i64 m.lv, .int .i64 m.sr, .int .i64 m.sm, .slice A 2 c, .slice A2 m.ss.length c2] 53) := ⟨_, rfl⟩
 have hB0 : Below w.heap.size w BX := by rw [hBX]; exact (Below.refl _ _).alloc (Nat.le_refl _) _
 have hblk : Blk BX w.heap.size 53 #[.string (bs m.id), .int .i64 m.mn, .int .i64 m.mx, .int .i64 m.lv, .int .i64 m.sr, .int .i64 m.sm, .slice A 2 c, .slice A2 m.ss.length c2] := by rw [hBX]; exact Blk.new _ _ _
 rw [<- hBX]
 clear hBX
 go_loopw [72] (fun i wr => ∃ k : Nat, k <= 2 /\ i = .int .i64 k /\ Below BX.heap.size BX wr /\ Hid (∀ j, j < k -> fileOk m j)) (fun i _ => 2 - (intOf i).toNat)
 case atStart => exact ⟨0, Nat.zero_le _, rfl, Below.refl _ _, Lib.hid (fun j hj => absurd hj (Nat.not_lt_zero j))⟩
 case round =>
  obtain ⟨k, hk, rfl, hbl, hok⟩ := hrel
  by_cases hgo : k < 2
  ·obtain ⟨f, hfk⟩ : ∃ f, m.fs[k]? = some f := ⟨_, List.getElem?_eq_getElem (by rw [h9.out]; exact hgo)⟩
   have hfd : fileOk m k ↔ (f.name = (if k = 0 then chunksN else indexN) /\ 0 <= f.size /\ f.size <= 1048576) := by unfold fileOk; rw [List.getD_eq_getElem?_getD, hfk]; rfl
   obtain ⟨b, o, rfl, hbb, f0, f1, f2⟩ := (hf.below (below_trans hB0 hbl)).at_ hfk
   have hk01 : k = 0 \/ k = 1 := by omega
   have HFD := Lib.hid hfd
   clear hfk hfd
   obtain ⟨nm, sz, su⟩ := f
   simp only at HFD f0 f1 f2
   rcases hk01 with rfl | rfl
   ·have f0 : wr.cell? ⟨b, o, none⟩ = some (.string (bs nm)) := f0
    have f1 : wr.cell? ⟨b, o + 1, none⟩ = some (.int .i64 sz) := f1
    have f2 : wr.cell? ⟨b, o + 2, none⟩ = some (.int .u32 su) := f2
    by_cases hn : nm = [99, 104, 117, 110, 107, 115]
    ·have hsz3 : sz < 0 \/ (0 <= sz /\ 1048576 < sz) \/ (0 <= sz /\ sz <= 1048576) := by omega
     rcases hsz3 with h1 | ⟨h1, h2⟩ | ⟨h1, h2⟩
     ·have HZ := Lib.hid (HF.out 0 (by omega) (fun h => by have := HFD.out.1 h; omega))
      subst hn
      go_wp2_with fail
      go_region
      go_wp2_with fail
      go_ret
      exact ⟨by rw [HZ.out]; rfl, below_trans (below_trans hB0 hbl) (below_ad2 _ _ _)⟩
     ·have HZ := Lib.hid (HF.out 0 (by omega) (fun h => by have := HFD.out.1 h; omega))
      subst hn
      have hd : decide (sz < 0) = false := decide_eq_false (by omega)
      have hd2 : decide (1048576 < sz) = true := decide_eq_true h2
      go_wp2_with fail
      go_region
      go_wp2_with fail
      go_ret
      exact ⟨by rw [HZ.out]; rfl, below_trans (below_trans hB0 hbl) (below_ad2 _ _ _)⟩
     ·have hd : decide (sz < 0) = false := decide_eq_false (by omega)
      have hd2 : decide (1048576 < sz) = false := decide_eq_false (by omega)
      have hok2 : Hid (∀ j, j < 0 + 1 -> fileOk m j) := Lib.hid (fun j hj => by
       by_cases hjk : j < 0
       ·exact hok.out j hjk
       ·obtain rfl : j = 0 := by omega
        exact HFD.out.2 ⟨hn, h1, h2⟩)
      subst hn
      go_wp2_with fail
      go_region
      go_wp2_with fail
      go_roundw
      case rel => exact ⟨0 + 1, by omega, by go_num, below_trans hbl (below_ad2 _ _ _), hok2⟩
      case measure => simp [intOf]
    ·have HZ := Lib.hid (HF.out 0 (by omega) (fun h => hn (HFD.out.1 h).1))
     have hne : (nm == [99, 104, 117, 110, 107, 115]) = false := by rw [beq_eq_false_iff_ne]; exact hn
     have hne2 : (nm != [99, 104, 117, 110, 107, 115]) = true := by rw [bne_iff_ne]; exact hn
     clear hn
     go_wp2_with fail
     go_region
     go_wp2_with fail
     go_ret
     exact ⟨by rw [HZ.out]; rfl, below_trans (below_trans hB0 hbl) (below_ad2 _ _ _)⟩
   ·have f0 : wr.cell? ⟨b, o + 3, none⟩ = some (.string (bs nm)) := f0
    have f1 : wr.cell? ⟨b, o + 3 + 1, none⟩ = some (.int .i64 sz) := f1
    have f2 : wr.cell? ⟨b, o + 3 + 2, none⟩ = some (.int .u32 su) := f2
    by_cases hn : nm = [105, 110, 100, 101, 120]
    ·have hsz3 : sz < 0 \/ (0 <= sz /\ 1048576 < sz) \/ (0 <= sz /\ sz <= 1048576) := by omega
     rcases hsz3 with h1 | ⟨h1, h2⟩ | ⟨h1, h2⟩
     ·have HZ := Lib.hid (HF.out 1 (by omega) (fun h => by have := HFD.out.1 h; omega))
      subst hn
      go_wp2_with fail
      go_region
      go_wp2_with fail
      go_ret
      exact ⟨by rw [HZ.out]; rfl, below_trans (below_trans hB0 hbl) (below_ad2 _ _ _)⟩
     ·have HZ := Lib.hid (HF.out 1 (by omega) (fun h => by have := HFD.out.1 h; omega))
      subst hn
      have hd : decide (sz < 0) = false := decide_eq_false (by omega)
      have hd2 : decide (1048576 < sz) = true := decide_eq_true h2
      go_wp2_with fail
      go_region
      go_wp2_with fail
      go_ret
      exact ⟨by rw [HZ.out]; rfl, below_trans (below_trans hB0 hbl) (below_ad2 _ _ _)⟩
     ·have hd : decide (sz < 0) = false := decide_eq_false (by omega)
      have hd2 : decide (1048576 < sz) = false := decide_eq_false (by omega)
      have hok2 : Hid (∀ j, j < 1 + 1 -> fileOk m j) := Lib.hid (fun j hj => by
       by_cases hjk : j < 1
       ·exact hok.out j hjk
       ·obtain rfl : j = 1 := by omega
        exact HFD.out.2 ⟨hn, h1, h2⟩)
      subst hn
      go_wp2_with fail
      go_region
      go_wp2_with fail
      go_roundw
      case rel => exact ⟨1 + 1, by omega, by go_num, below_trans hbl (below_ad2 _ _ _), hok2⟩
      case measure => simp [intOf]
    ·have HZ := Lib.hid (HF.out 1 (by omega) (fun h => hn (HFD.out.1 h).1))
     have hne : (nm == [105, 110, 100, 101, 120]) = false := by rw [beq_eq_false_iff_ne]; exact hn
     have hne2 : (nm != [105, 110, 100, 101, 120]) = true := by rw [bne_iff_ne]; exact hn
     clear hn
     go_wp2_with fail
     go_region
     go_wp2_with fail
     go_ret
     exact ⟨by rw [HZ.out]; rfl, below_trans (below_trans hB0 hbl) (below_ad2 _ _ _)⟩
  ·obtain rfl : k = 2 := by omega
   clear hgo hk
   obtain ⟨wo, rfl⟩ : ∃ wo : World, wo = wr := ⟨_, rfl⟩
   have hB1 := below_trans hB0 hbl
   have hblk := hblk.below hbl
   clear hB0 hbl
   have c7 : wo.cell? ⟨w.heap.size, 7, none⟩ = some (.slice A2 m.ss.length c2) := hblk.cell (i := 7) rfl
   go_wp2_with fail
   clear c7
   go_loop [98] (fun i => ∃ k : Nat, k <= m.ss.length /\ i = .int .i64 k /\ Hid (∀ j, j < k -> good m j)) (fun i => m.ss.length - (intOf i).toNat)
   case atStart => exact ⟨0, Nat.zero_le _, rfl, Lib.hid (fun j hj => absurd hj (Nat.not_lt_zero j))⟩
   case round =>
    obtain ⟨k, hk, rfl, hgd⟩ := hrel
    by_cases hgo : k < m.ss.length
    ·obtain ⟨s, hsk⟩ : ∃ s, m.ss[k]? = some s := ⟨_, List.getElem?_eq_getElem hgo⟩
     have hsk2 := hsl s (List.mem_of_getElem? hsk)
     have hsd : m.ss.getD k [] = s := by rw [List.getD_eq_getElem?_getD, hsk]; rfl
     have hgk : good m k ↔ (idOk s = true /\ s ≠ m.id /\ Op.bytesLess (prev m.ss k) s = true) := by unfold good; rw [hsd]
     obtain ⟨b, o, rfl, hbb, f0⟩ := (hs.below hB1).at_ hsk
     have c0 : wo.cell? ⟨w.heap.size, 0, none⟩ = some (.string (bs m.id)) := hblk.cell (i := 0) rfl
     have c7 : wo.cell? ⟨w.heap.size, 7, none⟩ = some (.slice (some ⟨b, o, none⟩) m.ss.length c2) := hblk.cell (i := 7) rfl
     have hi := isID_any s
     have HGK := Lib.hid hgk
     have HSK := Lib.hid hsk
     clear hsd hgk hsk
     rcases hid1 : idOk s with _ | _
     ·have HZ := Lib.hid (HS.out k hgo (fun h => by have := (HGK.out.1 h).1; rw [hid1] at this; cases this))
      rw [hid1] at hi
      have HI2 := Lib.hid hi
      clear hi hid1
      go_wp2_with fail
      refine (HI2.out _ hsk2).mono ?_
      rintro e w' ⟨rfl, rfl⟩
      go_wp2_with fail
      go_ret
      exact ⟨by rw [HZ.out]; rfl, hB1⟩
     ·rw [hid1] at hi
      have HI2 := Lib.hid hi
      have hid1 := Lib.hid hid1
      clear hi
      rcases heq : (s == m.id) with _ | _
      ·have hne : s ≠ m.id := by rw [beq_eq_false_iff_ne] at heq; exact heq
       have hne := Lib.hid hne
       rcases k with _ | p
       ·have hg : good m 0 := HGK.out.2 ⟨hid1.out, hne.out, by
         have hl := idOk_len hid1.out
         cases s with
         | nil => simp at hl
         | cons x y => rfl⟩
        have hg2 : Hid (∀ j, j < 0 + 1 -> good m j) := Lib.hid (fun j hj => by obtain rfl : j = 0 := (by omega); exact hg)
        clear hg
        have f0 : wo.cell? ⟨b, o, none⟩ = some (.string (bs s)) := f0
        go_wp2_with fail
        refine (HI2.out _ hsk2).mono ?_
        rintro e w' ⟨rfl, rfl⟩
        go_wp2_with fail
        go_round
        case rel =>
         refine ⟨trivial, ?_⟩
         repeat apply Exists.intro
         refine ⟨?_, rfl⟩
         exact ⟨0 + 1, by omega, by go_num, hg2⟩
        case measure => simp [intOf]; omega
       ·obtain ⟨y, hy⟩ : ∃ y, m.ss[p]? = some y := ⟨_, List.getElem?_eq_getElem (by omega)⟩
        have hpv : prev m.ss (p + 1) = y := by unfold prev; rw [if_neg (by omega), Nat.add_sub_cancel, List.getD_eq_getElem?_getD, hy]; rfl
        obtain ⟨b', o', he, _, f1⟩ := (hs.below hB1).at_ hy
        injection he with he
        injection he with he1 he2 _
        subst he1; subst he2
        have hp1 : (0 : Int) <= (p : Int) := by omega
        have hp2 : (p : Int) < m.ss.length := by omega
        rw [hpv] at HGK
        clear hy hpv
        rcases hlt : Op.bytesLess y s with _ | _
        ·have HZ := Lib.hid (HS.out (p + 1) hgo (fun h => by have := (HGK.out.1 h).2.2; rw [hlt] at this; cases this))
         go_wp2_with fail
         refine (HI2.out _ hsk2).mono ?_
         rintro e w' ⟨rfl, rfl⟩
         go_wp2_with fail
         go_ret
         exact ⟨by rw [HZ.out]; rfl, hB1⟩
        ·have hg := Lib.hid (HGK.out.2 ⟨hid1.out, hne.out, hlt⟩)
         have hg2 : Hid (∀ j, j < p + 1 + 1 -> good m j) := Lib.hid (fun j hj => by
          by_cases hj2 : j < p + 1
          ·exact hgd.out j hj2
          ·obtain rfl : j = p + 1 := by omega
           exact hg.out)
         go_wp2_with fail
         refine (HI2.out _ hsk2).mono ?_
         rintro e w' ⟨rfl, rfl⟩
         go_wp2_with fail
         go_round
         case rel =>
          refine ⟨trivial, ?_⟩
          repeat apply Exists.intro
          refine ⟨?_, rfl⟩
          exact ⟨p + 1 + 1, by omega, by go_num, hg2⟩
         case measure => simp [intOf]; omega
      ·have HZ := Lib.hid (HS.out k hgo (fun h => by have := (HGK.out.1 h).2.1; rw [beq_iff_eq] at heq; exact this heq))
       go_wp2_with fail
       refine (HI2.out _ hsk2).mono ?_
       rintro e w' ⟨rfl, rfl⟩
       go_wp2_with fail
       go_ret
       exact ⟨by rw [HZ.out]; rfl, hB1⟩
    ·have HZ := Lib.hid (HY.out ⟨hss.out.1, h9.out, h10, fun i hi => hok.out i hi, fun i hi => hgd.out i (by omega)⟩)
     go_wp2_with fail
     go_ret
     exact ⟨by rw [HZ.out]; rfl, hB1⟩

theorem mcheck_any (m : Mt) (fv sv : Value) (w : World) (hf : FlsAt w fv m.fs) (hs : SrcAt w sv m.ss) (hid : m.id.length <= 1000000000000) (hsl : ∀ s ∈ m.ss, s.length <= 1000000000000) :
  Calls Tryz.prog 32 #[.agg #[.string (bs m.id), .int .i64 m.mn, .int .i64 m.mx, .int .i64 m.lv, .int .i64 m.sr, .int .i64 m.sm, fv, sv]] w (RetBelow w (.int .i64 (chk m))) := by
 by_cases h : sane m /\ sized m
 ·exact mcheck_good m fv sv w hf hs hid hsl h.1 h.2
 ·rw [chk_no (not_ok h)]
  exact mcheck_bad m fv sv w hf hs hid h

end Go.Proofs.YtgabmfibfikdbaaGreatDoor
