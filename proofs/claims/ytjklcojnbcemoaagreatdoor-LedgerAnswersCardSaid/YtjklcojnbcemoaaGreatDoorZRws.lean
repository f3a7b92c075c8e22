/-
  Layer 14: rows of labels and samples in memory, tables of them.
-/
import Derived.Test.YtjklcojnbcemoaaGreatDoorZMrgU
import Derived.Test.YtjklcojnbcemoaaGreatDoorZLebA
import Derived.Test.YtjklcojnbcemoaaGreatDoorZSmp
import Derived.Test.YtjklcojnbcemoaaGreatDoorZLib13
import Derived.Test.YtjklcojnbcemoaaGreatDoorZLib25
import Derived.Test.YtjklcojnbcemoaaGreatDoorZMrgS
import Derived.Test.YtjklcojnbcemoaaGreatDoorZMrgT
import Derived.Test.YtjklcojnbcemoaaGreatDoorZLib9
import Derived.Test.YtjklcojnbcemoaaGreatDoorZLabD
import Derived.Test.YtjklcojnbcemoaaGreatDoorZLib5
import Derived.Deep.QuietTactic

namespace Go.Proofs.YtjklcojnbcemoaaGreatDoor
open Go.RowKit Go.Bar Go.Bar.Leb Go.Bar.Lab Go.Bar.Xor Go.Bar.Mrg

/-- a row in memory: where its slices lie -/
structure Rv where
  ls : List Pr
  ss : List Sm
  la : Option Addr
  lc : Nat
  sa : Option Addr
  sc : Nat
def encR (x : Rv) : List Value := [.slice x.la x.ls.length x.lc, .slice x.sa x.ss.length x.sc]
/-- its slices are there -/
def RAt (w : World) (x : Rv) : Prop := PsAt w (.slice x.la x.ls.length x.lc) x.ls ∧ SmsAt w (.slice x.sa x.ss.length x.sc) x.ss
theorem RAt.below {w w' : World} {x : Rv} (h : RAt w x) (hb : Below w.heap.size w w') : RAt w' x := ⟨h.1.below hb, h.2.below hb⟩

/-- rows in cells -/
def rcs (l : List Rv) : List Value := l.flatMap encR
theorem encR_two (x : Rv) : (encR x).length = 2 := rfl
theorem rcs_len (l : List Rv) : (rcs l).length = l.length * 2 := by rw [show rcs l = l.flatMap encR from rfl]; induction l with | nil => rfl | cons y r ih => rw [List.flatMap_cons, List.length_append, ih, encR_two, List.length_cons]; omega
theorem rcs_app (l m : List Rv) : rcs (l ++ m) = rcs l ++ rcs m := List.flatMap_append
/-- a row's plain content -/
def plR (x : Rv) : Row := (x.ls, x.ss)
/-- a table in memory -/
def TbAt (w : World) (v : Value) (t : List Rv) : Prop := SlAt w 2 v t.length (rcs t) ∧ ∀ x ∈ t, RAt w x
section
variable {w w' : World} {v : Value} {t : List Rv}
theorem TbAt.below (h : TbAt w v t) (hb : Below w.heap.size w w') : TbAt w' v t := ⟨h.1.below hb, fun x hx => (h.2 x hx).below hb⟩
theorem TbAt.at_ {A : Option Addr} {n c i : Nat} {x : Rv} (h : TbAt w (.slice A n c) t) (hi : t[i]? = some x) : ∃ b o, A = some ⟨b, o, none⟩ ∧ w.cell? ⟨b, o + i * 2, none⟩ = some (.slice x.la x.ls.length x.lc) ∧ w.cell? ⟨b, o + i * 2 + 1, none⟩ = some (.slice x.sa x.ss.length x.sc) ∧ RAt w x := by
  have hlt : i < t.length := (List.getElem?_eq_some_iff.1 hi).1
  obtain ⟨A', c', he, _⟩ := h.1.shape
  injection he with e1 e2 e3
  subst e1; subst e2; subst e3
  obtain ⟨b, o, rfl, hb, hc⟩ := SlAt.cells h.1 (by omega)
  have g := flat_get encR 2 encR_two t i x hi
  have g0 := hc _ _ (g 0 (by omega))
  have g1 := hc _ _ (g 1 (by omega))
  exact ⟨b, o, rfl, g0, (by rw [Nat.add_assoc]; exact g1), h.2 x (List.mem_of_getElem? hi)⟩
end
theorem TbAt.at2 {w : World} {t : List Rv} {b o n c i : Nat} {x : Rv} (h : TbAt w (.slice (some ⟨b, o, none⟩) n c) t) (hi : t[i]? = some x) : w.cell? ⟨b, o + i * 2, none⟩ = some (.slice x.la x.ls.length x.lc) ∧ w.cell? ⟨b, o + i * 2 + 1, none⟩ = some (.slice x.sa x.ss.length x.sc) ∧ RAt w x := by
  obtain ⟨b', o', he, h1, h2, h3⟩ := h.at_ hi
  injection he with he
  injection he with e1 e2 _
  subst e1; subst e2
  exact ⟨h1, h2, h3⟩

theorem mrow_ty : ElemTy Tryz.prog 23 50 (.agg #[.slice none 0 0, .slice none 0 0]) 2 48 :=
  ⟨Tryz.underlying23, info_parts (show (Tryz.prog.info? 50).map (fun i => (i.zero, i.size, i.bytes)) = some (some (.agg #[.slice none 0 0, .slice none 0 0]), 2, 48) by kernel_rfl), rfl⟩

theorem rrow_ty : ElemTy Tryz.prog 24 88 (.agg #[.slice none 0 0, .slice none 0 0]) 2 48 :=
  ⟨Tryz.underlying24, info_parts (show (Tryz.prog.info? 88).map (fun i => (i.zero, i.size, i.bytes)) = some (some (.agg #[.slice none 0 0, .slice none 0 0]), 2, 48) by kernel_rfl), rfl⟩

/-- a table in a buffer of the call's own; its rows are readable -/
def RTb (W w : World) (T : TypeId) (v : Value) (t : List Rv) : Prop := NBuf W w T 2 v t.length (rcs t) ∧ ∀ x ∈ t, RAt w x
section
variable {W w w' : World} {T : TypeId} {v : Value} {t : List Rv}
theorem RTb.tb (h : RTb W w T v t) : TbAt w v t := ⟨h.1.slice, h.2⟩
theorem RTb.below (h : RTb W w T v t) (hb : Below w.heap.size w w') : RTb W w' T v t := ⟨h.1.then_below hb, fun x hx => (h.2 x hx).below hb⟩
theorem RTb.after {W0 : World} (h : RTb W w T v t) (hb : Below W0.heap.size W0 W) : RTb W0 w T v t := ⟨h.1.after hb, h.2⟩
theorem TbAt.shape {w : World} {v : Value} {t : List Rv} (h : TbAt w v t) : ∃ A c, v = .slice A t.length c ∧ t.length ≤ c ∧ c ≤ maxLen := h.1.shape
end
theorem rcs_snoc (t : List Rv) (x : Rv) : rcs (t ++ [x]) = rcs t ++ [.slice x.la x.ls.length x.lc, .slice x.sa x.ss.length x.sc] := by rw [rcs_app]; rfl
theorem rcs_oneT (t : List Rv) : ∀ u ∈ rcs t, u.oneCell' = true := fun u hu => by
  obtain ⟨x, _, hx⟩ := List.mem_flatMap.1 hu
  simp [encR] at hx
  rcases hx with rfl | rfl <;> simp [Value.oneCell']

/-- a call that hands back a table of the call's own, of rows that it may have found -/
def RetTb (w : World) (T : TypeId) (R : List Row) (e : Ending) (w' : World) : Prop := ∃ v t, e = .returned v ∧ RTb w w' T v t ∧ t.map plR = R
end Go.Proofs.YtjklcojnbcemoaaGreatDoor

/-
  Layer 14: cursors in memory, and the walks of the heap over them.
-/
namespace Go.Proofs.YtjklcojnbcemoaaGreatDoor
open Go.RowKit Go.Bar Go.Bar.Leb Go.Bar.Lab Go.Bar.Xor Go.Bar.Mrg

/-- a cursor: its table, its place there, its row -/
structure Cu where
  tb : Nat
  ix : Nat
  x : Rv
def encC (q : Cu) : List Value := [.int .i64 q.tb, .int .i64 q.ix, .slice q.x.la q.x.ls.length q.x.lc, .slice q.x.sa q.x.ss.length q.x.sc]
theorem encC_four (q : Cu) : (encC q).length = 4 := rfl
def ccs (l : List Cu) : List Value := l.flatMap encC
/-- which one comes first -/
def lsC (p q : Cu) : Bool := decide (cmpL p.x.ls q.x.ls < 0) || (decide (cmpL p.x.ls q.x.ls = 0) && decide (p.tb < q.tb))
theorem queue_len : (Tryz.prog.info? 76).bind (fun i => (i.methods.find? (·.name == "Len")).map (fun m => (m.path.toList.length, m.func))) = some (0, some (132, false)) := by kernel_rfl
theorem queue_less : (Tryz.prog.info? 76).bind (fun i => (i.methods.find? (·.name == "Less")).map (fun m => (m.path.toList.length, m.func))) = some (0, some (133, false)) := by kernel_rfl
theorem queue_swap : (Tryz.prog.info? 76).bind (fun i => (i.methods.find? (·.name == "Swap")).map (fun m => (m.path.toList.length, m.func))) = some (0, some (134, false)) := by kernel_rfl
theorem queue_push : (Tryz.prog.info? 76).bind (fun i => (i.methods.find? (·.name == "Push")).map (fun m => (m.path.toList.length, m.func))) = some (0, some (136, true)) := by kernel_rfl
theorem queue_pop : (Tryz.prog.info? 76).bind (fun i => (i.methods.find? (·.name == "Pop")).map (fun m => (m.path.toList.length, m.func))) = some (0, some (135, true)) := by kernel_rfl

set_option maxRecDepth 20000 in
/-- a method of the queue by its pointer: with the queue itself -/
theorem finds_val {name : String} {f : Nat} {Q : Nat} {v : Value} {w : World} (h : (Tryz.prog.info? 76).bind (fun i => (i.methods.find? (·.name == name)).map (fun m => (m.path.toList.length, m.func))) = some (0, some (f, false))) (hc : w.cell? ⟨Q, 0, none⟩ = some v) (n : Nat) :
    Sem.run Tryz.prog (method (n + 1) 76 (.pointer (some ⟨Q, 0, none⟩)) name) w = .ok (f, v) w := by
  rcases hi : Tryz.prog.info? 76 with _ | i
  · rw [hi] at h; cases h
  · rw [hi] at h
    have h : (i.methods.find? (·.name == name)).map (fun m => (m.path.toList.length, m.func)) = some (0, some (f, false)) := h
    rcases hm : i.methods.find? (·.name == name) with _ | m
    · rw [hm] at h; cases h
    · rw [hm] at h
      injection h with h
      injection h with h1 h2
      have hp : m.path.toList = [] := List.eq_nil_of_length_eq_zero h1
      have hp2 : m.path = #[] := Array.toList_eq_nil_iff.1 hp
      have hu := Tryz.underlying76
      have hl : ∀ w, (isAgg 72).run Tryz.prog w = .ok false w := fun w => by kernel_rfl
      have hwr : ∀ (s : String) (w : World), (Builtin.ssaWrapNilChk_ #[76] 76 #[.pointer (some ⟨Q, 0, none⟩), strVal "", strVal s]).run Tryz.prog w = .ok (.pointer (some ⟨Q, 0, none⟩)) w := fun s w => rfl
      unfold method
      simp [run_typeInfo _ hi, hm, follow, h2, receiverAt, run_underlying hu, Place.get, hwr, hp2, loadVar, hl, asAddr, hc, Result.andThen]
set_option maxRecDepth 20000 in
theorem finds_ptr {name : String} {f : Nat} {Q : Nat} {w : World} (h : (Tryz.prog.info? 76).bind (fun i => (i.methods.find? (·.name == name)).map (fun m => (m.path.toList.length, m.func))) = some (0, some (f, true))) (n : Nat) :
    Sem.run Tryz.prog (method (n + 1) 76 (.pointer (some ⟨Q, 0, none⟩)) name) w = .ok (f, .pointer (some ⟨Q, 0, none⟩)) w := by
  rcases hi : Tryz.prog.info? 76 with _ | i
  · rw [hi] at h; cases h
  · rw [hi] at h
    have h : (i.methods.find? (·.name == name)).map (fun m => (m.path.toList.length, m.func)) = some (0, some (f, true)) := h
    rcases hm : i.methods.find? (·.name == name) with _ | m
    · rw [hm] at h; cases h
    · rw [hm] at h
      injection h with h
      injection h with h1 h2
      have hp : m.path.toList = [] := List.eq_nil_of_length_eq_zero h1
      have hp2 : m.path = #[] := Array.toList_eq_nil_iff.1 hp
      have hu := Tryz.underlying76
      unfold method
      simp [run_typeInfo _ hi, hm, follow, h2, receiverAt, run_underlying hu, Place.get, hp2, Result.andThen]

theorem encC_at (l : List Cu) (i : Nat) (q : Cu) (h : l[i]? = some q) : (ccs l)[i * 4]? = some (.int .i64 q.tb) ∧ (ccs l)[i * 4 + 1]? = some (.int .i64 q.ix) ∧ (ccs l)[i * 4 + 2]? = some (.slice q.x.la q.x.ls.length q.x.lc) ∧ (ccs l)[i * 4 + 3]? = some (.slice q.x.sa q.x.ss.length q.x.sc) := by
  have g := flat_get encC 4 encC_four l i q h
  exact ⟨g 0 (by omega), g 1 (by omega), g 2 (by omega), g 3 (by omega)⟩
theorem ccs_set : ∀ (l : List Cu) (i : Nat) (q : Cu), i < l.length → ((((ccs l).set (i * 4) (.int .i64 q.tb)).set (i * 4 + 1) (.int .i64 q.ix)).set (i * 4 + 2) (.slice q.x.la q.x.ls.length q.x.lc)).set (i * 4 + 3) (.slice q.x.sa q.x.ss.length q.x.sc) = ccs (l.set i q)
  | [], i, q, h => by simp at h
  | p :: l, 0, q, _ => by simp [ccs, encC]
  | p :: l, i + 1, q, h => by
    have ih := ccs_set l i q (by simpa using h)
    have e1 : (i + 1) * 4 = i * 4 + 1 + 1 + 1 + 1 := by omega
    show ((((Value.int .i64 p.tb :: Value.int .i64 p.ix :: Value.slice p.x.la p.x.ls.length p.x.lc :: Value.slice p.x.sa p.x.ss.length p.x.sc :: ccs l).set ((i + 1) * 4) _).set ((i + 1) * 4 + 1) _).set ((i + 1) * 4 + 2) _).set ((i + 1) * 4 + 3) _ = Value.int .i64 p.tb :: Value.int .i64 p.ix :: Value.slice p.x.la p.x.ls.length p.x.lc :: Value.slice p.x.sa p.x.ss.length p.x.sc :: ccs (l.set i q)
    rw [e1]
    simp only [List.set_cons_succ]
    rw [ih]
/-- the queue: its variable, its buffer; since W nothing else has turned -/
structure Qu (W : World) (Q b o n c : Nat) (f : Nat → Cu) (w : World) : Prop where
  buf : Buf w 74 4 (.slice (some ⟨b, o, none⟩) n c) n (ccs (row n f))
  var : Blk w Q 72 #[.slice (some ⟨b, o, none⟩) n c]
  fr : Fr (fun k _ => k = b ∨ k = Q) W w
section
variable {W w w' : World} {Q b o n c : Nat} {f : Nat → Cu}
theorem Qu.below (h : Qu W Q b o n c f w) (hb : Below w.heap.size w w') : Qu W Q b o n c f w' := ⟨h.buf.below hb, h.var.below hb, h.fr.then_below hb⟩
theorem Qu.at_ (h : Qu W Q b o n c f w) {i : Nat} (hi : i < n) : (w.cell? ⟨b, o + i * 4, none⟩ = some (.int .i64 (f i).tb) ∧ w.cell? ⟨b, o + i * 4 + 1, none⟩ = some (.int .i64 (f i).ix) ∧ w.cell? ⟨b, o + i * 4 + 2, none⟩ = some (.slice (f i).x.la (f i).x.ls.length (f i).x.lc) ∧ w.cell? ⟨b, o + i * 4 + 3, none⟩ = some (.slice (f i).x.sa (f i).x.ss.length (f i).x.sc)) ∧
    (w.frozen? ⟨b, o + i * 4, none⟩ = false ∧ w.frozen? ⟨b, o + i * 4 + 1, none⟩ = false ∧ w.frozen? ⟨b, o + i * 4 + 2, none⟩ = false ∧ w.frozen? ⟨b, o + i * 4 + 3, none⟩ = false) := by
  obtain ⟨g0, g1, g2, g3⟩ := encC_at (row n f) i (f i) (row_at f hi)
  obtain ⟨a0, b0⟩ := h.buf.cellN (j := i * 4) (by omega)
  obtain ⟨a1, b1⟩ := h.buf.cellN (j := i * 4 + 1) (by omega)
  obtain ⟨a2, b2⟩ := h.buf.cellN (j := i * 4 + 2) (by omega)
  obtain ⟨a3, b3⟩ := h.buf.cellN (j := i * 4 + 3) (by omega)
  refine ⟨⟨a0.trans g0, ?_, ?_, ?_⟩, b0, ?_, ?_, ?_⟩ <;> rw [Nat.add_assoc] <;> first | exact a1.trans g1 | exact a2.trans g2 | exact a3.trans g3 | exact b1 | exact b2 | exact b3
theorem Qu.ne (h : Qu W Q b o n c f w) (hn : 0 < n) : Q ≠ b := by
  intro e
  subst e
  obtain ⟨_, A, c', he, hnc, hc, hv⟩ := h.buf
  injection he with h1 h2 h3
  subst h1; subst h3
  obtain ⟨b', o', cur, fr, h4, hbk, _⟩ := hv (by omega)
  injection h4 with h4
  injection h4 with h4 _ _
  subst h4
  have := h.var
  unfold Blk at this
  rw [this] at hbk
  injection hbk with hbk
  injection hbk with _ ht _
  exact absurd ht (by decide)
theorem Qu.lt (h : Qu W Q b o n c f w) (hn : 0 < n) : b < w.heap.size := h.buf.lt hn b rfl
/-- an element's four cells -/
def st4 (w : World) (b o i : Nat) (q : Cu) : World := (((w.setCell ⟨b, o + i * 4, none⟩ (.int .i64 q.tb)).setCell ⟨b, o + i * 4 + 1, none⟩ (.int .i64 q.ix)).setCell ⟨b, o + i * 4 + 2, none⟩ (.slice q.x.la q.x.ls.length q.x.lc)).setCell ⟨b, o + i * 4 + 3, none⟩ (.slice q.x.sa q.x.ss.length q.x.sc)
theorem Qu.put (h : Qu W Q b o n c f w) {i : Nat} (hi : i < n) (q : Cu) : Qu W Q b o n c (fun k => if k = i then q else f k) (st4 w b o i q) := by
  have hne := h.ne (by omega)
  refine ⟨?_, ?_, ?_⟩
  · have h1 := (((h.buf.storeN (j := i * 4) (by omega) (.int .i64 q.tb)).storeN (j := i * 4 + 1) (by omega) (.int .i64 q.ix)).storeN (j := i * 4 + 2) (by omega) (.slice q.x.la q.x.ls.length q.x.lc)).storeN (j := i * 4 + 3) (by omega) (.slice q.x.sa q.x.ss.length q.x.sc)
    rw [ccs_set _ _ _ (by rw [row_len]; exact hi), row_set] at h1
    unfold st4
    rw [Nat.add_assoc o (i * 4) 1, Nat.add_assoc o (i * 4) 2, Nat.add_assoc o (i * 4) 3]
    exact h1
  · exact (((h.var.other hne _ _).other hne _ _).other hne _ _).other hne _ _
  · exact (((h.fr.setCell (fun _ => .inl rfl) _).setCell (fun _ => .inl rfl) _).setCell (fun _ => .inl rfl) _).setCell (fun _ => .inl rfl) _
theorem Qu.swap (h : Qu W Q b o n c f w) {i j : Nat} (hi : i < n) (hj : j < n) : Qu W Q b o n c (swf i j f) (st4 (st4 w b o i (f j)) b o j (f i)) := by
  have h1 := (h.put hi (f j)).put hj (f i)
  have e : (fun k => if k = j then f i else if k = i then f j else f k) = swf i j f := by
    funext k
    unfold swf
    by_cases h1 : k = i
    · rw [if_pos h1]
      by_cases h2 : k = j
      · rw [if_pos h2]; subst h1; subst h2; simp
      · rw [if_neg h2, if_pos h1]
    · rw [if_neg h1, if_neg h1]
  rw [e] at h1
  exact h1
end
def RetQu (W : World) (Q b o n c : Nat) (f : Nat → Cu) (e : Ending) (w' : World) : Prop := e = .returned (.tuple #[]) ∧ Qu W Q b o n c f w'

set_option maxHeartbeats 4000000 in
set_option maxRecDepth 10000 in
theorem qSwap_any (Q b o n c i j : Nat) (f : Nat → Cu) (W w : World) (h : Qu W Q b o n c f w) (hi : i < n) (hj : j < n) (hn : n < 1000000000) :
    Calls Tryz.prog 134 #[.slice (some ⟨b, o, none⟩) n c, .int .i64 (i : Nat), .int .i64 (j : Nat)] w (RetQu W Q b o n c (swf i j f)) := by
  have hsw := h.swap hi hj
  obtain ⟨⟨a0, a1, a2, a3⟩, u0, u1, u2, u3⟩ := h.at_ hi
  obtain ⟨⟨b0, b1, b2, b3⟩, v0, v1, v2, v3⟩ := h.at_ hj
  obtain ⟨_, x0, x1, x2, x3⟩ := (h.put hi (f j)).at_ hj
  have hz : ∀ s, ∃ u, (st4 w b o i (f j)).cell? ⟨b, o + j * 4 + s, none⟩ = u := fun s => ⟨_, rfl⟩
  obtain ⟨⟨z0, z1, z2, z3⟩, _⟩ := (h.put hi (f j)).at_ hj
  have hin : (i : Int) < (n : Int) := by omega
  have hjn : (j : Int) < (n : Int) := by omega
  have hlt := h.lt (by omega)
  have hfj : (if j = i then f j else f j) = f j := by split <;> rfl
  rw [hfj] at z0 z1 z2 z3
  have HS := Lib.hid hsw
  clear hsw hz hfj h
  unfold st4 at z0 z1 z2 z3 x0 x1 x2 x3
  go_enter Tryz.func134, Tryz.ntmps134
  go_region
  have hR2 := HS.out.below (Below.refl _ _).drew
  go_wp2_with fail
  go_end0
  exact ⟨rfl, hR2⟩
end Go.Proofs.YtjklcojnbcemoaaGreatDoor

/-
  Layer 14: the walks of the queue's Less and Len, of heap.up, heap.down, heap.Init.
-/
namespace Go.Proofs.YtjklcojnbcemoaaGreatDoor
open Go.RowKit Go.Bar Go.Bar.Leb Go.Bar.Lab Go.Bar.Xor Go.Bar.Mrg

theorem lsC_ord : LsOrd lsC where
  asymm p q h := by
    unfold lsC at *
    rw [Bool.or_eq_true, Bool.and_eq_true, decide_eq_true_eq, decide_eq_true_eq, decide_eq_true_eq] at h
    have hn := cmpL_neg p.x.ls q.x.ls
    rw [Bool.or_eq_false_iff, Bool.and_eq_false_iff, decide_eq_false_iff_not, decide_eq_false_iff_not, decide_eq_false_iff_not]
    omega
  tr p q r h1 h2 := by
    unfold lsC at *
    rw [Bool.or_eq_false_iff, Bool.and_eq_false_iff, decide_eq_false_iff_not, decide_eq_false_iff_not, decide_eq_false_iff_not] at *
    have n1 := cmpL_neg p.x.ls q.x.ls
    have n2 := cmpL_neg q.x.ls r.x.ls
    have n3 := cmpL_neg p.x.ls r.x.ls
    have t1 : cmpL p.x.ls r.x.ls ≤ 0 := cmpL_trans (b := q.x.ls) (by omega) (by omega)
    refine ⟨by omega, ?_⟩
    by_cases h0 : cmpL r.x.ls p.x.ls = 0
    · right
      have e : r.x.ls = p.x.ls := cmpL_zero.1 h0
      have h3 : cmpL q.x.ls p.x.ls = 0 := by rw [e] at h2 n2; omega
      have h4 : cmpL r.x.ls q.x.ls = 0 := by rw [e]; omega
      have a1 := h1.2
      have a2 := h2.2
      omega
    · exact .inl h0
theorem lsC_irr (q : Cu) : lsC q q = false := by
  rcases h : lsC q q with _ | _
  · rfl
  · have := lsC_ord.asymm q q h
    rw [h] at this; cases this

set_option maxHeartbeats 4000000 in
set_option maxRecDepth 10000 in
theorem qLess_any (b o n c i j : Nat) (f : Nat → Cu) (w : World) (h : Buf w 74 4 (.slice (some ⟨b, o, none⟩) n c) n (ccs (row n f))) (hi : i < n) (hj : j < n) (_hn : n < 1000000000) (h1 : RAt w (f i).x) (h2 : RAt w (f j).x) :
    Calls Tryz.prog 133 #[.slice (some ⟨b, o, none⟩) n c, .int .i64 (i : Nat), .int .i64 (j : Nat)] w (RetBelow w (.bool (lsC (f i) (f j)))) := by
  obtain ⟨p, hp⟩ : ∃ p, p = f i := ⟨_, rfl⟩
  obtain ⟨q, hq⟩ : ∃ q, q = f j := ⟨_, rfl⟩
  obtain ⟨g0, g1, g2, g3⟩ := encC_at (row n f) i (f i) (row_at f hi)
  obtain ⟨k0, k1, k2, k3⟩ := encC_at (row n f) j (f j) (row_at f hj)
  rw [← hp] at g0 g2 h1 ⊢
  rw [← hq] at k0 k2 h2 ⊢
  have a0 := fun (w' : World) (hb : Below w.heap.size w w') => (((h.below hb).cellN (j := i * 4) (by omega)).1.trans g0)
  have a2 := fun (w' : World) (hb : Below w.heap.size w w') => (((h.below hb).cellN (j := i * 4 + 2) (by omega)).1.trans g2)
  have b0 := fun (w' : World) (hb : Below w.heap.size w w') => (((h.below hb).cellN (j := j * 4) (by omega)).1.trans k0)
  have b2 := fun (w' : World) (hb : Below w.heap.size w w') => (((h.below hb).cellN (j := j * 4 + 2) (by omega)).1.trans k2)
  have A0 := Lib.hid a0
  have A2 := Lib.hid a2
  have B0 := Lib.hid b0
  have B2 := Lib.hid b2
  have H1 := Lib.hid h1.1
  have H2 := Lib.hid h2.1
  have hc := fun (w' : World) (hb : Below w.heap.size w w') => lcompare_any _ _ p.x.ls q.x.ls w' (H1.out.below hb) (H2.out.below hb)
  have hls : lsC p q = (decide (cmpL p.x.ls q.x.ls < 0) || (decide (cmpL p.x.ls q.x.ls = 0) && decide (p.tb < q.tb))) := rfl
  obtain ⟨Z, hZ⟩ : ∃ Z, Z = cmpL p.x.ls q.x.ls := ⟨_, rfl⟩
  rw [← hZ] at hc hls
  have HC := Lib.hid hc
  have hin : (i : Int) < (n : Int) := by omega
  have hjn : (j : Int) < (n : Int) := by omega
  rw [hls]
  clear a0 a2 b0 b2 h1 h2 hc hZ hls hp hq g0 g1 g2 g3 k0 k1 k2 k3 h
  go_enter Tryz.func133, Tryz.ntmps133
  go_upto_region 1 with fail
  refine wp_region_facts [(5, (isV (.slice p.x.la p.x.ls.length p.x.lc), noFact)), (11, (isV (.slice q.x.la q.x.ls.length q.x.lc), noFact)), (12, (isV (.int .i64 Z), noFact))] (by kernel_rfl) 36 (by kernel_rfl) rfl ?_ ?_ ?_
  · apply lookup_ne
    simp only [List.forall_mem_cons, List.not_mem_nil, false_imp_iff, implies_true, and_true]
    exact ⟨⟨_, rfl⟩, ⟨_, rfl⟩, ⟨_, rfl⟩⟩
  · apply lookup_st
    simp only [List.forall_mem_cons, List.not_mem_nil, false_imp_iff, implies_true, and_true]
    refine ⟨?_, ?_, ?_⟩
    · exact fun _ _ _ _ _ => trivial
    · exact fun _ _ _ _ _ => trivial
    · exact fun _ _ _ _ _ => trivial
  repeat (first
    | (refine Chain.step (v := ?_) (a' := ?_) rfl rfl rfl ?_ ?_ ?_
       rotate_left 2
       focus (intro w; go_simp; try with_reducible rfl)
       focus (simp only [Act.put, List.setIfInBounds_toArray, List.set_cons_succ, List.set_cons_zero]; try rfl))
    | (refine Chain.skip (a' := ?_) rfl rfl rfl ?_ ?_
       rotate_left 1
       focus (simp only [Act.put, List.setIfInBounds_toArray, List.set_cons_succ, List.set_cons_zero]; try rfl)))
  refine Chain.call' (a' := ?_) _ rfl rfl rfl rfl (fun wx hw hF => ?_) ?_ ?_
  rotate_left 1
  focus
    have g0 := A2.out wx hw
    rw [← Nat.add_assoc] at g0
    go_simp
    first | exact ⟨rfl, Below.refl _ _⟩ | exact Below.refl _ _
  focus (simp only [Act.put, List.setIfInBounds_toArray, List.set_cons_succ, List.set_cons_zero]; try rfl)
  repeat (first
    | (refine Chain.step (v := ?_) (a' := ?_) rfl rfl rfl ?_ ?_ ?_
       rotate_left 2
       focus (intro w; go_simp; try with_reducible rfl)
       focus (simp only [Act.put, List.setIfInBounds_toArray, List.set_cons_succ, List.set_cons_zero]; try rfl))
    | (refine Chain.skip (a' := ?_) rfl rfl rfl ?_ ?_
       rotate_left 1
       focus (simp only [Act.put, List.setIfInBounds_toArray, List.set_cons_succ, List.set_cons_zero]; try rfl)))
  refine Chain.call' (a' := ?_) _ rfl rfl rfl rfl (fun wx hw hF => ?_) ?_ ?_
  rotate_left 1
  focus
    have g0 := B2.out wx hw
    rw [← Nat.add_assoc] at g0
    go_simp
    first | exact ⟨rfl, Below.refl _ _⟩ | exact Below.refl _ _
  focus (simp only [Act.put, List.setIfInBounds_toArray, List.set_cons_succ, List.set_cons_zero]; try rfl)
  repeat (first
    | (refine Chain.step (v := ?_) (a' := ?_) rfl rfl rfl ?_ ?_ ?_
       rotate_left 2
       focus (intro w; go_simp; try with_reducible rfl)
       focus (simp only [Act.put, List.setIfInBounds_toArray, List.set_cons_succ, List.set_cons_zero]; try rfl))
    | (refine Chain.skip (a' := ?_) rfl rfl rfl ?_ ?_
       rotate_left 1
       focus (simp only [Act.put, List.setIfInBounds_toArray, List.set_cons_succ, List.set_cons_zero]; try rfl)))
  refine Chain.call' (a' := ?_) _ rfl rfl rfl rfl (fun wx hw hF => ?_) ?_ ?_
  rotate_left 1
  focus
    go_simp; (with_reducible refine (HC.out _ hw).mono ?_); exact (fun e w' ⟨h1, h2⟩ => by subst h1; exact ⟨rfl, h2⟩)
  focus (simp only [Act.put, List.setIfInBounds_toArray, List.set_cons_succ, List.set_cons_zero]; try rfl)
  repeat (first
    | (refine Chain.step (v := ?_) (a' := ?_) rfl rfl rfl ?_ ?_ ?_
       rotate_left 2
       focus (intro w; go_simp; try with_reducible rfl)
       focus (simp only [Act.put, List.setIfInBounds_toArray, List.set_cons_succ, List.set_cons_zero]; try rfl))
    | (refine Chain.skip (a' := ?_) rfl rfl rfl ?_ ?_
       rotate_left 1
       focus (simp only [Act.put, List.setIfInBounds_toArray, List.set_cons_succ, List.set_cons_zero]; try rfl)))
  refine Chain.end_ (fun wz hwz _ => ?_)
  have HW := Lib.hid hwz
  clear hwz HC
  by_cases h0 : Z = 0
  · subst h0
    go_upto_region 4 with fail
    refine wp_region_facts [(4, (isV (.int .i64 p.tb), noFact)), (9, (isV (.int .i64 q.tb), noFact))] (by kernel_rfl) 36 (by kernel_rfl) rfl ?_ ?_ ?_
    · apply lookup_ne
      simp only [List.forall_mem_cons, List.not_mem_nil, false_imp_iff, implies_true, and_true]
      exact ⟨⟨_, rfl⟩, ⟨_, rfl⟩⟩
    · apply lookup_st
      simp only [List.forall_mem_cons, List.not_mem_nil, false_imp_iff, implies_true, and_true]
      refine ⟨?_, ?_⟩
      · exact fun _ _ _ _ _ => trivial
      · exact fun _ _ _ _ _ => trivial
    repeat (first
      | (refine Chain.step (v := ?_) (a' := ?_) rfl rfl rfl ?_ ?_ ?_
         rotate_left 2
         focus (intro w; go_simp; try with_reducible rfl)
         focus (simp only [Act.put, List.setIfInBounds_toArray, List.set_cons_succ, List.set_cons_zero]; try rfl))
      | (refine Chain.skip (a' := ?_) rfl rfl rfl ?_ ?_
         rotate_left 1
         focus (simp only [Act.put, List.setIfInBounds_toArray, List.set_cons_succ, List.set_cons_zero]; try rfl)))
    refine Chain.call' (a' := ?_) _ rfl rfl rfl rfl (fun wx hw hF => ?_) ?_ ?_
    rotate_left 1
    focus
      have g0 := A0.out wx (below_trans HW.out hw)
      go_simp
      first | exact ⟨rfl, Below.refl _ _⟩ | exact Below.refl _ _
    focus (simp only [Act.put, List.setIfInBounds_toArray, List.set_cons_succ, List.set_cons_zero]; try rfl)
    repeat (first
      | (refine Chain.step (v := ?_) (a' := ?_) rfl rfl rfl ?_ ?_ ?_
         rotate_left 2
         focus (intro w; go_simp; try with_reducible rfl)
         focus (simp only [Act.put, List.setIfInBounds_toArray, List.set_cons_succ, List.set_cons_zero]; try rfl))
      | (refine Chain.skip (a' := ?_) rfl rfl rfl ?_ ?_
         rotate_left 1
         focus (simp only [Act.put, List.setIfInBounds_toArray, List.set_cons_succ, List.set_cons_zero]; try rfl)))
    refine Chain.call' (a' := ?_) _ rfl rfl rfl rfl (fun wx hw hF => ?_) ?_ ?_
    rotate_left 1
    focus
      have g0 := B0.out wx (below_trans HW.out hw)
      go_simp
      first | exact ⟨rfl, Below.refl _ _⟩ | exact Below.refl _ _
    focus (simp only [Act.put, List.setIfInBounds_toArray, List.set_cons_succ, List.set_cons_zero]; try rfl)
    repeat (first
      | (refine Chain.step (v := ?_) (a' := ?_) rfl rfl rfl ?_ ?_ ?_
         rotate_left 2
         focus (intro w; go_simp; try with_reducible rfl)
         focus (simp only [Act.put, List.setIfInBounds_toArray, List.set_cons_succ, List.set_cons_zero]; try rfl))
      | (refine Chain.skip (a' := ?_) rfl rfl rfl ?_ ?_
         rotate_left 1
         focus (simp only [Act.put, List.setIfInBounds_toArray, List.set_cons_succ, List.set_cons_zero]; try rfl)))
    refine Chain.end_ (fun wy hwy _ => ?_)
    have HW2 := Lib.hid (below_trans HW.out hwy)
    go_wp2_with fail
    go_ret
    refine ⟨?_, HW2.out⟩
    simp
  · have hz : (Z == 0) = false := beq_eq_false_iff_ne.2 h0
    go_wp2_with fail
    go_ret
    refine ⟨?_, HW.out⟩
    simp [h0]

theorem qLen_any (A : Option Addr) (n c : Nat) (w : World) : Calls Tryz.prog 132 #[.slice A n c] w fun e w' => e = .returned (.int .i64 (n : Nat)) ∧ w = w' := by
  go_enter Tryz.func132, Tryz.ntmps132
  go_wp2_with fail
  go_ret
  exact ⟨rfl, rfl⟩

theorem Qu.base {W0 W w : World} {Q b o n c : Nat} {f : Nat → Cu} (h : Qu W Q b o n c f w) (hW : Below W0.heap.size W0 W) (hb : W0.heap.size ≤ b) (hQ : W0.heap.size ≤ Q) : Below W0.heap.size W0 w :=
  hW.trans (h.fr.below hW.size (fun k i hk hs => by rcases hs with rfl | rfl <;> omega))
/-- the rows of a queue are there -/
def QR (W0 : World) (n : Nat) (f : Nat → Cu) : Prop := ∀ k, k < n → RAt W0 (f k).x
theorem QR.perm {W0 : World} {n : Nat} {f g : Nat → Cu} (h : QR W0 n f) (p : PermOn 0 n f g) : QR W0 n g := fun k hk => p.all (P := fun z => RAt W0 z.x) (fun k _ hk => h k hk) k (Nat.zero_le _) hk
/-- what up and down leave -/
def RetHp (W : World) (Q b o n c a N : Nat) (f : Nat → Cu) (e : Ending) (w' : World) : Prop := ∃ v, e = .returned v ∧ ∃ g, PermOn a N f g ∧ Hp lsC a N g ∧ Qu W Q b o n c g w'

set_option maxHeartbeats 8000000 in
set_option maxRecDepth 10000 in
theorem up_any (Q b o n c j : Nat) (f : Nat → Cu) (W0 W w : World) (h : Qu W Q b o n c f w) (hW : Below W0.heap.size W0 W) (hb : W0.heap.size ≤ b) (hQ : W0.heap.size ≤ Q) (hR : QR W0 n f) (hj : j < n) (hn : n < 1000000000) (hU : UpX lsC n j f) :
    Calls Tryz.prog 56 #[.iface 76 (.pointer (some ⟨Q, 0, none⟩)), .int .i64 (j : Nat)] w (RetHp W Q b o n c 0 n f) := by
  have HWB := Lib.hid (And.intro hW (And.intro hb hQ))
  have HR := Lib.hid hR
  have HU := Lib.hid (And.intro (PermOn.refl 0 n f) hU)
  clear hW hb hQ hR hU
  go_enter Tryz.func56, Tryz.ntmps56
  go_wp2_with fail
  go_loopw [1] (fun jv wr => ∃ (j : Nat) (g : Nat → Cu), jv = .int .i64 j ∧ j < n ∧ Hid (PermOn 0 n f g ∧ UpX lsC n j g) ∧ Qu W Q b o n c g wr) (fun jv _ => (intOf jv).toNat)
  case atStart => exact ⟨j, f, rfl, hj, HU, h⟩
  case round =>
    obtain ⟨j, g, rfl, hj, HG, hQu⟩ := hrel
    clear h HU
    rcases j with _ | jp
    · have HP := Lib.hid (And.intro HG.out.1 (HG.out.2.done fun p hp _ => by unfold Ch at hp; omega))
      clear HG
      go_wp2_with fail
      go_end0
      exact ⟨_, rfl, g, HP.out.1, HP.out.2, hQu⟩
    · obtain ⟨p, hp⟩ : ∃ p, p = jp / 2 := ⟨_, rfl⟩
      have hch : Ch p (jp + 1) := by unfold Ch; omega
      have hpz : (jp : Int) / 2 = (p : Int) := by omega
      have hne : ¬ (p : Int) = (jp : Int) + 1 := by omega
      have hpn : p < n := by omega
      have hpj : p < jp + 1 := by omega
      have hgv := hQu.var.c1
      have hgr := HR.out.perm HG.out.1
      have hbs := hQu.base HWB.out.1 HWB.out.2.1 HWB.out.2.2
      have hls := qLess_any b o n c (jp + 1) p g wr hQu.buf hj hpn hn ((hgr _ hj).below hbs) ((hgr _ hpn).below hbs)
      rw [show ((jp + 1 : Nat) : Int) = (jp : Int) + 1 by omega] at hls
      have mL : Sem.run Tryz.prog (method 298 76 (.pointer (some ⟨Q, 0, none⟩)) "Less") wr = .ok (133, .slice (some ⟨b, o, none⟩) n c) wr := finds_val queue_less hgv _
      rcases hz : lsC (g (jp + 1)) (g p) with _ | _
      · rw [hz] at hls
        have HP := Lib.hid (And.intro HG.out.1 (HG.out.2.done fun k hk _ => by
          obtain rfl : k = p := by unfold Ch at *; omega
          exact hz))
        have HLS := Lib.hid hls
        have HQu := Lib.hid hQu
        clear HG hz hls hQu hgr hbs hgv hp
        go_wp2_with fail
        refine HLS.out.mono ?_
        rintro e w2 ⟨rfl, hb2⟩
        have hQ2 := HQu.out.below hb2
        clear hb2
        go_wp2_with fail
        go_end0
        exact ⟨_, rfl, g, HP.out.1, HP.out.2, hQ2⟩
      · rw [hz] at hls
        have hst := HG.out.2.step lsC_ord hch hj hz
        have HP := Lib.hid (And.intro (HG.out.1.trans (PermOn.swf (i := p) (j := jp + 1) ⟨Nat.zero_le _, hpn⟩ ⟨Nat.zero_le _, hj⟩ g)) hst)
        have HLS := Lib.hid hls
        have HQu := Lib.hid hQu
        clear HG hz hls hQu hgr hbs hgv hst hp
        go_wp2_with fail
        refine HLS.out.mono ?_
        rintro e w2 ⟨rfl, hb2⟩
        have hQ2 := HQu.out.below hb2
        have mS : Sem.run Tryz.prog (method 298 76 (.pointer (some ⟨Q, 0, none⟩)) "Swap") w2 = .ok (134, .slice (some ⟨b, o, none⟩) n c) w2 := finds_val queue_swap hQ2.var.c1 _
        have hsw := qSwap_any Q b o n c p (jp + 1) g W w2 hQ2 hpn hj hn
        rw [show ((jp + 1 : Nat) : Int) = (jp : Int) + 1 by omega] at hsw
        have HSW := Lib.hid hsw
        clear hb2 mL hsw hQ2
        go_wp2_with fail
        refine HSW.out.mono ?_
        rintro e w3 ⟨rfl, hQ3⟩
        go_wp2_with fail
        go_roundw
        case rel => exact ⟨p, _, rfl, hpn, HP, hQ3⟩
        case measure => simp [intOf]; omega

set_option maxHeartbeats 8000000 in
set_option maxRecDepth 10000 in
theorem down_any (Q b o n c a N : Nat) (f : Nat → Cu) (W0 W w : World) (h : Qu W Q b o n c f w) (hW : Below W0.heap.size W0 W) (hb : W0.heap.size ≤ b) (hQ : W0.heap.size ≤ Q) (hR : QR W0 n f) (ha : a < N) (hN : N ≤ n) (hn : n < 1000000000) (hU : Hp lsC (a + 1) N f) :
    Calls Tryz.prog 47 #[.iface 76 (.pointer (some ⟨Q, 0, none⟩)), .int .i64 (a : Nat), .int .i64 (N : Nat)] w (RetHp W Q b o n c a N f) := by
  have HWB := Lib.hid (And.intro hW (And.intro hb hQ))
  have HR := Lib.hid hR
  have HU := Lib.hid (And.intro (PermOn.refl a N f) (HpX.start hU))
  clear hW hb hQ hR hU
  go_enter Tryz.func47, Tryz.ntmps47
  go_wp2_with fail
  go_loopw [7] (fun iv wr => ∃ (i : Nat) (g : Nat → Cu), iv = .int .i64 i ∧ a ≤ i ∧ i < N ∧ Hid (PermOn a N f g ∧ HpX lsC a N i g) ∧ Qu W Q b o n c g wr) (fun iv _ => N - (intOf iv).toNat)
  case atStart => exact ⟨a, f, rfl, Nat.le_refl _, ha, HU, h⟩
  case round =>
    obtain ⟨i, g, rfl, hai, hiN, HG, hQu⟩ := hrel
    clear h HU
    have hw1 : IntKind.i64.wrap (2 * (i : Int)) = 2 * (i : Int) := by rw [IntKind.wrap_i64]; omega
    have hw2 : IntKind.i64.wrap (2 * (i : Int) + 1) = 2 * (i : Int) + 1 := by rw [IntKind.wrap_i64]; omega
    have hw3 : IntKind.i64.wrap (2 * (i : Int) + 1 + 1) = 2 * (i : Int) + 1 + 1 := by rw [IntKind.wrap_i64]; omega
    by_cases h1 : 2 * i + 1 < N
    · have hz : ¬ (N : Int) ≤ 2 * (i : Int) + 1 := by omega
      have hz0 : ¬ 2 * (i : Int) + 1 < 0 := by omega
      by_cases h2 : 2 * i + 2 < N
      · have hzz : 2 * (i : Int) + 1 + 1 < (N : Int) := by omega
        have hgr0 := HR.out.perm (HG.out.1.mono (Nat.zero_le _) hN)
        have hbs0 := hQu.base HWB.out.1 HWB.out.2.1 HWB.out.2.2
        have hls := qLess_any b o n c (2 * i + 2) (2 * i + 1) g wr hQu.buf (by omega) (by omega) hn ((hgr0 _ (by omega)).below hbs0) ((hgr0 _ (by omega)).below hbs0)
        rw [show ((2 * i + 2 : Nat) : Int) = 2 * (i : Int) + 1 + 1 by omega, show ((2 * i + 1 : Nat) : Int) = 2 * (i : Int) + 1 by omega] at hls
        have mL : Sem.run Tryz.prog (method 298 76 (.pointer (some ⟨Q, 0, none⟩)) "Less") wr = .ok (133, .slice (some ⟨b, o, none⟩) n c) wr := finds_val queue_less hQu.var.c1 _
        rcases hz1 : lsC (g (2 * i + 2)) (g (2 * i + 1)) with _ | _
        · rw [hz1] at hls
          have HMIN0 : Hid (∀ k, Ch i k → k < N → lsC (g k) (g (2 * i + 1)) = false) := Lib.hid (fun k hk hkn => by
            rcases hk with rfl | rfl
            · exact lsC_irr _
            · exact hz1)
          have HLS := Lib.hid hls
          have HQu := Lib.hid hQu
          clear hz1 hls hQu hgr0 hbs0
          go_wp2_with fail
          refine HLS.out.mono ?_
          rintro e w1 ⟨rfl, hb1⟩
          have hQ1 := HQu.out.below hb1
          clear hb1 mL HQu HLS
          obtain ⟨j, hj⟩ : ∃ j, j = 2 * i + 1 := ⟨_, rfl⟩
          have hJ : 2 * (i : Int) + 1 = (j : Int) := by omega
          have hch : Ch i j := .inl hj
          have hjN : j < N := by omega
          have HMIN : Hid (∀ k, Ch i k → k < N → lsC (g k) (g j) = false) := Lib.hid (by rw [hj]; exact HMIN0.out)
          clear HMIN0 hj
          have hjn : j < n := by omega
          have hin : i < n := by omega
          have hgr := HR.out.perm (HG.out.1.mono (Nat.zero_le _) hN)
          have hbs := hQ1.base HWB.out.1 HWB.out.2.1 HWB.out.2.2
          have hls2 := qLess_any b o n c j i g w1 hQ1.buf hjn hin hn ((hgr _ hjn).below hbs) ((hgr _ hin).below hbs)
          have mL : Sem.run Tryz.prog (method 298 76 (.pointer (some ⟨Q, 0, none⟩)) "Less") w1 = .ok (133, .slice (some ⟨b, o, none⟩) n c) w1 := finds_val queue_less hQ1.var.c1 _
          rcases hz2 : lsC (g j) (g i) with _ | _
          · rw [hz2] at hls2
            have HP := Lib.hid (And.intro HG.out.1 (HG.out.2.done fun k hk hkn => lsC_ord.tr _ _ _ hz2 (HMIN.out k hk hkn)))
            have HLS2 := Lib.hid hls2
            have HQ1 := Lib.hid hQ1
            clear HG hz2 hls2 hQ1 hgr hbs HMIN
            go_wp2_with fail
            refine HLS2.out.mono ?_
            rintro e w3 ⟨rfl, hb3⟩
            have hQ3 := HQ1.out.below hb3
            clear hb3
            go_wp2_with fail
            go_ret
            exact ⟨_, rfl, g, HP.out.1, HP.out.2, hQ3⟩
          · rw [hz2] at hls2
            have hst := HG.out.2.step lsC_ord hai hch hjN HMIN.out hz2
            have HP := Lib.hid (And.intro (HG.out.1.trans (PermOn.swf (i := i) (j := j) ⟨hai, hiN⟩ ⟨by unfold Ch at hch; omega, hjN⟩ g)) hst)
            have HLS2 := Lib.hid hls2
            have HQ1 := Lib.hid hQ1
            clear HG hz2 hls2 hQ1 hgr hbs HMIN hst
            go_wp2_with fail
            refine HLS2.out.mono ?_
            rintro e w3 ⟨rfl, hb3⟩
            have hQ3 := HQ1.out.below hb3
            have mS : Sem.run Tryz.prog (method 298 76 (.pointer (some ⟨Q, 0, none⟩)) "Swap") w3 = .ok (134, .slice (some ⟨b, o, none⟩) n c) w3 := finds_val queue_swap hQ3.var.c1 _
            have hsw := qSwap_any Q b o n c i j g W w3 hQ3 hin hjn hn
            have HSW := Lib.hid hsw
            clear hb3 mL hsw hQ3
            go_wp2_with fail
            refine HSW.out.mono ?_
            rintro e w4 ⟨rfl, hQ4⟩
            go_wp2_with fail
            go_roundw
            case rel => exact ⟨j, _, by first | rfl | go_num, by omega, hjN, HP, hQ4⟩
            case measure => simp [intOf]; omega
        · rw [hz1] at hls
          have HMIN0 : Hid (∀ k, Ch i k → k < N → lsC (g k) (g (2 * i + 2)) = false) := Lib.hid (fun k hk hkn => by
            rcases hk with rfl | rfl
            · exact lsC_ord.asymm _ _ hz1
            · exact lsC_irr _)
          have HLS := Lib.hid hls
          have HQu := Lib.hid hQu
          clear hz1 hls hQu hgr0 hbs0
          go_wp2_with fail
          refine HLS.out.mono ?_
          rintro e w1 ⟨rfl, hb1⟩
          have hQ1 := HQu.out.below hb1
          clear hb1 mL HQu HLS
          obtain ⟨j, hj⟩ : ∃ j, j = 2 * i + 2 := ⟨_, rfl⟩
          have hJ : 2 * (i : Int) + 1 + 1 = (j : Int) := by omega
          have hch : Ch i j := .inr hj
          have hjN : j < N := by omega
          have HMIN : Hid (∀ k, Ch i k → k < N → lsC (g k) (g j) = false) := Lib.hid (by rw [hj]; exact HMIN0.out)
          clear HMIN0 hj
          have hjn : j < n := by omega
          have hin : i < n := by omega
          have hgr := HR.out.perm (HG.out.1.mono (Nat.zero_le _) hN)
          have hbs := hQ1.base HWB.out.1 HWB.out.2.1 HWB.out.2.2
          have hls2 := qLess_any b o n c j i g w1 hQ1.buf hjn hin hn ((hgr _ hjn).below hbs) ((hgr _ hin).below hbs)
          have mL : Sem.run Tryz.prog (method 298 76 (.pointer (some ⟨Q, 0, none⟩)) "Less") w1 = .ok (133, .slice (some ⟨b, o, none⟩) n c) w1 := finds_val queue_less hQ1.var.c1 _
          rcases hz2 : lsC (g j) (g i) with _ | _
          · rw [hz2] at hls2
            have HP := Lib.hid (And.intro HG.out.1 (HG.out.2.done fun k hk hkn => lsC_ord.tr _ _ _ hz2 (HMIN.out k hk hkn)))
            have HLS2 := Lib.hid hls2
            have HQ1 := Lib.hid hQ1
            clear HG hz2 hls2 hQ1 hgr hbs HMIN
            go_wp2_with fail
            refine HLS2.out.mono ?_
            rintro e w3 ⟨rfl, hb3⟩
            have hQ3 := HQ1.out.below hb3
            clear hb3
            go_wp2_with fail
            go_ret
            exact ⟨_, rfl, g, HP.out.1, HP.out.2, hQ3⟩
          · rw [hz2] at hls2
            have hst := HG.out.2.step lsC_ord hai hch hjN HMIN.out hz2
            have HP := Lib.hid (And.intro (HG.out.1.trans (PermOn.swf (i := i) (j := j) ⟨hai, hiN⟩ ⟨by unfold Ch at hch; omega, hjN⟩ g)) hst)
            have HLS2 := Lib.hid hls2
            have HQ1 := Lib.hid hQ1
            clear HG hz2 hls2 hQ1 hgr hbs HMIN hst
            go_wp2_with fail
            refine HLS2.out.mono ?_
            rintro e w3 ⟨rfl, hb3⟩
            have hQ3 := HQ1.out.below hb3
            have mS : Sem.run Tryz.prog (method 298 76 (.pointer (some ⟨Q, 0, none⟩)) "Swap") w3 = .ok (134, .slice (some ⟨b, o, none⟩) n c) w3 := finds_val queue_swap hQ3.var.c1 _
            have hsw := qSwap_any Q b o n c i j g W w3 hQ3 hin hjn hn
            have HSW := Lib.hid hsw
            clear hb3 mL hsw hQ3
            go_wp2_with fail
            refine HSW.out.mono ?_
            rintro e w4 ⟨rfl, hQ4⟩
            go_wp2_with fail
            go_roundw
            case rel => exact ⟨j, _, by first | rfl | go_num, by omega, hjN, HP, hQ4⟩
            case measure => simp [intOf]; omega
      · have hzz : ¬ 2 * (i : Int) + 1 + 1 < (N : Int) := by omega
        obtain ⟨w1, hw1e⟩ : ∃ w1, w1 = wr := ⟨_, rfl⟩
        subst hw1e
        have hQ1 := hQu
        clear hQu
        obtain ⟨j, hj⟩ : ∃ j, j = 2 * i + 1 := ⟨_, rfl⟩
        have hJ : 2 * (i : Int) + 1 = (j : Int) := by omega
        have hch : Ch i j := .inl hj
        have hjN : j < N := by omega
        have HMIN : Hid (∀ k, Ch i k → k < N → lsC (g k) (g j) = false) := Lib.hid (fun k hk hkn => by
          have : k = j := by unfold Ch at hk; omega
          rw [this]; exact lsC_irr _)
        clear hj
        have hjn : j < n := by omega
        have hin : i < n := by omega
        have hgr := HR.out.perm (HG.out.1.mono (Nat.zero_le _) hN)
        have hbs := hQ1.base HWB.out.1 HWB.out.2.1 HWB.out.2.2
        have hls2 := qLess_any b o n c j i g w1 hQ1.buf hjn hin hn ((hgr _ hjn).below hbs) ((hgr _ hin).below hbs)
        have mL : Sem.run Tryz.prog (method 298 76 (.pointer (some ⟨Q, 0, none⟩)) "Less") w1 = .ok (133, .slice (some ⟨b, o, none⟩) n c) w1 := finds_val queue_less hQ1.var.c1 _
        rcases hz2 : lsC (g j) (g i) with _ | _
        · rw [hz2] at hls2
          have HP := Lib.hid (And.intro HG.out.1 (HG.out.2.done fun k hk hkn => lsC_ord.tr _ _ _ hz2 (HMIN.out k hk hkn)))
          have HLS2 := Lib.hid hls2
          have HQ1 := Lib.hid hQ1
          clear HG hz2 hls2 hQ1 hgr hbs HMIN
          go_wp2_with fail
          refine HLS2.out.mono ?_
          rintro e w3 ⟨rfl, hb3⟩
          have hQ3 := HQ1.out.below hb3
          clear hb3
          go_wp2_with fail
          go_ret
          exact ⟨_, rfl, g, HP.out.1, HP.out.2, hQ3⟩
        · rw [hz2] at hls2
          have hst := HG.out.2.step lsC_ord hai hch hjN HMIN.out hz2
          have HP := Lib.hid (And.intro (HG.out.1.trans (PermOn.swf (i := i) (j := j) ⟨hai, hiN⟩ ⟨by unfold Ch at hch; omega, hjN⟩ g)) hst)
          have HLS2 := Lib.hid hls2
          have HQ1 := Lib.hid hQ1
          clear HG hz2 hls2 hQ1 hgr hbs HMIN hst
          go_wp2_with fail
          refine HLS2.out.mono ?_
          rintro e w3 ⟨rfl, hb3⟩
          have hQ3 := HQ1.out.below hb3
          have mS : Sem.run Tryz.prog (method 298 76 (.pointer (some ⟨Q, 0, none⟩)) "Swap") w3 = .ok (134, .slice (some ⟨b, o, none⟩) n c) w3 := finds_val queue_swap hQ3.var.c1 _
          have hsw := qSwap_any Q b o n c i j g W w3 hQ3 hin hjn hn
          have HSW := Lib.hid hsw
          clear hb3 mL hsw hQ3
          go_wp2_with fail
          refine HSW.out.mono ?_
          rintro e w4 ⟨rfl, hQ4⟩
          go_wp2_with fail
          go_roundw
          case rel => exact ⟨j, _, by first | rfl | go_num, by omega, hjN, HP, hQ4⟩
          case measure => simp [intOf]; omega
    · have hz : (N : Int) ≤ 2 * (i : Int) + 1 := by omega
      have HP := Lib.hid (And.intro HG.out.1 (HG.out.2.done fun k hk hkn => by unfold Ch at hk; omega))
      clear HG
      go_wp2_with fail
      go_ret
      exact ⟨_, rfl, g, HP.out.1, HP.out.2, hQu⟩
end Go.Proofs.YtjklcojnbcemoaaGreatDoor
