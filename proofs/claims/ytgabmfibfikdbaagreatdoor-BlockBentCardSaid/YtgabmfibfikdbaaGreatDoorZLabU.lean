/-
  Layer 6: the walk of the reference's Compare.
-/
import Derived.Test.YtgabmfibfikdbaaGreatDoorZLabH
import Derived.Deep.QuietTactic
import Derived.BigQuiet
import Derived.Test.YtgabmfibfikdbaaGreatDoorZLabE
import Derived.Test.YtgabmfibfikdbaaGreatDoorZLib4
import Derived.Test.YtgabmfibfikdbaaGreatDoorZLib8
import Derived.Maps.Own
import Derived.Maps.OwnOps
import Derived.Maps.OwnSet
import Derived.Maps.RangeWalk
import Derived.Test.YtgabmfibfikdbaaGreatDoorZLib11
import Derived.Deep.CutRange

namespace Go.Proofs.YtgabmfibfikdbaaGreatDoor
open Go.RowKit Go.Bar Go.Bar.Leb Go.Bar.Lab

theorem less_t {a b : List UInt8} (h : a < b) : Op.bytesLess a b = true := by rw [less_eq]; exact decide_eq_true h
theorem less_f {a b : List UInt8} (h : ¬ a < b) : Op.bytesLess a b = false := by rw [less_eq]; exact decide_eq_false h
theorem eqb_f {a b : List UInt8} (h : a ≠ b) : (a == b) = false := by rw [beq_eq_false_iff_ne]; exact h
theorem b_ne {a b : List UInt8} (h : a < b) : a ≠ b := fun he => by rw [he] at h; exact b_irrefl _ h

set_option maxHeartbeats 8000000 in
set_option maxRecDepth 10000 in
theorem rcompare_any (v v' : Value) (a b : List Pr) (w : World) (h : PsAt w v a) (h' : PsAt w v' b) :
    Calls Tryz.prog 42 #[v, v'] w (RetBelow w (.int .i64 (cmpL a b))) := by
  obtain ⟨A, c, rfl, hlc, hcm⟩ := h.shape
  obtain ⟨A', c', rfl, hlc', hcm'⟩ := h'.shape
  unfold maxLen at hcm hcm'
  obtain ⟨Z, hZ⟩ : ∃ Z, Z = cmpL a b := ⟨_, rfl⟩
  rw [← hZ]
  have HZ := Lib.hid hZ
  clear hZ
  go_enter Tryz.func42, Tryz.ntmps42
  go_wp2_with fail
  go_loopw [5] (fun i wr => ∃ k : Nat, k ≤ a.length ∧ k ≤ b.length ∧ i = .int .i64 k ∧ Below w.heap.size w wr ∧ Hid (Z = cmpL (a.drop k) (b.drop k))) (fun i _ => a.length - (intOf i).toNat)
  case atStart => exact ⟨0, Nat.zero_le _, Nat.zero_le _, rfl, Below.refl _ _, HZ⟩
  case round =>
    obtain ⟨k, hk, hkb, rfl, hbl, hz⟩ := hrel
    by_cases hgo : k < a.length
    · by_cases hgb : k < b.length
      · obtain ⟨p, hpk⟩ : ∃ p, a[k]? = some p := ⟨_, List.getElem?_eq_getElem hgo⟩
        obtain ⟨ba, oa, rfl, hba, g1, g2⟩ := (h.below hbl).at_ hpk
        obtain ⟨q, hqk⟩ : ∃ q, b[k]? = some q := ⟨_, List.getElem?_eq_getElem hgb⟩
        obtain ⟨bb, ob, rfl, hbb, f1, f2⟩ := (h'.below hbl).at_ hqk
        have hd1 : decide ((k : Int) < (a.length : Int)) = true := decide_eq_true (by omega)
        have hd2 : decide ((k : Int) < (b.length : Int)) = true := decide_eq_true (by omega)
        have HS := Lib.hid (cmpL_step hpk hqk)
        clear hpk hqk
        have hbl2 : Below w.heap.size w ((wr.alloc (.cells #[.string (bs p.1), .string (bs p.2)] 146)).alloc (.cells #[.string (bs q.1), .string (bs q.2)] 146)) := below_trans (below_trans hbl (below_alloc1 _ _)) (below_alloc1 _ _)
        by_cases hlt : p.1 < q.1
        · have hls := less_t hlt
          have HZ2 := Lib.hid (show Z = -1 by rw [hz.out, HS.out]; unfold cmpP cmpB; simp [hlt])
          clear hlt hz
          go_wp2_with fail
          go_ret
          exact ⟨by rw [HZ2.out]; rfl, hbl2⟩
        · have hls := less_f hlt
          by_cases hgt : q.1 < p.1
          · have heq : (p.1 == q.1) = false := eqb_f (fun h => b_ne hgt h.symm)
            have HZ2 := Lib.hid (show Z = 1 by rw [hz.out, HS.out]; unfold cmpP cmpB; simp [hlt, hgt])
            clear hlt hz hgt
            go_wp2_with fail
            go_ret
            exact ⟨by rw [HZ2.out]; rfl, hbl2⟩
          · have he := b_tri hlt hgt
            have heq : (p.1 == q.1) = true := by rw [beq_iff_eq]; exact he
            by_cases hlt2 : p.2 < q.2
            · have hls2 := less_t hlt2
              have HZ2 := Lib.hid (show Z = -1 by rw [hz.out, HS.out]; unfold cmpP cmpB; simp [hlt, hgt, hlt2])
              clear hlt hz hgt he hlt2
              go_wp2_with fail
              go_ret
              exact ⟨by rw [HZ2.out]; rfl, hbl2⟩
            · have hls2 := less_f hlt2
              by_cases hgt2 : q.2 < p.2
              · have heq2 : (p.2 == q.2) = false := eqb_f (fun h => b_ne hgt2 h.symm)
                have HZ2 := Lib.hid (show Z = 1 by rw [hz.out, HS.out]; unfold cmpP cmpB; simp [hlt, hgt, hlt2, hgt2])
                clear hlt hz hgt he hlt2 hgt2
                go_wp2_with fail
                go_ret
                exact ⟨by rw [HZ2.out]; rfl, hbl2⟩
              · have he2 := b_tri hlt2 hgt2
                have heq2 : (p.2 == q.2) = true := by rw [beq_iff_eq]; exact he2
                have HZ2 := Lib.hid (show Z = cmpL (a.drop (k + 1)) (b.drop (k + 1)) by rw [hz.out, HS.out]; unfold cmpP cmpB; simp [hlt, hgt, hlt2, hgt2])
                clear hlt hz hgt he hlt2 hgt2 he2
                go_wp2_with fail
                go_roundw
                case rel => exact ⟨k + 1, by omega, by omega, by go_num, hbl2, HZ2⟩
                case measure => simp [intOf]; omega
      · obtain rfl : k = b.length := by omega
        have hd1 : decide ((b.length : Int) < (a.length : Int)) = true := decide_eq_true (by omega)
        have hd2 : decide ((a.length : Int) < (b.length : Int)) = false := decide_eq_false (by omega)
        have HZ2 := Lib.hid (show Z = 1 by rw [hz.out, cmpL_right hgo (by omega)])
        clear hz
        go_wp2_with fail
        go_ret
        exact ⟨by rw [HZ2.out]; rfl, hbl⟩
    · obtain rfl : k = a.length := by omega
      have hz2 := hz.out
      rw [cmpL_end] at hz2
      by_cases hlt : a.length < b.length
      · rw [if_pos hlt] at hz2
        have HZ2 := Lib.hid hz2
        have hd : decide ((a.length : Int) < (b.length : Int)) = true := decide_eq_true (by omega)
        clear hz2 hz
        go_wp2_with fail
        go_ret
        exact ⟨by rw [HZ2.out]; rfl, hbl⟩
      · rw [if_neg hlt] at hz2
        have HZ2 := Lib.hid hz2
        have hd : decide ((a.length : Int) < (b.length : Int)) = false := decide_eq_false (by omega)
        have hd' : decide ((b.length : Int) < (a.length : Int)) = false := decide_eq_false (by omega)
        clear hz2 hz
        go_wp2_with fail
        go_ret
        exact ⟨by rw [HZ2.out]; rfl, hbl⟩

end Go.Proofs.YtgabmfibfikdbaaGreatDoor

/-
  Maps from texts to ints that the call itself has made, said as functions (MpAt). Plain lemmas over any program; no condition.
-/
namespace Go.Bar
open Go.RowKit

/-- a text as a key -/
def ky (l : List UInt8) : Lit := .string l
theorem ky_ne {l m : List UInt8} (h : l ≠ m) : ky l ≠ ky m := fun e => h (by injection e)
theorem ky_is (l : List UInt8) : WideAt.IsKeyLit (ky l) := by unfold ky WideAt.IsKeyLit; trivial
/-- an int as an element -/
def el (z : Int) : DataW Unit := .lit (.int .i64 z)
/-- what a reading says as a function -/
structure Says (D : DataW Unit) (f : List UInt8 → Option Int) : Prop where
  has : ∀ l, Maps.has D (ky l) = (f l).isSome
  at_ : ∀ l, D.atKey (ky l) (el 0) = el ((f l).getD 0)
/-- block b is a map of at most n entries that says f -/
def MpAt (P : Program) (k e : TypeId) (w : World) (b n : Nat) (f : List UInt8 → Option Int) : Prop := ∃ D : DataW Unit, w.ownsMap P k (plainElem P e) b n D ∧ Says D f

/-- f with z at l -/
def upd (f : List UInt8 → Option Int) (l : List UInt8) (z : Int) : List UInt8 → Option Int := fun x => if x = l then some z else f x
theorem Says.put {D : DataW Unit} {f : List UInt8 → Option Int} (h : Says D f) (hD : Maps.IsMap D) (l : List UInt8) (z : Int) : Says (D.put (ky l) (el z)) (upd f l z) where
  has x := by
    unfold upd
    by_cases hx : x = l
    · subst hx
      rw [if_pos rfl, Maps.has_put_same hD (ky_is x)]; rfl
    · rw [if_neg hx, Maps.has_put_other (ky_ne hx), h.has]
  at_ x := by
    unfold upd
    by_cases hx : x = l
    · subst hx
      rw [if_pos rfl, Maps.atKey_put_same hD (ky_is x)]; rfl
    · rw [if_neg hx, Maps.atKey_put_other (ky_ne hx), h.at_]

section
variable {P : Program} {t k e : TypeId} {w w' : World} {b n : Nat} {f : List UInt8 → Option Int}
theorem MpAt.lt (h : MpAt P k e w b n f) : b < w.heap.size := by obtain ⟨D, h, _⟩ := h; exact h.lt
theorem MpAt.mono (h : MpAt P k e w b n f) {m : Nat} (hm : n ≤ m) : MpAt P k e w b m f := by obtain ⟨D, h, hs⟩ := h; exact ⟨D, h.mono hm, hs⟩
theorem MpAt.kept {row : Option Nat} (h : MpAt P k e w b n f) (hg : w.grownBy w' row) (hne : some b ≠ row) : MpAt P k e w' b n f := by obtain ⟨D, h, hs⟩ := h; exact ⟨D, h.kept hg hne, hs⟩
theorem MpAt.block (h : MpAt P k e w b n f) (hb : w'.heap[b]? = w.heap[b]?) : MpAt P k e w' b n f := by
  obtain ⟨D, ⟨es, clock, h1, h2, h3, h4⟩, hs⟩ := h
  exact ⟨D, ⟨es, clock, hb.trans h1, h2, h3, h4⟩, hs⟩
theorem MpAt.below (h : MpAt P k e w b n f) (hb : Below w.heap.size w w') : MpAt P k e w' b n f := h.block (hb.block b h.lt)
theorem MpAt.belowB (h : MpAt P k e w b n f) {B : Nat} (hb : Below B w w') (hB : b < B) : MpAt P k e w' b n f := h.block (hb.block b hB)
theorem MpAt.alloc (h : MpAt P k e w b n f) (o : Obj) : MpAt P k e (w.alloc o) b n f := h.below ((Below.refl _ _).alloc (Nat.le_refl _) o)
theorem MpAt.drew (h : MpAt P k e w b n f) : MpAt P k e w.drew b n f := h.below (Below.refl _ _).drew
theorem MpAt.drewN (h : MpAt P k e w b n f) (m : Nat) : MpAt P k e (w.drewN m) b n f := h.below (below_draws w m)
theorem MpAt.is_map (h : MpAt P k e w b n f) : ∃ es clock, w.heap[b]? = some (.map es clock) := by
  obtain ⟨D, ⟨es, clock, h1, _⟩, _⟩ := h
  exact ⟨es, clock, h1⟩
/-- stores into cells leave a map as it is -/
theorem MpAt.fr {S : Nat → Nat → Prop} (h : MpAt P k e w b n f) (hf : Fr S w w') : MpAt P k e w' b n f := by
  refine h.block ?_
  rcases hf.blk b h.lt with h1 | ⟨c, c', e', fr, h1, _⟩
  · exact h1
  · obtain ⟨es, clock, h2⟩ := h.is_map
    rw [h2] at h1
    cases h1
theorem MpAt.ap {sz : Nat} {v : Value} (h : MpAt P k e w b n f) (ha : Ap w w' sz v) : MpAt P k e w' b n f := h.fr (Fr.of_ap (S := fun _ _ => True) ha (fun _ _ _ => trivial))
theorem MpAt.set (h : MpAt P k e w b n f) (k' i : Nat) (u : Value) : MpAt P k e (w.setCell ⟨k', i, none⟩ u) b n f := h.fr ((Fr.refl (fun _ _ => True) w).setCell (fun _ => trivial) u)

theorem Blk.grown {M : Nat} {T : TypeId} {cur : Array Value} (h : Blk w M T cur) (hg : w.grownBy w' (some b)) (hne : M ≠ b) : Blk w' M T cur :=
  (hg.block M h.lt (fun e => hne (by injection e))).trans h
theorem MpAt.grown {M : Nat} (h : MpAt P k e w b n f) (hg : w.grownBy w' (some M)) (hne : b ≠ M) : MpAt P k e w' b n f := h.kept hg (fun e => hne (by injection e))
end

section
variable {P : Program} (w : World) {ops : Array Oper} {rest : List Oper} {o : Oper} {a : Act} {Q : Exit → Act → World → Prop}
end
end Go.Bar

/-
  Blocks that are known whole: all their cells at once. Plain lemmas over any program; no condition.
-/
namespace Go.Bar
open Go.RowKit

section
variable {w : World} {M : Nat} {T : TypeId} {a0 a1 a2 a3 a4 a5 a6 a7 a8 a9 a10 a11 : Value}
theorem Blk.c1 (h : Blk w M T #[a0]) : w.cell? ⟨M, 0, none⟩ = some a0 := h.cell (i := 0) rfl
theorem Blk.c2 (h : Blk w M T #[a0, a1]) : w.cell? ⟨M, 0, none⟩ = some a0 ∧ w.cell? ⟨M, 1, none⟩ = some a1 := ⟨h.cell (i := 0) rfl, h.cell (i := 1) rfl⟩
theorem Blk.c3 (h : Blk w M T #[a0, a1, a2]) : w.cell? ⟨M, 0, none⟩ = some a0 ∧ w.cell? ⟨M, 1, none⟩ = some a1 ∧ w.cell? ⟨M, 2, none⟩ = some a2 := ⟨h.cell (i := 0) rfl, h.cell (i := 1) rfl, h.cell (i := 2) rfl⟩
theorem Blk.c4 (h : Blk w M T #[a0, a1, a2, a3]) : w.cell? ⟨M, 0, none⟩ = some a0 ∧ w.cell? ⟨M, 1, none⟩ = some a1 ∧ w.cell? ⟨M, 2, none⟩ = some a2 ∧ w.cell? ⟨M, 3, none⟩ = some a3 := ⟨h.cell (i := 0) rfl, h.cell (i := 1) rfl, h.cell (i := 2) rfl, h.cell (i := 3) rfl⟩
theorem Blk.c5 (h : Blk w M T #[a0, a1, a2, a3, a4]) : w.cell? ⟨M, 0, none⟩ = some a0 ∧ w.cell? ⟨M, 1, none⟩ = some a1 ∧ w.cell? ⟨M, 2, none⟩ = some a2 ∧ w.cell? ⟨M, 3, none⟩ = some a3 ∧ w.cell? ⟨M, 4, none⟩ = some a4 := ⟨h.cell (i := 0) rfl, h.cell (i := 1) rfl, h.cell (i := 2) rfl, h.cell (i := 3) rfl, h.cell (i := 4) rfl⟩
theorem Blk.c6 (h : Blk w M T #[a0, a1, a2, a3, a4, a5]) : w.cell? ⟨M, 0, none⟩ = some a0 ∧ w.cell? ⟨M, 1, none⟩ = some a1 ∧ w.cell? ⟨M, 2, none⟩ = some a2 ∧ w.cell? ⟨M, 3, none⟩ = some a3 ∧ w.cell? ⟨M, 4, none⟩ = some a4 ∧ w.cell? ⟨M, 5, none⟩ = some a5 := ⟨h.cell (i := 0) rfl, h.cell (i := 1) rfl, h.cell (i := 2) rfl, h.cell (i := 3) rfl, h.cell (i := 4) rfl, h.cell (i := 5) rfl⟩
theorem Blk.c10 (h : Blk w M T #[a0, a1, a2, a3, a4, a5, a6, a7, a8, a9]) : w.cell? ⟨M, 0, none⟩ = some a0 ∧ w.cell? ⟨M, 1, none⟩ = some a1 ∧ w.cell? ⟨M, 2, none⟩ = some a2 ∧ w.cell? ⟨M, 3, none⟩ = some a3 ∧ w.cell? ⟨M, 4, none⟩ = some a4 ∧ w.cell? ⟨M, 5, none⟩ = some a5 ∧ w.cell? ⟨M, 6, none⟩ = some a6 ∧ w.cell? ⟨M, 7, none⟩ = some a7 ∧ w.cell? ⟨M, 8, none⟩ = some a8 ∧ w.cell? ⟨M, 9, none⟩ = some a9 := ⟨h.cell (i := 0) rfl, h.cell (i := 1) rfl, h.cell (i := 2) rfl, h.cell (i := 3) rfl, h.cell (i := 4) rfl, h.cell (i := 5) rfl, h.cell (i := 6) rfl, h.cell (i := 7) rfl, h.cell (i := 8) rfl, h.cell (i := 9) rfl⟩
end
end Go.Bar

/-
  Layer 14: tables under construction; the walks of the reference's Put and Add.
-/
namespace Go.Proofs.YtgabmfibfikdbaaGreatDoor
open Go.RowKit Go.Bar Go.Bar.Leb Go.Bar.Lab Go.Bar.Xor Go.Bar.Mrg

/-- a row whose slices were there at B, or are the call's own since W0 -/
def Deep (B W0 w : World) (Tp : TypeId) (x : Rv) : Prop := (PsAt B (.slice x.la x.ls.length x.lc) x.ls ∨ NBuf W0 w Tp 2 (.slice x.la x.ls.length x.lc) x.ls.length (pcs x.ls)) ∧ (SmsAt B (.slice x.sa x.ss.length x.sc) x.ss ∨ NBuf W0 w 41 2 (.slice x.sa x.ss.length x.sc) x.ss.length (smc x.ss))
/-- a table of such rows in a buffer that is new since W -/
structure DTb (B W0 W w : World) (T Tp : TypeId) (v : Value) (t : List Rv) : Prop where
  n : NBuf W w T 2 v t.length (rcs t)
  b : Below W0.heap.size W0 W
  d : ∀ x ∈ t, Deep B W0 w Tp x
section
variable {B W0 W w w' : World} {T Tp : TypeId} {v : Value} {t : List Rv} {x : Rv}
theorem nbuf_ke {Ts : TypeId → Prop} {e : TypeId} {sz n : Nat} {u : Value} {xs : List Value} (h : NBuf W0 w e sz u n xs) (hk : Ke Ts w w') (hb : Below W0.heap.size W0 w') (h1 : ¬ Ts e) : NBuf W0 w' e sz u n xs := ⟨hk.buf h.buf h1, hb, h.new⟩
theorem Deep.ke {Ts : TypeId → Prop} (h : Deep B W0 w Tp x) (hk : Ke Ts w w') (hb : Below W0.heap.size W0 w') (h1 : ¬ Ts Tp) (h2 : ¬ Ts 41) : Deep B W0 w' Tp x := ⟨h.1.imp id fun h => nbuf_ke h hk hb h1, h.2.imp id fun h => nbuf_ke h hk hb h2⟩
theorem Deep.below (h : Deep B W0 w Tp x) (hb : Below w.heap.size w w') : Deep B W0 w' Tp x := ⟨h.1.imp id fun h => h.then_below hb, h.2.imp id fun h => h.then_below hb⟩
theorem Deep.rat (h : Deep B W0 w Tp x) (hb : Below B.heap.size B w) : RAt w x := ⟨h.1.elim (fun h => h.below hb) fun h => h.slice, h.2.elim (fun h => h.below hb) fun h => h.slice⟩
theorem Deep.of (h : RAt B x) (W0 w : World) (Tp : TypeId) : Deep B W0 w Tp x := ⟨.inl h.1, .inl h.2⟩
theorem Deep.after {W1 : World} (h : Deep B W0 w Tp x) (hb : Below W1.heap.size W1 W0) : Deep B W1 w Tp x := ⟨h.1.imp id fun h => h.after hb, h.2.imp id fun h => h.after hb⟩
theorem DTb.below (h : DTb B W0 W w T Tp v t) (hb : Below w.heap.size w w') : DTb B W0 W w' T Tp v t := ⟨h.n.then_below hb, h.b, fun x hx => (h.d x hx).below hb⟩
theorem DTb.rtb (h : DTb B W0 W w T Tp v t) (hb : Below B.heap.size B W) : RTb W w T v t := ⟨h.n, fun x hx => (h.d x hx).rat (below_trans hb h.n.below)⟩
theorem DTb.after {W1 : World} (h : DTb B W0 W w T Tp v t) (hb : Below W1.heap.size W1 W) (h0 : Below W0.heap.size W0 W1) : DTb B W0 W1 w T Tp v t := ⟨h.n.after hb, h0, h.d⟩
theorem DTb.nil (hb : Below W.heap.size W w) (h0 : Below W0.heap.size W0 W) (T Tp : TypeId) : DTb B W0 W w T Tp (.slice none 0 0) [] := ⟨NBuf.nil hb _ _, h0, fun x hx => by cases hx⟩
theorem DTb.snoc {wa w2 : World} {v2 : Value} (h : DTb B W0 W wa T Tp v t) (hx : Deep B W0 wa Tp x) (hn : NBuf W w2 T 2 v2 (t.length + 1) (rcs t ++ encR x)) (ha : Ap wa w2 2 v) (h1 : Tp ≠ T) (h2 : 41 ≠ T) : DTb B W0 W w2 T Tp v2 (t ++ [x]) := by
  have hk : Ke (fun U => U = T) wa w2 := Ke.of_ap h.n.buf ha rfl
  have hb := below_trans h.b hn.below
  refine ⟨?_, h.b, fun y hy => ?_⟩
  · rw [List.length_append, rcs_app]
    have e : rcs [x] = encR x := List.append_nil _
    rw [e]
    exact hn
  · rcases List.mem_append.1 hy with hy | hy
    · exact (h.d y hy).ke hk hb h1 h2
    · obtain rfl := List.mem_singleton.1 hy
      exact hx.ke hk hb h1 h2
end

/-- samples in a buffer of the call's own -/
def RetSm (w : World) (l : List Sm) (e : Ending) (w' : World) : Prop := ∃ v, e = .returned v ∧ NBuf w w' 41 2 v l.length (smc l)
theorem blk_ap {w w' : World} {M : Nat} {T : TypeId} {cur : Array Value} (h : Blk w M T cur) {sz : Nat} {v : Value} (ha : Ap w w' sz v) (hne : v.ownBlock ≠ some M) : Blk w' M T cur :=
  (ha.grownBy.block M h.lt (fun e => hne e.symm)).trans h

/-- the samples put so far -/
def putG (s : Sm) : Bool → List Sm → List Sm
  | true, l => l
  | false, l => putS l s
theorem putG_true (s : Sm) (x : Sm) (r : List Sm) : putG s true (x :: r) = x :: putG s true r := rfl
theorem putG_eq {s x : Sm} (r : List Sm) (h : x.1 = s.1) : putG s false (x :: r) = x :: putG s true r := by
  show (if x.1 = s.1 then x :: r else _) = _
  rw [if_pos h]; rfl
theorem putG_lt {s x : Sm} (r : List Sm) (h : s.1 < x.1) : putG s false (x :: r) = s :: x :: putG s true r := by
  show (if x.1 = s.1 then x :: r else if s.1 < x.1 then s :: x :: r else _) = _
  rw [if_neg (by omega), if_pos h]; rfl
theorem putG_gt {s x : Sm} (r : List Sm) (h : x.1 < s.1) : putG s false (x :: r) = x :: putG s false r := by
  show (if x.1 = s.1 then x :: r else if s.1 < x.1 then s :: x :: r else x :: putS r s) = _
  rw [if_neg (by omega), if_neg (by omega)]; rfl

set_option maxHeartbeats 8000000 in
set_option maxRecDepth 10000 in
theorem rput_any (v : Value) (l : List Sm) (s : Sm) (w : World) (h : SmsAt w v l) (hl : l.length ≤ 1000000) :
    Calls Tryz.prog 93 #[v, .agg #[.int .i64 s.1, .int .u64 (s.2 : Nat)]] w (RetSm w (putS l s)) := by
  obtain ⟨A, c, rfl, hlc, hcm⟩ := h.shape
  unfold maxLen at hcm
  obtain ⟨R, hR⟩ : ∃ R, R = putS l s := ⟨_, rfl⟩
  rw [← hR]
  obtain ⟨W, hW⟩ : ∃ W, W = w.alloc (.cells #[.int .i64 s.1, .int .u64 (s.2 : Nat)] 41) := ⟨_, rfl⟩
  have hbW : Below w.heap.size w W := by rw [hW]; exact below_alloc1 _ _
  have hbox : Blk W w.heap.size 41 #[.int .i64 s.1, .int .u64 (s.2 : Nat)] := by rw [hW]; exact Blk.new _ _ _
  have HS := Lib.hid h
  have HR := Lib.hid hR
  have HBW := Lib.hid hbW
  have HBX := Lib.hid hbox
  have hWs : W.heap.size = w.heap.size + 1 := by rw [hW]; simp
  have hn0 := NBuf.lit0 (Below.refl W.heap.size W) 41 2
  rw [hWs] at hn0
  have HN0 := Lib.hid hn0
  have HWS := Lib.hid hWs
  clear h hR hbW hbox hn0 hWs
  go_enter Tryz.func93, Tryz.ntmps93
  go_wp2_with fail
  rw [← hW]
  clear hW
  go_loopw [5, 6, 12] (fun d f i wr => ∃ (k : Nat) (b : Bool) (O : List Sm), k ≤ l.length ∧ i = .int .i64 k ∧ f = .bool b ∧ O.length ≤ k + b.toNat ∧ Hid (NBuf W wr 41 2 d O.length (smc O)) ∧ Hid (∀ q, d.ownBlock = some q → q < wr.heap.size) ∧ Hid (R = O ++ putG s b (l.drop k))) (fun _ _ i _ => l.length - (intOf i).toNat)
  case atStart => exact ⟨0, false, [], Nat.zero_le _, rfl, rfl, Nat.zero_le _, HN0, Lib.hid (fun q hq => by simp [Value.ownBlock] at hq; subst hq; simp [HWS.out]), Lib.hid HR.out⟩
  case round =>
    obtain ⟨k, b, O, hk, rfl, rfl, hO, HNB, HOW, HRR⟩ := hrel
    obtain ⟨fA, fc, rfl, hfc⟩ := HNB.out.buf.shape
    have hbw := HNB.out.below
    obtain ⟨c0, c1⟩ := (HBX.out.below hbw).c2
    clear HN0 HR
    by_cases hgo : k < l.length
    · obtain ⟨x, hx⟩ : ∃ x, l[k]? = some x := ⟨_, List.getElem?_eq_getElem hgo⟩
      obtain ⟨xb, xo, rfl, _, x0, x1⟩ := (HS.out.below (below_trans HBW.out hbw)).at_ hx
      have hdr : l.drop k = x :: l.drop (k + 1) := by
        obtain ⟨hlt, he⟩ := List.getElem?_eq_some_iff.1 hx
        rw [List.drop_eq_getElem_cons hlt, he]
      have hrr := HRR.out
      rw [hdr] at hrr
      have HX := Lib.hid hx
      have hbx : Below w.heap.size w (wr.alloc (.cells #[.int .i64 x.1, .int .u64 (x.2 : Nat)] 41)) := below_trans (below_trans HBW.out hbw) (below_alloc1 _ _)
      obtain ⟨d0, d1⟩ := (HBX.out.below (below_trans hbw (below_alloc1 wr (.cells #[.int .i64 x.1, .int .u64 (x.2 : Nat)] 41)))).c2
      have HXB := Lib.hid (Blk.new wr #[.int .i64 x.1, .int .u64 (x.2 : Nat)] 41)
      have HNX := Lib.hid (HNB.out.alloc (.cells #[.int .i64 x.1, .int .u64 (x.2 : Nat)] 41))
      have HNE := Lib.hid (fun (q : Nat) (h : (Value.slice fA O.length fc).ownBlock = some q) => Nat.ne_of_lt (HOW.out q h))
      clear hdr hx
      have hcase : (b = true ∧ x.1 = s.1) ∨ (b = true ∧ x.1 ≠ s.1) ∨ (b = false ∧ x.1 = s.1) ∨ (b = false ∧ s.1 < x.1) ∨ (b = false ∧ x.1 < s.1) := by
        cases b
        · rcases Int.lt_trichotomy x.1 s.1 with h1 | h1 | h1
          · exact .inr (.inr (.inr (.inr ⟨rfl, h1⟩)))
          · exact .inr (.inr (.inl ⟨rfl, h1⟩))
          · exact .inr (.inr (.inr (.inl ⟨rfl, h1⟩)))
        · by_cases h1 : x.1 = s.1
          · exact .inl ⟨rfl, h1⟩
          · exact .inr (.inl ⟨rfl, h1⟩)
      have hO2 : O.length ≤ k + 1 := by cases b <;> simp at hO <;> omega
      rcases hcase with ⟨rfl, hc⟩ | ⟨rfl, hc⟩ | ⟨rfl, hc⟩ | ⟨rfl, hc⟩ | ⟨rfl, hc⟩
      case inl =>
        rw [putG_true] at hrr
        have HR2 := Lib.hid hrr
        clear hrr HRR
        have he : (x.1 == s.1) = true := by rw [beq_iff_eq]; exact hc
        clear hc
        go_wp2_with (at_builtin; refine wpList_append_nlit rfl (.tmp 34) (.tmp 36) 32 rfl sm_ty rfl HNX.out rfl (by simp) rfl (by simp [Value.oneCell']) (by simp only [maxLen]; omega) (by omega) ?_; intro v3 w3 hn3 _; have HN3 := Lib.hid hn3; clear hn3)
        go_roundw
        case rel => exact ⟨k + 1, true, O ++ [x], by omega, by go_num, rfl, by simp at hO ⊢; omega, by rw [List.length_append, smc_snoc]; exact HN3, Lib.hid (HN3.out.lt (by omega)), Lib.hid (by rw [HR2.out, List.append_assoc]; rfl)⟩
        case measure => simp [intOf]; omega
      case inr.inl =>
        rw [putG_true] at hrr
        have HR2 := Lib.hid hrr
        clear hrr HRR
        have he : (x.1 == s.1) = false := by rw [beq_eq_false_iff_ne]; omega
        go_wp2_with (at_builtin; refine wpList_append_nlit rfl (.tmp 34) (.tmp 36) 32 rfl sm_ty rfl HNX.out rfl (by simp) rfl (by simp [Value.oneCell']) (by simp only [maxLen]; omega) (by omega) ?_; intro v3 w3 hn3 _; have HN3 := Lib.hid hn3; clear hn3)
        go_roundw
        case rel => exact ⟨k + 1, true, O ++ [x], by omega, by go_num, rfl, by simp at hO ⊢; omega, by rw [List.length_append, smc_snoc]; exact HN3, Lib.hid (HN3.out.lt (by omega)), Lib.hid (by rw [HR2.out, List.append_assoc]; rfl)⟩
        case measure => simp [intOf]; omega
      case inr.inr.inl =>
        rw [putG_eq _ hc] at hrr
        have HR2 := Lib.hid hrr
        clear hrr HRR
        have he : (x.1 == s.1) = true := by rw [beq_iff_eq]; exact hc
        clear hc
        go_wp2_with (at_builtin; refine wpList_append_nlit rfl (.tmp 34) (.tmp 36) 32 rfl sm_ty rfl HNX.out rfl (by simp) rfl (by simp [Value.oneCell']) (by simp only [maxLen]; omega) (by omega) ?_; intro v3 w3 hn3 _; have HN3 := Lib.hid hn3; clear hn3)
        go_roundw
        case rel => exact ⟨k + 1, true, O ++ [x], by omega, by go_num, rfl, by simp at hO ⊢; omega, by rw [List.length_append, smc_snoc]; exact HN3, Lib.hid (HN3.out.lt (by omega)), Lib.hid (by rw [HR2.out, List.append_assoc]; rfl)⟩
        case measure => simp [intOf]; omega
      case inr.inr.inr.inr =>
        rw [putG_gt _ hc] at hrr
        have HR2 := Lib.hid hrr
        clear hrr HRR
        have he : (x.1 == s.1) = false := by rw [beq_eq_false_iff_ne]; omega
        have hd : decide (s.1 < x.1) = false := decide_eq_false (by omega)
        go_wp2_with (at_builtin; refine wpList_append_nlit rfl (.tmp 34) (.tmp 36) 32 rfl sm_ty rfl HNX.out rfl (by simp) rfl (by simp [Value.oneCell']) (by simp only [maxLen]; omega) (by omega) ?_; intro v3 w3 hn3 _; have HN3 := Lib.hid hn3; clear hn3)
        go_roundw
        case rel => exact ⟨k + 1, false, O ++ [x], by omega, by go_num, rfl, by simp at hO ⊢; omega, by rw [List.length_append, smc_snoc]; exact HN3, Lib.hid (HN3.out.lt (by omega)), Lib.hid (by rw [HR2.out, List.append_assoc]; rfl)⟩
        case measure => simp [intOf]; omega
      case inr.inr.inr.inl =>
        rw [putG_lt _ hc] at hrr
        have HR2 := Lib.hid hrr
        clear hrr HRR
        have he : (x.1 == s.1) = false := by rw [beq_eq_false_iff_ne]; omega
        have hd : decide (s.1 < x.1) = true := decide_eq_true hc
        go_wp2_with (at_builtin; first | (refine wpList_append_nlit rfl (.tmp 30) (.tmp 32) 32 rfl sm_ty rfl HNX.out rfl (by simp) rfl (by simp [Value.oneCell']) (by simp only [maxLen]; omega) (by omega) ?_; intro v3 w3 hn3 ha3; have hx3 := (blk_ap (HXB.out.alloc _) ha3 (fun e => HNE.out _ e rfl)).c2; have HN3 := Lib.hid (show NBuf W w3 41 2 v3 (O ++ [s]).length (smc (O ++ [s])) by rw [List.length_append, smc_snoc]; exact hn3); obtain ⟨y0, y1⟩ := hx3; clear hn3 ha3) | (refine wpList_append_nlit rfl (.tmp 34) (.tmp 36) 32 rfl sm_ty rfl HN3.out rfl (by simp) rfl (by simp [Value.oneCell']) (by simp only [maxLen, List.length_append, List.length_cons, List.length_nil]; omega) (by simp only [List.length_append, List.length_cons, List.length_nil]; omega) ?_; intro v4 w4 hn4 _; have HN4 := Lib.hid hn4; clear hn4))
        go_roundw
        case rel => exact ⟨k + 1, true, O ++ [s] ++ [x], by omega, by go_num, rfl, by simp at hO ⊢; omega, by rw [List.length_append, smc_snoc]; exact HN4, Lib.hid (HN4.out.lt (by omega)), Lib.hid (by rw [HR2.out, List.append_assoc, List.append_assoc]; rfl)⟩
        case measure => simp [intOf]; omega
    · obtain rfl : k = l.length := by omega
      have hrr := HRR.out
      rw [List.drop_length] at hrr
      have hO2 : O.length ≤ l.length + 1 := by cases b <;> simp at hO <;> omega
      rcases b with _ | _
      · have hrr : R = O ++ [s] := hrr
        have HR2 := Lib.hid hrr
        clear hrr HRR
        go_wp2_with (at_builtin; refine wpList_append_nlit rfl (.tmp 41) (.tmp 43) 32 rfl sm_ty rfl HNB.out rfl (by simp) rfl (by simp [Value.oneCell']) (by simp only [maxLen]; omega) (by omega) ?_; intro v3 w3 hn3 _; have HN3 := Lib.hid hn3; clear hn3)
        go_ret
        exact ⟨_, rfl, by rw [HR2.out, List.length_append, smc_snoc]; exact HN3.out.after HBW.out⟩
      · have hrr : R = O := by rw [hrr]; exact List.append_nil _
        have HR2 := Lib.hid hrr
        clear hrr HRR
        go_wp2_with fail
        go_ret
        exact ⟨_, rfl, by rw [HR2.out]; exact HNB.out.after HBW.out⟩
end Go.Proofs.YtgabmfibfikdbaaGreatDoor
