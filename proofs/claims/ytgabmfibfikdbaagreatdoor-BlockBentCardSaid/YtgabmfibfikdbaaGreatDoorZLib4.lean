/-
  Slices that are read (SlAt): own ones and those that came in; arguments that are slices of structs. Plain lemmas over any program; no condition.
-/
import Derived.Test.YtgabmfibfikdbaaGreatDoorZMrgS
import Derived.Deep.Slices
import Derived.Deep.Fields

namespace Go.Bar
open Go.RowKit

/-- a slice of n elements, whose cells are xs -/
structure SlAt (w : World) (sz : Nat) (v : Value) (n : Nat) (xs : List Value) : Prop where
  len : xs.length = n * sz
  val : ∃ A c, v = .slice A n c ∧ n ≤ c ∧ c ≤ maxLen ∧ (0 < n * sz → ∃ b o, A = some ⟨b, o, none⟩ ∧ b < w.heap.size ∧ ∀ j, j < n * sz → w.cell? ⟨b, o + j, none⟩ = xs[j]?)

section
variable {w w' : World} {sz n : Nat} {v : Value} {xs : List Value}
theorem SlAt.below (h : SlAt w sz v n xs) (hb : Below w.heap.size w w') : SlAt w' sz v n xs := by
  obtain ⟨hl, A, c, rfl, hnc, hc, hv⟩ := h
  refine ⟨hl, A, c, rfl, hnc, hc, fun h0 => ?_⟩
  obtain ⟨b, o, rfl, hlt, hx⟩ := hv h0
  exact ⟨b, o, rfl, Nat.lt_of_lt_of_le hlt hb.size, fun j hj => (hb.cell (p := ⟨b, o + j, none⟩) hlt).trans (hx j hj)⟩
theorem SlAt.of_buf {e : TypeId} (h : Buf w e sz v n xs) : SlAt w sz v n xs := by
  obtain ⟨hl, A, c, rfl, hnc, hc, hv⟩ := h
  refine ⟨hl, A, c, rfl, hnc, hc, fun h0 => ?_⟩
  have : 0 < n := by rcases Nat.eq_zero_or_pos n with h | h; · subst h; simp at h0
                     · exact h
  obtain ⟨b, o, cur, fr, rfl, hbk, hs, hf, hx⟩ := hv (by omega)
  exact ⟨b, o, rfl, (Array.getElem?_eq_some_iff.1 hbk).1, fun j hj => (cell_of_block hbk _).trans (hx j hj)⟩
theorem SlAt.shape (h : SlAt w sz v n xs) : ∃ A c, v = .slice A n c ∧ n ≤ c ∧ c ≤ maxLen := by
  obtain ⟨_, A, c, rfl, h1, h2, _⟩ := h
  exact ⟨A, c, rfl, h1, h2⟩
theorem SlAt.cells {A : Option Addr} {c : Nat} (h : SlAt w sz (.slice A n c) n xs) (hn : 0 < n * sz) : ∃ b o, A = some ⟨b, o, none⟩ ∧ b < w.heap.size ∧ ∀ j u, xs[j]? = some u → w.cell? ⟨b, o + j, none⟩ = some u := by
  obtain ⟨hl, A', c', hv', hnc, hc, hv⟩ := h
  injection hv' with h1 h2 h3
  subst h1; subst h3
  obtain ⟨b, o, rfl, hlt, hx⟩ := hv hn
  refine ⟨b, o, rfl, hlt, fun j u hu => ?_⟩
  have hj : j < n * sz := by rw [← hl]; exact (List.getElem?_eq_some_iff.1 hu).1
  rw [hx j hj, hu]
/-- the first k elements -/
theorem SlAt.take {A : Option Addr} {c : Nat} (h : SlAt w sz (.slice A n c) n xs) (k c' : Nat) (hk : k ≤ n) (hc' : k ≤ c') (hcm : c' ≤ maxLen) : SlAt w sz (.slice A k c') k (xs.take (k * sz)) := by
  obtain ⟨hl, A', c1, hv', hnc, hc, hv⟩ := h
  injection hv' with h1 h2 h3
  subst h1; subst h3
  have hm := Nat.mul_le_mul_right sz hk
  refine ⟨by rw [List.length_take]; omega, A, c', rfl, hc', hcm, fun h0 => ?_⟩
  obtain ⟨b, o, rfl, hlt, hx⟩ := hv (by omega)
  exact ⟨b, o, rfl, hlt, fun j hj => by rw [hx j (by omega), List.getElem?_take, if_pos hj]⟩
theorem SlAt.src {P : Program} (h : SlAt w sz v n xs) (hsz : 0 < sz) {t e' : TypeId} (ht : P.underlying t = some (.slice e')) (h1 : ∀ u ∈ xs, u.oneCell' = true) : Src P sz t v n xs w := by
  obtain ⟨hl, A, c, rfl, hnc, hcm, hv⟩ := h
  rcases Nat.eq_zero_or_pos (n * sz) with h0 | h0
  · obtain rfl : xs = [] := List.eq_nil_of_length_eq_zero (by omega)
    cases A with
    | none =>
      obtain rfl : n = 0 := by
        rcases Nat.eq_zero_or_pos n with h | h
        · exact h
        · have := Nat.mul_pos h hsz; omega
      exact Src.ofNil w ht c
    | some a => exact Src.ofSlice w ht a n c [] (by simpa using hl) (by intro j u hu; simp at hu) h1
  · obtain ⟨b, o, rfl, hlt, hx⟩ := hv h0
    refine Src.ofSlice w ht ⟨b, o, none⟩ n c xs hl (fun j u hu => ?_) h1
    have hj : j < n * sz := by rw [← hl]; exact (List.getElem?_eq_some_iff.1 hu).1
    rw [addr_add, hx j hj, hu]
end

/-- elements of two cells each -/
theorem flat2 {α : Type} (f g : α → Value) : ∀ (l : List α) (i : Nat) (x : α), l[i]? = some x → (l.flatMap fun x => [f x, g x])[i * 2]? = some (f x) ∧ (l.flatMap fun x => [f x, g x])[i * 2 + 1]? = some (g x)
  | [], i, x, h => by simp at h
  | y :: l, 0, x, h => by
    simp at h; subst h; simp
  | y :: l, i + 1, x, h => by
    obtain ⟨h1, h2⟩ := flat2 f g l i x (by simpa using h)
    simp only [List.flatMap_cons, List.cons_append, List.nil_append]
    rw [show (i + 1) * 2 = i * 2 + 1 + 1 by omega]
    exact ⟨by simpa using h1, by simpa using h2⟩

theorem list_of {α : Type} (P : Nat → α → Prop) : ∀ n, (∀ i, i < n → ∃ t, P i t) → ∃ ts : List α, ts.length = n ∧ ∀ i t, ts[i]? = some t → P i t
  | 0, _ => ⟨[], rfl, by simp⟩
  | n + 1, h => by
    obtain ⟨ts, hl, ht⟩ := list_of P n (fun i hi => h i (by omega))
    obtain ⟨t, hp⟩ := h n (by omega)
    refine ⟨ts ++ [t], by simp [hl], fun i t' hi => ?_⟩
    rcases Nat.lt_or_ge i n with h1 | h1
    · rw [List.getElem?_append_left (by omega)] at hi
      exact ht i t' hi
    · rw [List.getElem?_append_right (by omega)] at hi
      rcases Nat.eq_or_lt_of_le h1 with h2 | h2
      · subst h2
        rw [hl, Nat.sub_self] at hi
        simp at hi
        subst hi
        exact hp
      · rw [List.getElem?_eq_none (by simp; omega)] at hi
        cases hi

section
open Go.ChangeShapes Go.WideShapes Go.Deep
variable {H : Type} {enc : TypeId × Value → H} {P : Program} {w : World} {base b0 : Nat} {spare : Nat → Bool} {held : Bool} {r : Reach}
end

/-- a buffer is kept where another one, of another element type, grows -/
theorem Buf.keep_ap {w w' : World} {e e' : TypeId} {sz sz' n n' : Nat} {v v' : Value} {xs xs' : List Value} (h : Buf w e sz v n xs) (hb' : Buf w e' sz' v' n' xs') (ha : Ap w w' sz' v') (hne : e ≠ e') : Buf w' e sz v n xs := by
  obtain ⟨hl, A, c, rfl, hnc, hc, hv⟩ := h
  refine ⟨hl, A, c, rfl, hnc, hc, fun h0 => ?_⟩
  obtain ⟨b, o, cur, fr, rfl, hb, hs, hf, hx⟩ := hv h0
  have hlt : b < w.heap.size := (Array.getElem?_eq_some_iff.1 hb).1
  rcases ha.block b hlt with h1 | ⟨o', n1, c', cur1, cur', e1, fr', hv', hw, hw', hsz, hi⟩
  · exact ⟨b, o, cur, fr, rfl, h1.trans hb, hs, hf, hx⟩
  · obtain ⟨hl', A', c2, hv2, hnc', hc2, hv'2⟩ := hb'
    rw [hv2] at hv'
    injection hv' with a1 a2 a3
    subst a1; subst a2; subst a3
    rcases Nat.eq_zero_or_pos c2 with h00 | h00
    · subst h00
      rw [hb] at hw
      injection hw with hw
      injection hw with g1 g2 g3
      subst g1; subst g2; subst g3
      have hall : ∀ i, cur'[i]? = cur[i]? := fun i => hi i (by rw [show n' = 0 by omega]; omega)
      exact ⟨b, o, cur', fr, rfl, hw', by rw [hsz]; exact hs, hf, fun j hj => (hall _).trans (hx j hj)⟩
    · obtain ⟨b2, o2, cur2, fr2, h4, hb2, _⟩ := hv'2 h00
      injection h4 with h4
      injection h4 with h4
      subst h4
      rw [hb] at hb2
      injection hb2 with hb2
      injection hb2 with _ g2 _
      exact absurd g2 hne
/-- so is a slice that was there before, where a new one grows -/
theorem SlAt.keep_ap {w w' : World} {sz sz' n : Nat} {v v' : Value} {xs : List Value} {B : Nat} (h : SlAt w sz v n xs) (ha : Ap w w' sz' v') (hB : ∀ A c, v = .slice A n c → ∀ b o, A = some ⟨b, o, none⟩ → b < B) (hBw : B ≤ w.heap.size) (hnew : ∀ k, v'.ownBlock = some k → B ≤ k) : SlAt w' sz v n xs := by
  have hb := ha.below hBw hnew
  obtain ⟨hl, A, c, rfl, hnc, hc, hv⟩ := h
  refine ⟨hl, A, c, rfl, hnc, hc, fun h0 => ?_⟩
  obtain ⟨b, o, rfl, hlt, hx⟩ := hv h0
  exact ⟨b, o, rfl, Nat.lt_of_lt_of_le hlt ha.size, fun j hj => (hb.cell (p := ⟨b, o + j, none⟩) (hB _ _ rfl b o rfl)).trans (hx j hj)⟩

/-- a buffer of the call's own: the call began at w -/
structure NBuf (w wr : World) (e : TypeId) (sz : Nat) (v : Value) (n : Nat) (xs : List Value) : Prop where
  buf : Buf wr e sz v n xs
  below : Below w.heap.size w wr
  new : ∀ k, v.ownBlock = some k → w.heap.size ≤ k
section
variable {w wr w' : World} {e e' : TypeId} {sz sz' n n' : Nat} {v v' : Value} {xs xs' : List Value}
theorem NBuf.nil (h : Below w.heap.size w wr) (e : TypeId) (sz : Nat) : NBuf w wr e sz (.slice none 0 0) 0 [] := ⟨Buf.nil _ _ _, h, by simp [Value.ownBlock]⟩
theorem NBuf.lit0 (h : Below w.heap.size w wr) (e : TypeId) (sz : Nat) : NBuf w (wr.alloc (.cells #[] e)) e sz (.slice (some ⟨wr.heap.size, 0, none⟩) 0 0) 0 [] :=
  ⟨Buf.lit wr e sz 0 [] (by simp) (Nat.zero_le _), h.alloc h.size _, by intro k hk; simp [Value.ownBlock] at hk; have := h.size; omega⟩
theorem NBuf.then_below (h : NBuf w wr e sz v n xs) (hb : Below wr.heap.size wr w') : NBuf w w' e sz v n xs := ⟨h.buf.below hb, below_trans h.below hb, h.new⟩
theorem NBuf.alloc (h : NBuf w wr e sz v n xs) (o : Obj) : NBuf w (wr.alloc o) e sz v n xs := h.then_below ((Below.refl _ _).alloc (Nat.le_refl _) o)
theorem NBuf.drew (h : NBuf w wr e sz v n xs) : NBuf w wr.drew e sz v n xs := h.then_below (Below.refl _ _).drew
theorem NBuf.drewN (h : NBuf w wr e sz v n xs) (k : Nat) : NBuf w (wr.drewN k) e sz v n xs := h.then_below (below_draws _ k)
theorem NBuf.step (h : NBuf w wr e sz v n xs) (hb : Buf w' e' sz' v' n' xs') (ha : Ap wr w' sz v) (hg : Grew wr v v') : NBuf w w' e' sz' v' n' xs' :=
  ⟨hb, h.below.trans (ha.below h.below.size h.new), hg.new h.below.size h.new⟩
theorem NBuf.keep (h : NBuf w wr e sz v n xs) (h' : NBuf w wr e' sz' v' n' xs') (ha : Ap wr w' sz' v') (hne : e ≠ e') : NBuf w w' e sz v n xs :=
  ⟨h.buf.keep_ap h'.buf ha hne, h.below.trans (ha.below h'.below.size h'.new), h.new⟩
theorem NBuf.slice (h : NBuf w wr e sz v n xs) : SlAt wr sz v n xs := SlAt.of_buf h.buf
theorem NBuf.after {w0 : World} (h : NBuf w wr e sz v n xs) (hb : Below w0.heap.size w0 w) : NBuf w0 wr e sz v n xs := ⟨h.buf, below_trans hb h.below, fun k hk => Nat.le_trans hb.size (h.new k hk)⟩
end

/-- append(b, literal), b of the call's own -/
theorem wpList_append_nlit {P : Program} {ops : Array Oper} {rest : List Oper} {o : Oper} {a : Act} {Q : Exit → Act → World → Prop} {w : World} (hgd : o.guard = none) (s x : Operand) (t : TypeId)
    (ho : o.op = .call { callee := .builtin .append, args := #[s, x], argTypes := #[t, t] })
    {e : TypeId} {z : Value} {sz bytes : Nat} (hT : ElemTy P t e z sz bytes)
    {W : World} {v : Value} {m k : Nat} {ys news : List Value} (hv : a.eval s = v) (h : NBuf W w e sz v m ys) {H : Nat} (hx : a.eval x = .slice (some ⟨H, 0, none⟩) k k) (hH : w.heap.size = H)
    (hl : news.length = k * sz) (h1 : ∀ u ∈ news, u.oneCell' = true) (h63 : m + k ≤ maxLen) (hbytes : (m + k) * bytes ≤ 140737488355328)
    (K : ∀ v' w', NBuf W w' e sz v' (m + k) (ys ++ news) → Ap (w.alloc (.cells news.toArray e)) w' sz v → wpList P ops Q rest (a.put o.dst v') w') : wpList P ops Q (o :: rest) a (w.alloc (.cells news.toArray e)) :=
  wpList_append_el hgd s x t t ho hT hv (h.alloc _).buf (hx.trans (by rw [hH])) ((Buf.lit w e sz k news hl (by omega)).src hT.slice h1) h63 hbytes fun v' w' hb ha hg => K v' w' ((h.alloc _).step hb ha hg) ha

theorem slice_to {P : Program} {t : TypeId} (h : P.underlying t = some .string) (l : List UInt8) (q : Nat) (hq : q ≤ l.length) (w : World) :
    (Instr.slice t (.string (bs l)) none (some (.int .i64 (q : Int))) none).run P w = .ok (.string (bs (l.take q))) w := by
  have e := bs_extract l 0 q
  rw [List.drop_zero, Nat.sub_zero] at e
  rw [← e]
  have e1 : (bs l).size = l.length := rfl
  simp [Instr.slice, run_underlying h, Instr.sliceBounds, Instr.sliceBound, asIntOf, e1]
  intro hh
  exact absurd hh (by omega)
theorem slice_from {P : Program} {t : TypeId} (h : P.underlying t = some .string) (l : List UInt8) (p : Nat) (hp : p ≤ l.length) (w : World) :
    (Instr.slice t (.string (bs l)) (some (.int .i64 (p : Int))) none none).run P w = .ok (.string (bs (l.drop p))) w := by
  have e := bs_extract l p l.length
  rw [List.take_of_length_le (by rw [List.length_drop]; omega)] at e
  rw [← e]
  have e1 : (bs l).size = l.length := rfl
  simp [Instr.slice, run_underlying h, Instr.sliceBounds, Instr.sliceBound, asIntOf, e1]
  intro hh
  exact absurd hh (by omega)

/-- string(b), of a slice that is read -/
theorem SlAt.string {P : Program} {w : World} {t e : TypeId} {v : Value} {l : List UInt8} (hT : ByteTy P t e) (h : SlAt w 1 v l.length (bcs l)) : ∀ dst, P.underlying dst = some .string → (convert t dst v).run P w = .ok (.string (bs l)) w := by
  intro dst hd
  obtain ⟨A, c, rfl, hle, hcm⟩ := h.shape
  rcases Nat.eq_zero_or_pos l.length with h0 | h0
  · obtain rfl : l = [] := List.eq_nil_of_length_eq_zero h0
    cases A with
    | none => exact run_convert_bytes_nil w t e hT.slice hT.byte _ _ dst hd
    | some a =>
      rw [run_convert_bytes_string w t dst e _ _ _ hT.slice hT.byte hd]
      simp [Conv.bytesToString, loadCells, loadCellsFrom, bs]
      rfl
  · obtain ⟨b, o, rfl, _, hc⟩ := SlAt.cells h (by omega)
    have := run_convert_bytes_arg (P := P) w t e hT.slice hT.byte b o l.length c (l.map fun b => (b.toNat : Int)) (by simp) (fun i hi => by
      rw [hc i (.int .u8 (l[i].toNat : Int)) (by simp [bcs, List.getElem?_eq_getElem hi])]
      simp [List.getElem?_eq_getElem hi]) dst hd
    rw [this, strOfNums_bs]

theorem Buf.cellAt {w : World} {e : TypeId} {n b o c : Nat} {xs : List Value} (h : Buf w e 1 (.slice (some ⟨b, o, none⟩) n c) n xs) {j : Nat} (hj : j < n) : w.cell? ⟨b, o + j, none⟩ = xs[j]? ∧ w.frozen? ⟨b, o + j, none⟩ = false := by
  obtain ⟨b', o', c', he, _, _, h1, h2⟩ := Buf.at_ h (by omega)
  injection he with e1 e2 e3
  injection e1 with e1
  injection e1 with e1 e4 _
  subst e1; subst e4
  exact ⟨h1 j hj, h2 j hj⟩

end Go.Bar

/-
  Samples (a time, a value's bits) and rows of them in memory.
-/
namespace Go.Bar.Xor
/-- a sample: its time, its value's bits -/
abbrev Sm := Int × Nat
end Go.Bar.Xor
namespace Go.Proofs.YtgabmfibfikdbaaGreatDoor
open Go.RowKit Go.Bar Go.Bar.Xor

/-- samples as cells -/
def smc (l : List Sm) : List Value := l.flatMap fun x => [.int .i64 x.1, .int .u64 (x.2 : Nat)]
def SmsAt (w : World) (v : Value) (l : List Sm) : Prop := SlAt w 2 v l.length (smc l)
theorem SmsAt.below {w w' : World} {v : Value} {l : List Sm} (h : SmsAt w v l) (hb : Below w.heap.size w w') : SmsAt w' v l := SlAt.below h hb
theorem SmsAt.shape {w : World} {v : Value} {l : List Sm} (h : SmsAt w v l) : ∃ A c, v = .slice A l.length c ∧ l.length ≤ c ∧ c ≤ maxLen := SlAt.shape h
theorem SmsAt.at_ {w : World} {A : Option Addr} {n c i : Nat} {l : List Sm} {x : Sm} (h : SmsAt w (.slice A n c) l) (hi : l[i]? = some x) : ∃ b o, A = some ⟨b, o, none⟩ ∧ b < w.heap.size ∧ w.cell? ⟨b, o + i * 2, none⟩ = some (.int .i64 x.1) ∧ w.cell? ⟨b, o + i * 2 + 1, none⟩ = some (.int .u64 (x.2 : Nat)) := by
  have hlt : i < l.length := (List.getElem?_eq_some_iff.1 hi).1
  obtain ⟨A', c', he, _⟩ := h.shape
  injection he with h1 h2 h3
  subst h1; subst h2; subst h3
  obtain ⟨b, o, rfl, hb, hc⟩ := SlAt.cells h (by omega)
  obtain ⟨g1, g2⟩ := flat2 (fun x : Sm => Value.int .i64 x.1) (fun x : Sm => Value.int .u64 (x.2 : Nat)) l i x hi
  exact ⟨b, o, rfl, hb, hc _ _ g1, hc _ _ g2⟩
theorem sm_ty : ElemTy Tryz.prog 32 41 (.agg #[.int .i64 0, .int .u64 0]) 2 16 :=
  ⟨Tryz.underlying32, info_parts (show (Tryz.prog.info? 41).map (fun i => (i.zero, i.size, i.bytes)) = some (some (.agg #[.int .i64 0, .int .u64 0]), 2, 16) by kernel_rfl), rfl⟩
theorem smc_append (l m : List Sm) : smc (l ++ m) = smc l ++ smc m := List.flatMap_append
theorem smc1 (l : List Sm) : ∀ u ∈ smc l, u.oneCell' = true := by
  intro u hu
  unfold smc at hu
  obtain ⟨x, _, hx⟩ := List.mem_flatMap.1 hu
  simp only [List.mem_cons, List.not_mem_nil, or_false] at hx
  rcases hx with rfl | rfl <;> rfl
theorem smc_snoc (l : List Sm) (x : Sm) : smc (l ++ [x]) = smc l ++ [.int .i64 x.1, .int .u64 (x.2 : Nat)] := by simp [smc]

theorem smc_one (l : List Sm) : ∀ u ∈ smc l, u.oneCell' = true := by
  intro u hu
  unfold smc at hu
  obtain ⟨x, _, hx⟩ := List.mem_flatMap.1 hu
  simp only [List.mem_cons, List.not_mem_nil, or_false] at hx
  rcases hx with rfl | rfl <;> rfl
end Go.Proofs.YtgabmfibfikdbaaGreatDoor

/-
  Layer 14: the plain theory of merging two rising runs in place by rotations (no program in sight; no condition).
-/
namespace Go.Bar.Mrg
open Go.RowKit Go.Bar Go.Bar.Xor

/-- a sample, and where it came in -/
abbrev Tg := Sm × Nat
/-- by times, then as they came in -/
def lt2 (x y : Tg) : Prop := x.1.1 < y.1.1 ∨ (x.1.1 = y.1.1 ∧ x.2 < y.2)
theorem lt2_le {x y : Tg} (h : lt2 x y) : x.1.1 ≤ y.1.1 := by unfold lt2 at *; omega
theorem Sor.le {a b : Nat} {F : Nat → Tg} (h : Sor lt2 a b F) {i j : Nat} (hi : a ≤ i) (hij : i ≤ j) (hj : j < b) : (F i).1.1 ≤ (F j).1.1 := by
  rcases Nat.lt_or_ge i j with h1 | h1
  · exact lt2_le (h i j hi h1 hj)
  · obtain rfl : i = j := by omega
    exact Int.le_refl _

section
variable {α : Type} {x s m e y k : Nat} {F : Nat → Tg}
variable (hs : x ≤ s) (hsm : s ≤ m) (hm : m ≤ e) (hy : e ≤ y) (h1 : Sor lt2 x m F) (h2 : Sor lt2 m y F)
include hs hsm hm hy h1 h2
end

/-- where the cut of the symmetric search lies -/
structure Cut (x m y nn lo hi s r : Nat) (F : Nat → Tg) : Prop where
  cl : lo ≤ s
  sr : s ≤ r
  ch : r ≤ hi
  a : ∀ k, lo ≤ k → k < s → ¬ (F (nn - 1 - k)).1.1 < (F k).1.1
  b : ∀ k, r ≤ k → k < hi → (F (nn - 1 - k)).1.1 < (F k).1.1
/-- the bounds of the symmetric search -/
structure Bnd (x m y md lo hi : Nat) : Prop where
  lohi : lo ≤ hi
  xlo : x ≤ lo
  him : hi ≤ m
  a : ∀ k, lo ≤ k → k < hi → m ≤ md + m - 1 - k ∧ md + m - 1 - k < y
  top : hi = md ∨ hi = m
  bot : lo = md + m - y ∧ y ≤ md + m ∨ lo = x ∧ m ≤ md
section
variable {x m y md lo hi s r : Nat} {F : Nat → Tg}
theorem Cut.step (B : Bnd x m y md lo hi) (h1 : Sor lt2 x m F) (h2 : Sor lt2 m y F) (h : Cut x m y (md + m) lo hi s r F) (_hsr : s < r) {c : Nat} (hc : s ≤ c) (hcr : c < r) :
    (¬ (F (md + m - 1 - c)).1.1 < (F c).1.1 → Cut x m y (md + m) lo hi (c + 1) r F) ∧ ((F (md + m - 1 - c)).1.1 < (F c).1.1 → Cut x m y (md + m) lo hi s c F) := by
  have g1 := h.cl; have g2 := h.ch; have g3 := B.xlo; have g4 := B.him
  have hcc := B.a c (by omega) (by omega)
  constructor
  · intro hn
    refine ⟨by omega, by omega, h.ch, fun k k1 k2 => ?_, h.b⟩
    have hk := B.a k k1 (by omega)
    have l1 := h1.le (i := k) (j := c) (by omega) (by omega) (by omega)
    have l2 := h2.le (i := md + m - 1 - c) (j := md + m - 1 - k) hcc.1 (by omega) hk.2
    omega
  · intro hp
    refine ⟨h.cl, hc, by omega, h.a, fun k k1 k2 => ?_⟩
    have hk := B.a k (by omega) k2
    have l1 := h1.le (i := c) (j := k) (by omega) k1 (by omega)
    have l2 := h2.le (i := md + m - 1 - k) (j := md + m - 1 - c) hk.1 (by omega) hcc.2
    omega
theorem Cut.start (B : Bnd x m y md lo hi) : Cut x m y (md + m) lo hi lo hi F := ⟨Nat.le_refl _, B.lohi, Nat.le_refl _, fun _ _ _ => by omega, fun _ _ _ => by omega⟩
end

end Go.Bar.Mrg

/-
  Layer 14: plain laws of lists of samples by rising times; what a stable sort and a compaction come to.
-/
namespace Go.Bar.Mrg
open Go.RowKit Go.Bar Go.Bar.Xor

/-- by rising times -/
def Ris (l : List Sm) : Prop := l.Pairwise (fun a b => a.1 < b.1)
/-- the sample of a time -/
def lk (l : List Sm) (t : Int) : Option Sm := l.find? (fun z => z.1 == t)
theorem lk_nil (t : Int) : lk [] t = none := rfl
theorem lk_cons (x : Sm) (l : List Sm) (t : Int) : lk (x :: l) t = if x.1 = t then some x else lk l t := by
  unfold lk
  rw [List.find?_cons]
  by_cases h : x.1 = t
  · rw [if_pos h, show (x.1 == t) = true from beq_iff_eq.2 h]
  · rw [if_neg h, show (x.1 == t) = false from beq_eq_false_iff_ne.2 h]
theorem lk_some {l : List Sm} {t : Int} {x : Sm} (h : lk l t = some x) : x ∈ l ∧ x.1 = t := by
  unfold lk at h
  exact ⟨List.mem_of_find?_eq_some h, by have := List.find?_some h; simpa using this⟩
theorem lk_none {l : List Sm} {t : Int} : lk l t = none ↔ ∀ x ∈ l, x.1 ≠ t := by
  unfold lk
  rw [List.find?_eq_none]
  simp
theorem Ris.mem {l : List Sm} (h : Ris l) {x : Sm} (hx : x ∈ l) : lk l x.1 = some x := by
  induction l with
  | nil => simp at hx
  | cons y l ih =>
    obtain ⟨h1, h2⟩ := List.pairwise_cons.1 h
    rw [lk_cons]
    rcases List.mem_cons.1 hx with rfl | hx
    · rw [if_pos rfl]
    · rw [if_neg (by have := h1 x hx; omega), ih h2 hx]
theorem ris_ext {a b : List Sm} (ha : Ris a) (hb : Ris b) (h : ∀ t, lk a t = lk b t) : a = b := by
  induction a generalizing b with
  | nil =>
    cases b with
    | nil => rfl
    | cons y b => have := h y.1; rw [lk_nil, lk_cons, if_pos rfl] at this; cases this
  | cons x a ih =>
    cases b with
    | nil => have := h x.1; rw [lk_nil, lk_cons, if_pos rfl] at this; cases this
    | cons y b =>
      obtain ⟨a1, a2⟩ := List.pairwise_cons.1 ha
      obtain ⟨b1, b2⟩ := List.pairwise_cons.1 hb
      have hx := h x.1
      have hy := h y.1
      rw [lk_cons, if_pos rfl, lk_cons] at hx
      rw [lk_cons, lk_cons, if_pos rfl] at hy
      have hxy : x = y := by
        by_cases e : y.1 = x.1
        · rw [if_pos e] at hx; injection hx
        · rw [if_neg e] at hx
          rw [if_neg (fun e' => e e'.symm)] at hy
          have m1 := b1 x (lk_some hx.symm).1
          have m2 := a1 y (lk_some hy).1
          omega
      subst hxy
      rw [ih a2 b2 fun t => ?_]
      have ht := h t
      rw [lk_cons, lk_cons] at ht
      by_cases e : x.1 = t
      · rw [lk_none.2 fun z hz => by have := a1 z hz; omega, lk_none.2 fun z hz => by have := b1 z hz; omega]
      · rwa [if_neg e, if_neg e] at ht

/-- a sample more; one of its time that is there stays -/
def putS : List Sm → Sm → List Sm
  | [], s => [s]
  | x :: r, s => if x.1 = s.1 then x :: r else if s.1 < x.1 then s :: x :: r else x :: putS r s
theorem putS_mem {l : List Sm} {s x : Sm} (h : x ∈ putS l s) : x ∈ l ∨ x = s := by
  induction l with
  | nil => exact .inr (List.mem_singleton.1 h)
  | cons y r ih =>
    unfold putS at h
    split at h
    · exact .inl h
    · split at h
      · rcases List.mem_cons.1 h with h | h
        · exact .inr h
        · exact .inl h
      · rcases List.mem_cons.1 h with h | h
        · exact .inl (h ▸ List.mem_cons_self)
        · rcases ih h with h | h
          · exact .inl (List.mem_cons_of_mem _ h)
          · exact .inr h
theorem Ris.put {l : List Sm} (h : Ris l) (s : Sm) : Ris (putS l s) := by
  induction l with
  | nil => exact List.pairwise_singleton _ _
  | cons x r ih =>
    obtain ⟨h1, h2⟩ := List.pairwise_cons.1 h
    unfold putS
    split
    · exact h
    · split
      · rename_i hlt
        refine List.pairwise_cons.2 ⟨fun z hz => ?_, h⟩
        rcases List.mem_cons.1 hz with rfl | hz
        · exact hlt
        · have := h1 z hz; omega
      · refine List.pairwise_cons.2 ⟨fun z hz => ?_, ih h2⟩
        rcases putS_mem hz with hz | rfl
        · exact h1 z hz
        · omega
theorem lk_put {l : List Sm} (h : Ris l) (s : Sm) (t : Int) : lk (putS l s) t = (lk l t).or (lk [s] t) := by
  induction l with
  | nil => rw [lk_nil, Option.none_or]; rfl
  | cons x r ih =>
    obtain ⟨h1, h2⟩ := List.pairwise_cons.1 h
    unfold putS
    split
    · rename_i he
      rw [lk_cons, lk_cons, lk_nil]
      by_cases e : x.1 = t
      · rw [if_pos e]; rfl
      · rw [if_neg e, if_neg (by omega), Option.or_none]
    · split
      · rename_i hlt
        rw [lk_cons, lk_cons (l := []), lk_nil]
        by_cases e : s.1 = t
        · rw [if_pos e, lk_none.2 fun z hz => ?_, Option.none_or, if_pos e]
          rcases List.mem_cons.1 hz with rfl | hz
          · omega
          · have := h1 z hz; omega
        · rw [if_neg e, if_neg e, Option.or_none]
      · rw [lk_cons, ih h2, lk_cons (x := x)]
        by_cases e : x.1 = t
        · rw [if_pos e, if_pos e]; rfl
        · rw [if_neg e, if_neg e]
def putAll (l xs : List Sm) : List Sm := xs.foldl putS l

/-! ### rows -/

/-- several lists as one -/
def smp (ls : List (List Sm)) : List Sm := putAll [] ls.flatten
end Go.Bar.Mrg
