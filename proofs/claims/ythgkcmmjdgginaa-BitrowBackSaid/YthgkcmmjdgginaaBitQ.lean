/-
  Layer 3: a row and the list of its bits, side by side; an argument of things.
-/
import Derived.Test.YthgkcmmjdgginaaBitT
import Derived.Test.YthgkcmmjdgginaaLib2
namespace Go.Proofs.Ythgkcmmjdgginaa
open Go.RowKit Go.Bar Go.Bar.Bit

/-- the block of a slice that has room -/
def Live (v : Value) (k : Nat) : Prop := ∃ o n c, v = .slice (some ⟨k, o, none⟩) n c ∧ 0 < c
theorem live_lt {w : World} {e : TypeId} {sz n : Nat} {v : Value} {xs : List Value} (h : Buf w e sz v n xs) {k : Nat} (hk : Live v k) : k < w.heap.size := by
  obtain ⟨hl, A, c, rfl, hnc, hcm, hv⟩ := h
  obtain ⟨o, n', c', he, hc⟩ := hk
  injection he with e1 e2 e3
  subst e1; subst e2; subst e3
  obtain ⟨b, o, cur, fr, h1, hbk, _⟩ := hv hc
  injection h1 with h1
  injection h1 with h1
  subst h1
  exact (Array.getElem?_eq_some_iff.1 hbk).1
theorem live_keep {S : Nat → Nat → Prop} {w w' : World} (h : Fr S w w') {e : TypeId} {sz n : Nat} {v : Value} {xs : List Value} (hb : Buf w e sz v n xs) (hS : ∀ k i, Live v k → ¬ S k i) : Buf w' e sz v n xs := by
  obtain ⟨hl, A, c, rfl, hnc, hc, hv⟩ := hb
  refine ⟨hl, A, c, rfl, hnc, hc, fun h0 => ?_⟩
  obtain ⟨b, o, cur, fr, rfl, hbk, hs, hf, hx⟩ := hv h0
  exact ⟨b, o, cur, fr, rfl, (h.block (Array.getElem?_eq_some_iff.1 hbk).1 (fun i => hS b i ⟨o, n, c, rfl, h0⟩)).trans hbk, hs, hf, hx⟩
theorem live_ap {w w' : World} {sz : Nat} {v : Value} (h : Ap w w' sz v) : Fr (fun k _ => Live v k) w w' :=
  ⟨h.os, h.tape, h.output, h.size, fun k hk => by
    rcases h.block k hk with h1 | ⟨o, n, c, cur, cur', e, fr, rfl, h2, h3, h4, h5⟩
    · exact .inl h1
    · refine .inr ⟨cur, cur', e, fr, h2, h3, h4, fun i hi => ?_⟩
      refine h5 i ?_
      rcases Nat.eq_zero_or_pos c with hc | hc
      · subst hc
        have := Nat.zero_le (n * sz)
        omega
      · exact absurd ⟨o, n, c, rfl, hc⟩ hi⟩

/-- a row and a list, apart from each other -/
structure WSt (W w : World) (b : Nat) (v va : Value) (l m : List Bool) : Prop where
  row : RowNew W w b v l
  all : Buf w 4 1 va m.length (bls m)
  sep_b : ∀ k, Live va k → b < k
  sep_v : ∀ k, Live va k → v.ownBlock ≠ some k
theorem WSt.below {W w w' : World} {b : Nat} {v va : Value} {l m : List Bool} (h : WSt W w b v va l m) (hb : Below w.heap.size w w') : WSt W w' b v va l m :=
  ⟨h.row.then_below hb, h.all.below hb, h.sep_b, h.sep_v⟩
theorem WSt.put {W w w' : World} {b : Nat} {v va : Value} {l m bits : List Bool} {e : Ending} (h : WSt W w b v va l m) (h' : PutTo w b v l bits e w') : ∃ s v', e = .returned s ∧ Buf w' 4 1 s bits.length (bls bits) ∧ WSt W w' b v' va (l ++ bits) m := by
  obtain ⟨s, v', he, hs, hc⟩ := h'
  refine ⟨s, v', he, hs, h.row.of_ch hc, live_keep hc.fr h.all ?_, h.sep_b, ?_⟩
  · rintro k i hk (⟨rfl, _⟩ | hv)
    · exact absurd (h.sep_b k hk) (by omega)
    · exact h.sep_v k hk hv
  · intro k hk hv
    rcases hc.mv with e1 | ⟨g, e1, hg⟩
    · exact h.sep_v k hk (by rw [← e1]; exact hv)
    · rw [e1] at hv; injection hv with hv
      have := live_lt h.all hk
      omega
theorem WSt.more {W w w' : World} {b : Nat} {v va va' : Value} {l m bits : List Bool} (h : WSt W w b v va l m) (hb : Buf w' 4 1 va' (m.length + bits.length) (bls m ++ bls bits)) (ha : Ap w w' 1 va) (hg : Grew w va va') : WSt W w' b v va' l (m ++ bits) := by
  have hf := live_ap ha
  have hbl := World.block_lt_of_cell? _ _ h.row.at_.c0
  simp only at hbl
  refine ⟨⟨h.row.at_.keep hf ?_ ?_, h.row.below.trans (hf.below h.row.below.size ?_), h.row.b_new, h.row.v_new⟩, ?_, ?_, ?_⟩
  · intro i hk; exact absurd (h.sep_b _ hk) (by omega)
  · intro k i hv hk; exact h.sep_v k hk hv
  · intro k i hk hl
    have := h.sep_b k hl
    have := h.row.b_new
    omega
  · rw [List.length_append]
    unfold bls at hb ⊢
    rw [List.map_append]
    exact hb
  · rintro k ⟨o, n, c, rfl, hc⟩
    rcases hg with ⟨A, n1, n', c', rfl, h2, _⟩ | ⟨g, n', c', h2, hg⟩
    · injection h2 with e1 e2 e3
      subst e1; subst e2; subst e3
      exact h.sep_b k ⟨o, n1, _, rfl, hc⟩
    · injection h2 with e1 e2 e3
      injection e1 with e1
      injection e1 with e1
      omega
  · rintro k ⟨o, n, c, rfl, hc⟩ hv
    rcases hg with ⟨A, n1, n', c', rfl, h2, _⟩ | ⟨g, n', c', h2, hg⟩
    · injection h2 with e1 e2 e3
      subst e1; subst e2; subst e3
      exact h.sep_v k ⟨o, n1, _, rfl, hc⟩ hv
    · injection h2 with e1 e2 e3
      injection e1 with e1
      injection e1 with e1
      have := h.row.at_.lt k hv
      omega

/-- an argument of things -/
structure ThingsAt (w : World) (v : Value) (ts : List Th) : Prop where
  shape : ∃ A c, v = .slice A ts.length c ∧ ts.length ≤ maxLen
  ok : ∀ t ∈ ts, t.ok
  cells : ∀ i t, ts[i]? = some t → ∃ b o c, v = .slice (some ⟨b, o, none⟩) ts.length c ∧ w.cell? ⟨b, o + i * 5, none⟩ = some (.int .i64 t.kind) ∧ w.cell? ⟨b, o + i * 5 + 1, none⟩ = some (.int .i64 t.n) ∧
    w.cell? ⟨b, o + i * 5 + 2, none⟩ = some (.int .i64 t.m) ∧ w.cell? ⟨b, o + i * 5 + 3, none⟩ = some (.int .u64 (t.v : Int)) ∧ w.cell? ⟨b, o + i * 5 + 4, none⟩ = some (.bool t.is)
theorem ThingsAt.below {w w' : World} {v : Value} {ts : List Th} (h : ThingsAt w v ts) (hb : Below w.heap.size w w') : ThingsAt w' v ts := by
  have hf : Fr (fun _ _ => False) w w' := Fr.of_below hb
  refine ⟨h.shape, h.ok, fun i t hi => ?_⟩
  obtain ⟨b, o, c, hv, c0, c1, c2, c3, c4⟩ := h.cells i t hi
  exact ⟨b, o, c, hv, hf.cell c0 id, hf.cell c1 id, hf.cell c2 id, hf.cell c3 id, hf.cell c4 id⟩
/-- the bits of the first k things, made small -/
def allBits (ts : List Th) (k : Nat) : List Bool := (ts.take k).flatMap fun t => t.small.bits
theorem allBits_next {ts : List Th} {k : Nat} {t : Th} (h : ts[k]? = some t) : allBits ts (k + 1) = allBits ts k ++ t.small.bits := by
  unfold allBits
  rw [List.take_add_one, h, List.flatMap_append]
  simp
theorem bits_le (t : Th) : t.small.bits.length ≤ 100 := by
  unfold Th.bits
  split
  · simp
  · split
    · rw [bitsOf_length]; exact Nat.le_trans (clip_le _) (by omega)
    · split
      · unfold unary ones Th.small
        rw [List.length_append, List.length_replicate]
        split <;> simp <;> omega
      · simp
theorem allBits_le (ts : List Th) : ∀ k, (allBits ts k).length ≤ 100 * k
  | 0 => by simp [allBits]
  | k + 1 => by
    rcases h : ts[k]? with _ | t
    · have := allBits_le ts k
      have e : allBits ts (k + 1) = allBits ts k := by unfold allBits; rw [List.take_add_one, h]; simp
      rw [e]; omega
    · rw [allBits_next h, List.length_append]
      have := allBits_le ts k
      have := bits_le t
      omega

theorem list_of {α : Type} (P : Nat → α → Prop) : ∀ n, (∀ i, i < n → ∃ t, P i t) → ∃ ts : List α, ts.length = n ∧ ∀ i t, ts[i]? = some t → P i t
  | 0, _ => ⟨[], rfl, by simp⟩
  | n + 1, h => by
    obtain ⟨ts, hl, ht⟩ := list_of P n (fun i hi => h i (by omega))
    obtain ⟨t, hp⟩ := h n (by omega)
    refine ⟨ts ++ [t], by simp [hl], fun i t' hi => ?_⟩
    rcases Nat.lt_or_ge i n with h1 | h1
    · rw [List.getElem?_append_left (by omega)] at hi
      exact ht i t' hi
    · rw [List.getElem?_append_right (by omega)] at hi
      rcases Nat.eq_or_lt_of_le h1 with h2 | h2
      · subst h2
        rw [hl, Nat.sub_self] at hi
        simp at hi
        subst hi
        exact hp
      · rw [List.getElem?_eq_none (by simp; omega)] at hi
        cases hi

theorem add_at (b o k : Nat) : Addr.add ⟨b, o, none⟩ k = ⟨b, o + k, none⟩ := by
  unfold Addr.add
  split <;> simp_all

open Go.ChangeShapes Go.WideShapes Go.Deep in
theorem open_things {H : Type} {enc : TypeId × Value → H} {W : World} {base b0 : Nat} {spare : Nat → Bool} {held : Bool} {r : Reach} {v : Value} {d : DataW H} {p : List MemPlace} (hval : Value.okWide Try.prog W r b0 22 v)
    (h : DataW.Trod enc Try.prog W base spare held 22 v d p) : ∃ ts, ThingsAt W v ts := by
  obtain ⟨A, len, cap, rfl⟩ := okWide_slice Try.underlying22 hval
  obtain ⟨fuel, hf⟩ := h
  have hC : Try.prog.cellsOf 32 = 5 := by kernel_rfl
  have hCi : Try.prog.cellsOf 3 = 1 := by kernel_rfl
  have hCu : Try.prog.cellsOf 30 = 1 := by kernel_rfl
  have hCb : Try.prog.cellsOf 4 = 1 := by kernel_rfl
  rcases open_slice Try.underlying22 hf with ⟨hcs, _⟩ | ⟨a, len', cap', m, n, D, Pl, hcs, _, hlc, hcm, hm, _, hi⟩
  · simp [Value.cells] at hcs
    obtain ⟨rfl, rfl, rfl⟩ := hcs
    exact ⟨[], ⟨_, _, rfl, by decide⟩, by simp, by simp⟩
  · simp [Value.cells] at hcs
    obtain ⟨rfl, rfl, rfl⟩ := hcs
    rcases Nat.eq_zero_or_pos len with h0 | h0
    · subst h0
      exact ⟨[], ⟨_, _, rfl, by decide⟩, by simp, by simp⟩
    obtain ⟨b, o, spot⟩ := a
    have hread : ∀ i, i < len → ∃ c0 c1 c2 c3 c4, (∀ j x, [c0, c1, c2, c3, c4][j]? = some x → W.cell? ((Addr.add ⟨b, o, spot⟩ (i * 5)).add j) = some x) ∧
        ∃ t : Th, t.ok ∧ c0 = .int .i64 t.kind ∧ c1 = .int .i64 t.n ∧ c2 = .int .i64 t.m ∧ c3 = .int .u64 (t.v : Int) ∧ c4 = .bool t.is := by
      intro i hil
      obtain ⟨cs, hc, hr⟩ := hi i (by rw [hm]; split <;> omega)
      rw [hC] at hc
      obtain ⟨_, hcl, hat⟩ := World.cells?_some hc
      obtain ⟨ys, k, _, _, _, hyl, hg⟩ := DataW.trod_struct Try.underlying32 hr
      match cs, hcl, ys, hyl with
      | [c0, c1, c2, c3, c4], _, [y0, y1, y2, y3, y4], _ =>
        have g0 : DataW.trod enc Try.prog W base spare held k 3 (([c0, c1, c2, c3, c4].drop 0).take (Try.prog.cellsOf 3)) = some y0 := hg 0 _ rfl
        rw [hCi] at g0
        have g1 : DataW.trod enc Try.prog W base spare held k 3 (([c0, c1, c2, c3, c4].drop 1).take (Try.prog.cellsOf 3)) = some y1 := hg 1 _ rfl
        rw [hCi] at g1
        have g2 : DataW.trod enc Try.prog W base spare held k 3 (([c0, c1, c2, c3, c4].drop 2).take (Try.prog.cellsOf 3)) = some y2 := hg 2 _ rfl
        rw [hCi] at g2
        have g3 : DataW.trod enc Try.prog W base spare held k 30 (([c0, c1, c2, c3, c4].drop 3).take (Try.prog.cellsOf 30)) = some y3 := hg 3 _ rfl
        rw [hCu] at g3
        have g4 : DataW.trod enc Try.prog W base spare held k 4 (([c0, c1, c2, c3, c4].drop 4).take (Try.prog.cellsOf 4)) = some y4 := hg 4 _ rfl
        rw [hCb] at g4
        obtain ⟨n0, e0, _, w0⟩ := DataW.trod_int Try.underlying3 g0
        obtain ⟨n1, e1, _, w1⟩ := DataW.trod_int Try.underlying3 g1
        obtain ⟨n2, e2, _, w2⟩ := DataW.trod_int Try.underlying3 g2
        obtain ⟨n3, e3, _, w3⟩ := DataW.trod_int Try.underlying30 g3
        obtain ⟨n4, e4, _⟩ := DataW.trod_bool Try.underlying4 g4
        replace e0 : c0 = _ := (List.cons.inj e0).1
        replace e1 : c1 = _ := (List.cons.inj e1).1
        replace e2 : c2 = _ := (List.cons.inj e2).1
        replace e3 : c3 = _ := (List.cons.inj e3).1
        replace e4 : c4 = _ := (List.cons.inj e4).1
        have b0 := bounds_i64 w0
        have b1 := bounds_i64 w1
        have b2 := bounds_i64 w2
        have b3 := bounds_u64 w3
        refine ⟨c0, c1, c2, c3, c4, fun j x hx => ?_, ⟨n0, n1, n2, n3.toNat, n4⟩, ⟨b0, b1, b2, by simp only []; omega⟩, e0, e1, e2, ?_, e4⟩
        · have hj : j < 5 := (List.getElem?_eq_some_iff.1 hx).1
          rw [hat j hj, hx]
        · rw [e3, show ((n3.toNat : Nat) : Int) = n3 by omega]
    have hspot : spot = none := by
      obtain ⟨c0, c1, c2, c3, c4, hat, _⟩ := hread 0 h0
      have := hat 0 _ rfl
      rw [Nat.zero_mul, show ((Addr.add ⟨b, o, spot⟩ 0).add 0) = (⟨b, o, spot⟩ : Addr) by simp [Addr.add]] at this
      exact World.cell?_spot this
    subst hspot
    obtain ⟨ts, hl, ht⟩ := list_of (fun i (t : Th) => t.ok ∧ W.cell? ⟨b, o + i * 5, none⟩ = some (.int .i64 t.kind) ∧ W.cell? ⟨b, o + i * 5 + 1, none⟩ = some (.int .i64 t.n) ∧
      W.cell? ⟨b, o + i * 5 + 2, none⟩ = some (.int .i64 t.m) ∧ W.cell? ⟨b, o + i * 5 + 3, none⟩ = some (.int .u64 (t.v : Int)) ∧ W.cell? ⟨b, o + i * 5 + 4, none⟩ = some (.bool t.is)) len (fun i hil => by
      obtain ⟨c0, c1, c2, c3, c4, hat, t, hok, rfl, rfl, rfl, rfl, rfl⟩ := hread i hil
      have q0 := hat 0 _ rfl
      have q1 := hat 1 _ rfl
      have q2 := hat 2 _ rfl
      have q3 := hat 3 _ rfl
      have q4 := hat 4 _ rfl
      rw [add_at, add_at] at q0 q1 q2 q3 q4
      exact ⟨t, hok, q0, q1, q2, q3, q4⟩)
    subst hl
    refine ⟨ts, ⟨_, _, rfl, by omega⟩, fun t hmem => ?_, fun i t hit => ?_⟩
    · obtain ⟨i, hit⟩ := List.mem_iff_getElem?.1 hmem
      exact (ht i t hit).1
    · exact ⟨b, o, cap, rfl, (ht i t hit).2⟩

end Go.Proofs.Ythgkcmmjdgginaa
