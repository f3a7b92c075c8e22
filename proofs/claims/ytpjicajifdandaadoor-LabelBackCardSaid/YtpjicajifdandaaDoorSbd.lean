/-
  strings.Builder: the walks of copyCheck, WriteByte, WriteString at this dump; its String is the kit's.
-/
import Derived.Test.YtpjicajifdandaaDoorLib9
import Derived.Test.YtpjicajifdandaaDoorLebA
import Derived.Test.YtpjicajifdandaaDoorShelf
import Derived.Lib.Builder
import Derived.Lib.AppendStr
import Derived.Laws.Externs
namespace Go.Proofs.YtpjicajifdandaaDoor
open Go.RowKit Go.Bar

theorem sb_size : (Tryd.prog.info? 70).map (·.size) = some 2 := by kernel_rfl
theorem sb_lies : liesAt Tryd.prog Tryd.prog.depth 70 (2 / Tryd.prog.cellsOf 70) 0 70 1 = true := by kernel_rfl
theorem byte_info : (Tryd.prog.info? 5).map (fun i => (i.zero, i.size, i.bytes)) = some (some (.int .u8 0), 1, 1) := by kernel_rfl

set_option maxHeartbeats 1000000 in
set_option maxRecDepth 100000 in
theorem sbCheck_used (b : Nat) (w : World) (h0 : w.cell? ⟨b, 0, none⟩ = some (.pointer (some ⟨b, 0, none⟩))) :
    Calls Tryd.prog 57 #[.pointer (some ⟨b, 0, none⟩)] w fun e w' => e = .returned (.tuple #[]) ∧ w' = w := by
  obtain ⟨j, hj, _⟩ := Option.map_eq_some_iff.1 sb_size
  go_enter Tryd.func57, Tryd.ntmps57
  go_wp2
  rw [Lib.run_neq_ptr_same w _ Tryd.underlying68 hj]
  go_wp2
  go_end0
  exact ⟨rfl, rfl⟩

set_option maxHeartbeats 1000000 in
set_option maxRecDepth 100000 in
theorem sbCheck_fresh (b : Nat) (w : World) (h0 : w.cell? ⟨b, 0, none⟩ = some (.pointer none)) (hsh : w.shape? b = some (70, 2)) (hfz : w.frozen? ⟨b, 0, none⟩ = false) :
    Calls Tryd.prog 57 #[.pointer (some ⟨b, 0, none⟩)] w fun e w' => e = .returned (.tuple #[]) ∧ w' = w.setCell ⟨b, 0, none⟩ (.pointer (some ⟨b, 0, none⟩)) := by
  obtain ⟨j, hj, hjs⟩ := Option.map_eq_some_iff.1 sb_size
  go_enter Tryd.func57, Tryd.ntmps57
  go_wp2
  rw [Lib.run_to_unsafe w ⟨b, 0, none⟩ Tryd.underlying68 Tryd.underlying111 hj (by rw [hjs]; decide) hsh (Nat.zero_lt_succ 1)]
  simp only [Result.andThen]
  rw [Oper.upon_value]
  go_wp2
  rw [run_callFunc_extern Tryd.func73 (by kernel_rfl) (by kernel_rfl) (by kernel_rfl) (e := Extern.AbiNoEscape.same) (by kernel_rfl)]
  rw [Lib.run_noEscape]
  simp only [Result.andThen]
  rw [Oper.upon_value]
  go_wp2
  rw [Lib.run_from_unsafe w ⟨b, 0, none⟩ Tryd.underlying111 Tryd.underlying68 hj hsh sb_lies]
  simp only [Result.andThen]
  rw [Oper.upon_value]
  go_wp2
  go_end0
  exact ⟨rfl, rfl⟩

theorem sbCheck_any (B b : Nat) (xs : List Value) (w : World) (h : Lib.IsBuilder 70 5 B b xs w) :
    Calls Tryd.prog 57 #[.pointer (some ⟨b, 0, none⟩)] w fun e w' => e = .returned (.tuple #[]) ∧ (Lib.BuilderAt 70 5 B b (.pointer (some ⟨b, 0, none⟩)) xs w' ∧ Below B w w' ∧ ∀ k, k ≠ b → w'.heap[k]? = w.heap[k]?) := by
  rcases h with h | h
  · refine (sbCheck_fresh b w h.cell0 h.shape h.frozen0).mono ?_
    rintro e w' ⟨rfl, rfl⟩
    exact ⟨rfl, h.used _, (Below.refl B w).setCell (p := ⟨b, 0, none⟩) h.1 _, fun k hk => Below.heap_setCell w ⟨b, 0, none⟩ _ k hk⟩
  · refine (sbCheck_used b w h.cell0).mono ?_
    rintro e w' ⟨rfl, rfl⟩
    exact ⟨rfl, h, Below.refl B _, fun _ _ => rfl⟩

/-- a builder of the call's own holds these bytes -/
def SbAt (w wr : World) (b : Nat) (l : List UInt8) : Prop := Lib.IsBuilder 70 5 w.heap.size b (bcs l) wr ∧ Below w.heap.size w wr
theorem SbAt.start (w : World) : SbAt w (w.alloc (.cells #[.pointer none, .slice none 0 0] 70)) w.heap.size [] := ⟨Lib.fresh_isBuilder _ _ w, (Below.refl _ _).alloc (Nat.le_refl _) _⟩
theorem SbAt.below {w wr w' : World} {b : Nat} {l : List UInt8} (h : SbAt w wr b l) (hb : Below wr.heap.size wr w') : SbAt w w' b l := by
  have key : ∀ p, Lib.BuilderAt 70 5 w.heap.size b p (bcs l) wr → Lib.BuilderAt 70 5 w.heap.size b p (bcs l) w' := by
    intro p hp
    have hlt := hp.lt
    obtain ⟨h1, v, h2, h3, h4⟩ := hp
    refine ⟨h1, v, (hb.block b hlt).trans h2, ?_, h4⟩
    refine ⟨h3.1, ?_⟩
    rcases h3.2 with h5 | ⟨g, cap, cur, h5, h6, h7, h8⟩
    · exact .inl h5
    · exact .inr ⟨g, cap, cur, h5, h6, (hb.block g (Array.getElem?_eq_some_iff.1 h7).1).trans h7, h8⟩
  exact ⟨h.1.imp (key _) (key _), h.2.trans (hb.mono h.2.size)⟩

theorem SbAt.alloc {w wr : World} {b : Nat} {l : List UInt8} (h : SbAt w wr b l) (o : Obj) : SbAt w (wr.alloc o) b l := h.below ((Below.refl _ _).alloc (Nat.le_refl _) o)

/-- what a write to the builder b leaves: all other blocks, but for bytes -/
def SbFr (b : Nat) (w w' : World) : Prop := ∀ k, k < w.heap.size → k ≠ b → (∀ cur fr, w.heap[k]? ≠ some (.cells cur 5 fr)) → w'.heap[k]? = w.heap[k]?
theorem SbFr.blk {b : Nat} {w w' : World} (h : SbFr b w w') {M : Nat} {T : TypeId} {cur : Array Value} (hb : Blk w M T cur) (hne : M ≠ b) (hT : T ≠ 5) : Blk w' M T cur :=
  (h M hb.lt hne (fun c fr hc => by unfold Blk at hb; rw [hb] at hc; injection hc with hc; injection hc with _ hc _; exact hT hc)).trans hb
theorem owns_ne {w : World} {B : Nat} {v : Value} {n : Nat} {xs : List Value} (hown : w.ownsRow B 5 1 v n xs) {k : Nat} (hk : ∀ cur fr, w.heap[k]? ≠ some (.cells cur 5 fr)) : v.ownBlock ≠ some k := by
  rcases hown.2 with ⟨rfl, _⟩ | ⟨g, cap, cur, rfl, _, hg, _⟩
  · simp [Value.ownBlock]
  · intro h
    simp only [Value.ownBlock, Option.some.injEq] at h
    subst h
    exact hk _ _ hg

set_option maxHeartbeats 1000000 in
set_option maxRecDepth 100000 in
theorem sbByte_any (w : World) (b : Nat) (l : List UInt8) (c : UInt8) (wr : World) (h : SbAt w wr b l) (hlen : l.length + 1 ≤ 140737488355328) :
    Calls Tryd.prog 42 #[.pointer (some ⟨b, 0, none⟩), .int .u8 c.toNat] wr fun e w' => e = .returned .nilIface ∧ SbAt w w' b (l ++ [c]) ∧ SbFr b wr w' := by
  obtain ⟨i0, hi, hz0, hz1, hz2⟩ := info_parts byte_info
  obtain ⟨h, hb0⟩ := h
  have hs := sbCheck_any _ b _ wr h
  have HS := Lib.hid hs
  have hbl := bcs_length l
  clear hs h
  go_enter Tryd.func42, Tryd.ntmps42
  go_wp2_with fail
  refine HS.out.mono ?_
  rintro e w1 ⟨rfl, h1, hb1, hf0⟩
  have HF0 := Lib.hid hf0
  clear hf0
  obtain ⟨hB, v, hbk, hown, hne⟩ := h1
  have c0 : w1.cell? ⟨b, 0, none⟩ = some (.pointer (some ⟨b, 0, none⟩)) := by rw [Lib.cell_of_heap hbk]; rfl
  have c1 : w1.cell? ⟨b, 1, none⟩ = some v := by rw [Lib.cell_of_heap hbk]; rfl
  go_wp2_with (at_builtin; refine wpList_append_own _ rfl _ _ 63 rfl w.heap.size 5 i0 (.int .u8 0) 1 1 Tryd.underlying63 hi hz0 hz1 hz2 rfl (by decide) _ _ _ rfl (hown.alloc _) ⟨w1.heap.size, 0, none⟩ 1 1 [.int .u8 c.toNat] rfl rfl ?c1 ?c2 ?c3 ?c4 ?c5 ?_)
  case c1 =>
    intro j u hj
    match j, hj with
    | 0, hj => simp at hj; subst hj; simp [Addr.add]
  case c2 => intro u hu; simp at hu; subst hu; rfl
  case c3 => unfold maxLen; omega
  case c4 => omega
  case c5 => have := hb1.size; have := hb0.size; simp; omega
  intro v' w2 hown' hgrow _
  have hlt : b < w1.heap.size := by
    rcases Nat.lt_or_ge b w1.heap.size with h' | h'
    · exact h'
    · simp [Array.getElem?_eq_none h'] at hbk
  have hb2 : w2.heap[b]? = some (.cells #[.pointer (some ⟨b, 0, none⟩), v] 70 (0, 0)) := by
    rw [hgrow.block b (by simp; omega) (fun e => hne e.symm), Lib.alloc_old w1 _ b hlt]
    exact hbk
  have d0 : w2.cell? ⟨b, 0, none⟩ = some (.pointer (some ⟨b, 0, none⟩)) := by rw [Lib.cell_of_heap hb2]; rfl
  have d1 : w2.cell? ⟨b, 1, none⟩ = some v := by rw [Lib.cell_of_heap hb2]; rfl
  have f1 : w2.frozen? ⟨b, 1, none⟩ = false := Lib.frozen_of_heap hb2 1
  obtain ⟨g, cap, rfl⟩ : ∃ g cap, v' = .slice (some ⟨g, 0, none⟩) (l.length + 1) cap := by
    rcases hown'.2 with ⟨_, h0⟩ | ⟨g, cap, cur, hv, _⟩
    · omega
    · exact ⟨g, cap, hv⟩
  go_wp2_with fail
  go_ret
  refine ⟨rfl, ⟨.inr ?_, ?_⟩, fun k hk hkb hT => ?_⟩
  · exact Lib.BuilderAt.put (T := 70) (e := 5) hB hb2 (bs' := bcs (l ++ [c])) (by rw [bcs_append]; simpa [bcs] using hown') (by decide)
  · exact hb0.trans (((hb1.alloc (by have := hb1.size; have := hb0.size; omega) _).grown hgrow (by have := hb1.size; have := hb0.size; simp; omega) (fun k hk => (hown.lt k hk).1)).setCell (p := ⟨b, 1, none⟩) hB _)
  · have hk1 : k < w1.heap.size := by
      rcases Nat.lt_or_ge k w1.heap.size with h' | h'
      · exact h'
      · have h2 := HF0.out k hkb
        rw [Array.getElem?_eq_none h', Array.getElem?_eq_getElem hk] at h2
        cases h2
    have hT1 : ∀ cur fr, w1.heap[k]? ≠ some (.cells cur 5 fr) := fun cur fr => by rw [HF0.out k hkb]; exact hT cur fr
    rw [Below.heap_setCell w2 ⟨b, 1, none⟩ _ k hkb, hgrow.block k (by simp; omega) (fun e => owns_ne hown hT1 e.symm), Lib.alloc_old w1 _ k hk1, HF0.out k hkb]

set_option maxHeartbeats 2000000 in
set_option maxRecDepth 100000 in
theorem sbString_any (w : World) (b : Nat) (l s : List UInt8) (wr : World) (h : SbAt w wr b l) (hlen : l.length + s.length ≤ 140737488355328) :
    Calls Tryd.prog 43 #[.pointer (some ⟨b, 0, none⟩), .string (bs s)] wr fun e w' => e = .returned (.tuple #[.int .i64 s.length, .nilIface]) ∧ SbAt w w' b (l ++ s) ∧ SbFr b wr w' := by
  obtain ⟨i0, hi, hz0, hz1, hz2⟩ := info_parts byte_info
  obtain ⟨h, hb0⟩ := h
  have hs := sbCheck_any _ b _ wr h
  have HS := Lib.hid hs
  have hbl := bcs_length l
  clear hs h
  have hsz : (bs s).size = s.length := rfl
  have hcells : Lib.strCells (bs s) = bcs s := rfl
  go_enter Tryd.func43, Tryd.ntmps43
  go_wp2_with fail
  refine HS.out.mono ?_
  rintro e w1 ⟨rfl, h1, hb1, hf0⟩
  have HF0 := Lib.hid hf0
  clear hf0
  obtain ⟨hB, v, hbk, hown, hne⟩ := h1
  have c0 : w1.cell? ⟨b, 0, none⟩ = some (.pointer (some ⟨b, 0, none⟩)) := by rw [Lib.cell_of_heap hbk]; rfl
  have c1 : w1.cell? ⟨b, 1, none⟩ = some v := by rw [Lib.cell_of_heap hbk]; rfl
  go_wp2_with (at_builtin; refine Lib.wpList_append_own_string _ rfl _ _ 63 9 rfl w.heap.size 5 i0 Tryd.underlying63 Tryd.underlying9 hi hz0 hz1 hz2 _ _ _ rfl hown (bs s) rfl ?c3 ?c4 ?c5 ?_)
  case c3 => unfold maxLen; omega
  case c4 => omega
  case c5 => have := hb1.size; have := hb0.size; omega
  intro v' w2 hown' hgrow _
  have hlt : b < w1.heap.size := by
    rcases Nat.lt_or_ge b w1.heap.size with h' | h'
    · exact h'
    · simp [Array.getElem?_eq_none h'] at hbk
  have hb2 : w2.heap[b]? = some (.cells #[.pointer (some ⟨b, 0, none⟩), v] 70 (0, 0)) := by
    rw [hgrow.block b hlt (fun e => hne e.symm)]
    exact hbk
  have d0 : w2.cell? ⟨b, 0, none⟩ = some (.pointer (some ⟨b, 0, none⟩)) := by rw [Lib.cell_of_heap hb2]; rfl
  have d1 : w2.cell? ⟨b, 1, none⟩ = some v := by rw [Lib.cell_of_heap hb2]; rfl
  have f1 : w2.frozen? ⟨b, 1, none⟩ = false := Lib.frozen_of_heap hb2 1
  obtain ⟨ao, n', cap, rfl⟩ : ∃ ao n' cap, v' = .slice ao n' cap := by
    rcases hown'.2 with ⟨hv, _⟩ | ⟨g, cap, cur, hv, _⟩
    · exact ⟨_, _, _, hv⟩
    · exact ⟨_, _, _, hv⟩
  go_wp2_with fail
  go_ret2
  refine ⟨rfl, ⟨.inr ?_, ?_⟩, fun k hk hkb hT => ?_⟩
  · refine Lib.BuilderAt.put (T := 70) (e := 5) hB hb2 (bs' := bcs (l ++ s)) ?_ (by decide)
    rw [bcs_append, List.length_append, bcs_length s, bcs_length l]
    exact hown'
  · exact hb0.trans ((hb1.grown hgrow (by have := hb1.size; have := hb0.size; omega) (fun k hk => (hown.lt k hk).1)).setCell (p := ⟨b, 1, none⟩) hB _)
  · have hk1 : k < w1.heap.size := by
      rcases Nat.lt_or_ge k w1.heap.size with h' | h'
      · exact h'
      · have h2 := HF0.out k hkb
        rw [Array.getElem?_eq_none h', Array.getElem?_eq_getElem hk] at h2
        cases h2
    have hT1 : ∀ cur fr, w1.heap[k]? ≠ some (.cells cur 5 fr) := fun cur fr => by rw [HF0.out k hkb]; exact hT cur fr
    rw [Below.heap_setCell w2 ⟨b, 1, none⟩ _ k hkb, hgrow.block k hk1 (fun e => owns_ne hown hT1 e.symm), HF0.out k hkb]

theorem sbString_of (w : World) (b : Nat) (l s : List UInt8) (z : ByteArray) (hz : z = bs s) (wr : World) (h : SbAt w wr b l) (hlen : l.length + s.length ≤ 140737488355328) :
    Calls Tryd.prog 43 #[.pointer (some ⟨b, 0, none⟩), .string z] wr fun e w' => e = .returned (.tuple #[.int .i64 s.length, .nilIface]) ∧ SbAt w w' b (l ++ s) ∧ SbFr b wr w' := by
  subst hz
  exact sbString_any w b l s wr h hlen

theorem sbText_any (w : World) (b : Nat) (l : List UInt8) (wr : World) (h : SbAt w wr b l) :
    Calls Tryd.prog 44 #[.pointer (some ⟨b, 0, none⟩)] wr fun e w' => e = .returned (.string (bs l)) ∧ Below w.heap.size w w' :=
  (Tryd.Builder_String_any w.heap.size b l wr h.1 h.2.size).mono fun _ _ ⟨h1, h2⟩ => ⟨h1, h.2.trans h2⟩

end Go.Proofs.YtpjicajifdandaaDoor
