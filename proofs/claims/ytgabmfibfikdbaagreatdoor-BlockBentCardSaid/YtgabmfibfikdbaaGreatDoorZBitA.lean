/-
  Layer 3: the walks of bitrow's rows: what each method does to a row.
-/
import Derived.Test.YtgabmfibfikdbaaGreatDoorZBitM
import Derived.Test.YtgabmfibfikdbaaGreatDoorZMrgS
import Derived.BigQuiet
import Derived.BigRegion
import Derived.StillTailTactics
import Derived.Deep.QuietTactic

namespace Go.Proofs.YtgabmfibfikdbaaGreatDoor
open Go.RowKit Go.Bar Go.Bar.Bit

theorem bbytes_ty : ByteTy Tryz.prog 96 5 :=
  ⟨Tryz.underlying96, Tryz.underlying5, info_parts (show (Tryz.prog.info? 5).map (fun i => (i.zero, i.size, i.bytes)) = some (some (.int .u8 0), 1, 1) by kernel_rfl)⟩

/-- the row behind the address (b, o): its bytes are the slice v, its bits are l -/
structure RowAt (w : World) (b o : Nat) (v : Value) (l : List Bool) : Prop where
  c0 : w.cell? ⟨b, o, none⟩ = some v
  c1 : w.cell? ⟨b, o + 1, none⟩ = some (.int .i64 (l.length : Int))
  f0 : w.frozen? ⟨b, o, none⟩ = false
  f1 : w.frozen? ⟨b, o + 1, none⟩ = false
  buf : BBuf w 5 v (pack l)
  ne : v.ownBlock ≠ some b
  lt : ∀ k, v.ownBlock = some k → k < w.heap.size

/-- a buffer that holds something lies in the heap -/
theorem buf_lt {w : World} {e : TypeId} {sz n : Nat} {v : Value} {xs : List Value} (h : Buf w e sz v n xs) (hn : 0 < n) : ∀ k, v.ownBlock = some k → k < w.heap.size := by
  obtain ⟨hl, A, c, rfl, hnc, hcm, hv⟩ := h
  obtain ⟨b, o, cur, fr, rfl, hbk, _⟩ := hv (by omega)
  intro k hk
  simp [Value.ownBlock] at hk
  subst hk
  exact (Array.getElem?_eq_some_iff.1 hbk).1

/-- the cells that a row's method may turn -/
def RowS (b o : Nat) (v : Value) (k i : Nat) : Prop := (k = b ∧ (i = o ∨ i = o + 1)) ∨ v.ownBlock = some k
/-- the slice lies where it lay, or in a new block -/
def Moved (w : World) (v v' : Value) : Prop := v'.ownBlock = v.ownBlock ∨ ∃ g, v'.ownBlock = some g ∧ w.heap.size ≤ g

theorem RowAt.drew {w : World} {b o : Nat} {v : Value} {l : List Bool} (h : RowAt w b o v l) : RowAt w.drew b o v l := ⟨h.c0, h.c1, h.f0, h.f1, h.buf.drew, h.ne, h.lt⟩

/-- what a row's method leaves -/
def RowTo (w : World) (b o : Nat) (v : Value) (l : List Bool) (e : Ending) (w' : World) : Prop :=
  ∃ v', e = .returned (.tuple #[]) ∧ RowAt w' b o v' l ∧ Fr (RowS b o v) w w' ∧ Moved w v v'

/-- the row when a byte is there for the next bit -/
structure RowPre (w : World) (b o : Nat) (v : Value) (l : List Bool) : Prop where
  c0 : w.cell? ⟨b, o, none⟩ = some v
  c1 : w.cell? ⟨b, o + 1, none⟩ = some (.int .i64 (l.length : Int))
  f0 : w.frozen? ⟨b, o, none⟩ = false
  f1 : w.frozen? ⟨b, o + 1, none⟩ = false
  buf : BBuf w 5 v (grown l)
  ne : v.ownBlock ≠ some b

theorem RowAt.pre {b o : Nat} {v : Value} {l : List Bool} {w : World} (h : RowAt w b o v l) (hm : l.length % 8 ≠ 0) : RowPre w b o v l :=
  ⟨h.c0, h.c1, h.f0, h.f1, by rw [grown, if_neg hm]; exact h.buf, h.ne⟩

/-- the count goes up by one -/
theorem row_bump {b o : Nat} {v : Value} {l : List Bool} {x : Bool} {w : World} (h : RowPre w b o v l) (hp : grown l = pack (l ++ [x])) :
    RowAt (w.setCell ⟨b, o + 1, none⟩ (.int .i64 ((l.length : Int) + 1))) b o v (l ++ [x]) := by
  have hbb : Fr (fun k i => k = b ∧ i = o + 1) w (w.setCell ⟨b, o + 1, none⟩ (.int .i64 ((l.length : Int) + 1))) := (Fr.refl _ _).setCell (fun _ => ⟨rfl, rfl⟩) _
  refine ⟨hbb.cell h.c0 (fun e => by omega), ?_, hbb.free h.c0 h.f0, hbb.free h.c1 h.f1, ?_, h.ne, fun k hk => Nat.lt_of_lt_of_le (buf_lt h.buf (by rw [grown_length]; omega) k hk) hbb.size⟩
  · rw [World.cell?_setCell_same w _ _ h.c1]
    simp
  · rw [← hp]
    exact hbb.buf h.buf (fun k i hk ⟨e1, _⟩ => h.ne (by rw [hk, e1]))
theorem row_bumpS {b o : Nat} {v0 : Value} {w w0 : World} (h : Fr (RowS b o v0) w0 w) (u : Value) : Fr (RowS b o v0) w0 (w.setCell ⟨b, o + 1, none⟩ u) := h.setCell (fun _ => .inl ⟨rfl, .inr rfl⟩) _

/-- the last byte: where it lies; what it is; what stands when it has been written -/
theorem row_or {b o : Nat} {v : Value} {l : List Bool} {w : World} (h : RowPre w b o v l) :
    ∃ g og c, v = .slice (some ⟨g, og, none⟩) (l.length / 8 + 1) c ∧ g ≠ b ∧ ∃ x : UInt8, w.cell? ⟨g, og + l.length / 8, none⟩ = some (.int .u8 (x.toNat : Int)) ∧ w.frozen? ⟨g, og + l.length / 8, none⟩ = false ∧
      ∀ y : Int, y = bits .or .u8 (x.toNat : Int) (128 / 2 ^ (l.length % 8)) → RowAt ((w.setCell ⟨g, og + l.length / 8, none⟩ (.int .u8 y)).setCell ⟨b, o + 1, none⟩ (.int .i64 ((l.length : Int) + 1))) b o v (l ++ [true]) := by
  obtain ⟨c0, c1, f0, f1, hb, hne⟩ := h
  have hlen := grown_length l
  obtain ⟨g, og, c, rfl, hg, hc, hcell, hfree⟩ := Buf.at_ hb (by omega)
  have hgb : g ≠ b := fun e => hne (by rw [e]; rfl)
  have hx := hcell (l.length / 8) (by omega)
  rw [show (bcs (grown l))[l.length / 8]? = some (.int .u8 ((byteAt l (l.length / 8)).toNat : Int)) by simp [bcs, grown_last]] at hx
  refine ⟨g, og, c, by rw [hlen], hgb, byteAt l (l.length / 8), hx, hfree _ (by omega), fun y hy => ?_⟩
  have hm : l.length % 8 < 8 := Nat.mod_lt _ (by omega)
  have hlt : 128 / 2 ^ (l.length % 8) = 2 ^ (7 - l.length % 8) := by
    rcases (show l.length % 8 = 0 ∨ l.length % 8 = 1 ∨ l.length % 8 = 2 ∨ l.length % 8 = 3 ∨ l.length % 8 = 4 ∨ l.length % 8 = 5 ∨ l.length % 8 = 6 ∨ l.length % 8 = 7 by omega) with h | h | h | h | h | h | h | h <;> rw [h] <;> rfl
  have hle : 2 ^ (7 - l.length % 8) < 256 := Nat.lt_of_le_of_lt (Nat.pow_le_pow_right (by omega) (show 7 - l.length % 8 ≤ 7 by omega)) (by decide)
  have hor : (byteAt l (l.length / 8)).toNat ||| 2 ^ (7 - l.length % 8) < 2 ^ 8 := Nat.or_lt_two_pow (UInt8.toNat_lt _) (by simpa using hle)
  have hy2 : y = (((byteAt l (l.length / 8)).toNat ||| 2 ^ (7 - l.length % 8) : Nat) : Int) := by
    rw [hy, show (128 : Int) / 2 ^ (l.length % 8) = ((128 / 2 ^ (l.length % 8) : Nat) : Int) by simp, hlt, u8_or_nat _ _ (UInt8.toNat_lt _) hle]
  obtain ⟨z, hz⟩ : ∃ z : UInt8, z.toNat = (byteAt l (l.length / 8)).toNat ||| 2 ^ (7 - l.length % 8) := ⟨UInt8.ofNat _, by rw [UInt8.toNat_ofNat']; exact Nat.mod_eq_of_lt hor⟩
  rw [← hz] at hy2
  subst hy2
  have hset := grown_set l z hz
  have hst := Buf.store hb (j := l.length / 8) (by omega) (.int .u8 (z.toNat : Int))
  have e1 : (bcs (grown l)).set (l.length / 8) (.int .u8 (z.toNat : Int)) = bcs (pack (l ++ [true])) := by
    rw [← hset]
    unfold bcs
    rw [List.map_set]
  have e2 : (grown l).length = (pack (l ++ [true])).length := by rw [← hset, List.length_set]
  rw [e1] at hst
  have hbb : Fr (fun k i => k = g ∧ i = og + l.length / 8) w (w.setCell ⟨g, og + l.length / 8, none⟩ (.int .u8 (z.toNat : Int))) := (Fr.refl _ _).setCell (fun _ => ⟨rfl, rfl⟩) _
  obtain ⟨W2, hW2⟩ : ∃ W2, W2 = w.setCell ⟨g, og + l.length / 8, none⟩ (.int .u8 (z.toNat : Int)) := ⟨_, rfl⟩
  rw [← hW2] at hst hbb ⊢
  have d0 := hbb.cell c0 (fun e => hgb e.1.symm)
  have d1 := hbb.cell c1 (fun e => hgb e.1.symm)
  have hbc : Fr (fun k i => k = b ∧ i = o + 1) W2 (W2.setCell ⟨b, o + 1, none⟩ (.int .i64 ((l.length : Int) + 1))) := (Fr.refl _ _).setCell (fun _ => ⟨rfl, rfl⟩) _
  have hst2 := hbc.buf hst (fun k i hk e => hgb (by simp [Value.ownBlock] at hk; rw [hk, e.1]))
  refine ⟨hbc.cell d0 (fun e => by omega), ?_, hbc.free d0 (hbb.free c0 f0), hbc.free d1 (hbb.free c1 f1), ?_, hne, fun k hk => Nat.lt_of_lt_of_le (by simp [Value.ownBlock] at hk; omega) (Nat.le_trans hbb.size hbc.size)⟩
  · rw [World.cell?_setCell_same W2 _ _ d1]
    simp
  · unfold BBuf
    rw [← e2]
    exact hst2

/-- a byte more, stored: the row is ready for its next bit -/
theorem row_more {b o : Nat} {v v' : Value} {l : List Bool} {w w' : World} (h : RowAt w b o v l) (hm : l.length % 8 = 0) (hap : BApp w v 5 (pack l) w' v' ([] ++ [0])) :
    RowPre (w'.setCell ⟨b, o, none⟩ v') b o v' l ∧ Fr (RowS b o v) w (w'.setCell ⟨b, o, none⟩ v') ∧ Moved w v v' ∧ w'.cell? ⟨b, o, none⟩ = some v ∧ w'.frozen? ⟨b, o, none⟩ = false ∧ w'.cell? ⟨b, o + 1, none⟩ = some (.int .i64 (l.length : Int)) ∧ w'.frozen? ⟨b, o + 1, none⟩ = false ∧ ∃ A n c, v' = .slice A n c := by
  obtain ⟨c0, c1, f0, f1, hb, hne⟩ := h
  have hfr : Fr (fun k i => v.ownBlock = some k) w w' := Fr.of_ap hap.ap (fun k i hk => hk)
  have d0 := hfr.cell c0 (fun e => hne e)
  have d1 := hfr.cell c1 (fun e => hne e)
  have e0 := hfr.free c0 f0
  have e1 := hfr.free c1 f1
  have hbl := World.block_lt_of_cell? _ _ c0
  have hmv : Moved w v v' := by
    rcases hap.grew with ⟨A, n, n', c, rfl, rfl, _⟩ | ⟨g, n', c', rfl, hg⟩
    · left; cases A <;> rfl
    · right; exact ⟨g, rfl, hg⟩
  have hne' : v'.ownBlock ≠ some b := by
    rcases hmv with e | ⟨g, e, hg⟩
    · rw [e]; exact hne
    · rw [e]; intro h; injection h with h; simp only at hbl; omega
  have hbb : Fr (fun k i => k = b ∧ i = o) w' (w'.setCell ⟨b, o, none⟩ v') := (Fr.refl _ _).setCell (fun _ => ⟨rfl, rfl⟩) _
  have hbuf := hap.buf
  obtain ⟨A, c, hv', _⟩ := Buf.shape hbuf
  refine ⟨⟨?_, hbb.cell d1 (fun e => by omega), hbb.free d0 e0, hbb.free d1 e1, ?_, hne'⟩, ?_, hmv, d0, e0, d1, e1, A, _, c, hv'⟩
  · rw [World.cell?_setCell_same w' _ _ d0]
  · rw [grown, if_pos hm]
    have := hbb.buf hbuf (fun k i hk e => hne' (by rw [hk, e.1]))
    rw [List.nil_append] at this
    exact this
  · exact (hfr.mono (fun k i _ h => .inr h)).setCell (fun _ => .inl ⟨rfl, .inl rfl⟩) _

set_option maxHeartbeats 400000 in
set_option maxRecDepth 10000 in
theorem rowBit_nf (b o : Nat) (v : Value) (l : List Bool) (w : World) (h : RowAt w b o v l) (hn : l.length < 1000000000000) (hm : l.length % 8 ≠ 0) :
    Calls Tryz.prog 143 #[.pointer (some ⟨b, o, none⟩), .bool false] w (RowTo w b o v (l ++ [false])) := by
  have hfin : RowTo w b o v (l ++ [false]) (.returned (.tuple #[])) (w.setCell ⟨b, o + 1, none⟩ (.int .i64 ((l.length : Int) + 1))) :=
    ⟨v, rfl, row_bump (h.pre hm) (grown_eq l), row_bumpS (Fr.refl _ _) _, .inl rfl⟩
  obtain ⟨c0, c1, f0, f1, hb, hne⟩ := h
  have hB := Lib.hid hb
  have h7 := i64_and7 l.length (by omega)
  have h8 : (((l.length % 8 : Nat) : Int) == 0) = false := by rw [beq_eq_false_iff_ne]; omega
  clear hm hb
  go_enter Tryz.func143, Tryz.ntmps143
  go_wp2
  go_end0
  exact hfin

set_option maxHeartbeats 400000 in
set_option maxRecDepth 10000 in
theorem rowBit_nt (b o : Nat) (v : Value) (l : List Bool) (w : World) (h : RowAt w b o v l) (hn : l.length < 1000000000000) (hm : l.length % 8 ≠ 0) :
    Calls Tryz.prog 143 #[.pointer (some ⟨b, o, none⟩), .bool true] w (RowTo w b o v (l ++ [true])) := by
  obtain ⟨g, og, c, rfl, hgb, x, cg, fg, hfin⟩ := row_or (h.pre hm)
  have hfr : ∀ y : Int, Fr (RowS b o (.slice (some ⟨g, og, none⟩) (l.length / 8 + 1) c)) w ((w.setCell ⟨g, og + l.length / 8, none⟩ (.int .u8 y)).setCell ⟨b, o + 1, none⟩ (.int .i64 ((l.length : Int) + 1))) :=
    fun y => row_bumpS ((Fr.refl _ _).setCell (fun _ => .inr rfl) _) _
  have hfin := hfin _ rfl
  obtain ⟨c0, c1, f0, f1, hb, hne⟩ := h
  have h7 := i64_and7 l.length (by omega)
  have h8 : (((l.length % 8 : Nat) : Int) == 0) = false := by rw [beq_eq_false_iff_ne]; omega
  have h9 : l.length % 8 < 8 := Nat.mod_lt _ (by omega)
  clear hm hb hne
  go_enter Tryz.func143, Tryz.ntmps143
  go_wp2
  go_region
  go_wp2
  go_end0
  exact ⟨_, rfl, hfin.drew, (hfr _).drew, .inl rfl⟩

set_option maxHeartbeats 400000 in
set_option maxRecDepth 10000 in
theorem rowBit_zf (b o : Nat) (v : Value) (l : List Bool) (w : World) (h : RowAt w b o v l) (hn : l.length < 1000000000000) (hm : l.length % 8 = 0) :
    Calls Tryz.prog 143 #[.pointer (some ⟨b, o, none⟩), .bool false] w (RowTo w b o v (l ++ [false])) := by
  have H := Lib.hid h
  have HM := Lib.hid hm
  have hst := BApp.start' h.buf
  have hlen : (pack l).length + ([] : List UInt8).length + 1 ≤ 140737488355328 := by rw [pack_length]; simp; omega
  obtain ⟨c0, c1, f0, f1, hb, hne⟩ := h
  have h7 := i64_and7 l.length (by omega)
  have h8 : (((l.length % 8 : Nat) : Int) == 0) = true := by rw [beq_iff_eq]; omega
  clear hm hb hne
  go_enter Tryz.func143, Tryz.ntmps143
  go_wp2_with (at_builtin; refine wpList_append_byte rfl (.tmp 14) (.tmp 15) 96 rfl bbytes_ty 0 rfl rfl hst rfl hlen ?_; intro v' w' hap; obtain ⟨hpre, hfr, hmv, d0, e0, d1, e1, A, n, c, rfl⟩ := row_more H.out HM.out hap)
  go_end0
  exact ⟨_, rfl, row_bump hpre (grown_eq l), row_bumpS hfr _, hmv⟩

set_option maxHeartbeats 400000 in
set_option maxRecDepth 10000 in
theorem rowBit_zt (b o : Nat) (v : Value) (l : List Bool) (w : World) (h : RowAt w b o v l) (hn : l.length < 1000000000000) (hm : l.length % 8 = 0) :
    Calls Tryz.prog 143 #[.pointer (some ⟨b, o, none⟩), .bool true] w (RowTo w b o v (l ++ [true])) := by
  have H := Lib.hid h
  have HM := Lib.hid hm
  have hst := BApp.start' h.buf
  have hlen : (pack l).length + ([] : List UInt8).length + 1 ≤ 140737488355328 := by rw [pack_length]; simp; omega
  obtain ⟨c0, c1, f0, f1, hb, hne⟩ := h
  have h7 := i64_and7 l.length (by omega)
  have h8 : (((l.length % 8 : Nat) : Int) == 0) = true := by rw [beq_iff_eq]; omega
  have h9 : l.length % 8 < 8 := Nat.mod_lt _ (by omega)
  clear hm hb hne
  go_enter Tryz.func143, Tryz.ntmps143
  go_wp2_with (at_builtin; refine wpList_append_byte rfl (.tmp 14) (.tmp 15) 96 rfl bbytes_ty 0 rfl rfl hst rfl hlen ?_; intro v' w' hap; obtain ⟨hpre, hfr, hmv, d0, e0, d1, e1, A, n, c, rfl⟩ := row_more H.out HM.out hap)
  obtain ⟨g, og, c2, hv, hgb, x, cg, fg, hfin⟩ := row_or hpre
  have hfin := hfin _ rfl
  have hfr2 := hfr
  obtain ⟨p0, p1, q0, q1, _, _⟩ := hpre
  clear d0 e0 d1 e1 hap c0 c1 f0 f1
  injection hv with hv1 hv2 hv3
  subst hv1; subst hv2; subst hv3
  generalize w'.setCell ⟨b, o, none⟩ (.slice (some ⟨g, og, none⟩) (l.length / 8 + 1) c) = W2 at *
  go_region
  go_wp2
  go_end0
  refine ⟨_, rfl, hfin.drew, (row_bumpS (hfr.setCell (fun hk => ?_) _) _).drew, hmv⟩
  rcases hmv with e | ⟨g', e, hge⟩
  · exact .inr (by rw [← e]; rfl)
  · simp [Value.ownBlock] at e
    omega

/-- A BIT MORE -/
theorem rowBit_any (b o : Nat) (v : Value) (l : List Bool) (is : Bool) (w : World) (h : RowAt w b o v l) (hn : l.length < 1000000000000) :
    Calls Tryz.prog 143 #[.pointer (some ⟨b, o, none⟩), .bool is] w (RowTo w b o v (l ++ [is])) := by
  by_cases hm : l.length % 8 = 0 <;> cases is
  · exact rowBit_zf b o v l w h hn hm
  · exact rowBit_zt b o v l w h hn hm
  · exact rowBit_nf b o v l w h hn hm
  · exact rowBit_nt b o v l w h hn hm

/-- a chain of a row's methods -/
structure RowCh (w : World) (b o : Nat) (v : Value) (w' : World) (v' : Value) (l : List Bool) : Prop where
  at_ : RowAt w' b o v' l
  fr : Fr (RowS b o v) w w'
  mv : Moved w v v'

theorem RowCh.refl {w : World} {b o : Nat} {v : Value} {l : List Bool} (h : RowAt w b o v l) : RowCh w b o v w v l := ⟨h, Fr.refl _ _, .inl rfl⟩
theorem RowCh.step {w : World} {b o : Nat} {v : Value} {w' w'' : World} {v' : Value} {l l' : List Bool} (h : RowCh w b o v w' v' l) {e : Ending} (h' : RowTo w' b o v' l' e w'') : e = .returned (.tuple #[]) ∧ ∃ v'', RowCh w b o v w'' v'' l' := by
  obtain ⟨v'', he, ha, hf, hm⟩ := h'
  refine ⟨he, v'', ha, h.fr.trans' hf (fun k i hk hS => ?_), ?_⟩
  · rcases hS with hS | hS
    · exact .inl hS
    · rcases h.mv with e1 | ⟨g, e1, hg⟩
      · exact .inr (by rw [← e1]; exact hS)
      · rw [e1] at hS; injection hS with hS; omega
  · rcases hm with e1 | ⟨g, e1, hg⟩
    · rcases h.mv with e2 | ⟨g, e2, hg⟩
      · exact .inl (e1.trans e2)
      · exact .inr ⟨g, e1.trans e2, hg⟩
    · exact .inr ⟨g, e1, Nat.le_trans h.fr.size hg⟩
theorem RowCh.to {w : World} {b o : Nat} {v : Value} {w' : World} {v' : Value} {l : List Bool} (h : RowCh w b o v w' v' l) : RowTo w b o v l (.returned (.tuple #[])) w' := ⟨v', rfl, h.at_, h.fr, h.mv⟩

set_option maxHeartbeats 400000 in
set_option maxRecDepth 10000 in
theorem rowBits_any (b o : Nat) (v : Value) (l : List Bool) (u : Nat) (n : Int) (w : World) (hn1 : -9223372036854775808 ≤ n) (hn2 : n ≤ 9223372036854775807) (hu : u < 18446744073709551616) (h : RowAt w b o v l) (hn : l.length < 100000000000) :
    Calls Tryz.prog 125 #[.pointer (some ⟨b, o, none⟩), .int .u64 u, .int .i64 n] w (RowTo w b o v (l ++ bitsOf u (clip n))) := by
  have hcl := clip_le n
  rcases (show n < 0 ∨ 0 ≤ n ∧ n ≤ 64 ∨ 64 < n by omega) with hc | hc | hc
  all_goals
    have hst : ∃ m : Nat, m = clip n ∧ (m : Int) = min (max n 0) 64 := ⟨clip n, rfl, by unfold clip; omega⟩
    obtain ⟨m, hm1, hm2⟩ := hst
    rw [← hm1] at hcl ⊢
    have HM := Lib.hid hm2
    clear hm1 hm2
    go_enter Tryz.func125, Tryz.ntmps125
    go_wp2_with fail
    go_loopw [6] (fun i wr => ∃ (k : Nat) (v' : Value) (pre : List Bool), k ≤ m ∧ i = .int .i64 ((k : Int) - 1) ∧ RowCh w b o v wr v' (l ++ pre) ∧ pre.length ≤ 64 ∧ pre.length + k = m ∧ pre ++ bitsOf u k = bitsOf u m) (fun i _ => (intOf i + 1).toNat)
    case atStart => exact ⟨m, v, [], Nat.le_refl _, by rw [HM.out]; congr 1; omega, by rw [List.append_nil]; exact RowCh.refl h, by simp, by simp, rfl⟩
    case round =>
      obtain ⟨k, v', pre, hk, rfl, hch, hpl, hpk, hpre⟩ := hrel
      have HP := Lib.hid hpre
      have HK := Lib.hid hpk
      clear hpre hpk
      by_cases h0 : 0 < k
      · go_wp2_with fail
        refine (rowBit_any b o v' (l ++ pre) _ wr hch.at_ (by rw [List.length_append]; omega)).mono ?_
        intro e w'' hto
        obtain ⟨rfl, v'', hch'⟩ := hch.step hto
        clear hto hch
        go_wp2_with fail
        go_roundw
        case rel =>
          refine ⟨k - 1, v'', pre ++ [u / 2 ^ (k - 1) % 2 == 1], by omega, by congr 1; omega, ?_, by rw [List.length_append]; have := HK.out; simp; omega, by rw [List.length_append]; have := HK.out; simp; omega, ?_⟩
          · rw [← bit_and u (k - 1) hu, ← List.append_assoc]
            exact hch'
          · rw [← HP.out]
            obtain ⟨j, rfl⟩ : ∃ j, k = j + 1 := ⟨k - 1, by omega⟩
            rw [bitsOf, List.append_assoc]
            rfl
        case measure => simp [intOf]; omega
      · go_wp2_with fail
        go_end0
        have : k = 0 := by omega
        subst this
        have e1 : pre = bitsOf u m := by rw [← HP.out, bitsOf, List.append_nil]
        rw [← e1]
        exact hch.to

set_option maxHeartbeats 1000000 in
set_option maxRecDepth 10000 in
theorem rowUnary_any (b o : Nat) (v : Value) (l : List Bool) (n most : Int) (w : World) (hn1 : -9223372036854775808 ≤ n) (hn2 : n ≤ 9223372036854775807) (hm1 : -9223372036854775808 ≤ most) (hm2 : most ≤ 100000)
    (h : RowAt w b o v l) (hn : l.length < 100000000000) :
    Calls Tryz.prog 145 #[.pointer (some ⟨b, o, none⟩), .int .i64 n, .int .i64 most] w (RowTo w b o v (l ++ unary n most)) := by
  have hcl : ones n most ≤ 100000 := by unfold ones; omega
  have hst : ∃ m : Nat, m = ones n most ∧ (m : Int) = min (max n 0) (max most 0) := ⟨ones n most, rfl, by unfold ones; omega⟩
  obtain ⟨m, hm3, hm4⟩ := hst
  have hun : unary n most = List.replicate m true ++ if (m : Int) < most then [false] else [] := by rw [hm3]; rfl
  have HU := Lib.hid hun
  rw [← hm3] at hcl
  have hA1 : (m : Int) ≤ max n 0 := by omega
  have hA2 : (m : Int) ≤ max most 0 := by omega
  have hA3 : max n 0 ≤ (m : Int) ∨ max most 0 ≤ (m : Int) := by omega
  clear hm3 hm4 hun
  rcases (show n < 0 ∧ most < 0 ∨ n < 0 ∧ most ≤ 0 ∧ 0 ≤ most ∨ n < 0 ∧ 0 < most ∨ most < 0 ∧ n ≤ 0 ∧ 0 ≤ n ∨ 0 < n ∧ most < 0 ∨ 0 ≤ n ∧ 0 ≤ most ∧ n < most ∨ 0 ≤ n ∧ n ≤ most ∧ most ≤ n ∨ 0 ≤ n ∧ 0 ≤ most ∧ most < n by omega) with hc | hc | hc | hc | hc | hc | hc | hc
  all_goals
    go_enter Tryz.func145, Tryz.ntmps145
    go_wp2_with fail
    go_loopw [12] (fun i wr => ∃ (k : Nat) (v' : Value), k ≤ m ∧ i = .int .i64 k ∧ RowCh w b o v wr v' (l ++ List.replicate k true)) (fun i _ => m - (intOf i).toNat)
    case atStart => exact ⟨0, v, Nat.zero_le _, rfl, by rw [List.replicate_zero, List.append_nil]; exact RowCh.refl h⟩
    case round =>
      obtain ⟨k, v', hk, rfl, hch⟩ := hrel
      have HC := Lib.hid hch
      clear hch
      by_cases h0 : k < m
      · first
        | (exfalso; omega)
        | (go_wp2_with fail
           refine (rowBit_any b o v' (l ++ List.replicate k true) _ wr HC.out.at_ (by rw [List.length_append, List.length_replicate]; omega)).mono ?_
           intro e w'' hto
           obtain ⟨rfl, v'', hch'⟩ := HC.out.step hto
           have HD := Lib.hid hch'
           clear hto hch' HC
           go_wp2_with fail
           go_roundw
           case rel => exact ⟨k + 1, v'', by omega, by go_num, by rw [List.replicate_succ', ← List.append_assoc]; exact HD.out⟩
           case measure => simp [intOf]; omega)
      · obtain rfl : k = m := by omega
        by_cases hlt : (k : Int) < most
        · first
          | (exfalso; omega)
          | (go_wp2_with fail
             refine (rowBit_any b o v' (l ++ List.replicate k true) _ wr HC.out.at_ (by rw [List.length_append, List.length_replicate]; omega)).mono ?_
             intro e w'' hto
             obtain ⟨rfl, v'', hch'⟩ := HC.out.step hto
             have HD := Lib.hid hch'
             clear hto hch' HC
             go_wp2_with fail
             go_end0
             rw [HU.out, if_pos (by omega), ← List.append_assoc]
             exact HD.out.to)
        · first
          | (exfalso; omega)
          | (go_wp2_with fail
             go_end0
             rw [HU.out, if_neg (by omega), List.append_nil]
             exact HC.out.to)

set_option maxHeartbeats 400000 in
theorem rowText_any (b o : Nat) (v : Value) (l : List Bool) (w : World) (h : RowAt w b o v l) :
    Calls Tryz.prog 130 #[.pointer (some ⟨b, o, none⟩)] w fun e w' => e = .returned (.string (bs (pack l))) ∧ w = w' := by
  have hc := h.buf.string bbytes_ty 9 Tryz.underlying9
  obtain ⟨A, c, rfl, _⟩ := Buf.shape h.buf
  obtain ⟨c0, c1, f0, f1, hb, hne⟩ := h
  clear hb hne
  go_enter Tryz.func130, Tryz.ntmps130
  go_wp2
  go_ret
  exact ⟨rfl, rfl⟩

set_option maxHeartbeats 400000 in
theorem rowLen_any (b o : Nat) (v : Value) (l : List Bool) (w : World) (h : RowAt w b o v l) :
    Calls Tryz.prog 129 #[.pointer (some ⟨b, o, none⟩)] w fun e w' => e = .returned (.int .i64 l.length) ∧ w = w' := by
  obtain ⟨c0, c1, f0, f1, hb, hne⟩ := h
  clear hb hne
  go_enter Tryz.func129, Tryz.ntmps129
  go_wp2
  go_ret
  exact ⟨rfl, rfl⟩

set_option maxHeartbeats 400000 in
theorem width_any (u : Nat) (w : World) (hu : u < 18446744073709551616) :
    Calls Tryz.prog 144 #[.int .u64 u] w fun e w' => e = .returned (.int .i64 (width u)) ∧ w = w' := by
  have hw := width_le u hu
  go_enter Tryz.func144, Tryz.ntmps144
  go_wp2
  go_loop [0, 3] (fun v n => ∃ k c : Nat, k < 18446744073709551616 ∧ v = .int .u64 k ∧ n = .int .i64 c ∧ c + width k = width u) (fun v _ => (intOf v).toNat)
  case atStart => exact ⟨u, 0, hu, rfl, rfl, Nat.zero_add _⟩
  case round =>
    obtain ⟨k, c, hk, rfl, rfl, hc⟩ := hrel
    have hcl : c ≤ 64 := by omega
    have HC := Lib.hid hc
    clear hc
    by_cases h0 : 0 < k
    · go_wp2
      go_round
      case rel => exact ⟨k / 2, c + 1, by omega, by go_num, by go_num, by rw [← HC.out, width_pos k h0]; omega⟩
      case measure => simp [intOf]; omega
    · go_wp2
      go_ret
      obtain rfl : k = 0 := by omega
      rw [← HC.out, width_zero]
      exact ⟨rfl, rfl⟩

end Go.Proofs.YtgabmfibfikdbaaGreatDoor
