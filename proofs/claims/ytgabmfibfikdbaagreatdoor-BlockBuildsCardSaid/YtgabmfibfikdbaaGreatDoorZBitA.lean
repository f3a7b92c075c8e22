/-
  Layer 3: the walks of bitrow's rows: what each method does to a row.
-/
import Derived.Test.YtgabmfibfikdbaaGreatDoorZBitM
import Derived.Test.YtgabmfibfikdbaaGreatDoorZLib3
import Derived.BigQuiet
import Derived.BigRegion
import Derived.StillTailTactics
import Derived.Deep.QuietTactic

set_option maxHeartbeats 32000000
set_option maxRecDepth 10000
namespace Go.Proofs.YtgabmfibfikdbaaGreatDoor
open Go.RowKit Go.Bar Go.Bar.Bit

theorem bbytes_ty : ByteTy Tryz.prog 96 5 :=
  ⟨Tryz.underlying96, Tryz.underlying5, info_parts (show (Tryz.prog.info? 5).map (fun i => (i.zero, i.size, i.bytes)) = some (some (.int .u8 0), 1, 1) by kernel_rfl)⟩

structure RowAt (w : World) (b o : Nat) (v : Value) (l : List Bool) : Prop where
  c0 : w.cell? ⟨b, o, none⟩ = some v
  c1 : w.cell? ⟨b, o + 1, none⟩ = some (.int .i64 (l.length : Int))
  f0 : w.frozen? ⟨b, o, none⟩ = false
  f1 : w.frozen? ⟨b, o + 1, none⟩ = false
  buf : BBuf w 5 v (pack l)
  ne : v.ownBlock ≠ some b
  lt : ∀ k, v.ownBlock = some k -> k < w.heap.size

theorem buf_lt {w : World} {e : TypeId} {sz n : Nat} {v : Value} {xs : List Value} (h : Buf w e sz v n xs) (hn : 0 < n) : ∀ k, v.ownBlock = some k -> k < w.heap.size := by
  obtain ⟨hl, A, c, rfl, hnc, hcm, hv⟩ := h
  obtain ⟨b, o, cur, fr, rfl, hbk, _⟩ := hv (by omega)
  intro k hk
  simp [Value.ownBlock] at hk
  subst hk
  exact (Array.getElem?_eq_some_iff.1 hbk).1

def RowS (b o : Nat) (v : Value) (k i : Nat) : Prop := (k = b /\ (i = o \/ i = o + 1)) \/ v.ownBlock = some k
def Moved (w : World) (v v' : Value) : Prop := v'.ownBlock = v.ownBlock \/ ∃ g, v'.ownBlock = some g /\ w.heap.size <= g

theorem RowAt.drew {w : World} {b o : Nat} {v : Value} {l : List Bool} (h : RowAt w b o v l) : RowAt w.drew b o v l := ⟨h.c0, h.c1, h.f0, h.f1, h.buf.drew, h.ne, h.lt⟩

def RowTo (w : World) (b o : Nat) (v : Value) (l : List Bool) (e : Ending) (w' : World) : Prop :=
  ∃ v', e = .returned (.tuple #[]) /\ RowAt w' b o v' l /\ Fr (RowS b o v) w w' /\ Moved w v v'

structure RowPre (w : World) (b o : Nat) (v : Value) (l : List Bool) : Prop where
  c0 : w.cell? ⟨b, o, none⟩ = some v
  c1 : w.cell? ⟨b, o + 1, none⟩ = some (.int .i64 (l.length : Int))
  f0 : w.frozen? ⟨b, o, none⟩ = false
  f1 : w.frozen? ⟨b, o + 1, none⟩ = false
  buf : BBuf w 5 v (grown l)
  ne : v.ownBlock ≠ some b

theorem RowAt.pre {b o : Nat} {v : Value} {l : List Bool} {w : World} (h : RowAt w b o v l) (hm : l.length % 8 ≠ 0) : RowPre w b o v l :=
  ⟨h.c0, h.c1, h.f0, h.f1, by rw [grown, if_neg hm]; exact h.buf, h.ne⟩

theorem row_bump {b o : Nat} {v : Value} {l : List Bool} {x : Bool} {w : World} (h : RowPre w b o v l) (hp : grown l = pack (l ++ [x])) :
    RowAt (w.setCell ⟨b, o + 1, none⟩ (.int .i64 ((l.length : Int) + 1))) b o v (l ++ [x]) := by
  have hbb : Fr (fun k i => k = b /\ i = o + 1) w (w.setCell ⟨b, o + 1, none⟩ (.int .i64 ((l.length : Int) + 1))) := (Fr.refl _ _).setCell (fun _ => ⟨rfl, rfl⟩) _
  refine ⟨hbb.cell h.c0 (fun e => by omega), ?_, hbb.free h.c0 h.f0, hbb.free h.c1 h.f1, ?_, h.ne, fun k hk => Nat.lt_of_lt_of_le (buf_lt h.buf (by rw [grown_length]; omega) k hk) hbb.size⟩
  · rw [World.cell?_setCell_same w _ _ h.c1]
    simp
  · rw [<- hp]
    exact hbb.buf h.buf (fun k i hk ⟨e1, _⟩ => h.ne (by rw [hk, e1]))
theorem row_bumpS {b o : Nat} {v0 : Value} {w w0 : World} (h : Fr (RowS b o v0) w0 w) (u : Value) : Fr (RowS b o v0) w0 (w.setCell ⟨b, o + 1, none⟩ u) := h.setCell (fun _ => .inl ⟨rfl, .inr rfl⟩) _

theorem row_or {b o : Nat} {v : Value} {l : List Bool} {w : World} (h : RowPre w b o v l) :
    ∃ g og c, v = .slice (some ⟨g, og, none⟩) (l.length / 8 + 1) c /\ g ≠ b /\ ∃ x : UInt8, w.cell? ⟨g, og + l.length / 8, none⟩ = some (.int .u8 (x.toNat : Int)) /\ w.frozen? ⟨g, og + l.length / 8, none⟩ = false /\
      ∀ y : Int, y = bits .or .u8 (x.toNat : Int) (128 / 2 ^ (l.length % 8)) -> RowAt ((w.setCell ⟨g, og + l.length / 8, none⟩ (.int .u8 y)).setCell ⟨b, o + 1, none⟩ (.int .i64 ((l.length : Int) + 1))) b o v (l ++ [true]) := by
  obtain ⟨c0, c1, f0, f1, hb, hne⟩ := h
  have hlen := grown_length l
  obtain ⟨g, og, c, rfl, hg, hc, hcell, hfree⟩ := Buf.at_ hb (by omega)
  have hgb : g ≠ b := fun e => hne (by rw [e]; rfl)
  have hx := hcell (l.length / 8) (by omega)
  rw [show (bcs (grown l))[l.length / 8]? = some (.int .u8 ((byteAt l (l.length / 8)).toNat : Int)) by simp [bcs, grown_last]] at hx
  refine ⟨g, og, c, by rw [hlen], hgb, byteAt l (l.length / 8), hx, hfree _ (by omega), fun y hy => ?_⟩
  have hm : l.length % 8 < 8 := Nat.mod_lt _ (by omega)
  have hlt : 128 / 2 ^ (l.length % 8) = 2 ^ (7 - l.length % 8) := by
    rcases (show l.length % 8 = 0 \/ l.length % 8 = 1 \/ l.length % 8 = 2 \/ l.length % 8 = 3 \/ l.length % 8 = 4 \/ l.length % 8 = 5 \/ l.length % 8 = 6 \/ l.length % 8 = 7 by omega) with h | h | h | h | h | h | h | h <;> rw [h] <;> rfl
  have hle : 2 ^ (7 - l.length % 8) < 256 := Nat.lt_of_le_of_lt (Nat.pow_le_pow_right (by omega) (show 7 - l.length % 8 <= 7 by omega)) (by decide)
  have hor : (byteAt l (l.length / 8)).toNat ||| 2 ^ (7 - l.length % 8) < 2 ^ 8 := Nat.or_lt_two_pow (UInt8.toNat_lt _) (by simpa using hle)
  have hy2 : y = (((byteAt l (l.length / 8)).toNat ||| 2 ^ (7 - l.length % 8) : Nat) : Int) := by
    rw [hy, show (128 : Int) / 2 ^ (l.length % 8) = ((128 / 2 ^ (l.length % 8) : Nat) : Int) by simp, hlt, u8_or_nat _ _ (UInt8.toNat_lt _) hle]
  obtain ⟨z, hz⟩ : ∃ z : UInt8, z.toNat = (byteAt l (l.length / 8)).toNat ||| 2 ^ (7 - l.length % 8) := ⟨UInt8.ofNat _, by rw [UInt8.toNat_ofNat']; exact Nat.mod_eq_of_lt hor⟩
  rw [<- hz] at hy2
  subst hy2
  have hset := grown_set l z hz
  have hst := Buf.store hb (j := l.length / 8) (by omega) (.int .u8 (z.toNat : Int))
  have e1 : (bcs (grown l)).set (l.length / 8) (.int .u8 (z.toNat : Int)) = bcs (pack (l ++ [true])) := by
    rw [<- hset]
    unfold bcs
    rw [List.map_set]
  have e2 : (grown l).length = (pack (l ++ [true])).length := by rw [<- hset, List.length_set]
  rw [e1] at hst
  have hbb : Fr (fun k i => k = g /\ i = og + l.length / 8) w (w.setCell ⟨g, og + l.length / 8, none⟩ (.int .u8 (z.toNat : Int))) := (Fr.refl _ _).setCell (fun _ => ⟨rfl, rfl⟩) _
  obtain ⟨W2, hW2⟩ : ∃ W2, W2 = w.setCell ⟨g, og + l.length / 8, none⟩ (.int .u8 (z.toNat : Int)) := ⟨_, rfl⟩
  rw [<- hW2] at hst hbb ⊢
  have d0 := hbb.cell c0 (fun e => hgb e.1.symm)
  have d1 := hbb.cell c1 (fun e => hgb e.1.symm)
  have hbc : Fr (fun k i => k = b /\ i = o + 1) W2 (W2.setCell ⟨b, o + 1, none⟩ (.int .i64 ((l.length : Int) + 1))) := (Fr.refl _ _).setCell (fun _ => ⟨rfl, rfl⟩) _
  have hst2 := hbc.buf hst (fun k i hk e => hgb (by simp [Value.ownBlock] at hk; rw [hk, e.1]))
  refine ⟨hbc.cell d0 (fun e => by omega), ?_, hbc.free d0 (hbb.free c0 f0), hbc.free d1 (hbb.free c1 f1), ?_, hne, fun k hk => Nat.lt_of_lt_of_le (by simp [Value.ownBlock] at hk; omega) (Nat.le_trans hbb.size hbc.size)⟩
  · rw [World.cell?_setCell_same W2 _ _ d1]
    simp
  · unfold BBuf
    rw [<- e2]
    exact hst2

theorem row_more {b o : Nat} {v v' : Value} {l : List Bool} {w w' : World} (h : RowAt w b o v l) (hm : l.length % 8 = 0) (hap : BApp w v 5 (pack l) w' v' ([] ++ [0])) :
    RowPre (w'.setCell ⟨b, o, none⟩ v') b o v' l /\ Fr (RowS b o v) w (w'.setCell ⟨b, o, none⟩ v') /\ Moved w v v' /\ w'.cell? ⟨b, o, none⟩ = some v /\ w'.frozen? ⟨b, o, none⟩ = false /\ w'.cell? ⟨b, o + 1, none⟩ = some (.int .i64 (l.length : Int)) /\ w'.frozen? ⟨b, o + 1, none⟩ = false /\ ∃ A n c, v' = .slice A n c := by
  obtain ⟨c0, c1, f0, f1, hb, hne⟩ := h
  have hfr : Fr (fun k i => v.ownBlock = some k) w w' := Fr.of_ap hap.ap (fun k i hk => hk)
  have d0 := hfr.cell c0 (fun e => hne e)
  have d1 := hfr.cell c1 (fun e => hne e)
  have e0 := hfr.free c0 f0
  have e1 := hfr.free c1 f1
  have hbl := World.block_lt_of_cell? _ _ c0
  have hmv : Moved w v v' := by
    rcases hap.grew with ⟨A, n, n', c, rfl, rfl, _⟩ | ⟨g, n', c', rfl, hg⟩
    · left; cases A <;> rfl
    · right; exact ⟨g, rfl, hg⟩
  have hne' : v'.ownBlock ≠ some b := by
    rcases hmv with e | ⟨g, e, hg⟩
    · rw [e]; exact hne
    · rw [e]; intro h; injection h with h; simp only at hbl; omega
  have hbb : Fr (fun k i => k = b /\ i = o) w' (w'.setCell ⟨b, o, none⟩ v') := (Fr.refl _ _).setCell (fun _ => ⟨rfl, rfl⟩) _
  have hbuf := hap.buf
  obtain ⟨A, c, hv', _⟩ := Buf.shape hbuf
  refine ⟨⟨?_, hbb.cell d1 (fun e => by omega), hbb.free d0 e0, hbb.free d1 e1, ?_, hne'⟩, ?_, hmv, d0, e0, d1, e1, A, _, c, hv'⟩
  · rw [World.cell?_setCell_same w' _ _ d0]
  · rw [grown, if_pos hm]
    have := hbb.buf hbuf (fun k i hk e => hne' (by rw [hk, e.1]))
    rw [List.nil_append] at this
    exact this
  · exact (hfr.mono (fun k i _ h => .inr h)).setCell (fun _ => .inl ⟨rfl, .inl rfl⟩) _

theorem rowBit_nf (b o : Nat) (v : Value) (l : List Bool) (w : World) (h : RowAt w b o v l) (hn : l.length < 1000000000000) (hm : l.length % 8 ≠ 0) :
    Calls Tryz.prog 143 #[.pointer (some ⟨b, o, none⟩), .bool false] w (RowTo w b o v (l ++ [false])) := by
  have hfin : RowTo w b o v (l ++ [false]) (.returned (.tuple #[])) (w.setCell ⟨b, o + 1, none⟩ (.int .i64 ((l.length : Int) + 1))) :=
    ⟨v, rfl, row_bump (h.pre hm) (grown_eq l), row_bumpS (Fr.refl _ _) _, .inl rfl⟩
  obtain ⟨c0, c1, f0, f1, hb, hne⟩ := h
  have hB := Lib.hid hb
  have h7 := i64_and7 l.length (by omega)
  have h8 : (((l.length % 8 : Nat) : Int) == 0) = false := by rw [beq_eq_false_iff_ne]; omega
  clear hm hb
  go_enter Tryz.func143, Tryz.ntmps143
  go_wp2
  go_end0
  exact hfin

theorem rowBit_nt (b o : Nat) (v : Value) (l : List Bool) (w : World) (h : RowAt w b o v l) (hn : l.length < 1000000000000) (hm : l.length % 8 ≠ 0) :
    Calls Tryz.prog 143 #[.pointer (some ⟨b, o, none⟩), .bool true] w (RowTo w b o v (l ++ [true])) := by
  obtain ⟨g, og, c, rfl, hgb, x, cg, fg, hfin⟩ := row_or (h.pre hm)
  have hfr : ∀ y : Int, Fr (RowS b o (.slice (some ⟨g, og, none⟩) (l.length / 8 + 1) c)) w ((w.setCell ⟨g, og + l.length / 8, none⟩ (.int .u8 y)).setCell ⟨b, o + 1, none⟩ (.int .i64 ((l.length : Int) + 1))) :=
    fun y => row_bumpS ((Fr.refl _ _).setCell (fun _ => .inr rfl) _) _
  have hfin := hfin _ rfl
  obtain ⟨c0, c1, f0, f1, hb, hne⟩ := h
  have h7 := i64_and7 l.length (by omega)
  have h8 : (((l.length % 8 : Nat) : Int) == 0) = false := by rw [beq_eq_false_iff_ne]; omega
  have h9 : l.length % 8 < 8 := Nat.mod_lt _ (by omega)
  clear hm hb hne
  go_enter Tryz.func143, Tryz.ntmps143
  go_wp2
  go_region
  go_wp2
  go_end0
  exact ⟨_, rfl, hfin.drew, (hfr _).drew, .inl rfl⟩

theorem rowBit_zf (b o : Nat) (v : Value) (l : List Bool) (w : World) (h : RowAt w b o v l) (hn : l.length < 1000000000000) (hm : l.length % 8 = 0) :
    Calls Tryz.prog 143 #[.pointer (some ⟨b, o, none⟩), .bool false] w (RowTo w b o v (l ++ [false])) := by
  have H := Lib.hid h
  have HM := Lib.hid hm
  have hst := BApp.start' h.buf
  have hlen : (pack l).length + ([] : List UInt8).length + 1 <= 140737488355328 := by rw [pack_length]; simp; omega
  obtain ⟨c0, c1, f0, f1, hb, hne⟩ := h
  have h7 := i64_and7 l.length (by omega)
  have h8 : (((l.length % 8 : Nat) : Int) == 0) = true := by rw [beq_iff_eq]; omega
  clear hm hb hne
  go_enter Tryz.func143, Tryz.ntmps143
  go_wp2_with (at_builtin; refine wpList_append_byte rfl (.tmp 14) (.tmp 15) 96 rfl bbytes_ty 0 rfl rfl hst rfl hlen ?_; intro v' w' hap; obtain ⟨hpre, hfr, hmv, d0, e0, d1, e1, A, n, c, rfl⟩ := row_more H.out HM.out hap)
  go_end0
  exact ⟨_, rfl, row_bump hpre (grown_eq l), row_bumpS hfr _, hmv⟩

theorem rowBit_zt (b o : Nat) (v : Value) (l : List Bool) (w : World) (h : RowAt w b o v l) (hn : l.length < 1000000000000) (hm : l.length % 8 = 0) :
    Calls Tryz.prog 143 #[.pointer (some ⟨b, o, none⟩), .bool true] w (RowTo w b o v (l ++ [true])) := by
  have H := Lib.hid h
  have HM := Lib.hid hm
  have hst := BApp.start' h.buf
  have hlen : (pack l).length + ([] : List UInt8).length + 1 <= 140737488355328 := by rw [pack_length]; simp; omega
  obtain ⟨c0, c1, f0, f1, hb, hne⟩ := h
  have h7 := i64_and7 l.length (by omega)
  have h8 : (((l.length % 8 : Nat) : Int) == 0) = true := by rw [beq_iff_eq]; omega
  have h9 : l.length % 8 < 8 := Nat.mod_lt _ (by omega)
  clear hm hb hne
  go_enter Tryz.func143, Tryz.ntmps143
  go_wp2_with (at_builtin; refine wpList_append_byte rfl (.tmp 14) (.tmp 15) 96 rfl bbytes_ty 0 rfl rfl hst rfl hlen ?_; intro v' w' hap; obtain ⟨hpre, hfr, hmv, d0, e0, d1, e1, A, n, c, rfl⟩ := row_more H.out HM.out hap)
  obtain ⟨g, og, c2, hv, hgb, x, cg, fg, hfin⟩ := row_or hpre
  have hfin := hfin _ rfl
  have hfr2 := hfr
  obtain ⟨p0, p1, q0, q1, _, _⟩ := hpre
  clear d0 e0 d1 e1 hap c0 c1 f0 f1
  injection hv with hv1 hv2 hv3
  subst hv1; subst hv2; subst hv3
  generalize w'.setCell ⟨b, o, none⟩ (.slice (some ⟨g, og, none⟩) (l.length / 8 + 1) c) = W2 at *
  go_region
  go_wp2
  go_end0
  refine ⟨_, rfl, hfin.drew, (row_bumpS (hfr.setCell (fun hk => ?_) _) _).drew, hmv⟩
  rcases hmv with e | ⟨g', e, hge⟩
  · exact .inr (by rw [<- e]; rfl)
  · simp [Value.ownBlock] at e
    omega

theorem rowBit_any (b o : Nat) (v : Value) (l : List Bool) (is : Bool) (w : World) (h : RowAt w b o v l) (hn : l.length < 1000000000000) :
    Calls Tryz.prog 143 #[.pointer (some ⟨b, o, none⟩), .bool is] w (RowTo w b o v (l ++ [is])) := by
  by_cases hm : l.length % 8 = 0 <;> cases is
  · exact rowBit_zf b o v l w h hn hm
  · exact rowBit_zt b o v l w h hn hm
  · exact rowBit_nf b o v l w h hn hm
  · exact rowBit_nt b o v l w h hn hm

structure RowCh (w : World) (b o : Nat) (v : Value) (w' : World) (v' : Value) (l : List Bool) : Prop where
  at_ : RowAt w' b o v' l
  fr : Fr (RowS b o v) w w'
  mv : Moved w v v'

theorem RowCh.refl {w : World} {b o : Nat} {v : Value} {l : List Bool} (h : RowAt w b o v l) : RowCh w b o v w v l := ⟨h, Fr.refl _ _, .inl rfl⟩
theorem RowCh.step {w : World} {b o : Nat} {v : Value} {w' w'' : World} {v' : Value} {l l' : List Bool} (h : RowCh w b o v w' v' l) {e : Ending} (h' : RowTo w' b o v' l' e w'') : e = .returned (.tuple #[]) /\ ∃ v'', RowCh w b o v w'' v'' l' := by
  obtain ⟨v'', he, ha, hf, hm⟩ := h'
  refine ⟨he, v'', ha, h.fr.trans' hf (fun k i hk hS => ?_), ?_⟩
  · rcases hS with hS | hS
    · exact .inl hS
    · rcases h.mv with e1 | ⟨g, e1, hg⟩
      · exact .inr (by rw [<- e1]; exact hS)
      · rw [e1] at hS; injection hS with hS; omega
  · rcases hm with e1 | ⟨g, e1, hg⟩
    · rcases h.mv with e2 | ⟨g, e2, hg⟩
      · exact .inl (e1.trans e2)
      · exact .inr ⟨g, e1.trans e2, hg⟩
    · exact .inr ⟨g, e1, Nat.le_trans h.fr.size hg⟩
theorem RowCh.to {w : World} {b o : Nat} {v : Value} {w' : World} {v' : Value} {l : List Bool} (h : RowCh w b o v w' v' l) : RowTo w b o v l (.returned (.tuple #[])) w' := ⟨v', rfl, h.at_, h.fr, h.mv⟩

theorem rowBits_any (b o : Nat) (v : Value) (l : List Bool) (u : Nat) (n : Int) (w : World) (hn1 : -9223372036854775808 <= n) (hn2 : n <= 9223372036854775807) (hu : u < 18446744073709551616) (h : RowAt w b o v l) (hn : l.length < 100000000000) :
    Calls Tryz.prog 125 #[.pointer (some ⟨b, o, none⟩), .int .u64 u, .int .i64 n] w (RowTo w b o v (l ++ bitsOf u (clip n))) := by
  have hcl := clip_le n
  rcases (show n < 0 \/ 0 <= n /\ n <= 64 \/ 64 < n by omega) with hc | hc | hc
  all_goals
    have hst : ∃ m : Nat, m = clip n /\ (m : Int) = min (max n 0) 64 := ⟨clip n, rfl, by unfold clip; omega⟩
    obtain ⟨m, hm1, hm2⟩ := hst
    rw [<- hm1] at hcl ⊢
    have HM := Lib.hid hm2
    clear hm1 hm2
    go_enter Tryz.func125, Tryz.ntmps125
    go_wp2_with fail
    go_loopw [6] (fun i wr => ∃ (k : Nat) (v' : Value) (pre : List Bool), k <= m /\ i = .int .i64 ((k : Int) - 1) /\ RowCh w b o v wr v' (l ++ pre) /\ pre.length <= 64 /\ pre.length + k = m /\ pre ++ bitsOf u k = bitsOf u m) (fun i _ => (intOf i + 1).toNat)
    case atStart => exact ⟨m, v, [], Nat.le_refl _, by rw [HM.out] <;> congr 1 <;> omega, by rw [List.append_nil]; exact RowCh.refl h, by simp, by simp, rfl⟩
    case round =>
      obtain ⟨k, v', pre, hk, rfl, hch, hpl, hpk, hpre⟩ := hrel
      have HP := Lib.hid hpre
      have HK := Lib.hid hpk
      clear hpre hpk
      by_cases h0 : 0 < k
      · go_wp2_with fail
        refine (rowBit_any b o v' (l ++ pre) _ wr hch.at_ (by rw [List.length_append]; omega)).mono ?_
        intro e w'' hto
        obtain ⟨rfl, v'', hch'⟩ := hch.step hto
        clear hto hch
        go_wp2_with fail
        go_roundw
        case rel =>
          refine ⟨k - 1, v'', pre ++ [u / 2 ^ (k - 1) % 2 == 1], by omega, by congr 1 <;> omega, ?_, by rw [List.length_append]; have := HK.out; simp; omega, by rw [List.length_append]; have := HK.out; simp; omega, ?_⟩
          · rw [<- bit_and u (k - 1) hu, <- List.append_assoc]
            exact hch'
          · rw [<- HP.out]
            obtain ⟨j, rfl⟩ : ∃ j, k = j + 1 := ⟨k - 1, by omega⟩
            rw [bitsOf, List.append_assoc]
            rfl
        case measure => simp [intOf]; omega
      · go_wp2_with fail
        go_end0
        have : k = 0 := by omega
        subst this
        have e1 : pre = bitsOf u m := by rw [<- HP.out, bitsOf, List.append_nil]
        rw [<- e1]
        exact hch.to

theorem rowUnary_any (b o : Nat) (v : Value) (l : List Bool) (n most : Int) (w : World) (hn1 : -9223372036854775808 <= n) (hn2 : n <= 9223372036854775807) (hm1 : -9223372036854775808 <= most) (hm2 : most <= 100000)
    (h : RowAt w b o v l) (hn : l.length < 100000000000) :
    Calls Tryz.prog 145 #[.pointer (some ⟨b, o, none⟩), .int .i64 n, .int .i64 most] w (RowTo w b o v (l ++ unary n most)) := by
  have hcl : ones n most <= 100000 := by unfold ones; omega
  have hst : ∃ m : Nat, m = ones n most /\ (m : Int) = min (max n 0) (max most 0) := ⟨ones n most, rfl, by unfold ones; omega⟩
  obtain ⟨m, hm3, hm4⟩ := hst
  have hun : unary n most = List.replicate m true ++ if (m : Int) < most then [false] else [] := by rw [hm3]; rfl
  have HU := Lib.hid hun
  rw [<- hm3] at hcl
  have hA1 : (m : Int) <= max n 0 := by omega
  have hA2 : (m : Int) <= max most 0 := by omega
  have hA3 : max n 0 <= (m : Int) \/ max most 0 <= (m : Int) := by omega
  clear hm3 hm4 hun
  rcases (show n < 0 /\ most < 0 \/ n < 0 /\ most <= 0 /\ 0 <= most \/ n < 0 /\ 0 < most \/ most < 0 /\ n <= 0 /\ 0 <= n \/ 0 < n /\ most < 0 \/ 0 <= n /\ 0 <= most /\ n < most \/ 0 <= n /\ n <= most /\ most <= n \/ 0 <= n /\ 0 <= most /\ most < n by omega) with hc | hc | hc | hc | hc | hc | hc | hc
  all_goals
    go_enter Tryz.func145, Tryz.ntmps145
    go_wp2_with fail
    go_loopw [12] (fun i wr => ∃ (k : Nat) (v' : Value), k <= m /\ i = .int .i64 k /\ RowCh w b o v wr v' (l ++ List.replicate k true)) (fun i _ => m - (intOf i).toNat)
    case atStart => exact ⟨0, v, Nat.zero_le _, rfl, by rw [List.replicate_zero, List.append_nil]; exact RowCh.refl h⟩
    case round =>
      obtain ⟨k, v', hk, rfl, hch⟩ := hrel
      have HC := Lib.hid hch
      clear hch
      by_cases h0 : k < m
      · first
        | (exfalso; omega)
        | (go_wp2_with fail
           refine (rowBit_any b o v' (l ++ List.replicate k true) _ wr HC.out.at_ (by rw [List.length_append, List.length_replicate]; omega)).mono ?_
           intro e w'' hto
           obtain ⟨rfl, v'', hch'⟩ := HC.out.step hto
           have HD := Lib.hid hch'
           clear hto hch' HC
           go_wp2_with fail
           go_roundw
           case rel => exact ⟨k + 1, v'', by omega, by go_num, by rw [List.replicate_succ', <- List.append_assoc]; exact HD.out⟩
           case measure => simp [intOf]; omega)
      · obtain rfl : k = m := by omega
        by_cases hlt : (k : Int) < most
        · first
          | (exfalso; omega)
          | (go_wp2_with fail
             refine (rowBit_any b o v' (l ++ List.replicate k true) _ wr HC.out.at_ (by rw [List.length_append, List.length_replicate]; omega)).mono ?_
             intro e w'' hto
             obtain ⟨rfl, v'', hch'⟩ := HC.out.step hto
             have HD := Lib.hid hch'
             clear hto hch' HC
             go_wp2_with fail
             go_end0
             rw [HU.out, if_pos (by omega), <- List.append_assoc]
             exact HD.out.to)
        · first
          | (exfalso; omega)
          | (go_wp2_with fail
             go_end0
             rw [HU.out, if_neg (by omega), List.append_nil]
             exact HC.out.to)

theorem rowText_any (b o : Nat) (v : Value) (l : List Bool) (w : World) (h : RowAt w b o v l) :
    Calls Tryz.prog 130 #[.pointer (some ⟨b, o, none⟩)] w fun e w' => e = .returned (.string (bs (pack l))) /\ w = w' := by
  have hc := h.buf.string bbytes_ty 9 Tryz.underlying9
  obtain ⟨A, c, rfl, _⟩ := Buf.shape h.buf
  obtain ⟨c0, c1, f0, f1, hb, hne⟩ := h
  clear hb hne
  go_enter Tryz.func130, Tryz.ntmps130
  go_wp2
  go_ret
  exact ⟨rfl, rfl⟩

theorem rowLen_any (b o : Nat) (v : Value) (l : List Bool) (w : World) (h : RowAt w b o v l) :
    Calls Tryz.prog 129 #[.pointer (some ⟨b, o, none⟩)] w fun e w' => e = .returned (.int .i64 l.length) /\ w = w' := by
  obtain ⟨c0, c1, f0, f1, hb, hne⟩ := h
  clear hb hne
  go_enter Tryz.func129, Tryz.ntmps129
  go_wp2
  go_ret
  exact ⟨rfl, rfl⟩

theorem width_any (u : Nat) (w : World) (hu : u < 18446744073709551616) :
    Calls Tryz.prog 144 #[.int .u64 u] w fun e w' => e = .returned (.int .i64 (width u)) /\ w = w' := by
  have hw := width_le u hu
  go_enter Tryz.func144, Tryz.ntmps144
  go_wp2
  go_loop [0, 3] (fun v n => ∃ k c : Nat, k < 18446744073709551616 /\ v = .int .u64 k /\ n = .int .i64 c /\ c + width k = width u) (fun v _ => (intOf v).toNat)
  case atStart => exact ⟨u, 0, hu, rfl, rfl, Nat.zero_add _⟩
  case round =>
    obtain ⟨k, c, hk, rfl, rfl, hc⟩ := hrel
    have hcl : c <= 64 := by omega
    have HC := Lib.hid hc
    clear hc
    by_cases h0 : 0 < k
    · go_wp2
      go_round
      case rel => exact ⟨k / 2, c + 1, by omega, by go_num, by go_num, by rw [<- HC.out, width_pos k h0]; omega⟩
      case measure => simp [intOf]; omega
    · go_wp2
      go_ret
      obtain rfl : k = 0 := by omega
      rw [<- HC.out, width_zero]
      exact ⟨rfl, rfl⟩

end Go.Proofs.YtgabmfibfikdbaaGreatDoor

set_option maxHeartbeats 32000000
set_option maxRecDepth 10000
namespace Go.Proofs.YtgabmfibfikdbaaGreatDoor
open Go.RowKit Go.Bar Go.Bar.Bit

structure EyeAt (w : World) (b o : Nat) (L : List Bool) (p e : Nat) : Prop where
  bits : ∃ s : List UInt8, w.cell? ⟨b, o, none⟩ = some (.string (bs s)) /\ L.length <= 8 * s.length /\ L = (unpack s).take L.length
  c1 : w.cell? ⟨b, o + 1, none⟩ = some (.int .i64 (L.length : Int))
  c2 : w.cell? ⟨b, o + 2, none⟩ = some (.int .i64 (p : Int))
  c3 : w.cell? ⟨b, o + 3, none⟩ = some (.int .i64 (e : Int))
  f2 : w.frozen? ⟨b, o + 2, none⟩ = false
  f3 : w.frozen? ⟨b, o + 3, none⟩ = false
  le : p <= L.length

def EyeS (b o k i : Nat) : Prop := k = b /\ (i = o + 2 \/ i = o + 3)
def EyeTo (w : World) (b o : Nat) (L : List Bool) (v : Value) (p e : Nat) (en : Ending) (w' : World) : Prop := en = .returned v /\ EyeAt w' b o L p e /\ Fr (EyeS b o) w w'

theorem EyeAt.at_ {w : World} {b o : Nat} {L : List Bool} {p e q : Nat} (h : EyeAt w b o L p e) (hq : q <= L.length) : EyeAt (w.setCell ⟨b, o + 2, none⟩ (.int .i64 (q : Int))) b o L q e := by
  have hb : Fr (fun k i => k = b /\ i = o + 2) w (w.setCell ⟨b, o + 2, none⟩ (.int .i64 (q : Int))) := (Fr.refl _ _).setCell (fun _ => ⟨rfl, rfl⟩) _
  obtain ⟨⟨s, hs, hl, hL⟩, c1, c2, c3, f2, f3, le⟩ := h
  exact ⟨⟨s, hb.cell hs (fun e => by omega), hl, hL⟩, hb.cell c1 (fun e => by omega), by rw [World.cell?_setCell_same w _ _ c2], hb.cell c3 (fun e => by omega), hb.free c2 f2, hb.free c3 f3, hq⟩
theorem EyeAt.bad {w : World} {b o : Nat} {L : List Bool} {p e q : Nat} (h : EyeAt w b o L p e) : EyeAt (w.setCell ⟨b, o + 3, none⟩ (.int .i64 (q : Int))) b o L p q := by
  have hb : Fr (fun k i => k = b /\ i = o + 3) w (w.setCell ⟨b, o + 3, none⟩ (.int .i64 (q : Int))) := (Fr.refl _ _).setCell (fun _ => ⟨rfl, rfl⟩) _
  obtain ⟨⟨s, hs, hl, hL⟩, c1, c2, c3, f2, f3, le⟩ := h
  exact ⟨⟨s, hb.cell hs (fun e => by omega), hl, hL⟩, hb.cell c1 (fun e => by omega), hb.cell c2 (fun e => by omega), by rw [World.cell?_setCell_same w _ _ c3], hb.free c2 f2, hb.free c3 f3, le⟩
theorem EyeAt.drewN {w : World} {b o : Nat} {L : List Bool} {p e : Nat} (h : EyeAt w b o L p e) (n : Nat) : EyeAt (w.drewN n) b o L p e := ⟨h.bits, h.c1, h.c2, h.c3, h.f2, h.f3, h.le⟩
theorem EyeAt.keep {S : Nat -> Nat -> Prop} {w w' : World} {b o : Nat} {L : List Bool} {p e : Nat} (h : EyeAt w b o L p e) (hf : Fr S w w') (hS : ∀ i, o <= i -> i <= o + 3 -> ¬ S b i) : EyeAt w' b o L p e := by
  obtain ⟨⟨s, hs, hl, hL⟩, c1, c2, c3, f2, f3, le⟩ := h
  exact ⟨⟨s, hf.cell hs (hS _ (by omega) (by omega)), hl, hL⟩, hf.cell c1 (hS _ (by omega) (by omega)), hf.cell c2 (hS _ (by omega) (by omega)), hf.cell c3 (hS _ (by omega) (by omega)), hf.free c2 f2, hf.free c3 f3, le⟩

theorem eyeBit_bad (b o : Nat) (L : List Bool) (p e : Nat) (w : World) (h : EyeAt w b o L p e) (he : e ≠ 0) :
    Calls Tryz.prog 122 #[.pointer (some ⟨b, o, none⟩)] w (EyeTo w b o L (.bool false) p e) := by
  have H := Lib.hid h
  obtain ⟨⟨s, hs, hl, hL⟩, c1, c2, c3, f2, f3, le⟩ := h
  have k1 : ((e : Int) == 0) = false := by rw [beq_eq_false_iff_ne]; omega
  have k2 : ((e : Int) != 0) = true := by rw [bne_iff_ne]; omega
  clear hL he
  go_enter Tryz.func122, Tryz.ntmps122
  go_wp2
  go_quiet (fail)
  go_wp2
  go_ret
  exact ⟨rfl, H.out.drewN _, (Fr.refl _ _).drewN _⟩

theorem eyeBit_end (b o : Nat) (L : List Bool) (p : Nat) (w : World) (h : EyeAt w b o L p 0) (hp : L.length <= p) :
    Calls Tryz.prog 122 #[.pointer (some ⟨b, o, none⟩)] w (EyeTo w b o L (.bool false) p 2) := by
  have hfin : ∀ n, EyeTo w b o L (.bool false) p 2 (.returned (.bool false)) ((w.setCell ⟨b, o + 3, none⟩ (.int .i64 2)).drewN n) := fun n => ⟨rfl, (h.bad (q := 2)).drewN n, ((Fr.refl _ _).setCell (fun _ => ⟨rfl, .inr rfl⟩) _).drewN n⟩
  obtain ⟨⟨s, hs, hl, hL⟩, c1, c2, c3, f2, f3, le⟩ := h
  clear hL
  go_enter Tryz.func122, Tryz.ntmps122
  go_wp2
  go_quiet (fail)
  go_wp2
  go_ret
  exact hfin nq

theorem eyeBit_ok (b o : Nat) (L : List Bool) (p : Nat) (w : World) (h : EyeAt w b o L p 0) (hp : p < L.length) (hn : L.length < 100000000000) :
    Calls Tryz.prog 122 #[.pointer (some ⟨b, o, none⟩)] w (EyeTo w b o L (.bool (L.getD p false)) (p + 1) 0) := by
  have hfin : ∀ n, EyeTo w b o L (.bool (L.getD p false)) (p + 1) 0 (.returned (.bool (L.getD p false))) ((w.setCell ⟨b, o + 2, none⟩ (.int .i64 ((p : Int) + 1))).drewN n) := fun n =>
    ⟨rfl, (h.at_ (q := p + 1) (by omega)).drewN n, ((Fr.refl _ _).setCell (fun _ => ⟨rfl, .inl rfl⟩) _).drewN n⟩
  obtain ⟨⟨s, hs, hl, hL⟩, c1, c2, c3, f2, f3, le⟩ := h
  have hps : p / 8 < s.length := by omega
  have hg : L.getD p false = bitOf s[p / 8] (p % 8) := by
    rw [hL, List.getD, List.getElem?_take, if_pos hp, unpack_get s p (by omega)]
    simp [List.getD, List.getElem?_eq_getElem hps]
  rw [hg] at hfin ⊢
  have hx : (bs s)[p / 8]'hps = s[p / 8] := rfl
  have hsh := bit_shl s[p / 8] (p % 8) (Nat.mod_lt _ (by omega))
  have h7 := i64_and7 p (by omega)
  have h9 : p % 8 < 8 := Nat.mod_lt _ (by omega)
  have hsz : p / 8 < (bs s).size := hps
  have i0 : (0 : Int) <= (p : Int) / 8 := by omega
  have i1 : (p : Int) / 8 < (s.length : Int) := by omega
  have HG := Lib.hid hg
  clear hL hg
  go_enter Tryz.func122, Tryz.ntmps122
  go_wp2
  go_quiet (fail)
  go_wp2
  go_quiet (fail)
  go_wp2
  go_ret
  rw [<- hsh] at hfin ⊢
  exact hfin _

theorem eyeBit_any (b o : Nat) (L : List Bool) (p e : Nat) (w : World) (h : EyeAt w b o L p e) (hn : L.length < 100000000000) :
    Calls Tryz.prog 122 #[.pointer (some ⟨b, o, none⟩)] w (EyeTo w b o L (.bool (eyeBit L p e).1) (eyeBit L p e).2.1 (eyeBit L p e).2.2) := by
  unfold eyeBit
  by_cases he : e = 0
  · subst he
    rw [if_neg (fun h => h rfl)]
    by_cases hp : p < L.length
    · rw [if_pos hp]; exact eyeBit_ok b o L p w h hp hn
    · rw [if_neg hp]; exact eyeBit_end b o L p w h (by omega)
  · rw [if_pos he]; exact eyeBit_bad b o L p e w h he

theorem eyeLeft_any (b o : Nat) (L : List Bool) (p e : Nat) (w : World) (h : EyeAt w b o L p e) (hn : L.length < 100000000000) :
    Calls Tryz.prog 121 #[.pointer (some ⟨b, o, none⟩)] w fun en w' => en = .returned (.int .i64 ((L.length : Int) - p)) /\ ∃ n, w' = w.drewN n := by
  obtain ⟨⟨s, hs, hl, hL⟩, c1, c2, c3, f2, f3, le⟩ := h
  clear hL
  go_enter Tryz.func121, Tryz.ntmps121
  go_wp2
  go_quiet (fail)
  go_wp2
  go_ret
  exact ⟨rfl, _, rfl⟩

theorem eyeErr_any (b o : Nat) (L : List Bool) (p e : Nat) (w : World) (h : EyeAt w b o L p e) :
    Calls Tryz.prog 104 #[.pointer (some ⟨b, o, none⟩)] w fun en w' => en = .returned (.int .i64 e) /\ w = w' := by
  obtain ⟨⟨s, hs, hl, hL⟩, c1, c2, c3, f2, f3, le⟩ := h
  clear hL
  go_enter Tryz.func104, Tryz.ntmps104
  go_wp2
  go_ret
  exact ⟨rfl, rfl⟩

def clipTo (n : Int) (m : Nat) : Nat := (min (max n 0) m).toNat

theorem over_any (s : List UInt8) (n : Int) (w : World) (hn1 : -9223372036854775808 <= n) (hn2 : n <= 9223372036854775807) (hs : s.length < 10000000000) :
    Calls Tryz.prog 82 #[.string (bs s), .int .i64 n] w fun en w' => en = .returned (.pointer (some ⟨w.heap.size, 0, none⟩)) /\ EyeAt w' w.heap.size 0 ((unpack s).take (clipTo n (8 * s.length))) 0 0 /\ Below w.heap.size w w' := by
  obtain ⟨m, hm1, hm2⟩ : ∃ m : Nat, m = clipTo n (8 * s.length) /\ (m : Int) = min (max n 0) ((8 * s.length : Nat) : Int) := ⟨_, rfl, by unfold clipTo; omega⟩
  rw [<- hm1]
  have hlen : ((unpack s).take m).length = m := by rw [List.length_take, unpack_length]; omega
  have hfin : ∀ k : Int, k = (m : Int) -> EyeAt (w.alloc (.cells #[.string (bs s), .int .i64 k, .int .i64 0, .int .i64 0] 203)) w.heap.size 0 ((unpack s).take m) 0 0 := by
    rintro k rfl
    refine ⟨⟨s, ?_, by rw [hlen]; omega, by rw [hlen]⟩, ?_, ?_, ?_, ?_, ?_, Nat.zero_le _⟩
    · rw [World.cell?_alloc_new]; rfl
    · rw [World.cell?_alloc_new, hlen]; rfl
    · rw [World.cell?_alloc_new]; rfl
    · rw [World.cell?_alloc_new]; rfl
    · exact World.frozen?_alloc_new w _ _ _
    · exact World.frozen?_alloc_new w _ _ _
  have HF := Lib.hid hfin
  have hA1 : (m : Int) <= max n 0 := by omega
  have hA2 : (m : Int) <= 8 * (s.length : Int) := by omega
  have hA3 : max n 0 <= (m : Int) \/ 8 * (s.length : Int) <= (m : Int) := by omega
  clear hm1 hm2 hlen hfin
  go_enter Tryz.func82, Tryz.ntmps82
  go_wp2
  all_goals
    go_ret
    exact ⟨rfl, HF.out _ (by omega), (Below.refl _ _).alloc (Nat.le_refl _) _⟩

theorem EyeTo.trans {w w' w'' : World} {b o : Nat} {L : List Bool} {v : Value} {p e : Nat} {en : Ending} (h : Fr (EyeS b o) w w') (h' : EyeTo w' b o L v p e en w'') : EyeTo w b o L v p e en w'' := ⟨h'.1, h'.2.1, h.trans h'.2.2⟩

theorem eyeBits_bad (b o : Nat) (L : List Bool) (p e : Nat) (n : Int) (w : World) (h : EyeAt w b o L p e) (hn1 : -9223372036854775808 <= n) (hn2 : n <= 9223372036854775807) (he : e ≠ 0) :
    Calls Tryz.prog 103 #[.pointer (some ⟨b, o, none⟩), .int .i64 n] w (EyeTo w b o L (.int .u64 0) p e) := by
  have hcl := clip_le n
  obtain ⟨m, hm1, hm2⟩ : ∃ m : Nat, m = clip n /\ (m : Int) = min (max n 0) 64 := ⟨clip n, rfl, by unfold clip; omega⟩
  rw [<- hm1] at hcl
  have hA1 : (m : Int) <= max n 0 := by omega
  have hA3 : max n 0 <= (m : Int) \/ 64 <= (m : Int) := by omega
  clear hm1 hm2
  have H := Lib.hid h
  have HE := Lib.hid he
  obtain ⟨⟨s, hs, hl, hL⟩, c1, c2, c3, f2, f3, le⟩ := h
  have k1 : ((e : Int) == 0) = false := by rw [beq_eq_false_iff_ne]; omega
  clear hL he
  rcases (show n < 0 \/ 0 <= n /\ n <= 64 \/ 64 < n by omega) with hc | hc | hc
  all_goals
    go_enter Tryz.func103, Tryz.ntmps103
    go_wp2_with fail
    go_loopw [5, 24] (fun x i wr => ∃ k : Nat, k <= m /\ i = .int .i64 k /\ x = .int .u64 0 /\ EyeAt wr b o L p e /\ Fr (EyeS b o) w wr) (fun _ i _ => m - (intOf i).toNat)
    case atStart => exact ⟨0, Nat.zero_le _, rfl, rfl, H.out, Fr.refl _ _⟩
    case round =>
      obtain ⟨k, hk, rfl, rfl, hat, hfr⟩ := hrel
      have HA := Lib.hid hat
      clear hat
      by_cases h0 : k < m
      · first
        | (exfalso; omega)
        | (go_wp2_with fail
           refine (eyeBit_bad b o L p e _ HA.out HE.out).mono ?_
           rintro en w'' ⟨rfl, hat', hfr'⟩
           have HB := Lib.hid hat'
           clear hat'
           go_wp2_with fail
           go_roundw
           case rel => exact ⟨k + 1, by omega, by go_num, rfl, HB.out, hfr.trans hfr'⟩
           case measure => simp [intOf]; omega)
      · go_wp2_with fail
        go_ret
        exact ⟨rfl, HA.out, hfr⟩

theorem eyeBits_end (b o : Nat) (L : List Bool) (p : Nat) (n : Int) (w : World) (h : EyeAt w b o L p 0) (hn : L.length < 100000000000) (hn1 : -9223372036854775808 <= n) (hn2 : n <= 9223372036854775807) (hlt : L.length - p < clip n) :
    Calls Tryz.prog 103 #[.pointer (some ⟨b, o, none⟩), .int .i64 n] w (EyeTo w b o L (.int .u64 0) p 2) := by
  have hcl := clip_le n
  obtain ⟨m, hm1, hm2⟩ : ∃ m : Nat, m = clip n /\ (m : Int) = min (max n 0) 64 := ⟨clip n, rfl, by unfold clip; omega⟩
  rw [<- hm1] at hcl hlt
  have hA1 : (m : Int) <= max n 0 := by omega
  have hA3 : max n 0 <= (m : Int) \/ 64 <= (m : Int) := by omega
  clear hm1 hm2
  have H := Lib.hid h
  have le0 := h.le
  have c3 := h.c3
  have f3 := h.f3
  have hlt2 : (L.length : Int) - p < (m : Int) := by omega
  clear h hlt
  rcases (show n < 0 \/ 0 <= n /\ n <= 64 \/ 64 < n by omega) with hc | hc | hc
  · exfalso; omega
  all_goals
    have hd1 : decide ((L.length : Int) - (p : Int) < n) = true := by simp only [decide_eq_true_eq]; omega
    have hd2 : decide ((L.length : Int) - (p : Int) < 64) = true := by simp only [decide_eq_true_eq]; omega
    go_enter Tryz.func103, Tryz.ntmps103
    go_wp2_with fail
    refine (eyeLeft_any b o L p 0 _ H.out hn).mono ?_
    rintro en w1 ⟨rfl, nq, rfl⟩
    go_wp2_with fail
    go_loopw [5, 24] (fun x i wr => ∃ k : Nat, k <= m /\ i = .int .i64 k /\ x = .int .u64 0 /\ EyeAt wr b o L p 2 /\ Fr (EyeS b o) w wr) (fun _ i _ => m - (intOf i).toNat)
    case atStart => exact ⟨0, Nat.zero_le _, rfl, rfl, (H.out.drewN nq).bad (q := 2), ((Fr.refl _ _).drewN nq).setCell (fun _ => ⟨rfl, .inr rfl⟩) _⟩
    case round =>
      obtain ⟨k, hk, rfl, rfl, hat, hfr⟩ := hrel
      have HA := Lib.hid hat
      clear hat
      by_cases h0 : k < m
      · go_wp2_with fail
        refine (eyeBit_bad b o L p 2 _ HA.out (by decide)).mono ?_
        rintro en w'' ⟨rfl, hat', hfr'⟩
        have HB := Lib.hid hat'
        clear hat'
        go_wp2_with fail
        go_roundw
        case rel => first | exact ⟨k + 1, by omega, by go_num, rfl, HB.out, hfr.trans hfr'⟩ | ((repeat apply Exists.intro); exact ⟨⟨k + 1, by omega, by go_num, rfl, HB.out, hfr.trans hfr'⟩, rfl⟩)
        case measure => simp [intOf]; omega
      · go_wp2_with fail
        go_ret
        exact ⟨rfl, HA.out, hfr⟩

theorem eyeBits_ok (b o : Nat) (L : List Bool) (p : Nat) (n : Int) (w : World) (h : EyeAt w b o L p 0) (hn : L.length < 100000000000) (hn1 : -9223372036854775808 <= n) (hn2 : n <= 9223372036854775807) (hlt : clip n <= L.length - p) :
    Calls Tryz.prog 103 #[.pointer (some ⟨b, o, none⟩), .int .i64 n] w (EyeTo w b o L (.int .u64 (num ((L.drop p).take (clip n)) : Nat)) (p + clip n) 0) := by
  have hcl := clip_le n
  obtain ⟨m, hm1, hm2⟩ : ∃ m : Nat, m = clip n /\ (m : Int) = min (max n 0) 64 := ⟨clip n, rfl, by unfold clip; omega⟩
  rw [<- hm1] at hcl hlt ⊢
  have hA1 : (m : Int) <= max n 0 := by omega
  have hA3 : max n 0 <= (m : Int) \/ 64 <= (m : Int) := by omega
  clear hm1 hm2
  have H := Lib.hid h
  have le0 := h.le
  have c3 := h.c3
  have f3 := h.f3
  have hlt2 : (m : Int) <= (L.length : Int) - p := by omega
  clear h hlt
  rcases (show n < 0 \/ 0 <= n /\ n <= 64 \/ 64 < n by omega) with hc | hc | hc
  all_goals
    go_enter Tryz.func103, Tryz.ntmps103
    go_wp2_with fail
    refine (eyeLeft_any b o L p 0 _ H.out hn).mono ?_
    rintro en w1 ⟨rfl, nq, rfl⟩
    go_wp2_with fail
    go_loopw [5, 24] (fun x i wr => ∃ k : Nat, k <= m /\ i = .int .i64 k /\ x = .int .u64 (num ((L.drop p).take k) : Nat) /\ EyeAt wr b o L (p + k) 0 /\ Fr (EyeS b o) w wr) (fun _ i _ => m - (intOf i).toNat)
    case atStart => exact ⟨0, Nat.zero_le _, rfl, rfl, H.out.drewN nq, (Fr.refl _ _).drewN nq⟩
    case round =>
      obtain ⟨k, hk, rfl, rfl, hat, hfr⟩ := hrel
      have HA := Lib.hid hat
      clear hat
      by_cases h0 : k < m
      · first
        | (exfalso; omega)
        | (have hv := num_lt k ((L.drop p).take k) (by rw [List.length_take, List.length_drop]; omega)
           have hvp : 2 ^ k <= 2 ^ 63 := Nat.pow_le_pow_right (by omega) (by omega)
           obtain ⟨x, hx⟩ : ∃ x, x = num ((L.drop p).take k) := ⟨_, rfl⟩
           rw [<- hx] at hv ⊢
           have hx63 : x < 9223372036854775808 := by omega
           have HX := Lib.hid hx
           clear hx hv hvp
           have hor := or_one x hx63
           go_wp2_with fail
           refine (eyeBit_ok b o L (p + k) _ HA.out (by omega) hn).mono ?_
           rintro en w'' ⟨rfl, hat', hfr'⟩
           have HB := Lib.hid hat'
           clear hat'
           cases hgd : L.getD (p + k) false
           all_goals
             have HG := Lib.hid hgd
             clear hgd
             go_wp2_with fail
             go_roundw
             case rel => exact ⟨k + 1, by omega, by go_num, by rw [take_next L p k (by omega), num_snoc, <- HX.out, HG.out]; first | (rw [hor _ (by go_num)]; rfl) | go_num, HB.out, hfr.trans hfr'⟩
             case measure => simp [intOf]; omega)
      · go_wp2_with fail
        go_ret
        obtain rfl : k = m := by omega
        exact ⟨rfl, HA.out, hfr⟩

theorem eyeBits_any (b o : Nat) (L : List Bool) (p e : Nat) (n : Int) (w : World) (h : EyeAt w b o L p e) (hn : L.length < 100000000000) (hn1 : -9223372036854775808 <= n) (hn2 : n <= 9223372036854775807) :
    Calls Tryz.prog 103 #[.pointer (some ⟨b, o, none⟩), .int .i64 n] w (EyeTo w b o L (.int .u64 ((eyeBits L p e n).1 : Nat)) (eyeBits L p e n).2.1 (eyeBits L p e n).2.2) := by
  unfold eyeBits
  by_cases he : e = 0
  · subst he
    rw [if_neg (fun h => h rfl)]
    by_cases hlt : L.length - p < clip n
    · rw [if_pos hlt]; exact eyeBits_end b o L p n w h hn hn1 hn2 hlt
    · rw [if_neg hlt]; exact eyeBits_ok b o L p n w h hn hn1 hn2 (by omega)
  · rw [if_pos he]; exact eyeBits_bad b o L p e n w h hn1 hn2 he

theorem eyeUnary_bad (b o : Nat) (L : List Bool) (p e : Nat) (most : Int) (w : World) (h : EyeAt w b o L p e) (he : e ≠ 0) :
    Calls Tryz.prog 123 #[.pointer (some ⟨b, o, none⟩), .int .i64 most] w (EyeTo w b o L (.int .i64 0) p e) := by
  have H := Lib.hid h
  have HE := Lib.hid he
  have k2 : ((e : Int) != 0) = true := by rw [bne_iff_ne]; omega
  have c3 := h.c3
  clear h he
  by_cases hm : 0 < most
  all_goals
    go_enter Tryz.func123, Tryz.ntmps123
    go_wp2_with fail
    go_loopw [5] (fun x wr => x = .int .i64 0 /\ wr = w) (fun _ _ => 0)
    case atStart => exact ⟨rfl, rfl⟩
    case round =>
      obtain ⟨rfl, rfl⟩ := hrel
      first
      | (go_wp2_with fail
         go_ret
         exact ⟨rfl, H.out, Fr.refl _ _⟩)
      | (go_wp2_with fail
         refine (eyeBit_bad b o L p e _ H.out HE.out).mono ?_
         rintro en w'' ⟨rfl, hat', hfr'⟩
         have d3 := hat'.c3
         have HB := Lib.hid hat'
         clear hat'
         go_wp2_with fail
         go_ret
         exact ⟨rfl, HB.out, hfr'⟩)

theorem eyeUnary_ok (b o : Nat) (L : List Bool) (p : Nat) (most : Int) (w : World) (h : EyeAt w b o L p 0) (hn : L.length < 100000000000) (hm2 : most <= 9223372036854775807) :
    Calls Tryz.prog 123 #[.pointer (some ⟨b, o, none⟩), .int .i64 most] w (EyeTo w b o L (.int .i64 ((eyeUnary L p 0 most).1 : Nat)) (eyeUnary L p 0 most).2.1 (eyeUnary L p 0 most).2.2) := by
  have H := Lib.hid h
  clear h
  obtain ⟨m, hm⟩ : ∃ m, m = most.toNat := ⟨_, rfl⟩
  have hA1 : (m : Int) <= max most 0 := by omega
  have hA2 : max most 0 <= (m : Int) := by omega
  have hun : eyeUnary L p 0 most = if run L p m = m then (m, p + m, 0) else if p + run L p m < L.length then (run L p m, p + run L p m + 1, 0) else (0, p + run L p m, 2) := by
    unfold eyeUnary; rw [if_neg (fun h => h rfl), <- hm]
  have HU := Lib.hid hun
  have HM := Lib.hid hm
  clear hm hun
  go_enter Tryz.func123, Tryz.ntmps123
  go_wp2_with fail
  go_loopw [5] (fun x wr => ∃ k : Nat, k <= m /\ x = .int .i64 k /\ run L p m = k + run L (p + k) (m - k) /\ EyeAt wr b o L (p + k) 0 /\ Fr (EyeS b o) w wr) (fun x _ => m - (intOf x).toNat)
  case atStart => exact ⟨0, Nat.zero_le _, rfl, by simp, H.out, Fr.refl _ _⟩
  case round =>
    obtain ⟨k, hk, rfl, hrun, hat, hfr⟩ := hrel
    have HA := Lib.hid hat
    have HR := Lib.hid hrun
    have c3 := hat.c3
    have hle := hat.le
    clear hat hrun
    by_cases h0 : k < m
    · have h1 : (k : Int) < most := by omega
      have hmk : m - k = (m - (k + 1)) + 1 := by omega
      have HK := Lib.hid hmk
      clear hmk
      by_cases hp : p + k < L.length
      · cases hgd : L.getD (p + k) false
        · have hfin : run L p m = k := by rw [HR.out, HK.out, run_false L (p + k) _ hgd]; rfl
          have HF := Lib.hid hfin
          have HG := Lib.hid hgd
          clear hfin hgd
          go_wp2_with fail
          refine (eyeBit_ok b o L (p + k) _ HA.out hp hn).mono ?_
          rw [HG.out]
          rintro en w'' ⟨rfl, hat', hfr'⟩
          have d3 := hat'.c3
          have HB := Lib.hid hat'
          clear hat' c3
          go_wp2_with fail
          go_ret
          rw [HU.out, HF.out, if_neg (by omega), if_pos hp]
          exact ⟨rfl, HB.out, hfr.trans hfr'⟩
        · have hfin : run L p m = (k + 1) + run L (p + (k + 1)) (m - (k + 1)) := by rw [HR.out, HK.out, run_true L (p + k) _ hgd, Nat.add_assoc p k 1]; omega
          have HF := Lib.hid hfin
          have HG := Lib.hid hgd
          clear hfin hgd
          go_wp2_with fail
          refine (eyeBit_ok b o L (p + k) _ HA.out hp hn).mono ?_
          rw [HG.out]
          rintro en w'' ⟨rfl, hat', hfr'⟩
          have HB := Lib.hid hat'
          clear hat' c3
          go_wp2_with fail
          go_roundw
          case rel => exact ⟨k + 1, by omega, by go_num, HF.out, HB.out, hfr.trans hfr'⟩
          case measure => simp [intOf]; omega
      · have hgd : L.getD (p + k) false = false := by simp [List.getD, List.getElem?_eq_none (show L.length <= p + k by omega)]
        have hfin : run L p m = k := by rw [HR.out, HK.out, run_false L (p + k) _ hgd]; rfl
        have HF := Lib.hid hfin
        clear hfin hgd
        go_wp2_with fail
        refine (eyeBit_end b o L (p + k) _ HA.out (by omega)).mono ?_
        rintro en w'' ⟨rfl, hat', hfr'⟩
        have d3 := hat'.c3
        have HB := Lib.hid hat'
        clear hat' c3
        go_wp2_with fail
        go_ret
        rw [HU.out, HF.out, if_neg (by omega), if_neg hp]
        exact ⟨rfl, HB.out, hfr.trans hfr'⟩
    · obtain rfl : k = m := by omega
      have hfin : run L p k = k := by rw [HR.out, Nat.sub_self]; rfl
      have HF := Lib.hid hfin
      clear hfin
      have h1 : most <= (k : Int) := by omega
      go_wp2_with fail
      go_ret
      rw [HU.out, HF.out, if_pos rfl]
      exact ⟨rfl, HA.out, hfr⟩

theorem eyeUnary_any (b o : Nat) (L : List Bool) (p e : Nat) (most : Int) (w : World) (h : EyeAt w b o L p e) (hn : L.length < 100000000000) (hm2 : most <= 9223372036854775807) :
    Calls Tryz.prog 123 #[.pointer (some ⟨b, o, none⟩), .int .i64 most] w (EyeTo w b o L (.int .i64 ((eyeUnary L p e most).1 : Nat)) (eyeUnary L p e most).2.1 (eyeUnary L p e most).2.2) := by
  by_cases he : e = 0
  · subst he; exact eyeUnary_ok b o L p most w h hn hm2
  · unfold eyeUnary; rw [if_pos he]; exact eyeUnary_bad b o L p e most w h he

end Go.Proofs.YtgabmfibfikdbaaGreatDoor

set_option maxHeartbeats 32000000
set_option maxRecDepth 10000
namespace Go.Proofs.YtgabmfibfikdbaaGreatDoor
open Go.RowKit Go.Bar Go.Bar.Bit

theorem bools_ty : ElemTy Tryz.prog 180 4 (.bool false) 1 1 :=
  ⟨Tryz.underlying180, info_parts (show (Tryz.prog.info? 4).map (fun i => (i.zero, i.size, i.bytes)) = some (some (.bool false), 1, 1) by kernel_rfl), rfl⟩

def bls (l : List Bool) : List Value := l.map .bool
theorem bls_length (l : List Bool) : (bls l).length = l.length := List.length_map _
theorem bls_one (l : List Bool) : ∀ u ∈ bls l, u.oneCell' = true := by
  intro u hu
  obtain ⟨x, _, rfl⟩ := List.mem_map.1 hu
  rfl
structure BoolsAt (B : Nat) (w : World) (v : Value) (l : List Bool) : Prop where
  buf : Buf w 4 1 v l.length (bls l)
  new : ∀ k, v.ownBlock = some k -> B <= k
def RetBools (W : World) (l : List Bool) (en : Ending) (w' : World) : Prop := ∃ v, en = .returned v /\ BoolsAt W.heap.size w' v l /\ Below W.heap.size W w'
theorem BoolsAt.below {B : Nat} {w w' : World} {v : Value} {l : List Bool} (h : BoolsAt B w v l) (hb : Below w.heap.size w w') : BoolsAt B w' v l := ⟨h.buf.below hb, h.new⟩
theorem BoolsAt.alloc {B : Nat} {w : World} {v : Value} {l : List Bool} (h : BoolsAt B w v l) (o : Obj) : BoolsAt B (w.alloc o) v l := ⟨h.buf.alloc o, h.new⟩
theorem BoolsAt.empty {B : Nat} {w : World} (h : B <= w.heap.size) : BoolsAt B (w.alloc (.cells #[] 4)) (.slice (some ⟨w.heap.size, 0, none⟩) 0 0) [] :=
  ⟨Buf.lit w 4 1 0 [] rfl (by decide), fun k hk => by simp [Value.ownBlock] at hk; omega⟩

theorem wpList_bool_more {ops : Array Oper} {rest : List Oper} {o : Oper} {a : Act} {Q : Exit -> Act -> World -> Prop} {w : World} (hgd : o.guard = none) (s x : Operand)
    (ho : o.op = .call { callee := .builtin .append, args := #[s, x], argTypes := #[180, 180] })
    {B : Nat} {W : World} (hbl : Below B W w) (hB : B <= w.heap.size) {v : Value} {l : List Bool} {y : Bool} (hv : a.eval s = v) (h : BoolsAt B w v l) (hx : a.eval x = .slice (some ⟨w.heap.size, 0, none⟩) 1 1) (hlen : l.length < 100000000000)
    (K : ∀ v' w', BoolsAt B w' v' (l ++ [y]) -> Below B W w' -> B <= w'.heap.size -> wpList Tryz.prog ops Q rest (a.put o.dst v') w') : wpList Tryz.prog ops Q (o :: rest) a (w.alloc (.cells #[.bool y] 4)) := by
  refine wpList_append_el hgd s x 180 180 ho bools_ty hv (h.buf.alloc _) hx ((Buf.lit w 4 1 1 [.bool y] rfl (by decide)).src (t := 180) Tryz.underlying180 (by intro u hu; simp at hu; subst hu; rfl)) (by simp only [maxLen]; omega) (by omega) ?_
  intro v' w' hb ha hg
  have hs : B <= (w.alloc (.cells #[.bool y] 4)).heap.size := by simp; omega
  have hb2 : Below B W w' := (hbl.alloc hB _).trans ((Below.refl B _).grown ha.grownBy hs (fun k hk => h.new k hk))
  refine K v' w' ⟨?_, hg.new hs h.new⟩ hb2 (Nat.le_trans hs ha.size)
  rw [List.length_append]
  have : bls (l ++ [y]) = bls l ++ [.bool y] := by simp [bls]
  rw [this]
  exact hb

theorem wpList_bool_front {ops : Array Oper} {rest : List Oper} {o : Oper} {a : Act} {Q : Exit -> Act -> World -> Prop} {w : World} (hgd : o.guard = none) (s x : Operand)
    (ho : o.op = .call { callee := .builtin .append, args := #[s, x], argTypes := #[180, 180] })
    {B : Nat} {W : World} (hbl : Below B W w) (hB : B <= w.heap.size) {v : Value} {l : List Bool} {y : Bool} (hv : a.eval x = v) (h : BoolsAt B w v l) (hx : a.eval s = .slice (some ⟨w.heap.size, 0, none⟩) 1 1) (hlen : l.length < 100000000000)
    (K : ∀ v' w', BoolsAt B w' v' (y :: l) -> Below B W w' -> B <= w'.heap.size -> wpList Tryz.prog ops Q rest (a.put o.dst v') w') : wpList Tryz.prog ops Q (o :: rest) a (w.alloc (.cells #[.bool y] 4)) := by
  refine wpList_append_el hgd s x 180 180 ho bools_ty hx (Buf.lit w 4 1 1 [.bool y] rfl (by decide)) hv ((h.buf.alloc _).src (t := 180) Tryz.underlying180 (bls_one l)) (by simp only [maxLen]; omega) (by omega) ?_
  intro v' w' hb ha hg
  have hs : B <= (w.alloc (.cells #[.bool y] 4)).heap.size := by simp; omega
  have hn : ∀ k, (Value.slice (some ⟨w.heap.size, 0, none⟩) 1 1).ownBlock = some k -> B <= k := fun k hk => by simp [Value.ownBlock] at hk; omega
  have hb2 : Below B W w' := (hbl.alloc hB _).trans ((Below.refl B _).grown ha.grownBy hs hn)
  refine K v' w' ⟨?_, hg.new hs hn⟩ hb2 (Nat.le_trans hs ha.size)
  rw [List.length_cons, Nat.add_comm]
  exact hb

theorem refBits_any (u : Nat) (n : Int) (W : World) (hn1 : -9223372036854775808 <= n) (hn2 : n <= 9223372036854775807) (hu : u < 18446744073709551616) :
    Calls Tryz.prog 109 #[.int .u64 u, .int .i64 n] W (RetBools W (bitsOf u (clip n))) := by
  have hcl := clip_le n
  obtain ⟨m, hm1, hm2⟩ : ∃ m : Nat, m = clip n /\ (m : Int) = min (max n 0) 64 := ⟨clip n, rfl, by unfold clip; omega⟩
  rw [<- hm1] at hcl ⊢
  have hA1 : (m : Int) <= max n 0 := by omega
  have hA3 : max n 0 <= (m : Int) \/ 64 <= (m : Int) := by omega
  clear hm1 hm2
  rcases (show n < 0 \/ 0 <= n /\ n <= 64 \/ 64 < n by omega) with hc | hc | hc
  all_goals
    go_enter Tryz.func109, Tryz.ntmps109
    go_wp2_with fail
    go_loopw [0, 5, 6] (fun x v i wr => ∃ (k c : Nat), k <= m /\ c < 18446744073709551616 /\ x = .int .u64 c /\ c = u / 2 ^ k /\ i = .int .i64 k /\ BoolsAt W.heap.size wr v (bitsOf u k) /\ Below W.heap.size W wr /\ W.heap.size <= wr.heap.size) (fun _ _ i _ => m - (intOf i).toNat)
    case atStart => exact ⟨0, u, Nat.zero_le _, hu, rfl, by simp, rfl, BoolsAt.empty (Nat.le_refl _), (Below.refl _ _).alloc (Nat.le_refl _) _, by simp⟩
    case round =>
      obtain ⟨k, c, hk, hc2, rfl, hcu, rfl, hat, hbl, hsz⟩ := hrel
      have HC := Lib.hid hcu
      have HA := Lib.hid hat
      clear hcu hat
      by_cases h0 : k < m
      · first
        | (exfalso; omega)
        | (go_wp2_with (at_builtin; refine wpList_bool_front rfl (.tmp 19) (.tmp 20) rfl hbl hsz rfl HA.out rfl (by rw [bitsOf_length]; omega) ?_; intro v' w' hat' hbl' hsz'; have HB := Lib.hid hat'; clear hat' HA)
           go_roundw
           case rel =>
             refine ⟨k + 1, c / 2, by omega, by omega, by go_num, ?_, by go_num, ?_, hbl', hsz'⟩
             · rw [HC.out, Nat.pow_succ, Nat.div_div_eq_div_mul]
             · have := HB.out
               have e : ((c : Int) % 2 == 1) = (u / 2 ^ k % 2 == 1) := by rw [<- HC.out, Bool.eq_iff_iff, beq_iff_eq, beq_iff_eq]; omega
               rw [e] at this
               exact this
           case measure => simp [intOf]; omega)
      · go_wp2_with fail
        go_ret
        obtain rfl : k = m := by omega
        exact ⟨_, rfl, HA.out, hbl⟩

theorem refUnary_any (n most : Int) (W : World) (hn1 : -9223372036854775808 <= n) (hn2 : n <= 9223372036854775807) (hm1 : -9223372036854775808 <= most) (hm2 : most <= 100000) :
    Calls Tryz.prog 133 #[.int .i64 n, .int .i64 most] W (RetBools W (unary n most)) := by
  have hcl : ones n most <= 100000 := by unfold ones; omega
  obtain ⟨m, hm3, hm4⟩ : ∃ m : Nat, m = ones n most /\ (m : Int) = min (max n 0) (max most 0) := ⟨ones n most, rfl, by unfold ones; omega⟩
  have hun : unary n most = List.replicate m true ++ if (m : Int) < most then [false] else [] := by rw [hm3]; rfl
  have HU := Lib.hid hun
  rw [<- hm3] at hcl
  have hA1 : (m : Int) <= max n 0 := by omega
  have hA2 : (m : Int) <= max most 0 := by omega
  have hA3 : max n 0 <= (m : Int) \/ max most 0 <= (m : Int) := by omega
  clear hm3 hm4 hun
  go_enter Tryz.func133, Tryz.ntmps133
  go_wp2_with fail
  go_loopw [5, 6] (fun v i wr => ∃ (k : Nat), k <= m /\ i = .int .i64 k /\ BoolsAt W.heap.size wr v (List.replicate k true) /\ Below W.heap.size W wr /\ W.heap.size <= wr.heap.size) (fun _ i _ => m - (intOf i).toNat)
  case atStart => exact ⟨0, Nat.zero_le _, rfl, BoolsAt.empty (Nat.le_refl _), (Below.refl _ _).alloc (Nat.le_refl _) _, by simp⟩
  case round =>
    obtain ⟨k, hk, rfl, hat, hbl, hsz⟩ := hrel
    have HA := Lib.hid hat
    clear hat
    by_cases h0 : k < m
    · have h1 : (k : Int) < n := by omega
      have h2 : (k : Int) < most := by omega
      go_wp2_with (at_builtin; refine wpList_bool_more rfl (.tmp 18) (.tmp 19) rfl hbl hsz rfl HA.out rfl (by rw [List.length_replicate]; omega) ?_; intro v' w' hat' hbl' hsz'; have HB := Lib.hid hat'; clear hat' HA)
      go_roundw
      case rel => exact ⟨k + 1, by omega, by go_num, by rw [List.replicate_succ']; exact HB.out, hbl', hsz'⟩
      case measure => simp [intOf]; omega
    · obtain rfl : k = m := by omega
      obtain ⟨A, c, rfl, _⟩ := Buf.shape HA.out.buf
      rw [List.length_replicate] at HA ⊢
      by_cases hlt : (k : Int) < most
      · have h1 : n <= (k : Int) := by omega
        go_wp2_with (at_builtin; refine wpList_bool_more rfl (.tmp 25) (.tmp 26) rfl hbl hsz rfl HA.out rfl (by rw [List.length_replicate]; omega) ?_; intro v' w' hat' hbl' hsz'; have HB := Lib.hid hat'; clear hat' HA)
        all_goals
          go_ret
          refine ⟨_, rfl, ?_, hbl'⟩
          rw [HU.out, if_pos (by omega)]
          exact HB.out
      · go_wp2_with fail
        all_goals
          go_ret
          refine ⟨_, rfl, ?_, hbl⟩
          rw [HU.out, if_neg (by omega), List.append_nil]
          exact HA.out

theorem bitText_any (v : Value) (l : List Bool) (W : World) (hn : l.length <= 100000) (hb : Buf W 4 1 v l.length (bls l)) :
    Calls Tryz.prog 112 #[v] W (RetBelow W (.string (bs (pack l)))) := by
  rcases Nat.eq_zero_or_pos l.length with h0 | h0
  · obtain rfl : l = [] := List.eq_nil_of_length_eq_zero h0
    obtain ⟨A, c, rfl, _⟩ := Buf.shape hb
    clear h0 hn hb
    go_enter Tryz.func112, Tryz.ntmps112
    go_wp2_with fail
    go_loopw [3, 4] (fun s i wr => s = .string (bs []) /\ i = .int .i64 0 /\ wr = W) (fun _ _ _ => 0)
    case atStart => exact ⟨rfl, rfl, rfl⟩
    case round =>
      obtain ⟨rfl, rfl, rfl⟩ := hrel
      go_wp2_with fail
      go_ret
      exact ⟨rfl, Below.refl _ _⟩
  · obtain ⟨b, o, c, rfl, hbl0, hc, hcell, _⟩ := Buf.at_ hb h0
    have hcell' : ∀ k, k < l.length -> W.cell? ⟨b, o + k, none⟩ = some (.bool (l.getD k false)) := fun k hk => by
      rw [hcell k hk]
      simp [bls, List.getD, List.getElem?_eq_getElem hk]
    clear hcell hb
    go_enter Tryz.func112, Tryz.ntmps112
    go_wp2_with fail
    go_loopw [3, 4, 5, 6] (fun s i _ _ wr => ∃ q : Nat, q <= (l.length + 7) / 8 /\ s = .string (bs ((pack l).take q)) /\ i = .int .i64 ((8 * q : Nat) : Int) /\ Below W.heap.size W wr) (fun _ i _ _ _ => l.length + 8 - (intOf i).toNat)
    case atStart => exact ⟨0, Nat.zero_le _, rfl, rfl, Below.refl _ _⟩
    case round =>
      obtain ⟨q, hq, rfl, rfl, hbl⟩ := hrel
      obtain ⟨wo, rfl⟩ : ∃ wo : World, wo = wr := ⟨_, rfl⟩
      have hpl := pack_length l
      have htl : ((pack l).take q).length <= 100000 := by rw [List.length_take]; omega
      by_cases h1 : 8 * q < l.length
      · go_wp2_with fail
        go_loop [5, 6] (fun x k => ∃ j : Nat, j <= 8 /\ x = .int .i64 (vb l (8 * q) j : Nat) /\ k = .int .i64 ((8 * q + j : Nat) : Int)) (fun _ k => 8 * q + 8 - (intOf k).toNat)
        case atStart => exact ⟨0, by omega, rfl, rfl⟩
        case round =>
          obtain ⟨j, hj, rfl, rfl⟩ := hrel
          have hvl := vb_lt l (8 * q) j
          have hvp : 2 ^ j <= 2 ^ 8 := Nat.pow_le_pow_right (by omega) hj
          obtain ⟨x, hx⟩ : ∃ x, x = vb l (8 * q) j := ⟨_, rfl⟩
          rw [<- hx] at hvl ⊢
          have hxl : x < 256 := by omega
          have HX := Lib.hid hx
          clear hx hvl hvp
          by_cases hj8 : j < 8
          · by_cases hk : 8 * q + j < l.length
            · have hcx : wo.cell? ⟨b, o + (8 * q + j), none⟩ = some (.bool (l.getD (8 * q + j) false)) := by rw [hbl.cell (p := ⟨b, _, none⟩) hbl0]; exact hcell' _ hk
              cases hgd : l.getD (8 * q + j) false
              all_goals
                rw [hgd] at hcx
                have HG := Lib.hid hgd
                clear hgd
                go_wp2_with fail
                go_round
                case rel => exact ⟨j + 1, by omega, by rw [vb, <- HX.out, HG.out]; go_num, by go_num⟩
                case measure => simp [intOf]; omega
            · have hgd : l.getD (8 * q + j) false = false := by simp [List.getD, List.getElem?_eq_none (show l.length <= 8 * q + j by omega)]
              have HG := Lib.hid hgd
              clear hgd
              go_wp2_with fail
              go_round
              case rel => exact ⟨j + 1, by omega, by rw [vb, <- HX.out, HG.out]; go_num, by go_num⟩
              case measure => simp [intOf]; omega
          · obtain rfl : j = 8 := by omega
            rw [vb_byte] at HX
            have hc1 := fun w => conv_one bbytes_ty 9 Tryz.underlying9 w (x : Int) (byteAt l q) (by rw [<- HX.out])
            go_wp2_with fail
            go_roundw
            case rel => exact ⟨q + 1, by omega, by rw [pack_take l q (by omega)], by go_num, hbl.alloc hbl.size _⟩
            case measure => simp [intOf]; omega
      · go_wp2_with fail
        go_ret
        rw [List.take_of_length_le (by rw [hpl]; omega)]
        exact ⟨rfl, hbl⟩

end Go.Proofs.YtgabmfibfikdbaaGreatDoor
