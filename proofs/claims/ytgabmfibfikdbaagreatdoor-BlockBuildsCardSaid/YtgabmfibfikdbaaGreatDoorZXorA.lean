/-
  Layer 7: the walks of a chunk's methods.
-/
import Derived.Test.YtgabmfibfikdbaaGreatDoorZXorM
import Derived.Test.YtgabmfibfikdbaaGreatDoorZBitW
import Derived.Test.YtgabmfibfikdbaaGreatDoorZBokM
import Derived.Test.YtgabmfibfikdbaaGreatDoorZLib11
import Derived.Deep.DeepCutAuto

set_option maxHeartbeats 32000000
set_option maxRecDepth 10000
namespace Go.Proofs.YtgabmfibfikdbaaGreatDoor
open Go.RowKit Go.Bar Go.Bar.Bit Go.Bar.Leb Go.Bar.Xor

structure WidthsAt (w : World) : Prop where
  c : ∀ k, k <= 4 -> w.cell? ⟨1, k, none⟩ = some (.int .i64 (wd k : Nat))
theorem WidthsAt.lt {w : World} (h : WidthsAt w) : 1 < w.heap.size := World.block_lt_of_cell? _ _ (h.c 0 (by omega))
theorem WidthsAt.below {w0 w : World} (h : WidthsAt w0) (hb : Below w0.heap.size w0 w) : WidthsAt w := ⟨fun k hk => (hb.cell (p := ⟨1, k, none⟩) h.lt).trans (h.c k hk)⟩

theorem wrap_shl (v : Int) : IntKind.u64.wrap (wrap64 (v * 2)) = IntKind.u64.wrap (IntKind.u64.wrap v * 2) := by
  unfold wrap64
  simp only [IntKind.wrap_u64]
  omega

theorem zig_any (v : Int) (w : World) (h1 : -9223372036854775808 <= v) (h2 : v <= 9223372036854775807) :
    Calls Tryz.prog 127 #[.int .i64 v] w fun e w' => e = .returned (.int .u64 (fold v)) /\ w = w' := by
  go_enter Tryz.func127, Tryz.ntmps127
  go_wp2
  go_ret
  rw [<- fold_bits v h1 h2, <- wrap_shl]
  exact ⟨rfl, rfl⟩

theorem zag_any (n : Nat) (w : World) (h : n < 18446744073709551616) :
    Calls Tryz.prog 124 #[.int .u64 n] w fun e w' => e = .returned (.int .i64 (unfold n)) /\ w = w' := by
  go_enter Tryz.func124, Tryz.ntmps124
  go_wp2
  go_ret
  rw [<- unfold_bits n h _ rfl]
  exact ⟨rfl, rfl⟩

theorem RowNew.drew {w0 w : World} {b : Nat} {v : Value} {l : List Bool} (h : RowNew w0 w b v l) : RowNew w0 w.drew b v l := h.then_below (Below.refl _ _).drew
theorem RowCh.below {w w' w'' : World} {b : Nat} {v v' : Value} {l : List Bool} (h : RowCh w b 0 v w' v' l) (hb : Below w'.heap.size w' w'') : RowCh w b 0 v w'' v' l :=
  ⟨h.at_.keep (Fr.of_below (S := fun _ _ => False) hb) (fun _ => id) (fun _ _ _ => id), h.fr.then_below hb, h.mv⟩
theorem RowCh.new {w0 w w' : World} {b : Nat} {v v' : Value} {l l' : List Bool} (h : RowNew w0 w b v l) (hc : RowCh w b 0 v w' v' l') : RowNew w0 w' b v' l' := by
  obtain ⟨_, v2, h2⟩ := h.step hc.to
  obtain ⟨v3, _, h3, h4, h5⟩ := hc.to
  refine ⟨hc.at_, h2.below, h.b_new, fun k hk => ?_⟩
  rcases hc.mv with e1 | ⟨g, e1, hg⟩
  · exact h.v_new k (by rw [<- e1]; exact hk)
  · rw [e1] at hk; injection hk with hk
    have := h.below.size
    omega

theorem kind_lt {u k : Nat} (h : u < 18446744073709551616) : (k < kind u -> wd k < width u) /\ (k = kind u -> width u <= wd k) := by
  have hw := width_le u h
  refine ⟨fun hk => ?_, fun hk => ?_⟩
  · unfold kind at hk
    unfold wd
    repeat' split at hk
    all_goals repeat' split
    all_goals omega
  · subst hk; exact kind_wd u h

theorem time_any (w0 : World) (B : Nat) (v : Value) (l : List Bool) (u : Nat) (w : World) (h : RowNew w0 w B v l) (hW : WidthsAt w0) (hu : u < 18446744073709551616) (hl : l.length < 10000000000) :
    Calls Tryz.prog 126 #[.pointer (some ⟨B, 0, none⟩), .int .u64 u] w (RowTo w B 0 v (l ++ timeB u)) := by
  have hwd := fun k => kind_lt (k := k) hu
  have hk4 := kind_le u
  have hww := width_le u hu
  have HT := Lib.hid (show timeB u = unary (kind u : Nat) 4 ++ bitsOf u (wd (kind u)) from rfl)
  have hW1 := hW.below h.below
  have HH := Lib.hid h
  clear h
  obtain ⟨K, hK⟩ : ∃ K, K = kind u := ⟨_, rfl⟩
  obtain ⟨M, hM⟩ : ∃ M, M = width u := ⟨_, rfl⟩
  have hwc : ∀ w, Calls Tryz.prog 144 #[.int .u64 u] w fun e w' => e = .returned (.int .i64 M) /\ w = w' := fun w => by rw [hM]; exact width_any u w hu
  have HWC := Lib.hid hwc
  rw [<- hK] at hk4 hwd HT
  rw [<- hM] at hwd hww
  have HWD := Lib.hid hwd
  clear hK hM hwd hwc
  go_enter Tryz.func126, Tryz.ntmps126
  go_wp2_with fail
  go_loopw [4] (fun i wr => ∃ k : Nat, k <= K /\ i = .int .i64 k /\ Below w.heap.size w wr) (fun i _ => K - (intOf i).toNat)
  case atStart => exact ⟨0, Nat.zero_le _, rfl, Below.refl _ _⟩
  case round =>
    obtain ⟨k, hk, rfl, hb⟩ := hrel
    have hc : wr.cell? ⟨1, k, none⟩ = some (.int .i64 (wd k : Nat)) := (hW1.below hb).c k (by omega)
    have hz0 : (0 : Int) <= (k : Int) := by omega
    have hz1 : (k : Int) < 5 := by omega
    have hwb : wd k <= 64 := wd_le k
    by_cases hgo : k < K
    · have hlt : ((wd k : Nat) : Int) < (M : Int) := by have := (HWD.out k).1 hgo; omega
      go_wp2_with fail
      refine wp_region_known [(1, .int .i64 M), (4, .int .i64 (wd k : Nat))] (by kernel_rfl) 26 (by kernel_rfl) rfl ?_
      repeat (first
        | (refine Chain.step (v := ?_) (a' := ?_) rfl rfl rfl ?_ ?_ ?_; rotate_left 2; (focus (intro w; go_simp; try with_reducible rfl)); focus (simp only [Act.put, pqA, pqS, pqZ]; try rfl))
        | (refine Chain.call (a' := ?_) _ rfl rfl rfl (fun wx hw => ?_) ?_ ?_
           rotate_left 1
           focus
             first
             | (go_simp; (with_reducible refine (HWC.out _).mono ?_); rintro e w' ⟨rfl, rfl⟩; exact ⟨rfl, Below.refl _ _⟩)
             | (have g0 := (hw.cell (p := ⟨1, k, none⟩) (World.block_lt_of_cell? _ _ hc)).trans hc; go_simp; first | exact ⟨rfl, Below.refl _ _⟩ | exact Below.refl _ _)
           focus (simp only [Act.put, pqA, pqS, pqZ]; try rfl))
        | (refine Chain.skip (a' := ?_) rfl rfl rfl ?_ ?_; rotate_left 1; focus (simp only [Act.put, pqA, pqS, pqZ]; try rfl)))
      refine Chain.end_ (fun wz hwz _ => ?_)
      go_wp2_with fail
      go_roundw
      case rel => exact ⟨k + 1, by omega, by go_num, below_trans hb hwz⟩
      case measure => simp [intOf]; omega
    · obtain rfl : k = K := by omega
      have hge : (M : Int) <= ((wd k : Nat) : Int) := by have := (HWD.out k).2 rfl; omega
      have hdi : decide (((wd k : Nat) : Int) < (M : Int)) = false := decide_eq_false (by omega)
      have hdn : decide (wd k < M) = false := decide_eq_false (by omega)
      clear hgo hk
      go_wp2_with fail
      refine wp_region_known [(1, .int .i64 M), (4, .int .i64 (wd k : Nat))] (by kernel_rfl) 26 (by kernel_rfl) rfl ?_
      repeat (first
        | (refine Chain.step (v := ?_) (a' := ?_) rfl rfl rfl ?_ ?_ ?_; rotate_left 2; (focus (intro w; go_simp; try with_reducible rfl)); focus (simp only [Act.put, pqA, pqS, pqZ]; try rfl))
        | (refine Chain.call (a' := ?_) _ rfl rfl rfl (fun wx hw => ?_) ?_ ?_
           rotate_left 1
           focus
             first
             | (go_simp; (with_reducible refine (HWC.out _).mono ?_); rintro e w' ⟨rfl, rfl⟩; exact ⟨rfl, Below.refl _ _⟩)
             | (have g0 := (hw.cell (p := ⟨1, k, none⟩) (World.block_lt_of_cell? _ _ hc)).trans hc; go_simp; first | exact ⟨rfl, Below.refl _ _⟩ | exact Below.refl _ _)
           focus (simp only [Act.put, pqA, pqS, pqZ]; try rfl))
        | (refine Chain.skip (a' := ?_) rfl rfl rfl ?_ ?_; rotate_left 1; focus (simp only [Act.put, pqA, pqS, pqZ]; try rfl)))
      refine Chain.end_ (fun wz hwz _ => ?_)
      have hR := (RowCh.refl HH.out.at_).below (below_trans hb hwz)
      clear hb hwz hc hge hdi hdn
      go_wp2_with fail
      refine (rowUnary_any B 0 v l k 4 wz (by omega) (by omega) (by omega) (by omega) hR.at_ (by omega)).mono ?_
      intro e w2 hto
      obtain ⟨rfl, v2, hR2⟩ := hR.step hto
      have hN2 := RowCh.new HH.out hR2
      clear hto hR
      have hc2 : w2.cell? ⟨1, k, none⟩ = some (.int .i64 (wd k : Nat)) := (hW.below hN2.below).c k (by omega)
      have hl2 : (l ++ unary (k : Nat) 4).length < 100000000000 := by rw [List.length_append]; have := ones_len k hk4; omega
      obtain ⟨Z, hZ⟩ : ∃ Z, Z = l ++ timeB u := ⟨_, rfl⟩
      have HZ := Lib.hid (show Z = l ++ unary (k : Nat) 4 ++ bitsOf u (wd k) by rw [hZ, HT.out, List.append_assoc])
      have HZ2 := Lib.hid hZ
      have HL2 := Lib.hid hl2
      have HR2 := Lib.hid hR2
      clear hR2 hl2 hZ hN2
      go_wp2_with fail
      refine Dn.wp_region_states [(6, .int .i64 (wd k : Nat)), (7, .tuple #[])] (LP 7 w2.drew (fun w' => ∃ v', RowCh w B 0 v w' v' Z)) (by kernel_rfl) 26 (by kernel_rfl) rfl (LP.pure rfl) LP.start ?_
      repeat (first
        | (refine Dn.Chain.step (v := ?_) (a' := ?_) rfl rfl rfl ?_ ?_ ?_; rotate_left 2; (focus (intro w; go_simp; try with_reducible rfl)); focus (simp only [Act.put, pqA, pqS, pqZ]; try rfl))
        | (refine Dn.Chain.call (a' := ?_) _ rfl rfl rfl (fun D wx hx hD hp => ?_) ?_ ?_
           rotate_left 1
           focus
             first
             | (have hw := hx.at_ hD (by decide); subst hw; go_simp; first | exact ⟨rfl, hx.read hD (by decide)⟩ | exact hx.read hD (by decide))
             | (have hall := pre_all hp (by kernel_rfl)
                have hw := hx.1 hD
                subst hw
                have hR3 := HR2.out.below (Below.refl _ _).drew
                have hcl := clip_nat (wd k) (wd_le k)
                go_simp
                (with_reducible refine (rowBits_any B 0 v2 (l ++ unary (k : Nat) 4) u (wd k : Nat) _ (by omega) (by omega) hu hR3.at_ HL2.out).mono ?_)
                intro e w3 hto
                obtain ⟨rfl, v3, hR4⟩ := hR3.step hto
                rw [hcl, <- HZ.out] at hR4
                exact ⟨rfl, LP.last hall ⟨v3, hR4⟩⟩)
           focus (simp only [Act.put, pqA, pqS, pqZ]; try rfl))
        | (refine Dn.Chain.skip (a' := ?_) rfl rfl rfl ?_ ?_; rotate_left 1; focus (simp only [Act.put, pqA, pqS, pqZ]; try rfl)))
      refine Dn.Chain.end_ (fun D wz hDD hx => ?_)
      obtain ⟨v3, hR5⟩ := hx.end_ (hDD 7 (by decide))
      go_wp2_with fail
      go_end0
      rw [<- HZ2.out]
      exact hR5.to

def chc (s : St) : List Value := [.int .i64 (s.n : Nat), .int .i64 s.t, .int .u64 (s.v : Nat), .int .i64 s.step, .int .i64 (s.lead : Nat), .int .i64 (s.wide : Nat)]
structure ChAt (w : World) (B : Nat) (v : Value) (s : St) : Prop where
  row : RowAt w B 0 v s.bits
  cell : ∀ i u, (chc s)[i]? = some u -> w.cell? ⟨B, i + 2, none⟩ = some u
  free : ∀ i, i < 6 -> w.frozen? ⟨B, i + 2, none⟩ = false
def ChS (B : Nat) (v : Value) (k _i : Nat) : Prop := k = B \/ v.ownBlock = some k
structure ChCh (w : World) (B : Nat) (v : Value) (w' : World) (v' : Value) (s : St) : Prop where
  at_ : ChAt w' B v' s
  fr : Fr (ChS B v) w w'
  mv : Moved w v v'
def ChTo (w : World) (B : Nat) (v : Value) (s : St) (e : Ending) (w' : World) : Prop := e = .returned (.tuple #[]) /\ ∃ v', ChCh w B v w' v' s

section
variable {w w' w'' : World} {B : Nat} {v v' : Value} {s s' : St}
theorem chc_len (s : St) : (chc s).length = 6 := rfl
theorem chc_some (s : St) {i : Nat} (hi : i < 6) : ∃ u, (chc s)[i]? = some u := ⟨_, List.getElem?_eq_getElem (by rw [chc_len]; exact hi)⟩
theorem ChAt.keep (h : ChAt w B v s) {S : Nat -> Nat -> Prop} (hf : Fr S w w') (h1 : ∀ i, ¬ S B i) (h2 : ∀ k i, v.ownBlock = some k -> ¬ S k i) : ChAt w' B v s :=
  ⟨h.row.keep hf h1 h2, fun i u hu => hf.cell (h.cell i u hu) (h1 _), fun i hi => by obtain ⟨u, hu⟩ := chc_some s hi; exact hf.free (h.cell i u hu) (h.free i hi)⟩
theorem ChAt.below (h : ChAt w B v s) (hb : Below w.heap.size w w') : ChAt w' B v s := h.keep (Fr.of_below (S := fun _ _ => False) hb) (fun _ => id) (fun _ _ _ => id)
theorem ChAt.row_to (h : ChAt w B v s) {l' : List Bool} (ha : RowAt w' B 0 v' l') (hf : Fr (RowS B 0 v) w w') : ChAt w' B v' { s with bits := l' } := by
  have hno : ∀ i, ¬ RowS B 0 v B (i + 2) := by
    rintro i (⟨_, h1⟩ | h1)
    · omega
    · exact h.row.ne h1
  exact ⟨ha, fun i u hu => hf.cell (h.cell i u hu) (hno i), fun i hi => by obtain ⟨u, hu⟩ := chc_some s hi; exact hf.free (h.cell i u hu) (h.free i hi)⟩
theorem ChAt.set (h : ChAt w B v s) (i : Nat) (hi : i < 6) (u : Value) (hb : s'.bits = s.bits) (hc : chc s' = (chc s).set i u) : ChAt (w.setCell ⟨B, i + 2, none⟩ u) B v s' := by
  have hf : Fr (fun k j => k = B /\ j = i + 2) w (w.setCell ⟨B, i + 2, none⟩ u) := (Fr.refl _ _).setCell (fun _ => ⟨rfl, rfl⟩) _
  obtain ⟨u0, hu0⟩ := chc_some s hi
  refine ⟨?_, fun j x hx => ?_, fun j hj => by obtain ⟨y, hy⟩ := chc_some s hj; exact hf.free (h.cell j y hy) (h.free j hj)⟩
  · rw [hb]
    exact ⟨hf.cell h.row.c0 (fun e => by omega), hf.cell h.row.c1 (fun e => by omega), hf.free h.row.c0 h.row.f0, hf.free h.row.c1 h.row.f1, hf.buf h.row.buf (fun k j hk e => h.row.ne (by rw [hk, e.1])), h.row.ne, fun k hk => Nat.lt_of_lt_of_le (h.row.lt k hk) hf.size⟩
  · rw [hc] at hx
    by_cases hij : j = i
    · subst hij
      rw [List.getElem?_set_self (by rw [chc_len]; exact hi)] at hx
      injection hx with hx
      subst hx
      rw [World.cell?_setCell_same w _ _ (h.cell j u0 hu0)]
    · rw [List.getElem?_set_ne (fun e => hij e.symm)] at hx
      exact hf.cell (h.cell j x hx) (fun e => by omega)
theorem ChCh.refl (h : ChAt w B v s) : ChCh w B v w v s := ⟨h, Fr.refl _ _, .inl rfl⟩
theorem ChCh.below (h : ChCh w B v w' v' s) (hb : Below w'.heap.size w' w'') : ChCh w B v w'' v' s := ⟨h.at_.below hb, h.fr.then_below hb, h.mv⟩
theorem ChCh.row (h : ChCh w B v w' v' s) {l' : List Bool} {e : Ending} (hto : RowTo w' B 0 v' l' e w'') : e = .returned (.tuple #[]) /\ ∃ v'', ChCh w B v w'' v'' { s with bits := l' } := by
  obtain ⟨v2, he, ha, hf, hm⟩ := hto
  refine ⟨he, v2, h.at_.row_to ha hf, h.fr.trans' hf (fun k i hk hS => ?_), ?_⟩
  · rcases hS with hS | hS
    · exact .inl hS.1
    · rcases h.mv with e1 | ⟨g, e1, hg⟩
      · exact .inr (by rw [<- e1]; exact hS)
      · rw [e1] at hS; injection hS with hS; omega
  · rcases hm with e1 | ⟨g, e1, hg⟩
    · rcases h.mv with e2 | ⟨g, e2, hg⟩
      · exact .inl (e1.trans e2)
      · exact .inr ⟨g, e1.trans e2, hg⟩
    · exact .inr ⟨g, e1, Nat.le_trans h.fr.size hg⟩
theorem ChCh.step (h : ChCh w B v w' v' s) {e : Ending} (hto : ChTo w' B v' s' e w'') : e = .returned (.tuple #[]) /\ ∃ v'', ChCh w B v w'' v'' s' := by
  obtain ⟨he, v2, ha, hf, hm⟩ := hto
  refine ⟨he, v2, ha, h.fr.trans' hf (fun k i hk hS => ?_), ?_⟩
  · rcases hS with hS | hS
    · exact .inl hS
    · rcases h.mv with e1 | ⟨g, e1, hg⟩
      · exact .inr (by rw [<- e1]; exact hS)
      · rw [e1] at hS; injection hS with hS; omega
  · rcases hm with e1 | ⟨g, e1, hg⟩
    · rcases h.mv with e2 | ⟨g, e2, hg⟩
      · exact .inl (e1.trans e2)
      · exact .inr ⟨g, e1.trans e2, hg⟩
    · exact .inr ⟨g, e1, Nat.le_trans h.fr.size hg⟩
theorem ChCh.set (h : ChCh w B v w' v' s) (i : Nat) (hi : i < 6) (u : Value) (hb : s'.bits = s.bits) (hc : chc s' = (chc s).set i u) : ChCh w B v (w'.setCell ⟨B, i + 2, none⟩ u) v' s' :=
  ⟨h.at_.set i hi u hb hc, h.fr.setCell (fun _ => .inl rfl) _, h.mv⟩
theorem ChCh.rowNew {w0 : World} (h : ChCh w B v w' v' s) (hb : Below w0.heap.size w0 w) (hB : w0.heap.size <= B) (hv : ∀ k, v.ownBlock = some k -> w0.heap.size <= k) : RowNew w0 w' B v' s.bits := by
  refine ⟨h.at_.row, hb.trans (h.fr.below hb.size (fun k i hk hS => ?_)), hB, fun k hk => ?_⟩
  · rcases hS with hS | hS
    · omega
    · have := hv k hS; omega
  · rcases h.mv with e1 | ⟨g, e1, hg⟩
    · exact hv k (by rw [<- e1]; exact hk)
    · rw [e1] at hk; injection hk with hk
      have := hb.size
      omega
end

theorem bit_and0 (u j : Nat) (hu : u < 18446744073709551616) : (bits .and .u64 ((u : Int) / 2 ^ j) 1 == 0) = !(u / 2 ^ j % 2 == 1) := by
  have e1 : (u : Int) / 2 ^ j = ((u / 2 ^ j : Nat) : Int) := by simp
  have hle : u / 2 ^ j <= u := Nat.div_le_self _ _
  have := u64_and_nat (u / 2 ^ j) 1 (by omega) (by omega)
  rw [nat_mask1] at this
  rw [e1, show (1 : Int) = ((1 : Nat) : Int) from rfl, this, Bool.eq_iff_iff, beq_iff_eq, Bool.not_eq_true', beq_eq_false_iff_ne]
  omega

theorem value_zero (B : Nat) (v : Value) (s : St) (w : World) (h : ChAt w B v s) (hl : s.bits.length < 10000000000) :
    Calls Tryz.prog 128 #[.pointer (some ⟨B, 0, none⟩), .int .u64 0] w (ChTo w B v { s with bits := s.bits ++ [false] }) := by
  have HH := Lib.hid (ChCh.refl h)
  clear h
  go_enter Tryz.func128, Tryz.ntmps128
  go_wp2_with fail
  refine (rowBit_any B 0 v s.bits _ w HH.out.at_.row (by omega)).mono ?_
  intro e w2 hto
  obtain ⟨rfl, v2, h2⟩ := HH.out.row hto
  clear hto
  have H2 := Lib.hid h2
  clear h2
  go_wp2_with fail
  go_end0
  exact ⟨rfl, v2, H2.out⟩

def LastB (w : World) (B : Nat) (v : Value) (s : St) (w' : World) : Prop := ∃ v', ChCh w B v w' v' s

theorem value_some (B : Nat) (v : Value) (s : St) (x : Nat) (w : World) (h : ChAt w B v s) (hl : s.bits.length < 10000000000) (hx0 : 0 < x) (hx : x < 18446744073709551616) (hw : s.lead + s.wide <= 64) :
    Calls Tryz.prog 128 #[.pointer (some ⟨B, 0, none⟩), .int .u64 x] w (ChTo w B v { s with bits := s.bits ++ valB s.lead s.wide x, lead := valL s.lead s.wide x, wide := valW s.lead s.wide x }) := by
  have HH := Lib.hid (ChCh.refl h)
  clear h
  obtain ⟨t1, t2, t3⟩ := tz_spec x hx0
  have htl := fun j => tz_low x j
  have hwx := width_le x hx
  have hB0 : ((x : Int) != 0) = true := by rw [bne_iff_ne]; omega
  have hB1 : ((x : Int) == 0) = false := by rw [beq_eq_false_iff_ne]; omega
  have HZ := Lib.hid (show valB s.lead s.wide x = if fitW s.lead s.wide x then [true] ++ ([false] ++ bitsOf (x / 2 ^ (64 - s.lead - s.wide)) s.wide) else [true] ++ ([true] ++ (bitsOf (64 - width x) 6 ++ (bitsOf (width x - tz x - 1) 6 ++ bitsOf (x / 2 ^ tz x) (width x - tz x)))) by unfold valB; rw [if_neg (by omega)])
  have HL := Lib.hid (show valL s.lead s.wide x = if fitW s.lead s.wide x then s.lead else 64 - width x by unfold valL; by_cases h : fitW s.lead s.wide x; rw [if_pos (.inr h), if_pos h]; rw [if_neg (fun h' => h'.elim (by omega) h), if_neg h])
  have HW := Lib.hid (show valW s.lead s.wide x = if fitW s.lead s.wide x then s.wide else width x - tz x by unfold valW; by_cases h : fitW s.lead s.wide x; rw [if_pos (.inr h), if_pos h]; rw [if_neg (fun h' => h'.elim (by omega) h), if_neg h])
  have hfd : fitW s.lead s.wide x ↔ (0 < s.wide /\ s.lead <= 64 - width x /\ 64 - s.lead - s.wide <= tz x) := Iff.rfl
  obtain ⟨M, hM⟩ : ∃ M, M = width x := ⟨_, rfl⟩
  obtain ⟨T, hT⟩ : ∃ T, T = tz x := ⟨_, rfl⟩
  have hwc : ∀ w, Calls Tryz.prog 144 #[.int .u64 x] w fun e w' => e = .returned (.int .i64 M) /\ w = w' := fun w => by rw [hM]; exact width_any x w hx
  have HWC := Lib.hid hwc
  rw [<- hM] at hwx t3 HZ HL HW hfd
  rw [<- hT] at t1 t2 t3 htl HZ HW hfd
  have HFD := Lib.hid hfd
  have HT1 := Lib.hid htl
  have HT2 := Lib.hid t2
  clear hM hT hwc hfd htl t2 t1
  go_enter Tryz.func128, Tryz.ntmps128
  go_wp2_with fail
  refine (rowBit_any B 0 v s.bits _ w HH.out.at_.row (by omega)).mono ?_
  intro e w1 hto
  obtain ⟨rfl, v1, h1⟩ := HH.out.row hto
  have H1 := Lib.hid h1
  clear hto h1
  go_wp2_with fail
  refine (HWC.out _).mono ?_
  rintro e w' ⟨rfl, rfl⟩
  go_wp2_with fail
  go_loop [5] (fun i => ∃ j : Nat, j <= T /\ i = .int .i64 j) (fun i => T - (intOf i).toNat)
  case atStart => exact ⟨0, Nat.zero_le _, rfl⟩
  case round =>
    obtain ⟨j, hj, rfl⟩ := hrel
    have hb0 := bit_and0 x j hx
    by_cases hgo : j < T
    · rw [HT1.out j hgo] at hb0
      have hb1 : (bits .and .u64 ((x : Int) / 2 ^ j) 1 == 0) = true := hb0
      clear hb0
      go_wp2_with fail
      go_round
      case rel => exact ⟨j + 1, by omega, by go_num⟩
      case measure => simp [intOf]; omega
    · obtain rfl : j = T := by omega
      rw [HT2.out] at hb0
      have hb1 : (bits .and .u64 ((x : Int) / 2 ^ j) 1 == 0) = false := hb0
      clear hb0 hgo hj
      have c4 : w1.cell? ⟨B, 6, none⟩ = some (.int .i64 (s.lead : Nat)) := H1.out.at_.cell 4 _ rfl
      have c5 : w1.cell? ⟨B, 7, none⟩ = some (.int .i64 (s.wide : Nat)) := H1.out.at_.cell 5 _ rfl
      clear c4 c5
      obtain ⟨F, hF⟩ : ∃ F, F = decide (fitW s.lead s.wide x) := ⟨_, rfl⟩
      have e64 : IntKind.i64.wrap (64 - ((s.lead : Nat) : Int)) = 64 - ((s.lead : Nat) : Int) := IntWalk.i64_in _ ⟨by omega, by omega⟩
      have e65 : IntKind.i64.wrap (64 - ((s.lead : Nat) : Int) - ((s.wide : Nat) : Int)) = 64 - ((s.lead : Nat) : Int) - ((s.wide : Nat) : Int) := IntWalk.i64_in _ ⟨by omega, by omega⟩
      go_upto_region 6 with fail
      go_cut [50] (fun b wx => b = .bool F /\ ChCh w B v wx v1 { s with bits := s.bits ++ [true] })
      case first =>
        have HE := Lib.hid hF
        clear hF
        by_cases k1 : 0 < s.wide
        · by_cases k2 : s.lead <= 64 - M
          · by_cases k3 : 64 - s.lead - s.wide <= j
            · have d1 : decide (0 < s.wide) = true := decide_eq_true k1
              have d2 : decide (((s.lead : Nat) : Int) <= 64 - (M : Int)) = true := decide_eq_true (by omega)
              have d3 : decide (64 - ((s.lead : Nat) : Int) - ((s.wide : Nat) : Int) <= (j : Int)) = true := decide_eq_true (by omega)
              have HV := Lib.hid (show F = true by rw [HE.out]; exact decide_eq_true (HFD.out.2 ⟨k1, k2, k3⟩))

              refine wp_region_known [(3, .int .i64 (s.wide : Nat)), (10, .int .i64 (s.lead : Nat)), (18, .int .i64 (s.lead : Nat)), (23, .int .i64 (s.wide : Nat))] (by kernel_rfl) 106 (by kernel_rfl) rfl ?_
              repeat (first
                | (refine Chain.step (v := ?_) (a' := ?_) rfl rfl rfl ?_ ?_ ?_; rotate_left 2; (focus (intro w; go_simp; try with_reducible rfl)); focus (simp only [Act.put, pqA, pqS, pqZ]; try rfl))
                | (refine Chain.call (a' := ?_) _ rfl rfl rfl (fun wx hw0 => ?_) ?_ ?_
                   rotate_left 1
                   focus
                     first
                     | (have hch := H1.out.below hw0; have g4 : wx.cell? ⟨B, 6, none⟩ = some (.int .i64 (s.lead : Nat)) := hch.at_.cell 4 _ rfl; have g5 : wx.cell? ⟨B, 7, none⟩ = some (.int .i64 (s.wide : Nat)) := hch.at_.cell 5 _ rfl; clear hch; go_simp; first | exact ⟨rfl, Below.refl _ _⟩ | exact Below.refl _ _)
                   focus (simp only [Act.put, pqA, pqS, pqZ]; try rfl))
                | (refine Chain.skip (a' := ?_) rfl rfl rfl ?_ ?_; rotate_left 1; focus (simp only [Act.put, pqA, pqS, pqZ]; try rfl)))
              refine Chain.end_ (fun wz hwz _ => ?_)
              go_wp2_with fail
              go_meet
              exact ⟨by rw [HV.out], H1.out.below hwz⟩
            · have d1 : decide (0 < s.wide) = true := decide_eq_true k1
              have d2 : decide (((s.lead : Nat) : Int) <= 64 - (M : Int)) = true := decide_eq_true (by omega)
              have d3 : decide (64 - ((s.lead : Nat) : Int) - ((s.wide : Nat) : Int) <= (j : Int)) = false := decide_eq_false (by omega)
              have HV := Lib.hid (show F = false by rw [HE.out]; exact decide_eq_false (fun h => k3 (HFD.out.1 h).2.2))

              refine wp_region_known [(3, .int .i64 (s.wide : Nat)), (10, .int .i64 (s.lead : Nat)), (18, .int .i64 (s.lead : Nat)), (23, .int .i64 (s.wide : Nat))] (by kernel_rfl) 106 (by kernel_rfl) rfl ?_
              repeat (first
                | (refine Chain.step (v := ?_) (a' := ?_) rfl rfl rfl ?_ ?_ ?_; rotate_left 2; (focus (intro w; go_simp; try with_reducible rfl)); focus (simp only [Act.put, pqA, pqS, pqZ]; try rfl))
                | (refine Chain.call (a' := ?_) _ rfl rfl rfl (fun wx hw0 => ?_) ?_ ?_
                   rotate_left 1
                   focus
                     first
                     | (have hch := H1.out.below hw0; have g4 : wx.cell? ⟨B, 6, none⟩ = some (.int .i64 (s.lead : Nat)) := hch.at_.cell 4 _ rfl; have g5 : wx.cell? ⟨B, 7, none⟩ = some (.int .i64 (s.wide : Nat)) := hch.at_.cell 5 _ rfl; clear hch; go_simp; first | exact ⟨rfl, Below.refl _ _⟩ | exact Below.refl _ _)
                   focus (simp only [Act.put, pqA, pqS, pqZ]; try rfl))
                | (refine Chain.skip (a' := ?_) rfl rfl rfl ?_ ?_; rotate_left 1; focus (simp only [Act.put, pqA, pqS, pqZ]; try rfl)))
              refine Chain.end_ (fun wz hwz _ => ?_)
              go_wp2_with fail
              go_meet
              exact ⟨by rw [HV.out], H1.out.below hwz⟩
          · have d1 : decide (0 < s.wide) = true := decide_eq_true k1
            have d2 : decide (((s.lead : Nat) : Int) <= 64 - (M : Int)) = false := decide_eq_false (by omega)
            have HV := Lib.hid (show F = false by rw [HE.out]; exact decide_eq_false (fun h => k2 (HFD.out.1 h).2.1))

            refine wp_region_known [(3, .int .i64 (s.wide : Nat)), (10, .int .i64 (s.lead : Nat))] (by kernel_rfl) 106 (by kernel_rfl) rfl ?_
            repeat (first
              | (refine Chain.step (v := ?_) (a' := ?_) rfl rfl rfl ?_ ?_ ?_; rotate_left 2; (focus (intro w; go_simp; try with_reducible rfl)); focus (simp only [Act.put, pqA, pqS, pqZ]; try rfl))
              | (refine Chain.call (a' := ?_) _ rfl rfl rfl (fun wx hw0 => ?_) ?_ ?_
                 rotate_left 1
                 focus
                   first
                   | (have hch := H1.out.below hw0; have g4 : wx.cell? ⟨B, 6, none⟩ = some (.int .i64 (s.lead : Nat)) := hch.at_.cell 4 _ rfl; have g5 : wx.cell? ⟨B, 7, none⟩ = some (.int .i64 (s.wide : Nat)) := hch.at_.cell 5 _ rfl; clear hch; go_simp; first | exact ⟨rfl, Below.refl _ _⟩ | exact Below.refl _ _)
                 focus (simp only [Act.put, pqA, pqS, pqZ]; try rfl))
              | (refine Chain.skip (a' := ?_) rfl rfl rfl ?_ ?_; rotate_left 1; focus (simp only [Act.put, pqA, pqS, pqZ]; try rfl)))
            refine Chain.end_ (fun wz hwz _ => ?_)
            go_wp2_with fail
            go_meet
            exact ⟨by rw [HV.out], H1.out.below hwz⟩
        · have d1 : decide (0 < s.wide) = false := decide_eq_false k1
          have HV := Lib.hid (show F = false by rw [HE.out]; exact decide_eq_false (fun h => k1 (HFD.out.1 h).1))

          refine wp_region_known [(3, .int .i64 (s.wide : Nat))] (by kernel_rfl) 106 (by kernel_rfl) rfl ?_
          repeat (first
            | (refine Chain.step (v := ?_) (a' := ?_) rfl rfl rfl ?_ ?_ ?_; rotate_left 2; (focus (intro w; go_simp; try with_reducible rfl)); focus (simp only [Act.put, pqA, pqS, pqZ]; try rfl))
            | (refine Chain.call (a' := ?_) _ rfl rfl rfl (fun wx hw0 => ?_) ?_ ?_
               rotate_left 1
               focus
                 first
                 | (have hch := H1.out.below hw0; have g4 : wx.cell? ⟨B, 6, none⟩ = some (.int .i64 (s.lead : Nat)) := hch.at_.cell 4 _ rfl; have g5 : wx.cell? ⟨B, 7, none⟩ = some (.int .i64 (s.wide : Nat)) := hch.at_.cell 5 _ rfl; clear hch; go_simp; first | exact ⟨rfl, Below.refl _ _⟩ | exact Below.refl _ _)
               focus (simp only [Act.put, pqA, pqS, pqZ]; try rfl))
            | (refine Chain.skip (a' := ?_) rfl rfl rfl ?_ ?_; rotate_left 1; focus (simp only [Act.put, pqA, pqS, pqZ]; try rfl)))
          refine Chain.end_ (fun wz hwz _ => ?_)
          go_wp2_with fail
          go_meet
          exact ⟨by rw [HV.out], H1.out.below hwz⟩
      case rest =>
      obtain ⟨rfl, h2⟩ := hcut
      have H2 := Lib.hid h2
      obtain ⟨Z, hZ⟩ : ∃ Z : St, Z = { s with bits := s.bits ++ valB s.lead s.wide x, lead := valL s.lead s.wide x, wide := valW s.lead s.wide x } := ⟨_, rfl⟩
      have HZ2 := Lib.hid hZ
      clear hZ h2 e64 e65 hb1
      rcases F with _ | _
      · have hnf : ¬ fitW s.lead s.wide x := fun h => by rw [decide_eq_true h] at hF; cases hF
        obtain ⟨A, hA⟩ : ∃ A : Nat, A = 64 - M := ⟨_, rfl⟩
        obtain ⟨W, hW⟩ : ∃ W : Nat, W = M - j := ⟨_, rfl⟩
        obtain ⟨W1, hW1⟩ : ∃ W1 : Nat, W1 = W - 1 := ⟨_, rfl⟩
        obtain ⟨q, hq⟩ : ∃ q : Nat, q = x / 2 ^ j := ⟨_, rfl⟩
        have HZS := Lib.hid (show Z = { s with bits := s.bits ++ [true] ++ [true] ++ bitsOf A 6 ++ bitsOf W1 6 ++ bitsOf q W, lead := A, wide := W } by rw [HZ2.out, HZ.out, HL.out, HW.out, if_neg hnf, if_neg hnf, if_neg hnf, hA, hW1, hW, hq]; simp)
        have HQ := Lib.hid (show q < 18446744073709551616 by rw [hq]; exact Nat.lt_of_le_of_lt (Nat.div_le_self _ _) hx)
        have eA : (64 : Int) - (M : Int) = (A : Int) := by omega
        have eW : (64 : Int) - (A : Int) - (j : Int) = (W : Int) := by omega
        have eW0 : IntKind.i64.wrap ((W : Int) - 1) = (W1 : Int) := by rw [IntWalk.i64_in _ ⟨by omega, by omega⟩]; omega
        have eW2 : IntKind.u64.wrap (W1 : Int) = (W1 : Int) := by rw [IntKind.wrap_u64]; omega
        have e64 : IntKind.i64.wrap (64 - (A : Int)) = (M : Int) := by rw [IntWalk.i64_in _ ⟨by omega, by omega⟩]; omega
        have e65 : IntKind.i64.wrap ((M : Int) - (W : Int)) = (j : Int) := by rw [IntWalk.i64_in _ ⟨by omega, by omega⟩]; omega
        have eq_ : (x : Int) / 2 ^ j = (q : Int) := by rw [hq]; simp
        have hA6 : A < 64 := by omega
        have hWl : A + W <= 64 := by omega
        have HW1L := Lib.hid (show W1 < 18446744073709551616 by omega)
        have EW0 := Lib.hid eW0
        have EW2 := Lib.hid eW2
        have E64 := Lib.hid e64
        have E65 := Lib.hid e65
        have EQ := Lib.hid eq_
        clear hnf hF hA hW hW1 hq eW0 eW2 e64 e65 eq_ HZ HL HW HFD
        go_wp2_with fail
        refine (rowBit_any B 0 v1 _ _ wc H2.out.at_.row (by show (s.bits ++ [true]).length < _; rw [List.length_append]; simp; omega)).mono ?_
        intro e w3 hto
        obtain ⟨rfl, v3, h3⟩ := H2.out.row hto
        clear hto
        have c4 : w3.cell? ⟨B, 6, none⟩ = some (.int .i64 (s.lead : Nat)) := h3.at_.cell 4 _ rfl
        have c5 : w3.cell? ⟨B, 7, none⟩ = some (.int .i64 (s.wide : Nat)) := h3.at_.cell 5 _ rfl
        have f4 : w3.frozen? ⟨B, 6, none⟩ = false := h3.at_.free 4 (by omega)
        have f5 : w3.frozen? ⟨B, 7, none⟩ = false := h3.at_.free 5 (by omega)
        have h4 : ChCh w B v ((w3.setCell ⟨B, 6, none⟩ (.int .i64 (A : Nat))).setCell ⟨B, 7, none⟩ (.int .i64 (W : Nat))) v3 { s with bits := s.bits ++ [true] ++ [true], lead := A, wide := W } := (h3.set 4 (by omega) (.int .i64 (A : Nat)) (s' := { s with bits := s.bits ++ [true] ++ [true], lead := A }) rfl rfl).set 5 (by omega) (.int .i64 (W : Nat)) (s' := { s with bits := s.bits ++ [true] ++ [true], lead := A, wide := W }) rfl rfl
        have H4 := Lib.hid h4
        clear h3 h4
        go_wp2_with fail
        clear c4 c5 f4 f5
        refine (rowBits_any B 0 v3 (s.bits ++ [true] ++ [true]) A 6 _ (by omega) (by omega) (by omega) H4.out.at_.row (by simp only [List.length_append, List.length_cons, List.length_nil]; omega)).mono ?_
        intro e w5 hto
        obtain ⟨rfl, v5, h5⟩ := H4.out.row hto
        have hl5 : (s.bits ++ [true] ++ [true] ++ bitsOf A (clip 6)).length < 10000000100 := by simp only [List.length_append, List.length_cons, List.length_nil, bitsOf_length, show clip 6 = 6 from rfl]; omega
        obtain ⟨s5, hs5⟩ : ∃ s5 : St, s5 = { s with bits := s.bits ++ [true] ++ [true] ++ bitsOf A (clip 6), lead := A, wide := W } := ⟨_, rfl⟩
        have h5 : ChCh w B v w5 v5 s5 := by rw [hs5]; exact h5
        have hsl : s5.bits.length < 10000000100 := by rw [hs5]; exact hl5
        have hsA : s5.lead = A := by rw [hs5]
        have hsW : s5.wide = W := by rw [hs5]
        obtain ⟨s6, hs6⟩ : ∃ s6 : St, s6 = { s5 with bits := s5.bits ++ bitsOf W1 6 } := ⟨_, rfl⟩
        have hs6A : s6.lead = A := by rw [hs6]; exact hsA
        have hs6W : s6.wide = W := by rw [hs6]; exact hsW
        have HS6 := Lib.hid hs6
        have HZ6 := Lib.hid (show Z = { s6 with bits := s6.bits ++ bitsOf q W } by rw [HZS.out, hs6, hs5]; rfl)
        have H5 := Lib.hid h5
        have HLB5 := Lib.hid (show s5.bits.length < 100000000000 by omega)
        have HLB := Lib.hid (show s6.bits.length < 100000000000 by rw [hs6]; show (s5.bits ++ bitsOf W1 6).length < _; rw [List.length_append, bitsOf_length]; omega)
        have HSA := Lib.hid hsA
        have HSW := Lib.hid hsW
        have HS6A := Lib.hid hs6A
        have HS6W := Lib.hid hs6W
        clear hto h5 hl5 hs5 hsl hsA hsW hs6 hs6A hs6W eA eW
        go_upto_region 11 with fail
        have eW0 := EW0.out
        have eW2 := EW2.out
        refine Dn.wp_region_states [(6, .int .i64 (W : Nat)), (9, .tuple #[])] (LP 9 w5.drew (LastB w B v s6)) (by kernel_rfl) 106 (by kernel_rfl) rfl (LP.pure rfl) LP.start ?_
        repeat (first
          | (refine Dn.Chain.step (v := ?_) (a' := ?_) rfl rfl rfl ?_ ?_ ?_; rotate_left 2; (focus (intro w; go_simp; try with_reducible rfl)); focus (simp only [Act.put, pqA, pqS, pqZ]; try rfl))
          | (refine Dn.Chain.call (a' := ?_) _ rfl rfl rfl (fun D wx hx hD hp => ?_) ?_ ?_
             rotate_left 1
             focus
               first
               | (have hw := hx.at_ hD (by decide)
                  subst hw
                  have g5 : w5.cell? ⟨B, 7, none⟩ = some (.int .i64 (W : Nat)) := by rw [<- HSW.out]; exact H5.out.at_.cell 5 _ rfl
                  go_simp
                  first | exact ⟨rfl, hx.read hD (by decide)⟩ | exact hx.read hD (by decide))
               | (have hall := pre_all hp (by kernel_rfl)
                  have hw := hx.1 hD
                  subst hw
                  have hR3 := H5.out.below (Below.refl _ _).drew
                  go_simp
                  (with_reducible refine (rowBits_any B 0 v5 _ W1 6 _ (by omega) (by omega) HW1L.out hR3.at_.row HLB5.out).mono ?_)
                  intro e w3 hto
                  obtain ⟨rfl, v3, hR4⟩ := hR3.row hto
                  exact ⟨rfl, LP.last hall ⟨v3, by rw [HS6.out]; exact hR4⟩⟩)
             focus (simp only [Act.put, pqA, pqS, pqZ]; try rfl))
          | (refine Dn.Chain.skip (a' := ?_) rfl rfl rfl ?_ ?_; rotate_left 1; focus (simp only [Act.put, pqA, pqS, pqZ]; try rfl)))
        refine Dn.Chain.end_ (fun D w6 hDD hx => ?_)
        obtain ⟨v6, h6⟩ := hx.end_ (hDD 9 (by decide))
        have H6 := Lib.hid h6
        clear h6 eW0 eW2
        go_upto_region 12 with fail
        have e64 := E64.out
        have e65 := E65.out
        have eq_ := EQ.out
        refine Dn.wp_region_states [(7, .int .i64 (A : Nat)), (12, .int .i64 (W : Nat)), (18, .int .i64 (W : Nat)), (19, .tuple #[])] (LP 19 w6.drew (LastB w B v Z)) (by kernel_rfl) 106 (by kernel_rfl) rfl (LP.pure rfl) LP.start ?_
        repeat (first
          | (refine Dn.Chain.step (v := ?_) (a' := ?_) rfl rfl rfl ?_ ?_ ?_; rotate_left 2; (focus (intro w; go_simp; try with_reducible rfl)); focus (simp only [Act.put, pqA, pqS, pqZ]; try rfl))
          | (refine Dn.Chain.call (a' := ?_) _ rfl rfl rfl (fun D wx hx hD hp => ?_) ?_ ?_
             rotate_left 1
             focus
               first
               | (have hw := hx.at_ hD (by decide)
                  subst hw
                  have g4 : w6.cell? ⟨B, 6, none⟩ = some (.int .i64 (A : Nat)) := by rw [<- HS6A.out]; exact H6.out.at_.cell 4 _ rfl
                  have g5 : w6.cell? ⟨B, 7, none⟩ = some (.int .i64 (W : Nat)) := by rw [<- HS6W.out]; exact H6.out.at_.cell 5 _ rfl
                  go_simp
                  first | exact ⟨rfl, hx.read hD (by decide)⟩ | exact hx.read hD (by decide))
               | (have hall := pre_all hp (by kernel_rfl)
                  have hw := hx.1 hD
                  subst hw
                  have hR3 := H6.out.below (Below.refl _ _).drew
                  go_simp
                  (with_reducible refine (rowBits_any B 0 v6 _ q (W : Nat) _ (by omega) (by omega) HQ.out hR3.at_.row HLB.out).mono ?_)
                  intro e w3 hto
                  obtain ⟨rfl, v3, hR4⟩ := hR3.row hto
                  rw [clip_nat _ (by omega)] at hR4
                  exact ⟨rfl, LP.last hall ⟨v3, by rw [HZ6.out]; exact hR4⟩⟩)
             focus (simp only [Act.put, pqA, pqS, pqZ]; try rfl))
          | (refine Dn.Chain.skip (a' := ?_) rfl rfl rfl ?_ ?_; rotate_left 1; focus (simp only [Act.put, pqA, pqS, pqZ]; try rfl)))
        refine Dn.Chain.end_ (fun D wz hDD hx => ?_)
        obtain ⟨v9, hR9⟩ := hx.end_ (hDD 19 (by decide))
        rw [HZ2.out] at hR9
        have HR9 := Lib.hid hR9
        clear hR9
        go_wp2_with fail
        go_end0
        exact ⟨rfl, v9, HR9.out⟩

      · have hfw : fitW s.lead s.wide x := of_decide_eq_true hF.symm
        obtain ⟨SH, hSH⟩ : ∃ SH : Nat, SH = 64 - s.lead - s.wide := ⟨_, rfl⟩
        obtain ⟨q, hq⟩ : ∃ q : Nat, q = x / 2 ^ SH := ⟨_, rfl⟩
        obtain ⟨A, hA⟩ : ∃ A : Nat, A = 64 - s.lead := ⟨_, rfl⟩
        have HZS := Lib.hid (show Z = { s with bits := s.bits ++ [true] ++ [false] ++ bitsOf q s.wide } by rw [HZ2.out, HZ.out, HL.out, HW.out, if_pos hfw, if_pos hfw, if_pos hfw, hq, hSH]; simp)
        have HQ := Lib.hid (show q < 18446744073709551616 by rw [hq]; exact Nat.lt_of_le_of_lt (Nat.div_le_self _ _) hx)
        have e64 : IntKind.i64.wrap (64 - ((s.lead : Nat) : Int)) = (A : Int) := by rw [IntWalk.i64_in _ ⟨by omega, by omega⟩]; omega
        have e65 : IntKind.i64.wrap ((A : Int) - ((s.wide : Nat) : Int)) = (SH : Int) := by rw [IntWalk.i64_in _ ⟨by omega, by omega⟩]; omega
        have eq_ : (x : Int) / 2 ^ SH = (q : Int) := by rw [hq]; simp
        have hSH6 : SH <= 64 := by omega
        clear hfw hF hSH hq hA HZ HL HW HFD
        have E64 := Lib.hid e64
        have E65 := Lib.hid e65
        have EQ := Lib.hid eq_
        clear e64 e65 eq_
        go_wp2_with fail
        refine (rowBit_any B 0 v1 _ _ wc H2.out.at_.row (by show (s.bits ++ [true]).length < _; rw [List.length_append]; simp; omega)).mono ?_
        intro e w3 hto
        obtain ⟨rfl, v3, h3⟩ := H2.out.row hto
        have H3 := Lib.hid h3
        have HLB := Lib.hid (show (s.bits ++ [true] ++ [false]).length < 100000000000 by simp only [List.length_append, List.length_cons, List.length_nil]; omega)
        clear hto h3
        go_upto_region 12 with fail
        have e64 := E64.out
        have e65 := E65.out
        have eq_ := EQ.out
        refine Dn.wp_region_states [(7, .int .i64 (s.lead : Nat)), (12, .int .i64 (s.wide : Nat)), (18, .int .i64 (s.wide : Nat)), (19, .tuple #[])] (LP 19 w3.drew (LastB w B v Z)) (by kernel_rfl) 106 (by kernel_rfl) rfl (LP.pure rfl) LP.start ?_
        repeat (first
          | (refine Dn.Chain.step (v := ?_) (a' := ?_) rfl rfl rfl ?_ ?_ ?_; rotate_left 2; (focus (intro w; go_simp; try with_reducible rfl)); focus (simp only [Act.put, pqA, pqS, pqZ]; try rfl))
          | (refine Dn.Chain.call (a' := ?_) _ rfl rfl rfl (fun D wx hx hD hp => ?_) ?_ ?_
             rotate_left 1
             focus
               first
               | (have hw := hx.at_ hD (by decide)
                  subst hw
                  have g4 : w3.cell? ⟨B, 6, none⟩ = some (.int .i64 (s.lead : Nat)) := H3.out.at_.cell 4 _ rfl
                  have g5 : w3.cell? ⟨B, 7, none⟩ = some (.int .i64 (s.wide : Nat)) := H3.out.at_.cell 5 _ rfl
                  go_simp
                  first | exact ⟨rfl, hx.read hD (by decide)⟩ | exact hx.read hD (by decide))
               | (have hall := pre_all hp (by kernel_rfl)
                  have hw := hx.1 hD
                  subst hw
                  have hR3 := H3.out.below (Below.refl _ _).drew
                  go_simp
                  (with_reducible refine (rowBits_any B 0 v3 _ q (s.wide : Nat) _ (by omega) (by omega) HQ.out hR3.at_.row HLB.out).mono ?_)
                  intro e w3 hto
                  obtain ⟨rfl, v3, hR4⟩ := hR3.row hto
                  rw [clip_nat _ (by omega)] at hR4
                  exact ⟨rfl, LP.last hall ⟨v3, by rw [HZS.out]; exact hR4⟩⟩)
             focus (simp only [Act.put, pqA, pqS, pqZ]; try rfl))
          | (refine Dn.Chain.skip (a' := ?_) rfl rfl rfl ?_ ?_; rotate_left 1; focus (simp only [Act.put, pqA, pqS, pqZ]; try rfl)))
        refine Dn.Chain.end_ (fun D wz hDD hx => ?_)
        obtain ⟨v9, hR9⟩ := hx.end_ (hDD 19 (by decide))
        rw [HZ2.out] at hR9
        have HR9 := Lib.hid hR9
        clear hR9
        go_wp2_with fail
        go_end0
        exact ⟨rfl, v9, HR9.out⟩

end Go.Proofs.YtgabmfibfikdbaaGreatDoor
