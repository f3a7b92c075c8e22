/-
  Layer 7: the walks of Append, Len, Text and Of.
-/
import Derived.Test.YtgabmfibfikdbaaGreatDoorZXorA

set_option maxHeartbeats 32000000
set_option maxRecDepth 10000
namespace Go.Proofs.YtgabmfibfikdbaaGreatDoor
open Go.RowKit Go.Bar Go.Bar.Bit Go.Bar.Leb Go.Bar.Xor

def valS (s : St) (x : Nat) : St := { s with bits := s.bits ++ valB s.lead s.wide x, lead := valL s.lead s.wide x, wide := valW s.lead s.wide x }
theorem value_any (B : Nat) (v : Value) (s : St) (x : Nat) (w : World) (h : ChAt w B v s) (hl : s.bits.length < 10000000000) (hx : x < 18446744073709551616) (hw : s.lead + s.wide <= 64) :
    Calls Tryz.prog 128 #[.pointer (some ⟨B, 0, none⟩), .int .u64 x] w (ChTo w B v (valS s x)) := by
  rcases Nat.eq_zero_or_pos x with rfl | h0
  · have := value_zero B v s w h hl
    have e : valS s 0 = { s with bits := s.bits ++ [false] } := by simp [valS, valB, valL, valW]
    rw [e]
    exact this
  · exact value_some B v s x w h hl h0 hx hw

structure ChN (w0 w : World) (B : Nat) (v : Value) (s : St) : Prop where
  at_ : ChAt w B v s
  below : Below w0.heap.size w0 w
  b_new : w0.heap.size <= B
  v_new : ∀ k, v.ownBlock = some k -> w0.heap.size <= k
section
variable {w0 w w' : World} {B : Nat} {v v' : Value} {s s' : St}
theorem ChN.next (h : ChN w0 w B v s) (hc : ChCh w B v w' v' s') : ChN w0 w' B v' s' := by
  have := hc.rowNew h.below h.b_new h.v_new
  exact ⟨hc.at_, this.below, h.b_new, this.v_new⟩
theorem ChN.then_below (h : ChN w0 w B v s) (hb : Below w.heap.size w w') : ChN w0 w' B v s := ⟨h.at_.below hb, h.below.trans (hb.mono h.below.size), h.b_new, h.v_new⟩
theorem ChN.row (h : ChN w0 w B v s) : RowNew w0 w B v s.bits := ⟨h.at_.row, h.below, h.b_new, h.v_new⟩
theorem ChN.lt (h : ChN w0 w B v s) : B < w.heap.size := World.block_lt_of_cell? _ _ h.at_.row.c0
theorem ChN.start (h : Below w0.heap.size w0 w) (t : TypeId) : ChN w0 (w.alloc (.cells #[.slice none 0 0, .int .i64 0, .int .i64 0, .int .i64 0, .int .u64 0, .int .i64 0, .int .i64 0, .int .i64 0] t)) w.heap.size (.slice none 0 0) St.zero := by
  refine ⟨⟨⟨?_, ?_, ?_, ?_, BBuf.nil _ _, by simp [Value.ownBlock], by simp [Value.ownBlock]⟩, fun i u hu => ?_, fun i hi => World.frozen?_alloc_new w _ _ _⟩, h.alloc h.size _, h.size, by simp [Value.ownBlock]⟩
  · rw [World.cell?_alloc_new]; rfl
  · rw [World.cell?_alloc_new]; rfl
  · exact World.frozen?_alloc_new w _ _ _
  · exact World.frozen?_alloc_new w _ _ _
  · rw [World.cell?_alloc_new]
    have hi : i < 6 := (List.getElem?_eq_some_iff.1 hu).1
    rw [<- hu]
    rcases (show i = 0 \/ i = 1 \/ i = 2 \/ i = 3 \/ i = 4 \/ i = 5 by omega) with rfl | rfl | rfl | rfl | rfl | rfl <;> rfl
end

theorem append_err (B : Nat) (v : Value) (s : St) (x : Sm) (w : World) (h : ChAt w B v s) (hn : s.n <= 120) (he : err s x ≠ 0) :
    Calls Tryz.prog 107 #[.pointer (some ⟨B, 0, none⟩), .agg #[.int .i64 x.1, .int .u64 (x.2 : Nat)]] w (RetBelow w (.int .i64 (err s x : Nat))) := by
  have hba := ba1 w (.cells #[.int .i64 x.1, .int .u64 (x.2 : Nat)] 41)
  have h1 := h.below hba
  have hX := Blk.new w #[.int .i64 x.1, .int .u64 (x.2 : Nat)] 41
  obtain ⟨T, V⟩ := x
  simp only at hba h1 hX ⊢
  have hcs : (T < 0 /\ err s (T, V) = 1) \/ (0 <= T /\ 1099511627776 < T /\ err s (T, V) = 1) \/ (0 <= T /\ T <= 1099511627776 /\ 0 < s.n /\ T <= s.t /\ err s (T, V) = 10) \/ (0 <= T /\ T <= 1099511627776 /\ s.t < T /\ s.n = 120 /\ err s (T, V) = 7) := by
    unfold err at he ⊢
    simp only at he ⊢
    repeat' split at he
    all_goals repeat' split
    all_goals first | omega | exact absurd rfl he
  obtain ⟨E, hE⟩ : ∃ E, E = err s (T, V) := ⟨_, rfl⟩
  rw [<- hE] at hcs ⊢
  clear he hE
  obtain ⟨row, hcell, hfree⟩ := h1
  clear row
  have c0 : (w.alloc (.cells #[.int .i64 T, .int .u64 (V : Nat)] 41)).cell? ⟨B, 2, none⟩ = some (.int .i64 (s.n : Nat)) := hcell 0 _ rfl
  have c1 : (w.alloc (.cells #[.int .i64 T, .int .u64 (V : Nat)] 41)).cell? ⟨B, 3, none⟩ = some (.int .i64 s.t) := hcell 1 _ rfl
  have x0 : (w.alloc (.cells #[.int .i64 T, .int .u64 (V : Nat)] 41)).cell? ⟨w.heap.size, 0, none⟩ = some (.int .i64 T) := hX.cell (i := 0) rfl
  have C0 := Lib.hid c0
  have C1 := Lib.hid c1
  have X0 := Lib.hid x0
  clear c0 c1 x0 hcell hfree h hX
  rcases hcs with ⟨g1, rfl⟩ | ⟨g1, g2, rfl⟩ | ⟨g1, g2, g3, g4, rfl⟩ | ⟨g1, g2, g3, g4, rfl⟩
  · have d1 : decide (T < 0) = true := decide_eq_true g1
    go_enter Tryz.func107, Tryz.ntmps107
    go_wp2_with fail
    go_ret
    exact ⟨rfl, hba⟩
  · have d1 : decide (T < 0) = false := decide_eq_false (by omega)
    have d2 : decide (1099511627776 < T) = true := decide_eq_true g2
    go_enter Tryz.func107, Tryz.ntmps107
    go_wp2_with fail
    go_ret
    exact ⟨rfl, hba⟩
  · have d1 : decide (T < 0) = false := decide_eq_false (by omega)
    have d2 : decide (1099511627776 < T) = false := decide_eq_false (by omega)
    have d3 : decide (0 < s.n) = true := decide_eq_true g3
    have d4 : decide (T <= s.t) = true := decide_eq_true g4
    go_enter Tryz.func107, Tryz.ntmps107
    go_wp2_with fail
    refine wp_region_known [(3, .int .i64 (s.n : Nat)), (7, .int .i64 T), (12, .int .i64 s.t)] (by kernel_rfl) 97 (by kernel_rfl) rfl ?_
    repeat (first
      | (refine Chain.step (v := ?_) (a' := ?_) rfl rfl rfl ?_ ?_ ?_; rotate_left 2; (focus (intro w; go_simp; try with_reducible rfl)); focus (simp only [Act.put, pqA, pqS, pqZ]; try rfl))
      | (refine Chain.call (a' := ?_) _ rfl rfl rfl (fun wx hw => ?_) ?_ ?_
         rotate_left 1
         focus
           first
           | (have y0 := (hw.cell (p := ⟨B, 2, none⟩) (World.block_lt_of_cell? _ _ C0.out)).trans C0.out; have y1 := (hw.cell (p := ⟨B, 3, none⟩) (World.block_lt_of_cell? _ _ C1.out)).trans C1.out; have y2 := (hw.cell (p := ⟨w.heap.size, 0, none⟩) (World.block_lt_of_cell? _ _ X0.out)).trans X0.out; go_simp; first | exact ⟨rfl, Below.refl _ _⟩ | exact Below.refl _ _)
         focus (simp only [Act.put, pqA, pqS, pqZ]; try rfl))
      | (refine Chain.skip (a' := ?_) rfl rfl rfl ?_ ?_; rotate_left 1; focus (simp only [Act.put, pqA, pqS, pqZ]; try rfl)))
    refine Chain.end_ (fun wz hwz _ => ?_)
    go_wp2_with fail
    go_ret
    exact ⟨rfl, below_trans hba hwz⟩
  · have d1 : decide (T < 0) = false := decide_eq_false (by omega)
    have d2 : decide (1099511627776 < T) = false := decide_eq_false (by omega)
    have d3 : decide (0 < s.n) = true := decide_eq_true (by omega)
    have d4 : decide (T <= s.t) = false := decide_eq_false (by omega)
    have d5 : (((s.n : Nat) : Int) == 120) = true := by rw [beq_iff_eq]; omega
    have D5 := Lib.hid d5
    clear d5 g4
    go_enter Tryz.func107, Tryz.ntmps107
    go_wp2_with fail
    refine wp_region_known [(3, .int .i64 (s.n : Nat)), (7, .int .i64 T), (12, .int .i64 s.t)] (by kernel_rfl) 97 (by kernel_rfl) rfl ?_
    repeat (first
      | (refine Chain.step (v := ?_) (a' := ?_) rfl rfl rfl ?_ ?_ ?_; rotate_left 2; (focus (intro w; go_simp; try with_reducible rfl)); focus (simp only [Act.put, pqA, pqS, pqZ]; try rfl))
      | (refine Chain.call (a' := ?_) _ rfl rfl rfl (fun wx hw => ?_) ?_ ?_
         rotate_left 1
         focus
           first
           | (have y0 := (hw.cell (p := ⟨B, 2, none⟩) (World.block_lt_of_cell? _ _ C0.out)).trans C0.out; have y1 := (hw.cell (p := ⟨B, 3, none⟩) (World.block_lt_of_cell? _ _ C1.out)).trans C1.out; have y2 := (hw.cell (p := ⟨w.heap.size, 0, none⟩) (World.block_lt_of_cell? _ _ X0.out)).trans X0.out; go_simp; first | exact ⟨rfl, Below.refl _ _⟩ | exact Below.refl _ _)
         focus (simp only [Act.put, pqA, pqS, pqZ]; try rfl))
      | (refine Chain.skip (a' := ?_) rfl rfl rfl ?_ ?_; rotate_left 1; focus (simp only [Act.put, pqA, pqS, pqZ]; try rfl)))
    refine Chain.end_ (fun wz hwz _ => ?_)
    have y0 := (hwz.cell (p := ⟨B, 2, none⟩) (World.block_lt_of_cell? _ _ C0.out)).trans C0.out
    have d5 := D5.out
    go_wp2_with fail
    go_ret
    exact ⟨rfl, below_trans hba hwz⟩

def RetA (w : World) (B : Nat) (v : Value) (s : St) (e : Ending) (w' : World) : Prop := e = .returned (.int .i64 0) /\ ∃ v', ChCh w B v w' v' s
theorem ChCh.after {w wA w' : World} {B : Nat} {v v' : Value} {s : St} (hb : Below w.heap.size w wA) (h : ChCh wA B v w' v' s) : ChCh w B v w' v' s := by
  refine ⟨h.at_, (Fr.of_below hb).trans' h.fr (fun _ _ _ hS => hS), ?_⟩
  rcases h.mv with e1 | ⟨g, e1, hg⟩
  · exact .inl e1
  · exact .inr ⟨g, e1, Nat.le_trans hb.size hg⟩
theorem ChCh.blk {w w' : World} {B : Nat} {v v' : Value} {s : St} (h : ChCh w B v w' v' s) {X : Nat} {T : TypeId} {cur : Array Value} (hX : Blk w X T cur) (h1 : X ≠ B) (h2 : v.ownBlock ≠ some X) : Blk w' X T cur :=
  hX.fr h.fr (fun _ hS => hS.elim h1 h2)

theorem append_first (B : Nat) (v : Value) (s : St) (x : Sm) (w : World) (h : ChAt w B v s) (hs : s.Ok) (hn : s.n = 0) (he : err s x = 0) (hx : x.2 < 18446744073709551616) :
    Calls Tryz.prog 107 #[.pointer (some ⟨B, 0, none⟩), .agg #[.int .i64 x.1, .int .u64 (x.2 : Nat)]] w (RetA w B v (s.put x)) := by
  have hba := ba1 w (.cells #[.int .i64 x.1, .int .u64 (x.2 : Nat)] 41)
  have h1 := h.below hba
  have hX := Blk.new w #[.int .i64 x.1, .int .u64 (x.2 : Nat)] 41
  obtain ⟨e1, e2, _, _⟩ := err_zero he
  have hl := hs.len
  rw [hn] at hl
  obtain ⟨T, V⟩ := x
  simp only at hba h1 hX hx e1 e2 ⊢
  have hBlt : B < w.heap.size := World.block_lt_of_cell? _ _ h.row.c0
  have hne1 : w.heap.size ≠ B := by omega
  have hne2 : v.ownBlock ≠ some w.heap.size := fun hh => by have := h.row.lt _ hh; omega
  obtain ⟨TN, hTN⟩ : ∃ TN : Nat, TN = T.toNat := ⟨_, rfl⟩
  obtain ⟨Z, hZ⟩ : ∃ Z : St, Z = s.put (T, V) := ⟨_, rfl⟩
  rw [<- hZ]
  have HZ := Lib.hid (show Z = ⟨s.bits ++ bitsOf TN 41 ++ bitsOf V 64, 1, T, V, s.step, s.lead, s.wide⟩ by rw [hZ, hTN]; unfold St.put; rw [if_pos hn])
  have HT := Lib.hid (show IntKind.u64.wrap T = (TN : Int) by rw [IntKind.wrap_u64]; omega)
  have HTL := Lib.hid (show TN < 18446744073709551616 by omega)
  have HVL := Lib.hid hx
  have d1 : decide (T < 0) = false := decide_eq_false (by omega)
  have d2 : decide (1099511627776 < T) = false := decide_eq_false (by omega)
  clear hZ hTN he h hx
  obtain ⟨wA, hwA⟩ : ∃ x : World, x = w.alloc (.cells #[.int .i64 T, .int .u64 (V : Nat)] 41) := ⟨_, rfl⟩
  have HA := Lib.hid (show Below w.heap.size w wA by rw [hwA]; exact hba)
  have h1 : ChAt wA B v s := by rw [hwA]; exact h1
  have hX : Blk wA w.heap.size 41 #[.int .i64 T, .int .u64 (V : Nat)] := by rw [hwA]; exact hX
  have H1 := Lib.hid h1
  have HX := Lib.hid hX
  have x0 : (w.alloc (.cells #[.int .i64 T, .int .u64 (V : Nat)] 41)).cell? ⟨w.heap.size, 0, none⟩ = some (.int .i64 T) := by rw [<- hwA]; exact hX.cell (i := 0) rfl
  clear h1 hX hba
  go_enter Tryz.func107, Tryz.ntmps107
  go_upto_region 3 with fail
  rw [<- hwA]
  clear x0 hwA d1 d2
  refine wp_region_known [(3, .int .i64 0)] (by kernel_rfl) 97 (by kernel_rfl) rfl ?_
  repeat (first
    | (refine Chain.step (v := ?_) (a' := ?_) rfl rfl rfl ?_ ?_ ?_; rotate_left 2; (focus (intro w; go_simp; try with_reducible rfl)); focus (simp only [Act.put, pqA, pqS, pqZ]; try rfl))
    | (refine Chain.call (a' := ?_) _ rfl rfl rfl (fun wx hw => ?_) ?_ ?_
       rotate_left 1
       focus
         first
         | (have y0 : wx.cell? ⟨B, 2, none⟩ = some (.int .i64 0) := ((H1.out.below hw).cell 0 _ rfl).trans (by rw [hn]; rfl); go_simp; first | exact ⟨rfl, Below.refl _ _⟩ | exact Below.refl _ _)
       focus (simp only [Act.put, pqA, pqS, pqZ]; try rfl))
    | (refine Chain.skip (a' := ?_) rfl rfl rfl ?_ ?_; rotate_left 1; focus (simp only [Act.put, pqA, pqS, pqZ]; try rfl)))
  refine Chain.end_ (fun w1 hw1 _ => ?_)
  have H2 := Lib.hid ((ChCh.refl H1.out).below hw1)
  have HX2 := Lib.hid (HX.out.below hw1)
  have c2 : w1.cell? ⟨B, 2, none⟩ = some (.int .i64 0) := (H2.out.at_.cell 0 _ rfl).trans (by rw [hn]; rfl)
  clear hw1
  go_upto_region 8 with fail
  clear c2
  obtain ⟨s2, hs2⟩ : ∃ s2 : St, s2 = { s with bits := s.bits ++ bitsOf TN 41 } := ⟨_, rfl⟩
  obtain ⟨s3, hs3⟩ : ∃ s3 : St, s3 = { s2 with bits := s2.bits ++ bitsOf V 64 } := ⟨_, rfl⟩
  have HLB := Lib.hid (show s.bits.length < 100000000000 by omega)
  have HLB2 := Lib.hid (show s2.bits.length < 100000000000 by rw [hs2]; show (s.bits ++ bitsOf TN 41).length < _; rw [List.length_append, bitsOf_length]; omega)
  have HS2 := Lib.hid hs2
  have HS3 := Lib.hid hs3
  have hT := HT.out
  clear hs2 hs3 hl
  refine Dn.wp_region_states [(4, .int .i64 T), (6, .tuple #[])] (LP 6 w1.drew (LastB wA B v s2)) (by kernel_rfl) 97 (by kernel_rfl) rfl (LP.pure rfl) LP.start ?_
  repeat (first
    | (refine Dn.Chain.step (v := ?_) (a' := ?_) rfl rfl rfl ?_ ?_ ?_; rotate_left 2; (focus (intro w; go_simp; try with_reducible rfl)); focus (simp only [Act.put, pqA, pqS, pqZ]; try rfl))
    | (refine Dn.Chain.call (a' := ?_) _ rfl rfl rfl (fun D wx hx hD hp => ?_) ?_ ?_
       rotate_left 1
       focus
         first
         | (have hw := hx.at_ hD (by decide)
            subst hw
            have y0 : w1.cell? ⟨w.heap.size, 0, none⟩ = some (.int .i64 T) := HX2.out.cell (i := 0) rfl
            go_simp
            first | exact ⟨rfl, hx.read hD (by decide)⟩ | exact hx.read hD (by decide))
         | (have hall := pre_all hp (by kernel_rfl)
            have hw := hx.1 hD
            subst hw
            have hR3 := H2.out.below (Below.refl _ _).drew
            go_simp
            (with_reducible refine (rowBits_any B 0 v _ TN 41 _ (by omega) (by omega) HTL.out hR3.at_.row HLB.out).mono ?_)
            intro e w3 hto
            obtain ⟨rfl, v3, hR4⟩ := hR3.row hto
            exact ⟨rfl, LP.last hall ⟨v3, by rw [HS2.out]; exact hR4⟩⟩)
       focus (simp only [Act.put, pqA, pqS, pqZ]; try rfl))
    | (refine Dn.Chain.skip (a' := ?_) rfl rfl rfl ?_ ?_; rotate_left 1; focus (simp only [Act.put, pqA, pqS, pqZ]; try rfl)))
  refine Dn.Chain.end_ (fun D w2 hDD hx => ?_)
  obtain ⟨v2, h3⟩ := hx.end_ (hDD 6 (by decide))
  have H3 := Lib.hid h3
  have HX3 := Lib.hid (h3.blk HX.out hne1 hne2)
  clear h3 hx hDD hT
  go_upto_region 9 with fail
  refine Dn.wp_region_states [(4, .int .u64 (V : Nat)), (5, .tuple #[])] (LP 5 w2.drew (LastB wA B v s3)) (by kernel_rfl) 97 (by kernel_rfl) rfl (LP.pure rfl) LP.start ?_
  repeat (first
    | (refine Dn.Chain.step (v := ?_) (a' := ?_) rfl rfl rfl ?_ ?_ ?_; rotate_left 2; (focus (intro w; go_simp; try with_reducible rfl)); focus (simp only [Act.put, pqA, pqS, pqZ]; try rfl))
    | (refine Dn.Chain.call (a' := ?_) _ rfl rfl rfl (fun D wx hx hD hp => ?_) ?_ ?_
       rotate_left 1
       focus
         first
         | (have hw := hx.at_ hD (by decide)
            subst hw
            have y0 : w2.cell? ⟨w.heap.size, 1, none⟩ = some (.int .u64 (V : Nat)) := HX3.out.cell (i := 1) rfl
            go_simp
            first | exact ⟨rfl, hx.read hD (by decide)⟩ | exact hx.read hD (by decide))
         | (have hall := pre_all hp (by kernel_rfl)
            have hw := hx.1 hD
            subst hw
            have hR3 := H3.out.below (Below.refl _ _).drew
            go_simp
            (with_reducible refine (rowBits_any B 0 v2 _ V 64 _ (by omega) (by omega) HVL.out hR3.at_.row HLB2.out).mono ?_)
            intro e w3 hto
            obtain ⟨rfl, v3, hR4⟩ := hR3.row hto
            exact ⟨rfl, LP.last hall ⟨v3, by rw [HS3.out]; exact hR4⟩⟩)
       focus (simp only [Act.put, pqA, pqS, pqZ]; try rfl))
    | (refine Dn.Chain.skip (a' := ?_) rfl rfl rfl ?_ ?_; rotate_left 1; focus (simp only [Act.put, pqA, pqS, pqZ]; try rfl)))
  refine Dn.Chain.end_ (fun D w3 hDD hx => ?_)
  obtain ⟨v3, h4⟩ := hx.end_ (hDD 5 (by decide))
  have hX4 := h4.blk HX.out hne1 hne2
  have s3n : s3.n = 0 := by rw [HS3.out, HS2.out]; exact hn
  have c0 : w3.cell? ⟨B, 2, none⟩ = some (.int .i64 0) := (h4.at_.cell 0 _ rfl).trans (by rw [s3n]; rfl)
  have c1 : w3.cell? ⟨B, 3, none⟩ = some (.int .i64 s3.t) := h4.at_.cell 1 _ rfl
  have c2 : w3.cell? ⟨B, 4, none⟩ = some (.int .u64 (s3.v : Nat)) := h4.at_.cell 2 _ rfl
  have f0 : w3.frozen? ⟨B, 2, none⟩ = false := h4.at_.free 0 (by omega)
  have f1 : w3.frozen? ⟨B, 3, none⟩ = false := h4.at_.free 1 (by omega)
  have f2 : w3.frozen? ⟨B, 4, none⟩ = false := h4.at_.free 2 (by omega)
  have x0 : w3.cell? ⟨w.heap.size, 0, none⟩ = some (.int .i64 T) := hX4.cell (i := 0) rfl
  have x1 : w3.cell? ⟨w.heap.size, 1, none⟩ = some (.int .u64 (V : Nat)) := hX4.cell (i := 1) rfl
  have h5 : ChCh wA B v (((w3.setCell ⟨B, 3, none⟩ (.int .i64 T)).setCell ⟨B, 4, none⟩ (.int .u64 (V : Nat))).setCell ⟨B, 2, none⟩ (.int .i64 1)) v3 Z :=
    ((h4.set 1 (by omega) (.int .i64 T) (s' := { s3 with t := T }) rfl rfl).set 2 (by omega) (.int .u64 (V : Nat)) (s' := { s3 with t := T, v := V }) rfl rfl).set 0 (by omega) (.int .i64 1) (s' := Z) (by rw [HZ.out, HS3.out, HS2.out]) (by rw [HZ.out, HS3.out, HS2.out]; rfl)
  have H5 := Lib.hid (h5.after HA.out)
  clear h4 h5 hX4 s3n hx hDD
  go_wp2_with fail
  go_ret
  exact ⟨rfl, v3, H5.out⟩

theorem append_next (w0 : World) (B : Nat) (v : Value) (s : St) (x : Sm) (w : World) (hN : ChN w0 w B v s) (hW : WidthsAt w0) (hs : s.Ok) (hn : 0 < s.n) (he : err s x = 0) (hx : x.2 < 18446744073709551616) :
    Calls Tryz.prog 107 #[.pointer (some ⟨B, 0, none⟩), .agg #[.int .i64 x.1, .int .u64 (x.2 : Nat)]] w (RetA w B v (s.put x)) := by
  have h := hN.at_
  have hba := ba1 w (.cells #[.int .i64 x.1, .int .u64 (x.2 : Nat)] 41)
  have hNA := hN.then_below hba
  have h1 := h.below hba
  have hX := Blk.new w #[.int .i64 x.1, .int .u64 (x.2 : Nat)] 41
  obtain ⟨e1, e2, e3, e4⟩ := err_zero he
  have e3 := e3 hn
  have hl := hs.len
  have hn2 := hs.n
  have hwin := hs.win
  have hst := hs.step
  have hst2 := hs.t
  obtain ⟨T, V⟩ := x
  simp only at hba h1 hX hx e1 e2 e3 hNA ⊢
  have hBlt : B < w.heap.size := World.block_lt_of_cell? _ _ h.row.c0
  have hne1 : w.heap.size ≠ B := by omega
  have hne2 : v.ownBlock ≠ some w.heap.size := fun hh => by have := h.row.lt _ hh; omega
  obtain ⟨D, hD⟩ : ∃ D : Int, D = T - s.t := ⟨_, rfl⟩
  obtain ⟨U, hU⟩ : ∃ U : Nat, U = fold (D - s.step) := ⟨_, rfl⟩
  obtain ⟨XV, hXV⟩ : ∃ XV : Nat, XV = V ^^^ s.v := ⟨_, rfl⟩
  obtain ⟨Z, hZ⟩ : ∃ Z : St, Z = s.put (T, V) := ⟨_, rfl⟩
  rw [<- hZ]
  have HZ := Lib.hid (show Z = ⟨s.bits ++ timeB U ++ valB s.lead s.wide XV, s.n + 1, T, V, D, valL s.lead s.wide XV, valW s.lead s.wide XV⟩ by rw [hZ, hXV, hU, hD]; unfold St.put; rw [if_neg (by omega)])
  have HD := Lib.hid (show IntKind.i64.wrap (T - s.t) = D by rw [IntWalk.i64_in _ ⟨by omega, by omega⟩, hD])
  have HX0 := Lib.hid (show bits .xor .u64 (V : Int) (s.v : Int) = (XV : Int) by rw [u64_xor_nat V s.v hx hs.v, hXV])
  have HXL := Lib.hid (show XV < 18446744073709551616 by rw [hXV]; exact xor_lt hx hs.v)
  have hD1 : 0 <= D := by omega
  have hD2 : D <= 1099511627776 := by omega
  have HU := Lib.hid (show U < 18446744073709551616 by rw [hU]; exact fold_lt _ (by omega) (by omega))
  have hzig : ∀ w, Calls Tryz.prog 127 #[.int .i64 (D - s.step)] w fun e w' => e = .returned (.int .u64 U) /\ w = w' := fun w => by rw [hU]; exact zig_any _ w (by omega) (by omega)
  have HZIG := Lib.hid hzig
  have d1 : decide (T < 0) = false := decide_eq_false (by omega)
  have d2 : decide (1099511627776 < T) = false := decide_eq_false (by omega)
  have d3 : decide (0 < s.n) = true := decide_eq_true hn
  have d4 : decide (T <= s.t) = false := decide_eq_false (by omega)
  have d5 : (((s.n : Nat) : Int) == 120) = false := by rw [beq_eq_false_iff_ne]; omega
  have d6 : (((s.n : Nat) : Int) == 0) = false := by rw [beq_eq_false_iff_ne]; omega
  have D5 := Lib.hid d5
  have D6 := Lib.hid d6
  clear hZ hU hXV hD he h hx hzig d5 d6 hs
  obtain ⟨wA, hwA⟩ : ∃ x : World, x = w.alloc (.cells #[.int .i64 T, .int .u64 (V : Nat)] 41) := ⟨_, rfl⟩
  have HA := Lib.hid (show Below w.heap.size w wA by rw [hwA]; exact hba)
  have HNA : Hid (ChN w0 wA B v s) := by rw [hwA]; exact Lib.hid hNA
  have h1 : ChAt wA B v s := by rw [hwA]; exact h1
  have hX : Blk wA w.heap.size 41 #[.int .i64 T, .int .u64 (V : Nat)] := by rw [hwA]; exact hX
  have H1 := Lib.hid h1
  have HX := Lib.hid hX
  have x0 : (w.alloc (.cells #[.int .i64 T, .int .u64 (V : Nat)] 41)).cell? ⟨w.heap.size, 0, none⟩ = some (.int .i64 T) := by rw [<- hwA]; exact hX.cell (i := 0) rfl
  clear h1 hX hba hNA hN
  go_enter Tryz.func107, Tryz.ntmps107
  go_upto_region 3 with fail
  rw [<- hwA]
  clear x0 hwA d1 d2
  refine wp_region_known [(3, .int .i64 (s.n : Nat)), (7, .int .i64 T), (12, .int .i64 s.t)] (by kernel_rfl) 97 (by kernel_rfl) rfl ?_
  repeat (first
    | (refine Chain.step (v := ?_) (a' := ?_) rfl rfl rfl ?_ ?_ ?_; rotate_left 2; (focus (intro w; go_simp; try with_reducible rfl)); focus (simp only [Act.put, pqA, pqS, pqZ]; try rfl))
    | (refine Chain.call (a' := ?_) _ rfl rfl rfl (fun wx hw => ?_) ?_ ?_
       rotate_left 1
       focus
         first
         | (have y0 : wx.cell? ⟨B, 2, none⟩ = some (.int .i64 (s.n : Nat)) := (H1.out.below hw).cell 0 _ rfl
            have y1 : wx.cell? ⟨B, 3, none⟩ = some (.int .i64 s.t) := (H1.out.below hw).cell 1 _ rfl
            have y2 : wx.cell? ⟨w.heap.size, 0, none⟩ = some (.int .i64 T) := (HX.out.below hw).cell (i := 0) rfl
            go_simp
            first | exact ⟨rfl, Below.refl _ _⟩ | exact Below.refl _ _)
       focus (simp only [Act.put, pqA, pqS, pqZ]; try rfl))
    | (refine Chain.skip (a' := ?_) rfl rfl rfl ?_ ?_; rotate_left 1; focus (simp only [Act.put, pqA, pqS, pqZ]; try rfl)))
  refine Chain.end_ (fun w1 hw1 _ => ?_)
  have H2 := Lib.hid ((ChCh.refl H1.out).below hw1)
  have HX2 := Lib.hid (HX.out.below hw1)
  have c2 : w1.cell? ⟨B, 2, none⟩ = some (.int .i64 (s.n : Nat)) := H2.out.at_.cell 0 _ rfl
  have d5 := D5.out
  have d6 := D6.out
  clear hw1 d3 d4
  go_upto_region 10 with fail
  clear c2 d5 d6
  have hDe := HD.out
  refine wp_region_known [(1, .int .i64 T), (6, .int .i64 s.t)] (by kernel_rfl) 97 (by kernel_rfl) rfl ?_
  repeat (first
    | (refine Chain.step (v := ?_) (a' := ?_) rfl rfl rfl ?_ ?_ ?_; rotate_left 2; (focus (intro w; go_simp; try with_reducible rfl)); focus (simp only [Act.put, pqA, pqS, pqZ]; try rfl))
    | (refine Chain.call (a' := ?_) _ rfl rfl rfl (fun wx hw => ?_) ?_ ?_
       rotate_left 1
       focus
         first
         | (have y1 : wx.cell? ⟨B, 3, none⟩ = some (.int .i64 s.t) := (H2.out.below hw).at_.cell 1 _ rfl
            have y2 : wx.cell? ⟨w.heap.size, 0, none⟩ = some (.int .i64 T) := (HX2.out.below hw).cell (i := 0) rfl
            go_simp
            first | exact ⟨rfl, Below.refl _ _⟩ | exact Below.refl _ _)
       focus (simp only [Act.put, pqA, pqS, pqZ]; try rfl))
    | (refine Chain.skip (a' := ?_) rfl rfl rfl ?_ ?_; rotate_left 1; focus (simp only [Act.put, pqA, pqS, pqZ]; try rfl)))
  refine Chain.end_ (fun w2 hw2 _ => ?_)
  have H3 := Lib.hid (H2.out.below hw2)
  have c3 : w2.cell? ⟨B, 5, none⟩ = some (.int .i64 s.step) := H3.out.at_.cell 3 _ rfl
  clear hw2 hDe
  go_wp2_with fail
  refine (HZIG.out _).mono ?_
  rintro e w' ⟨rfl, rfl⟩
  go_wp2_with fail
  refine (time_any w0 B v s.bits U w2 (H3.out.rowNew HNA.out.below HNA.out.b_new HNA.out.v_new) hW HU.out (by omega)).mono ?_
  intro e w3 hto
  obtain ⟨rfl, v3, h4⟩ := H3.out.row hto
  clear c3 hto
  have c3 : w3.cell? ⟨B, 5, none⟩ = some (.int .i64 s.step) := h4.at_.cell 3 _ rfl
  have f3 : w3.frozen? ⟨B, 5, none⟩ = false := h4.at_.free 3 (by omega)
  obtain ⟨s4, hs4⟩ : ∃ s4 : St, s4 = { s with bits := s.bits ++ timeB U, step := D } := ⟨_, rfl⟩
  have h5 : ChCh wA B v (w3.setCell ⟨B, 5, none⟩ (.int .i64 D)) v3 s4 := h4.set 3 (by omega) (.int .i64 D) (by rw [hs4]) (by rw [hs4]; rfl)
  have HS4 := Lib.hid hs4
  have H5 := Lib.hid h5
  clear h4 h5 hs4
  go_upto_region 13 with fail
  clear c3 f3
  obtain ⟨w4, hw4⟩ : ∃ x : World, x = w3.setCell ⟨B, 5, none⟩ (.int .i64 D) := ⟨_, rfl⟩
  rw [<- hw4] at H5 ⊢
  clear hw4
  have HX5 := Lib.hid (H5.out.blk HX.out hne1 hne2)
  obtain ⟨s5, hs5⟩ : ∃ s5 : St, s5 = valS s4 XV := ⟨_, rfl⟩
  have HS5 := Lib.hid hs5
  have HLB := Lib.hid (show s4.bits.length < 10000000000 by rw [HS4.out]; show (s.bits ++ timeB U).length < _; rw [List.length_append]; have := timeB_len U; omega)
  have HWN := Lib.hid (show s4.lead + s4.wide <= 64 by rw [HS4.out]; exact hwin)
  have HV4 := Lib.hid (show s4.v = s.v by rw [HS4.out])
  have hxx := HX0.out
  clear hs5
  refine Dn.wp_region_states [(2, .int .u64 (V : Nat)), (7, .int .u64 (s.v : Nat)), (9, .tuple #[])] (LP 9 w4.drew (LastB wA B v s5)) (by kernel_rfl) 97 (by kernel_rfl) rfl (LP.pure rfl) LP.start ?_
  repeat (first
    | (refine Dn.Chain.step (v := ?_) (a' := ?_) rfl rfl rfl ?_ ?_ ?_; rotate_left 2; (focus (intro w; go_simp; try with_reducible rfl)); focus (simp only [Act.put, pqA, pqS, pqZ]; try rfl))
    | (refine Dn.Chain.call (a' := ?_) _ rfl rfl rfl (fun D wx hx hD hp => ?_) ?_ ?_
       rotate_left 1
       focus
         first
         | (have hw := hx.at_ hD (by decide)
            subst hw
            have y0 : w4.cell? ⟨w.heap.size, 1, none⟩ = some (.int .u64 (V : Nat)) := HX5.out.cell (i := 1) rfl
            have y1 : w4.cell? ⟨B, 4, none⟩ = some (.int .u64 (s.v : Nat)) := by rw [<- HV4.out]; exact H5.out.at_.cell 2 _ rfl
            go_simp
            first | exact ⟨rfl, hx.read hD (by decide)⟩ | exact hx.read hD (by decide))
         | (have hall := pre_all hp (by kernel_rfl)
            have hw := hx.1 hD
            subst hw
            have hR3 := H5.out.below (Below.refl _ _).drew
            go_simp
            (with_reducible refine (value_any B v3 s4 XV _ hR3.at_ HLB.out HXL.out HWN.out).mono ?_)
            intro e w3 hto
            obtain ⟨rfl, v3, hR4⟩ := hR3.step hto
            exact ⟨rfl, LP.last hall ⟨v3, by rw [HS5.out]; exact hR4⟩⟩)
       focus (simp only [Act.put, pqA, pqS, pqZ]; try rfl))
    | (refine Dn.Chain.skip (a' := ?_) rfl rfl rfl ?_ ?_; rotate_left 1; focus (simp only [Act.put, pqA, pqS, pqZ]; try rfl)))
  refine Dn.Chain.end_ (fun D' w5 hDD hx => ?_)
  obtain ⟨v5, h6⟩ := hx.end_ (hDD 9 (by decide))
  have hX6 := h6.blk HX.out hne1 hne2
  have s5n : s5.n = s.n := by rw [HS5.out, HS4.out]; rfl
  have c0 : w5.cell? ⟨B, 2, none⟩ = some (.int .i64 (s.n : Nat)) := by rw [<- s5n]; exact h6.at_.cell 0 _ rfl
  have c1 : w5.cell? ⟨B, 3, none⟩ = some (.int .i64 s5.t) := h6.at_.cell 1 _ rfl
  have c2 : w5.cell? ⟨B, 4, none⟩ = some (.int .u64 (s5.v : Nat)) := h6.at_.cell 2 _ rfl
  have f0 : w5.frozen? ⟨B, 2, none⟩ = false := h6.at_.free 0 (by omega)
  have f1 : w5.frozen? ⟨B, 3, none⟩ = false := h6.at_.free 1 (by omega)
  have f2 : w5.frozen? ⟨B, 4, none⟩ = false := h6.at_.free 2 (by omega)
  have x0 : w5.cell? ⟨w.heap.size, 0, none⟩ = some (.int .i64 T) := hX6.cell (i := 0) rfl
  have x1 : w5.cell? ⟨w.heap.size, 1, none⟩ = some (.int .u64 (V : Nat)) := hX6.cell (i := 1) rfl
  have h7 : ChCh wA B v (((w5.setCell ⟨B, 3, none⟩ (.int .i64 T)).setCell ⟨B, 4, none⟩ (.int .u64 (V : Nat))).setCell ⟨B, 2, none⟩ (.int .i64 (((s.n + 1 : Nat)) : Int))) v5 Z :=
    ((h6.set 1 (by omega) (.int .i64 T) (s' := { s5 with t := T }) rfl rfl).set 2 (by omega) (.int .u64 (V : Nat)) (s' := { s5 with t := T, v := V }) rfl rfl).set 0 (by omega) (.int .i64 (((s.n + 1 : Nat)) : Int)) (s' := Z) (by rw [HZ.out, HS5.out, HS4.out]; rfl) (by rw [HZ.out, HS5.out, HS4.out]; rfl)
  rw [show (((s.n + 1 : Nat)) : Int) = (s.n : Int) + 1 by omega] at h7
  have H7 := Lib.hid (h7.after HA.out)
  clear h6 h7 hX6 s5n hx hDD hxx
  go_wp2_with fail
  go_ret
  exact ⟨rfl, v5, H7.out⟩

theorem append_ok (w0 : World) (B : Nat) (v : Value) (s : St) (x : Sm) (w : World) (hN : ChN w0 w B v s) (hW : WidthsAt w0) (hs : s.Ok) (he : err s x = 0) (hx : x.2 < 18446744073709551616) :
    Calls Tryz.prog 107 #[.pointer (some ⟨B, 0, none⟩), .agg #[.int .i64 x.1, .int .u64 (x.2 : Nat)]] w (RetA w B v (s.put x)) := by
  rcases Nat.eq_zero_or_pos s.n with hn | hn
  · exact append_first B v s x w hN.at_ hs hn he hx
  · exact append_next w0 B v s x w hN hW hs hn he hx

theorem chText_any (B : Nat) (v : Value) (s : St) (w : World) (h : ChAt w B v s) (hs : s.Ok) :
    Calls Tryz.prog 108 #[.pointer (some ⟨B, 0, none⟩)] w (RetBelow w (.string (bs (text s)))) := by
  have hn := hs.n
  have hl := hs.len
  have HH := Lib.hid h
  have c0 : w.cell? ⟨B, 2, none⟩ = some (.int .i64 (s.n : Nat)) := h.cell 0 _ rfl
  have hnil : NBuf w w 96 1 (.slice none 0 0) 0 [] := NBuf.nil (Below.refl _ _) _ _
  have hul := u_len s.n (by omega)
  have hul2 := u_len s.bits.length (by omega)
  have hpl := pack_length s.bits
  obtain ⟨x1, hx1⟩ : ∃ x, x = u s.n := ⟨_, rfl⟩
  obtain ⟨x2, hx2⟩ : ∃ x, x = u s.bits.length := ⟨_, rfl⟩
  obtain ⟨x3, hx3⟩ : ∃ x, x = pack s.bits := ⟨_, rfl⟩
  have HT := Lib.hid (show text s = x1 ++ x2 ++ x3 by rw [hx1, hx2, hx3, List.append_assoc]; rfl)
  have HU1 := Lib.hid (fun W (hb : BBuf W 5 (.slice none 0 0) []) => (show Calls Tryz.prog 48 #[.slice none 0 0, .int .u64 (s.n : Nat)] W (RetB W (.slice none 0 0) 5 [] x1) by rw [hx1]; exact uint_any _ [] s.n W (by omega) (by simp) hb))
  have HU2 := Lib.hid (fun V W (hb : BBuf W 5 V x1) => (show Calls Tryz.prog 48 #[V, .int .u64 (s.bits.length : Nat)] W (RetB W V 5 x1 x2) by rw [hx2]; exact uint_any _ x1 s.bits.length W (by omega) (by rw [hx1]; omega) hb))
  have HRT := Lib.hid (fun W (ha : RowAt W B 0 v s.bits) => (show Calls Tryz.prog 130 #[.pointer (some ⟨B, 0, none⟩)] W fun e w' => e = .returned (.string (bs x3)) /\ W = w' by rw [hx3]; exact rowText_any B 0 v s.bits W ha))
  rw [<- hx1] at hul
  rw [<- hx2] at hul2
  rw [<- hx3] at hpl
  clear h hx1 hx2 hx3 hnil
  go_enter Tryz.func108, Tryz.ntmps108
  go_wp2_with fail
  refine (HU1.out w (BBuf.nil _ _)).mono ?_
  rintro e w1 ⟨b1, rfl, happ1⟩
  have N1 := (NBuf.nil (Below.refl w.heap.size w) 5 1).step happ1.buf happ1.ap happ1.grew
  have hbl1 := N1.below
  have hb1 : BBuf w1 5 b1 x1 := happ1.buf
  have A1 := Lib.hid (HH.out.below hbl1)
  clear happ1 c0
  go_wp2_with fail
  refine (rowLen_any B 0 v s.bits w1 A1.out.row).mono ?_
  rintro e w' ⟨rfl, rfl⟩
  go_wp2_with fail
  refine (HU2.out b1 w1 hb1).mono ?_
  rintro e w2 ⟨b2, rfl, happ2⟩
  have N2 := N1.step happ2.buf happ2.ap happ2.grew
  have hbl2 := N2.below
  have hb2 : BBuf w2 5 b2 (x1 ++ x2) := happ2.buf
  obtain ⟨bA, bc, rfl, hbc⟩ := Buf.shape hb2
  have A2 := Lib.hid (HH.out.below hbl2)
  have HB2 := Lib.hid hb2
  clear happ2 hbl1 hb1 hb2 N1 N2
  have hsz : ¬ 9223372036854775807 < (x1 ++ x2).length + x3.length := by rw [List.length_append]; omega
  clear hpl
  obtain ⟨x12, hx12⟩ : ∃ l, l = x1 ++ x2 := ⟨_, rfl⟩
  rw [<- hx12] at HB2 HT hsz hbc ⊢
  clear hx12
  go_wp2_with fail
  refine wp_region_known [(1, .string (bs x12)), (5, .string (bs x3))] (by kernel_rfl) 24 (by kernel_rfl) rfl ?_
  repeat (first
    | (refine Chain.step (v := ?_) (a' := ?_) rfl rfl rfl ?_ ?_ ?_; rotate_left 2; (focus (intro w; go_simp; try with_reducible rfl)); focus (simp only [Act.put, pqA, pqS, pqZ]; try rfl))
    | (refine Chain.call (a' := ?_) _ rfl rfl rfl (fun wx hw => ?_) ?_ ?_
       rotate_left 1
       focus
         first
         | (go_simp; (with_reducible refine (HRT.out _ (A2.out.below hw).row).mono ?_); rintro e w' ⟨rfl, rfl⟩; exact ⟨rfl, Below.refl _ _⟩)
         | (have hcv := BBuf.string bytes_ty (Buf.below HB2.out hw) 9 Tryz.underlying9; go_simp; first | exact ⟨rfl, Below.refl _ _⟩ | exact Below.refl _ _)
       focus (simp only [Act.put, pqA, pqS, pqZ]; try rfl))
    | (refine Chain.skip (a' := ?_) rfl rfl rfl ?_ ?_; rotate_left 1; focus (simp only [Act.put, pqA, pqS, pqZ]; try rfl)))
  refine Chain.end_ (fun wz hwz _ => ?_)
  have hbl3 := below_trans hbl2 hwz
  clear hbl2 hwz
  go_wp2_with fail
  go_ret
  exact ⟨by rw [HT.out]; rfl, hbl3⟩

theorem ofS_drop {s : St} {l : List Sm} {k : Nat} {x : Sm} (h : l[k]? = some x) : ofS s (l.drop k) = if err s x = 0 then ofS (s.put x) (l.drop (k + 1)) else (s, err s x) := by
  obtain ⟨hl, he⟩ := List.getElem?_eq_some_iff.1 h
  rw [List.drop_eq_getElem_cons hl, ofS, he]

def ofTx (R : St × Nat) : List UInt8 := if R.2 = 0 then text R.1 else []
theorem ofTx_ok {R : St × Nat} (h : R.2 = 0) : ofTx R = text R.1 := if_pos h
theorem ofTx_no {R : St × Nat} (h : R.2 ≠ 0) : ofTx R = [] := if_neg h

theorem of_any (l : List Sm) (v : Value) (w : World) (h : SmsAt w v l) (hW : WidthsAt w) (hx : ∀ x ∈ l, x.2 < 18446744073709551616) :
    Calls Tryz.prog 84 #[v] w (RetBelow w (.tuple #[.string (bs (ofTx (ofS St.zero l))), .int .i64 ((ofS St.zero l).2 : Nat)])) := by
  obtain ⟨A, c, rfl, hlc, hcm⟩ := h.shape
  unfold maxLen at hcm
  have hok := ofS_ok l St.zero St.zero_ok hx
  obtain ⟨R, hR⟩ : ∃ R, R = ofS St.zero l := ⟨_, rfl⟩
  rw [<- hR] at hok ⊢
  have HR := Lib.hid hR
  have HOK := Lib.hid hok
  have HXX := Lib.hid hx
  have hstart := ChN.start (Below.refl w.heap.size w) 211
  clear hR hx hok
  go_enter Tryz.func84, Tryz.ntmps84
  go_wp2_with fail
  go_loopw [10] (fun i wr => ∃ (k : Nat) (v' : Value) (s : St), k <= l.length /\ i = .int .i64 k /\ Hid (ChN w wr w.heap.size v' s) /\ Hid s.Ok /\ Hid (ofS s (l.drop k) = R)) (fun i _ => l.length - (intOf i).toNat)
  case atStart => exact ⟨0, _, St.zero, Nat.zero_le _, rfl, Lib.hid hstart, Lib.hid St.zero_ok, Lib.hid (by rw [List.drop_zero, <- HR.out])⟩
  case round =>
    clear hstart
    obtain ⟨k, v', s, hk, rfl, HN, HS, HO⟩ := hrel
    by_cases hgo : k < l.length
    · obtain ⟨x, hxk⟩ : ∃ x, l[k]? = some x := ⟨_, List.getElem?_eq_getElem hgo⟩
      have hx2 := HXX.out x (List.mem_of_getElem? hxk)
      have hdr := ofS_drop (s := s) hxk
      obtain ⟨b, o, rfl, hb, f0, f1⟩ := (h.below HN.out.below).at_ hxk
      have hci : (0 : Int) <= (k : Int) := by omega
      have hci2 : (k : Int) < l.length := by omega
      clear hxk
      have HDR := Lib.hid hdr
      have hbx := ba1 wr (.cells #[.int .i64 x.1, .int .u64 (x.2 : Nat)] 41)
      have HN1 := Lib.hid (HN.out.then_below hbx)
      have HBX := Lib.hid hbx
      clear hdr hbx
      by_cases he : err s x = 0
      · have hap := fun w1 (hN : ChN w w1 w.heap.size v' s) => append_ok w w.heap.size v' s x w1 hN hW HS.out he hx2
        have HAP := Lib.hid hap
        have HS2 := Lib.hid (HS.out.put he hx2)
        have HO2 := Lib.hid (show ofS (s.put x) (l.drop (k + 1)) = R by rw [<- HO.out, HDR.out, if_pos he])
        clear hap he
        go_wp2_with fail
        refine (HAP.out _ HN1.out).mono ?_
        rintro e w2 ⟨rfl, v2, hch⟩
        have HN2 := Lib.hid (HN1.out.next hch)
        clear hch
        go_wp2_with fail
        go_roundw
        case rel => exact ⟨k + 1, v2, _, by omega, by go_num, HN2, HS2, HO2⟩
        case measure => simp [intOf]; omega
      · have hap := fun w1 (hN : ChN w w1 w.heap.size v' s) => append_err w.heap.size v' s x w1 hN.at_ HS.out.n he
        have HAP := Lib.hid hap
        have HO2 := Lib.hid (show (s, err s x) = R by rw [<- HO.out, HDR.out, if_neg he])
        obtain ⟨E, hE⟩ : ∃ E, E = err s x := ⟨_, rfl⟩
        rw [<- hE] at HAP HO2 he
        have hne : ((E : Int) != 0) = true := by rw [bne_iff_ne]; omega
        have HE := Lib.hid he
        clear hap hE he
        go_wp2_with fail
        refine (HAP.out _ HN1.out).mono ?_
        rintro e w2 ⟨rfl, hb2⟩
        have hbb := (HN1.out.then_below hb2).below
        clear hb2
        go_wp2_with fail
        go_ret2
        exact ⟨by rw [<- HO2.out, ofTx_no HE.out]; rfl, hbb⟩
    · obtain rfl : k = l.length := by omega
      have HO2 := Lib.hid (show (s, 0) = R by rw [<- HO.out, List.drop_length]; rfl)
      clear hgo hk
      go_wp2_with fail
      refine (chText_any w.heap.size v' s _ HN.out.at_ HS.out).mono ?_
      rintro e w2 ⟨rfl, hb2⟩
      have hbb := (HN.out.then_below hb2).below
      clear hb2
      go_wp2_with fail
      go_ret2
      exact ⟨by rw [<- HO2.out, ofTx_ok rfl]; rfl, hbb⟩

end Go.Proofs.YtgabmfibfikdbaaGreatDoor
