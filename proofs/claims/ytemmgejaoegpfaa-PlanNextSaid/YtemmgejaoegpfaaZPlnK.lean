/-
  Layer 20: the walk of the laws' Listing.
-/
import Derived.Test.YtemmgejaoegpfaaZPlnI
import Derived.Test.YtemmgejaoegpfaaZLib12
import Derived.Deep.RegionLaw

namespace Go.Proofs.Ytemmgejaoegpfaa
open Go.RowKit Go.Bar Go.Bar.Leb Go.Bar.Frm Go.Bar.Idt Go.Bar.Met Go.Bar.Pln

/-- a block's cells, the document's -/
def encB (x : Mv × Int) : List Value := encM x.1 ++ [.int .i64 x.2]
theorem encB_nine (x : Mv × Int) : (encB x).length = 9 := rfl
theorem encB_one (x : Mv × Int) : ∀ v ∈ encB x, v.oneCell' = true := fun v hv => by
  rcases List.mem_append.1 hv with hv | hv
  · exact encM_one x.1 v hv
  · obtain rfl := List.mem_singleton.1 hv; rfl
def bls (l : List (Mv × Int)) : List Value := l.flatMap encB
theorem bls_length (l : List (Mv × Int)) : (bls l).length = l.length * 9 := flat_length encB 9 encB_nine l
/-- a meta whose slices are buffers, T the files' type -/
def MBuf (w : World) (T : TypeId) (x : Mv) : Prop := Buf w T 3 (.slice x.fa x.m.fs.length x.fc) x.m.fs.length (fcs x.m.fs) ∧ Buf w 9 1 (.slice x.sa x.m.ss.length x.sc) x.m.ss.length (scs x.m.ss)
section
variable {w w' : World} {T : TypeId} {x : Mv}
theorem MBuf.below (h : MBuf w T x) (hb : Below w.heap.size w w') : MBuf w' T x := ⟨h.1.below hb, h.2.below hb⟩
theorem MBuf.at_ (h : MBuf w T x) : MAt w x := ⟨SlAt.of_buf h.1, SlAt.of_buf h.2⟩
theorem MBuf.ap {e : TypeId} {sz n : Nat} {v : Value} {xs : List Value} (h : MBuf w T x) (hb : Buf w e sz v n xs) (ha : Ap w w' sz v) (h1 : T ≠ e) (h2 : 9 ≠ e) : MBuf w' T x := ⟨h.1.keep_ap hb ha h1, h.2.keep_ap hb ha h2⟩
theorem MBuf.mapped {b n : Nat} {f : Marks} (h : MBuf w T x) (hm : Mp w b n f) (hg : w.grownBy w' (some b)) : MBuf w' T x := ⟨h.1.mapped hm hg, h.2.mapped hm hg⟩
end
/-- what lies in memory while the listing is made -/
structure LSt (w wr : World) (mb : Nat) (xs : List Mv) (ts : List (Mv × Int)) (ov tv : Value) (nm : Nat) (mf : Marks) : Prop where
  o : NBuf w wr 55 8 ov xs.length (mcs xs)
  t : NBuf w wr 70 9 tv ts.length (bls ts)
  ox : ∀ x ∈ xs, MBuf wr 59 x
  tx : ∀ x ∈ ts, MBuf wr 84 x.1
  m : Mp wr mb nm mf
  mb : w.heap.size ≤ mb
  r4 : Blk wr w.heap.size 26 #[.int .i64 0, .slice none 0 0, .map none]
  r5 : Blk wr (w.heap.size + 1) 29 #[.int .i64 0, .slice none 0 0]
theorem LSt.below {w wr w' : World} {mb : Nat} {xs : List Mv} {ts : List (Mv × Int)} {ov tv : Value} {nm : Nat} {mf : Marks} (h : LSt w wr mb xs ts ov tv nm mf) (hb : Below wr.heap.size wr w') : LSt w w' mb xs ts ov tv nm mf :=
  ⟨h.o.then_below hb, h.t.then_below hb, fun x hx => (h.ox x hx).below hb, fun x hx => (h.tx x hx).below hb, h.m.below hb, h.mb, h.r4.below hb, h.r5.below hb⟩
theorem LSt.mapped {w wr w' : World} {mb : Nat} {xs : List Mv} {ts : List (Mv × Int)} {ov tv : Value} {nm : Nat} {mf : Marks} (h : LSt w wr mb xs ts ov tv nm mf) {n : Nat} {mf' : Marks} (hm : Mp w' mb n mf') (hg : wr.grownBy w' (some mb)) : LSt w w' mb xs ts ov tv n mf' :=
  ⟨h.o.mapped h.m hg h.mb, h.t.mapped h.m hg h.mb, fun x hx => (h.ox x hx).mapped h.m hg, fun x hx => (h.tx x hx).mapped h.m hg, hm, h.mb, h.r4.mapped h.m hg, h.r5.mapped h.m hg⟩
theorem LSt.pushO {w wr w' : World} {mb : Nat} {xs : List Mv} {ts : List (Mv × Int)} {ov tv v' : Value} {nm : Nat} {mf : Marks} (h : LSt w wr mb xs ts ov tv nm mf) {x : Mv} (hx : MBuf wr 59 x)
    (hn : NBuf w w' 55 8 v' (xs.length + 1) (mcs xs ++ encM x)) (ha : Ap wr w' 8 ov) : LSt w w' mb (xs ++ [x]) ts v' tv nm mf :=
  ⟨by rw [mcs_snoc, List.length_append]; exact hn, h.t.keep h.o ha (by decide), fun y hy => by
    rcases List.mem_append.1 hy with hy | hy
    · exact (h.ox y hy).ap h.o.buf ha (by decide) (by decide)
    · obtain rfl := List.mem_singleton.1 hy
      exact hx.ap h.o.buf ha (by decide) (by decide), fun y hy => (h.tx y hy).ap h.o.buf ha (by decide) (by decide), h.m.ap ha, h.mb, h.r4.ap h.o.buf ha (by decide), h.r5.ap h.o.buf ha (by decide)⟩
theorem LSt.pushT {w wr w' : World} {mb : Nat} {xs : List Mv} {ts : List (Mv × Int)} {ov tv v' : Value} {nm : Nat} {mf : Marks} (h : LSt w wr mb xs ts ov tv nm mf) {x : Mv × Int} (hx : MBuf wr 84 x.1)
    (hn : NBuf w w' 70 9 v' (ts.length + 1) (bls ts ++ encB x)) (ha : Ap wr w' 9 tv) : LSt w w' mb xs (ts ++ [x]) ov v' nm mf :=
  ⟨h.o.keep h.t ha (by decide), by rw [show bls (ts ++ [x]) = bls ts ++ encB x by simp [bls], List.length_append]; exact hn, fun y hy => (h.ox y hy).ap h.t.buf ha (by decide) (by decide), fun y hy => by
    rcases List.mem_append.1 hy with hy | hy
    · exact (h.tx y hy).ap h.t.buf ha (by decide) (by decide)
    · obtain rfl := List.mem_singleton.1 hy
      exact hx.ap h.t.buf ha (by decide) (by decide), h.m.ap ha, h.mb, h.r4.ap h.t.buf ha (by decide), h.r5.ap h.t.buf ha (by decide)⟩

theorem block_ty : ElemTy Try.prog 27 70 (.agg #[.string ByteArray.empty, .int .i64 0, .int .i64 0, .int .i64 0, .int .i64 0, .int .i64 0, .slice none 0 0, .slice none 0 0, .int .i64 0]) 9 112 :=
  ⟨Try.underlying27, info_parts (show (Try.prog.info? 70).map (fun i => (i.zero, i.size, i.bytes)) = some (some (.agg #[.string ByteArray.empty, .int .i64 0, .int .i64 0, .int .i64 0, .int .i64 0, .int .i64 0, .slice none 0 0, .slice none 0 0, .int .i64 0]), 9, 112) by kernel_rfl), rfl⟩

/-- the document's listing: blocks -/
def BlsAt (w0 w : World) (v : Value) (l : List Mt) (mf : Marks) : Prop := ∃ ts : List (Mv × Int), ts.map (·.1.m) = l ∧ SlAt w 9 v ts.length (bls ts) ∧ (∀ x ∈ ts, MAt w0 x.1) ∧ ∀ x ∈ ts, x.2 = (match mf x.1.m.id with | some z => z | none => -1)
/-- the listing, made by the call, and the document's -/
def RetBoth (w : World) (l : List Mt) (mf : Marks) (e : Ending) (w' : World) : Prop := ∃ v tv, e = .returned (.tuple #[v, .agg #[.int .i64 5, tv]]) ∧ LiAt w' w' v 5 l mf 12 ∧ BlsAt w' w' tv l mf ∧ Below w.heap.size w w'

/-- stores into blocks without texts leave slices that begin with a text -/
theorem SlAt.fr_txt {w w' : World} {S : Nat → Nat → Prop} {sz n : Nat} {v : Value} {xs : List Value} (h : SlAt w sz v n xs) (hf : Fr S w w') (hS : ∀ k i, S k i → ∃ T cur, Blk w k T cur ∧ ∀ (j : Nat) (s : ByteArray), cur[j]? ≠ some (.string s))
    (h0 : 0 < n * sz → ∃ s, xs[0]? = some (.string s)) : SlAt w' sz v n xs := by
  obtain ⟨hl, A, c, rfl, hnc, hc, hv⟩ := h
  refine ⟨hl, A, c, rfl, hnc, hc, fun hn => ?_⟩
  obtain ⟨b, o, rfl, hlt, hx⟩ := hv hn
  refine ⟨b, o, rfl, Nat.lt_of_lt_of_le hlt hf.size, fun j hj => ?_⟩
  have hns : ∀ i, ¬ S b i := fun i hi => by
    obtain ⟨T, cur, hb, hcur⟩ := hS b i hi
    obtain ⟨s, hs⟩ := h0 hn
    have h1 := hx 0 (by omega)
    rw [hs] at h1
    have h2 : w.cell? ⟨b, o + 0, none⟩ = cur[o + 0]? := cell_of_block hb _
    rw [h2] at h1
    exact hcur _ _ h1
  exact (World.cell?_of_block (a := ⟨b, o + j, none⟩) (hf.block hlt hns)).trans (hx j hj)
theorem MAt.fr_txt {w w' : World} {S : Nat → Nat → Prop} {x : Mv} (h : MAt w x) (hf : Fr S w w') (hS : ∀ k i, S k i → ∃ T cur, Blk w k T cur ∧ ∀ (j : Nat) (s : ByteArray), cur[j]? ≠ some (.string s)) : MAt w' x := by
  refine ⟨SlAt.fr_txt h.1 hf hS (fun hn => ?_), SlAt.fr_txt h.2 hf hS (fun hn => ?_)⟩
  · cases hfs : x.m.fs with
    | nil => rw [hfs] at hn; simp at hn
    | cons f r => exact ⟨_, rfl⟩
  · cases hss : x.m.ss with
    | nil => rw [hss] at hn; simp at hn
    | cons f r => exact ⟨_, rfl⟩
theorem both_of {w wo w7 w8 : World} {mb nm k : Nat} {xs : List Mv} {ts : List (Mv × Int)} {ov tv mv7 : Value} {b7 : Nat} {wd : Int} {l : List On} (S7 : LSt w w7 mb xs ts ov tv nm (mkF (l.take k))) (hm7 : MsAt wo w7 mv7 (mkL wd (l.take k))) (hp7 : Mp w7 b7 nm (mkF (l.take k)))
    (hb7 : Below wo.heap.size wo w7) (hf : Fr (fun k _ => k = w.heap.size ∨ k = w.heap.size + 1) w7 w8) (hnm : nm ≤ 12) (hk : k ≤ l.length) (hk12 : k ≤ 12) (htl : ts.length = k) (HT : ts.map (·.1.m) = mkL wd (l.take k))
    (HM : ∀ (j : Nat) (x : Mv × Int), ts[j]? = some x → ∃ y : On, l[j]? = some y ∧ x.2 = if y.im then 3 else -1) :
    RetBoth w (mkL wd (l.take k)) (mkF (l.take k)) (.returned (.tuple #[.agg #[.int .i64 5, mv7, .map (some b7)], .agg #[.int .i64 5, tv]])) w8 := by
  have hS : ∀ k i, (fun k (_ : Nat) => k = w.heap.size ∨ k = w.heap.size + 1) k i → ∃ T cur, Blk w7 k T cur ∧ ∀ (j : Nat) (s : ByteArray), cur[j]? ≠ some (.string s) := by
    rintro k i (rfl | rfl)
    · refine ⟨_, _, S7.r4, fun j s => ?_⟩
      match j with
      | 0 => simp
      | 1 => simp
      | 2 => simp
      | j + 3 => simp
    · refine ⟨_, _, S7.r5, fun j s => ?_⟩
      match j with
      | 0 => simp
      | 1 => simp
      | j + 2 => simp
  have hlk : (l.take k).length = k := by rw [List.length_take]; omega
  refine ⟨_, _, rfl, ⟨_, _, rfl, ?_, (hp7.fr hf).mono hnm⟩, ⟨ts, HT, SlAt.fr_txt S7.t.slice hf hS (fun hn => ?_), fun x hx => MAt.fr_txt (S7.tx x hx).at_ hf hS, fun x hx => ?_⟩, S7.o.below.trans (hf.below S7.o.below.size (fun k _ hk h => by rcases h with h | h <;> omega))⟩
  · obtain ⟨ys, h1, h2, h3⟩ := hm7
    refine ⟨ys, h1, SlAt.fr_txt h2 hf hS (fun hn => ?_), fun x hx => MAt.fr_txt ((h3 x hx).below hb7) hf hS⟩
    cases ys with
    | nil => simp at hn
    | cons y r => exact ⟨_, rfl⟩
  · cases ts with
    | nil => simp at hn
    | cons y r => exact ⟨_, rfl⟩
  · obtain ⟨j, hj, hjx⟩ := List.mem_iff_getElem.1 hx
    have hj' : ts[j]? = some x := by rw [List.getElem?_eq_getElem hj, hjx]
    obtain ⟨y, hy, hxy⟩ := HM j x hj'
    have hyt : (l.take k)[j]? = some y := by rw [List.getElem?_take, if_pos (by omega)]; exact hy
    have h1 : (ts.map (·.1.m))[j]? = some x.1.m := by rw [List.getElem?_map, hj']; rfl
    rw [HT, mkL_at hyt] at h1
    injection h1 with h1
    have hid : x.1.m.id = mk 1 j := by rw [← h1]; rfl
    rw [hid, mkF_at hyt (by omega), hxy]
    cases y.im <;> rfl

set_option maxHeartbeats 8000000 in
set_option maxRecDepth 10000 in
theorem listing_any (v : Value) (l : List On) (wd : Int) (w : World) (h : OnsAt w v l) (hw1 : 1 ≤ wd) (hw2 : wd ≤ 1000) :
    Calls Try.prog 7 #[v, .int .i64 wd] w (RetBoth w (mkL wd (l.take 12)) (mkF (l.take 12))) := by
  obtain ⟨A, c, rfl, hlc, hcm⟩ := h.shape
  unfold maxLen at hcm
  have hmm := @run_makeMap Try.prog
  go_enter Try.func7, Try.ntmps7
  go_upto_region 4 with fail
  have b1 := below_al w (.cells #[.int .i64 0, .slice none 0 0, .map none] 26)
  obtain ⟨w1, hw1⟩ : ∃ w1, w1 = w.alloc (.cells #[.int .i64 0, .slice none 0 0, .map none] 26) := ⟨_, rfl⟩
  have r4 := Blk.new w #[.int .i64 0, .slice none 0 0, .map none] 26
  have s1 : w1.heap.size = w.heap.size + 1 := by rw [hw1]; simp
  rw [← hw1] at b1 r4 ⊢
  have b2 := below_al w1 (.cells #[.int .i64 0, .slice none 0 0] 29)
  have r5 := Blk.new w1 #[.int .i64 0, .slice none 0 0] 29
  obtain ⟨w2, hw2'⟩ : ∃ w2, w2 = w1.alloc (.cells #[.int .i64 0, .slice none 0 0] 29) := ⟨_, rfl⟩
  have s2 : w2.heap.size = w.heap.size + 2 := by rw [hw2']; simp [s1]
  rw [← hw2'] at b2 r5 ⊢
  have o3 := NBuf.lit0 (below_trans b1 b2) 55 8
  have b3 := below_al w2 (.cells #[] 55)
  obtain ⟨w3, hw3⟩ : ∃ w3, w3 = w2.alloc (.cells #[] 55) := ⟨_, rfl⟩
  have s3 : w3.heap.size = w.heap.size + 3 := by rw [hw3]; simp [s2]
  rw [← hw3] at o3 b3 ⊢
  have m4 := MpAt.made w3 Try.prog 9 3
  have b4 := below_al w3 (.map #[] 0)
  obtain ⟨w4, hw4⟩ : ∃ w4, w4 = w3.alloc (.map #[] 0) := ⟨_, rfl⟩
  have s4 : w4.heap.size = w.heap.size + 4 := by rw [hw4]; simp [s3]
  rw [← hw4] at m4 b4 ⊢
  have t5 := NBuf.lit0 (below_trans (below_trans (below_trans b1 b2) b3) b4) 70 9
  have b5 := below_al w4 (.cells #[] 70)
  obtain ⟨w5, hw5⟩ : ∃ w5, w5 = w4.alloc (.cells #[] 70) := ⟨_, rfl⟩
  rw [← hw5] at t5 b5 ⊢
  clear hw1 hw2' hw3 hw4 hw5
  have hst : LSt w w5 (w.heap.size + 3) [] [] (.slice (some ⟨w.heap.size + 2, 0, none⟩) 0 0) (.slice (some ⟨w.heap.size + 4, 0, none⟩) 0 0) 0 (mkF []) := by
    rw [s2] at o3
    rw [s3] at m4
    rw [s4] at t5
    rw [s1] at r5
    exact ⟨((o3.then_below b4).then_below b5), t5, by simp, by simp, m4.below b5, by omega, ((((r4.below b2).below b3).below b4).below b5), (((r5.below b3).below b4).below b5)⟩
  clear b1 r4 s1 b2 r5 s2 o3 b3 s3 m4 b4 s4 t5 b5 hmm
  go_wp2_with fail
  go_loopw [6, 8, 9] (fun ov tv i wr => ∃ (k nm : Nat) (xs : List Mv) (ts : List (Mv × Int)), i = .int .i64 k ∧ k ≤ l.length ∧ k ≤ 12 ∧ nm ≤ k ∧ xs.length = k ∧ ts.length = k ∧ LSt w wr (w.heap.size + 3) xs ts ov tv nm (mkF (l.take k)) ∧
    Hid (xs.map (·.m) = mkL wd (l.take k)) ∧ Hid (ts.map (·.1.m) = mkL wd (l.take k)) ∧ Hid (∀ (j : Nat) (x : Mv × Int), ts[j]? = some x → ∃ y : On, l[j]? = some y ∧ x.2 = if y.im then 3 else -1)) (fun _ _ i _ => 12 - (intOf i).toNat)
  case atStart => exact ⟨0, 0, [], [], rfl, Nat.zero_le _, by omega, Nat.le_refl _, rfl, rfl, hst, Lib.hid rfl, Lib.hid rfl, Lib.hid (fun j x hj => by simp at hj)⟩
  case round =>
    obtain ⟨k, nm, xs, ts, rfl, hk, hk12, hnm, hxl, htl, hS, HX, HT, HM⟩ := hrel
    obtain ⟨wo, rfl⟩ : ∃ wo : World, wo = wr := ⟨_, rfl⟩
    clear hst
    obtain ⟨oA, oc, rfl, hoc⟩ := hS.o.buf.shape
    obtain ⟨tA, tc, rfl, htc⟩ := hS.t.buf.shape
    by_cases hgo : k < l.length
    · by_cases hg12 : k < 12
      · obtain ⟨x, hxk⟩ : ∃ x, l[k]? = some x := ⟨_, List.getElem?_eq_getElem hgo⟩
        obtain ⟨bb, o, rfl, _, c0, c1, c2, c3, c4⟩ := (h.below hS.o.below).at_ hxk
        have HXK := Lib.hid hxk
        have HXL := Lib.hid hxl
        have HTL := Lib.hid htl
        clear hxk hxl htl
        have hci : (0 : Int) ≤ (k : Int) := by omega
        have hmk := fun w' => make_ok 1 (k : Int) w' (by unfold okT; omega) (by unfold okT; omega)
        have HMK := Lib.hid hmk
        clear hmk
        have hsm := mkM_sm hw1 hw2 k (by omega) x
        obtain ⟨a, ha⟩ : ∃ a, a = x.fr % 16 := ⟨_, rfl⟩
        obtain ⟨d, hd⟩ : ∃ d, d = x.wi % 4 := ⟨_, rfl⟩
        obtain ⟨e, he⟩ : ∃ e, e = x.sz % 32768 := ⟨_, rfl⟩
        obtain ⟨g, hg⟩ : ∃ g, g = x.sz % 262144 := ⟨_, rfl⟩
        obtain ⟨MN, hMN⟩ : ∃ MN, MN = a * wd := ⟨_, rfl⟩
        obtain ⟨DL, hDL⟩ : ∃ DL, DL = (1 + d) * wd := ⟨_, rfl⟩
        have hM : mkM wd k x = ⟨mk 1 k, MN, MN + DL, 1 + d, 1, 1 + e, [⟨chunksN, g, 0⟩, ⟨indexN, 9, 0⟩], mkSs x.so k⟩ := by rw [hMN, hDL, ha, hd, he, hg]; rfl
        have hMNr : 0 ≤ MN ∧ MN ≤ 1000000 := by have := hsm.mn; rw [hM] at this; exact this
        have hMXr : 0 ≤ MN + DL ∧ MN + DL ≤ 1000000 := by have := hsm.mx; rw [hM] at this; exact this
        have hdr : 0 ≤ d ∧ d ≤ 3 := by omega
        have her : 0 ≤ e ∧ e ≤ 32767 := by omega
        have hgr : 0 ≤ g ∧ g ≤ 262143 := by omega
        have hDLr : 0 ≤ DL := by rw [hDL]; exact Int.mul_nonneg (by omega) (by omega)
        have q1 : bits .and .i64 x.fr 15 = a := by rw [and15, ha]
        have q2 : bits .and .i64 x.wi 3 = d := by rw [and3, hd]
        have q3 : bits .and .i64 x.sz 32767 = e := by rw [and32767, he]
        have q4 : bits .and .i64 x.sz 262143 = g := by rw [and262143, hg]
        have q5 : IntKind.i64.wrap (a * wd) = MN := by rw [← hMN, IntKind.wrap_i64]; omega
        have q6 : IntKind.i64.wrap ((1 + d) * wd) = DL := by rw [← hDL, IntKind.wrap_i64]; omega
        have q7 : IntKind.i64.wrap (1 + d) = 1 + d := by rw [IntKind.wrap_i64]; omega
        have q8 : IntKind.i64.wrap (1 + e) = 1 + e := by rw [IntKind.wrap_i64]; omega
        have q9 : IntKind.i64.wrap (MN + DL) = MN + DL := by rw [IntKind.wrap_i64]; omega
        have HMM := Lib.hid hM
        clear ha hd he hg hMN hDL hM hsm
        go_wp2_with fail
        have X0 := Blk.new wo #[.int .i64 x.fr, .int .i64 x.wi, .int .i64 x.sz, .int .i64 x.so, .bool x.im] 64
        have B0 := below_al wo (.cells #[.int .i64 x.fr, .int .i64 x.wi, .int .i64 x.sz, .int .i64 x.so, .bool x.im] 64)
        refine (HMK.out _).mono ?_
        rintro e' w6 ⟨rfl, hb6⟩
        rw [show (1 : Int).toNat = 1 from rfl, Int.toNat_natCast]
        have X6 := X0.below hb6
        have B6 := below_trans B0 hb6
        have hlt6 := X6.lt
        clear X0 B0 hb6 HMK c0 c1 c2 c3 c4
        have x0 : w6.cell? ⟨wo.heap.size, 0, none⟩ = some (.int .i64 x.fr) := X6.cell (i := 0) rfl
        have x1 : w6.cell? ⟨wo.heap.size, 1, none⟩ = some (.int .i64 x.wi) := X6.cell (i := 1) rfl
        have x2 : w6.cell? ⟨wo.heap.size, 2, none⟩ = some (.int .i64 x.sz) := X6.cell (i := 2) rfl
        go_upto_region 10 with fail
        clear x0 x1 x2
        have Y7 := Blk.new w6 #[.string (bs (mk 1 k)), .int .i64 MN, .int .i64 0, .int .i64 (1 + d), .int .i64 1, .int .i64 (1 + e), .slice none 0 0, .slice none 0 0] 55
        have X7 := X6.alloc (.cells #[.string (bs (mk 1 k)), .int .i64 MN, .int .i64 0, .int .i64 (1 + d), .int .i64 1, .int .i64 (1 + e), .slice none 0 0, .slice none 0 0] 55)
        have B7 := below_trans B6 (below_al w6 (.cells #[.string (bs (mk 1 k)), .int .i64 MN, .int .i64 0, .int .i64 (1 + d), .int .i64 1, .int .i64 (1 + e), .slice none 0 0, .slice none 0 0] 55))
        obtain ⟨w7, hw7⟩ : ∃ w7, w7 = w6.alloc (.cells #[.string (bs (mk 1 k)), .int .i64 MN, .int .i64 0, .int .i64 (1 + d), .int .i64 1, .int .i64 (1 + e), .slice none 0 0, .slice none 0 0] 55) := ⟨_, rfl⟩
        rw [← hw7] at Y7 X7 B7 ⊢
        clear hw7
        have hM0 : wo.heap.size ≤ w6.heap.size := B6.size
        have y1 : w7.cell? ⟨w6.heap.size, 1, none⟩ = some (.int .i64 MN) := Y7.cell (i := 1) rfl
        have y2 : w7.cell? ⟨w6.heap.size, 2, none⟩ = some (.int .i64 0) := Y7.cell (i := 2) rfl
        have f2 := Y7.free 2
        have x1 : w7.cell? ⟨wo.heap.size, 1, none⟩ = some (.int .i64 x.wi) := X7.cell (i := 1) rfl
        go_upto_region 11 with fail
        clear y1 y2 f2 x1
        have Y8 := Y7.set 2 (.int .i64 (MN + DL))
        have X8 := X7.other (show wo.heap.size ≠ w6.heap.size by omega) 2 (.int .i64 (MN + DL))
        have B8 := B7.setCell (p := ⟨w6.heap.size, 2, none⟩) hM0 (.int .i64 (MN + DL))
        obtain ⟨w8, hw8⟩ : ∃ w8, w8 = w7.setCell ⟨w6.heap.size, 2, none⟩ (.int .i64 (MN + DL)) := ⟨_, rfl⟩
        rw [← hw8] at Y8 X8 B8 ⊢
        clear hw8 Y7 X7 B7
        have x2 : ∀ o, (w8.alloc o).cell? ⟨wo.heap.size, 2, none⟩ = some (.int .i64 x.sz) := fun o => (X8.alloc o).cell (i := 2) rfl
        have x2' : w8.cell? ⟨wo.heap.size, 2, none⟩ = some (.int .i64 x.sz) := X8.cell (i := 2) rfl
        have y6 : ∀ o, (w8.alloc o).cell? ⟨w6.heap.size, 6, none⟩ = some (.slice none 0 0) := fun o => (Y8.alloc o).cell (i := 6) rfl
        have f6 : ∀ o, (w8.alloc o).frozen? ⟨w6.heap.size, 6, none⟩ = false := fun o => (Y8.alloc o).free 6
        go_upto_region 12 with fail
        have F9 : Buf (w8.alloc (.cells #[.string { data := #[99, 104, 117, 110, 107, 115] }, .int .i64 g, .int .u32 0, .string { data := #[105, 110, 100, 101, 120] }, .int .i64 9, .int .u32 0] 59)) 59 3 (.slice (some ⟨w8.heap.size, 0, none⟩) 2 2) 2 (fcs [⟨chunksN, g, 0⟩, ⟨indexN, 9, 0⟩]) := Buf.lit w8 59 3 2 (fcs [⟨chunksN, g, 0⟩, ⟨indexN, 9, 0⟩]) rfl (by decide)
        have Y9 := (Y8.alloc (.cells #[.string { data := #[99, 104, 117, 110, 107, 115] }, .int .i64 g, .int .u32 0, .string { data := #[105, 110, 100, 101, 120] }, .int .i64 9, .int .u32 0] 59))
        have F10 := F9.set_ne Y9 (by decide) 6 (.slice (some ⟨w8.heap.size, 0, none⟩) 2 2)
        have Y10 := Y9.set 6 (.slice (some ⟨w8.heap.size, 0, none⟩) 2 2)
        have X10 := (X8.alloc (.cells #[.string { data := #[99, 104, 117, 110, 107, 115] }, .int .i64 g, .int .u32 0, .string { data := #[105, 110, 100, 101, 120] }, .int .i64 9, .int .u32 0] 59)).other (show wo.heap.size ≠ w6.heap.size by omega) 6 (.slice (some ⟨w8.heap.size, 0, none⟩) 2 2)
        have B10 := (below_trans B8 (below_al w8 (.cells #[.string { data := #[99, 104, 117, 110, 107, 115] }, .int .i64 g, .int .u32 0, .string { data := #[105, 110, 100, 101, 120] }, .int .i64 9, .int .u32 0] 59))).setCell (p := ⟨w6.heap.size, 6, none⟩) hM0 (.slice (some ⟨w8.heap.size, 0, none⟩) 2 2)
        obtain ⟨w10, hw10⟩ : ∃ w10, w10 = (w8.alloc (.cells #[.string { data := #[99, 104, 117, 110, 107, 115] }, .int .i64 g, .int .u32 0, .string { data := #[105, 110, 100, 101, 120] }, .int .i64 9, .int .u32 0] 59)).setCell ⟨w6.heap.size, 6, none⟩ (.slice (some ⟨w8.heap.size, 0, none⟩) 2 2) := ⟨_, rfl⟩
        rw [← hw10] at F10 Y10 X10 B10 ⊢
        clear hw10 F9 Y9 Y8 X8 B8 x2 x2' y6 f6
        obtain ⟨FA, hFA⟩ : ∃ FA, FA = (some ⟨w8.heap.size, 0, none⟩ : Option Addr) := ⟨_, rfl⟩
        rw [← hFA] at F10 Y10
        clear hFA q1 q2 q3 q4 q5 q6 q7 q8 q9
        have Y11 : Blk w10 w6.heap.size 55 #[.string (bs (mk 1 k)), .int .i64 MN, .int .i64 (MN + DL), .int .i64 (1 + d), .int .i64 1, .int .i64 (1 + e), .slice FA 2 2, .slice none 0 0] := Y10
        clear Y10
        go_wp2_with fail
        go_loopw [14] (fun j wi => ∃ (q ns : Nat) (sv : Value), j = .int .i64 q ∧ q ≤ k ∧ ns = (mkSs x.so q).length ∧ ns ≤ q ∧ NBuf wo wi 9 1 sv ns (scs (mkSs x.so q)) ∧ Buf wi 59 3 (.slice FA 2 2) 2 (fcs [⟨chunksN, g, 0⟩, ⟨indexN, 9, 0⟩]) ∧
          Blk wi w6.heap.size 55 #[.string (bs (mk 1 k)), .int .i64 MN, .int .i64 (MN + DL), .int .i64 (1 + d), .int .i64 1, .int .i64 (1 + e), .slice FA 2 2, sv] ∧ Blk wi wo.heap.size 64 #[.int .i64 x.fr, .int .i64 x.wi, .int .i64 x.sz, .int .i64 x.so, .bool x.im]) (fun j _ => k - (intOf j).toNat)
        case atStart => exact ⟨0, 0, _, rfl, Nat.zero_le _, rfl, Nat.le_refl _, NBuf.nil B10 _ _, F10, Y11, X10⟩
        case round =>
          obtain ⟨q, ns, sv, rfl, hq, hns, hnq, hSB, hF, hY, hX⟩ := hrel
          clear F10 Y11 X10 B10
          by_cases hqk : q < k
          · have x3 : wr.cell? ⟨wo.heap.size, 3, none⟩ = some (.int .i64 x.so) := hX.cell (i := 3) rfl
            have hci2 : (0 : Int) ≤ (q : Int) := by omega
            have hbit : (bits .and .i64 (x.so / 2 ^ q) 1 == 1) = bitZ x.so q := by rw [and1]; rfl
            have hsucc := mkSs_succ x.so q
            have HSC := Lib.hid hsucc
            obtain ⟨sA, sc, rfl, hsc⟩ := hSB.buf.shape
            obtain ⟨SS, hSS⟩ : ∃ SS, SS = mkSs x.so q := ⟨_, rfl⟩
            rw [← hSS] at hSB hns HSC
            have HNS := Lib.hid hns
            clear hsucc hSS hns
            rcases hbb : bitZ x.so q with _ | _
            · rw [hbb] at hbit HSC
              rw [if_neg (by decide), List.append_nil] at HSC
              clear hbb
              go_wp2_with fail
              go_roundw
              case rel => exact ⟨q + 1, ns, _, by go_num, by omega, by rw [HSC.out]; exact HNS.out, by omega, by rw [HSC.out]; exact hSB, hF, hY, hX⟩
              case measure => simp [intOf]; omega
            · rw [hbb] at hbit HSC
              rw [if_pos rfl] at HSC
              clear hbb
              obtain ⟨y, hy, hid⟩ : ∃ y, xs[q]? = some y ∧ y.m.id = mk 1 q := by
                have hql : q < xs.length := by rw [HXL.out]; exact hqk
                refine ⟨xs[q], List.getElem?_eq_getElem hql, ?_⟩
                have h1 : (xs.map (·.m))[q]? = some xs[q].m := by rw [List.getElem?_map, List.getElem?_eq_getElem hql]; rfl
                rw [HX.out] at h1
                have h2 : q < (l.take k).length := by rw [List.length_take]; omega
                rw [mkL_at (List.getElem?_eq_getElem h2)] at h1
                injection h1 with h1
                rw [← h1]; rfl
              obtain ⟨ob, oo, hoA, _, hcc⟩ := SlAt.cells (hS.below hSB.below).o.slice (by have := HXL.out; omega)
              have g0 := hcc (q * 8) (.string (bs (mk 1 q))) (by rw [← hid]; exact flat_get encM 8 encM_eight xs q y hy 0 (by omega))
              have hxlq : (q : Int) < (xs.length : Int) := by have := HXL.out; omega
              have HOA := Lib.hid hoA
              have d7 : wr.cell? ⟨w6.heap.size, 7, none⟩ = some (.slice sA ns sc) := hY.cell (i := 7) rfl
              have d7a : ∀ o, (wr.alloc o).cell? ⟨w6.heap.size, 7, none⟩ = some (.slice sA ns sc) := fun o => (hY.alloc o).cell (i := 7) rfl
              have f7 := hY.free 7
              have HF := Lib.hid hF
              have HY := Lib.hid hY
              have HX2 := Lib.hid hX
              have HSB := Lib.hid hSB
              clear hy hid hcc hoA hF hY hX hSB
              go_upto_region 16 with fail
              rw [HOA.out]
              clear x3
              go_region_law (refine step_append_buf rfl (.tmp 82) (.tmp 88) 43 rfl str_ty rfl (HSB.out.drew.alloc _).buf rfl ((Buf.lit wr.drew 9 1 1 [.string (bs (mk 1 q))] rfl (by decide)).src str_ty.slice (by simp [Value.oneCell'])) (by simp only [maxLen]; omega) (by omega) ?_; intro v2 w2 hb2 ha2 hg2; obtain ⟨gA, gc, rfl, hgc⟩ := hb2.shape; have Y2 := (HY.out.drew.alloc _).ap (HSB.out.drew.alloc _).buf ha2 (by decide); have X2 := (HX2.out.drew.alloc _).ap (HSB.out.drew.alloc _).buf ha2 (by decide); have F2 := (HF.out.drew.alloc _).keep_ap (HSB.out.drew.alloc _).buf ha2 (by decide); have S2 := (HSB.out.drew.alloc _).step hb2 ha2 hg2; clear hb2 ha2 hg2; have d8 : w2.cell? ⟨w6.heap.size, 7, none⟩ = some (.slice sA ns sc) := Y2.cell (i := 7) rfl; have f8 := Y2.free 7)
              all_goals
                have Y3 := Y2.set 7 (.slice gA (ns + 1) gc)
                have X3 := X2.other (show wo.heap.size ≠ w6.heap.size by omega) 7 (.slice gA (ns + 1) gc)
                have F3 := F2.set_ne Y2 (by decide) 7 (.slice gA (ns + 1) gc)
                have S3 := S2.set_ne Y2 (by decide) hM0 7 (.slice gA (ns + 1) gc)
                clear d8 f8 Y2 X2 F2 S2 d7 d7a f7 g0 HY HF HX2 HSB
                go_wp2_with fail
                rw [← HOA.out]
                go_roundw
                case rel => exact ⟨q + 1, ns + 1, _, by go_num, by omega, by rw [HSC.out, List.length_append, ← HNS.out]; rfl, by omega, by rw [HSC.out, scs_append]; exact S3, F3, Y3, X3⟩
                case measure => simp [intOf]; omega
          · obtain ⟨k0, hk0⟩ : ∃ k0, k0 = q := ⟨_, rfl⟩
            obtain rfl : k = q := by omega
            clear hk0
            obtain ⟨sA, sc, rfl, hsc⟩ := hSB.buf.shape
            obtain ⟨M, hMd⟩ : ∃ M : Mt, M = ⟨mk 1 k, MN, MN + DL, 1 + d, 1, 1 + e, [⟨chunksN, g, 0⟩, ⟨indexN, 9, 0⟩], mkSs x.so k⟩ := ⟨_, rfl⟩
            have hMl : M.ss.length = ns := by rw [hMd]; exact hns.symm
            have hMs : scs M.ss = scs (mkSs x.so k) := by rw [hMd]
            have ME : MBuf wr 59 ⟨M, FA, 2, sA, sc⟩ := ⟨by show Buf wr _ 3 (.slice FA M.fs.length 2) M.fs.length (fcs M.fs); rw [hMd]; exact hF, by show Buf wr _ 1 (.slice sA M.ss.length sc) M.ss.length (scs M.ss); rw [hMl, hMs]; exact hSB.buf⟩
            have htold : Calls Try.prog 20 #[.agg #[.string (bs (mk 1 k)), .int .i64 MN, .int .i64 (MN + DL), .int .i64 (1 + d), .int .i64 1, .int .i64 (1 + e), .slice FA 2 2, .slice sA ns sc]] wr (RetT wr M (.slice sA ns sc)) := by
              have h1 : FlsAt wr (.slice FA 2 2) M.fs := by
                have := SlAt.of_buf ME.1
                rw [hMd] at this ⊢
                exact this
              have h2 : SrcAt wr (.slice sA ns sc) M.ss := by
                have := SlAt.of_buf ME.2
                rw [show (⟨M, FA, 2, sA, sc⟩ : Mv).m.ss.length = ns from hMl] at this
                show SlAt wr 1 _ M.ss.length _
                rw [hMl]
                exact this
              have h0 := told_any M (.slice FA 2 2) (.slice sA ns sc) wr h1 h2 (by rw [hMd]; show 2 ≤ 1000; omega)
              rw [hMd] at h0 ⊢
              exact h0
            have HTO := Lib.hid htold
            have B1 := hSB.below
            have HMd := Lib.hid hMd
            have HML := Lib.hid hMl
            clear htold hMd hns hMl hMs hSB hF
            have y0 : wr.cell? ⟨w6.heap.size, 0, none⟩ = some (.string (bs (mk 1 k))) := hY.cell (i := 0) rfl
            have y1 : wr.cell? ⟨w6.heap.size, 1, none⟩ = some (.int .i64 MN) := hY.cell (i := 1) rfl
            have y2 : wr.cell? ⟨w6.heap.size, 2, none⟩ = some (.int .i64 (MN + DL)) := hY.cell (i := 2) rfl
            have y3 : wr.cell? ⟨w6.heap.size, 3, none⟩ = some (.int .i64 (1 + d)) := hY.cell (i := 3) rfl
            have y4 : wr.cell? ⟨w6.heap.size, 4, none⟩ = some (.int .i64 1) := hY.cell (i := 4) rfl
            have y5 : wr.cell? ⟨w6.heap.size, 5, none⟩ = some (.int .i64 (1 + e)) := hY.cell (i := 5) rfl
            have y6 : wr.cell? ⟨w6.heap.size, 6, none⟩ = some (.slice FA 2 2) := hY.cell (i := 6) rfl
            have y7 : wr.cell? ⟨w6.heap.size, 7, none⟩ = some (.slice sA ns sc) := hY.cell (i := 7) rfl
            go_wp2_with fail
            refine HTO.out.mono ?_
            rintro e' w11 ⟨fv, rfl, hft, hb11⟩
            clear y0 y1 y2 y3 y4 y5 y6 y7 HTO
            obtain ⟨TA, tc2, rfl, htc2⟩ := hft.buf.shape
            have hMf : M.fs.length = 2 := by rw [HMd.out]; rfl
            have MT : MBuf w11 84 ⟨M, TA, tc2, sA, sc⟩ := ⟨hft.buf, (ME.below hb11).2⟩
            rw [hMf]
            have e0 : M.id = mk 1 k := by rw [HMd.out]
            have e1 : M.mn = MN := by rw [HMd.out]
            have e2 : M.mx = MN + DL := by rw [HMd.out]
            have e3 : M.lv = 1 + d := by rw [HMd.out]
            have e4 : M.sr = 1 := by rw [HMd.out]
            have e5 : M.sm = 1 + e := by rw [HMd.out]
            rw [e0, e1, e2, e3, e4, e5]
            have MEb := ME.below hb11
            have Y11 := hY.below hb11
            have X11 := hX.below hb11
            have B11 := below_trans B1 hb11
            have hw611 := Y11.lt
            have hwo11 := X11.lt
            clear ME hY hX B1 hb11 hft hMf e0 e1 e2 e3 e4 e5
            have Z12 := Blk.new w11 #[.string (bs (mk 1 k)), .int .i64 MN, .int .i64 (MN + DL), .int .i64 (1 + d), .int .i64 1, .int .i64 (1 + e), .slice TA 2 tc2, .slice sA ns sc, .int .i64 (-1)] 70
            have b12 := below_al w11 (.cells #[.string (bs (mk 1 k)), .int .i64 MN, .int .i64 (MN + DL), .int .i64 (1 + d), .int .i64 1, .int .i64 (1 + e), .slice TA 2 tc2, .slice sA ns sc, .int .i64 (-1)] 70)
            go_upto_region 18 with fail
            obtain ⟨w12, hw12⟩ : ∃ w12, w12 = w11.alloc (.cells #[.string (bs (mk 1 k)), .int .i64 MN, .int .i64 (MN + DL), .int .i64 (1 + d), .int .i64 1, .int .i64 (1 + e), .slice TA 2 tc2, .slice sA ns sc, .int .i64 (-1)] 70) := ⟨_, rfl⟩
            rw [← hw12] at Z12 b12 ⊢
            clear hw12
            have Y12 := Y11.below b12
            have X12 := X11.below b12
            have ME12 := MEb.below b12
            have MT12 := MT.below b12
            have B12 := below_trans B11 b12
            have S12 := hS.below B12
            clear Y11 X11 MEb MT B11 b12
            have henc : encM ⟨M, FA, 2, sA, sc⟩ = [.string (bs (mk 1 k)), .int .i64 MN, .int .i64 (MN + DL), .int .i64 (1 + d), .int .i64 1, .int .i64 (1 + e), .slice FA 2 2, .slice sA ns sc] := by
              unfold encM
              dsimp only
              rw [HML.out, HMd.out]
              rfl
            have hencB : ∀ z : Int, encB (⟨M, TA, tc2, sA, sc⟩, z) = [.string (bs (mk 1 k)), .int .i64 MN, .int .i64 (MN + DL), .int .i64 (1 + d), .int .i64 1, .int .i64 (1 + e), .slice TA 2 tc2, .slice sA ns sc, .int .i64 z] := by
              intro z
              unfold encB encM
              dsimp only
              rw [HML.out, HMd.out]
              rfl
            have HENC := Lib.hid henc
            have HENB := Lib.hid hencB
            clear henc hencB
            have x4 : w12.cell? ⟨wo.heap.size, 4, none⟩ = some (.bool x.im) := X12.cell (i := 4) rfl
            rcases him : x.im with _ | _
            · rw [him] at x4
              have y0 : w12.cell? ⟨w6.heap.size, 0, none⟩ = some (.string (bs (mk 1 k))) := Y12.cell (i := 0) rfl
              have y1 : w12.cell? ⟨w6.heap.size, 1, none⟩ = some (.int .i64 MN) := Y12.cell (i := 1) rfl
              have y2 : w12.cell? ⟨w6.heap.size, 2, none⟩ = some (.int .i64 (MN + DL)) := Y12.cell (i := 2) rfl
              have y3 : w12.cell? ⟨w6.heap.size, 3, none⟩ = some (.int .i64 (1 + d)) := Y12.cell (i := 3) rfl
              have y4 : w12.cell? ⟨w6.heap.size, 4, none⟩ = some (.int .i64 1) := Y12.cell (i := 4) rfl
              have y5 : w12.cell? ⟨w6.heap.size, 5, none⟩ = some (.int .i64 (1 + e)) := Y12.cell (i := 5) rfl
              have y6 : w12.cell? ⟨w6.heap.size, 6, none⟩ = some (.slice FA 2 2) := Y12.cell (i := 6) rfl
              have y7 : w12.cell? ⟨w6.heap.size, 7, none⟩ = some (.slice sA ns sc) := Y12.cell (i := 7) rfl
              have hxk12 : xs.length ≤ 12 := by have := HXL.out; omega
              have htk12 : ts.length ≤ 12 := by have := HTL.out; omega
              go_upto_region 22 with (at_builtin; refine wpList_append_nlit rfl (.tmp 99) (.tmp 101) 23 rfl meta_ty rfl S12.o rfl (by simp) rfl (by simp [Value.oneCell']) (by simp only [maxLen]; omega) (by omega) ?_; intro v3 w15 hn15 ha15; have S15 := LSt.pushO (x := ⟨M, FA, 2, sA, sc⟩) (S12.below (below_al _ _)) (ME12.below (below_al _ _)) (by rw [HENC.out]; exact hn15) ha15; have T15 := (MT12.below (below_al _ (.cells #[.string (bs (mk 1 k)), .int .i64 MN, .int .i64 (MN + DL), .int .i64 (1 + d), .int .i64 1, .int .i64 (1 + e), .slice FA 2 2, .slice sA ns sc] 55))).ap (S12.o.alloc _).buf ha15 (by decide) (by decide); have Z15 := (Z12.alloc (.cells #[.string (bs (mk 1 k)), .int .i64 MN, .int .i64 (MN + DL), .int .i64 (1 + d), .int .i64 1, .int .i64 (1 + e), .slice FA 2 2, .slice sA ns sc] 55)).ap (S12.o.alloc _).buf ha15 (by decide))
              clear y0 y1 y2 y3 y4 y5 y6 y7 hn15 ha15
              have z0 : w15.cell? ⟨w11.heap.size, 0, none⟩ = some (.string (bs (mk 1 k))) := Z15.cell (i := 0) rfl
              have z1 : w15.cell? ⟨w11.heap.size, 1, none⟩ = some (.int .i64 MN) := Z15.cell (i := 1) rfl
              have z2 : w15.cell? ⟨w11.heap.size, 2, none⟩ = some (.int .i64 (MN + DL)) := Z15.cell (i := 2) rfl
              have z3 : w15.cell? ⟨w11.heap.size, 3, none⟩ = some (.int .i64 (1 + d)) := Z15.cell (i := 3) rfl
              have z4 : w15.cell? ⟨w11.heap.size, 4, none⟩ = some (.int .i64 1) := Z15.cell (i := 4) rfl
              have z5 : w15.cell? ⟨w11.heap.size, 5, none⟩ = some (.int .i64 (1 + e)) := Z15.cell (i := 5) rfl
              have z6 : w15.cell? ⟨w11.heap.size, 6, none⟩ = some (.slice TA 2 tc2) := Z15.cell (i := 6) rfl
              have z7 : w15.cell? ⟨w11.heap.size, 7, none⟩ = some (.slice sA ns sc) := Z15.cell (i := 7) rfl
              have z8 : w15.cell? ⟨w11.heap.size, 8, none⟩ = some (.int .i64 (-1)) := Z15.cell (i := 8) rfl
              go_wp2_with (at_builtin; refine wpList_append_nlit rfl (.tmp 103) (.tmp 105) 27 rfl block_ty rfl S15.t rfl (by simp) rfl (by simp [Value.oneCell']) (by simp only [maxLen]; omega) (by omega) ?_; intro v4 w16 hn16 ha16; have S16 := LSt.pushT (x := (⟨M, TA, tc2, sA, sc⟩, (-1))) (S15.below (below_al _ _)) (T15.below (below_al _ _)) (by rw [HENB.out]; exact hn16) ha16)
              clear z0 z1 z2 z3 z4 z5 z6 z7 z8 hn16 ha16 T15 Z15 S15
              have hxk := HXL.out
              have htk := HTL.out
              have hlk : (l.take k).length = k := by rw [List.length_take]; omega
              have htake : l.take (k + 1) = l.take k ++ [x] := by rw [List.take_add_one, HXK.out]; rfl
              have hmf : mkF (l.take (k + 1)) = mkF (l.take k) := by rw [htake, mkF_snoc, hlk, him]; rfl
              have hmm : mkL wd (l.take (k + 1)) = mkL wd (l.take k) ++ [M] := by rw [htake, mkL_snoc, hlk, HMM.out, HMd.out]
              have S17 : LSt w w16 (w.heap.size + 3) (xs ++ [⟨M, FA, 2, sA, sc⟩]) (ts ++ [(⟨M, TA, tc2, sA, sc⟩, (-1))]) v3 v4 nm (mkF (l.take (k + 1))) := by rw [hmf]; exact S16
              have HX3 : Hid ((xs ++ [(⟨M, FA, 2, sA, sc⟩ : Mv)]).map (·.m) = mkL wd (l.take (k + 1))) := Lib.hid (by rw [hmm, List.map_append, HX.out]; rfl)
              have HT3 : Hid ((ts ++ [((⟨M, TA, tc2, sA, sc⟩ : Mv), ((-1) : Int))]).map (·.1.m) = mkL wd (l.take (k + 1))) := Lib.hid (by rw [hmm, List.map_append, HT.out]; rfl)
              have HM3 : Hid (∀ (j : Nat) (z : Mv × Int), (ts ++ [((⟨M, TA, tc2, sA, sc⟩ : Mv), ((-1) : Int))])[j]? = some z → ∃ y : On, l[j]? = some y ∧ z.2 = if y.im then 3 else -1) := Lib.hid (fun j z hj => by
                by_cases hjl : j < ts.length
                · rw [List.getElem?_append_left hjl] at hj
                  exact HM.out j z hj
                · have hj2 : j < (ts ++ [((⟨M, TA, tc2, sA, sc⟩ : Mv), ((-1) : Int))]).length := (List.getElem?_eq_some_iff.1 hj).1
                  rw [List.length_append, List.length_singleton] at hj2
                  obtain rfl : j = ts.length := by omega
                  rw [List.getElem?_append_right (Nat.le_refl _), Nat.sub_self] at hj
                  injection hj with hj
                  subst hj
                  exact ⟨x, by rw [htk]; exact HXK.out, by rw [him]; rfl⟩)
              clear hlk htake hmf hmm S16
              go_roundw
              case rel => exact ⟨k + 1, nm, _, _, by go_num, by omega, by omega, by omega, by rw [List.length_append, hxk]; rfl, by rw [List.length_append, htk]; rfl, S17, HX3, HT3, HM3⟩
              case measure => simp [intOf]; omega
            · rw [him] at x4
              have z8 : w12.cell? ⟨w11.heap.size, 8, none⟩ = some (.int .i64 (-1)) := Z12.cell (i := 8) rfl
              have f8 := Z12.free 8
              have hid : (mk 1 k).length ≤ maxLen := by rw [mk_length]; decide
              have hnm2 : nm < maxLen := by unfold maxLen; omega
              have Z13 := Z12.set 8 (.int .i64 3)
              have Y13 := Y12.other (show w6.heap.size ≠ w11.heap.size by omega) 8 (.int .i64 3)
              have ME13 : MBuf (w12.setCell ⟨w11.heap.size, 8, none⟩ (.int .i64 3)) 59 ⟨M, FA, 2, sA, sc⟩ := ⟨ME12.1.set_ne Z12 (by decide) 8 _, ME12.2.set_ne Z12 (by decide) 8 _⟩
              have MT13 : MBuf (w12.setCell ⟨w11.heap.size, 8, none⟩ (.int .i64 3)) 84 ⟨M, TA, tc2, sA, sc⟩ := ⟨MT12.1.set_ne Z12 (by decide) 8 _, MT12.2.set_ne Z12 (by decide) 8 _⟩
              have S13 := hS.below (B12.setCell (p := ⟨w11.heap.size, 8, none⟩) (show wo.heap.size ≤ w11.heap.size by omega) (.int .i64 3))
              go_upto_region 20 with fail
              obtain ⟨w13, hw13⟩ : ∃ w13, w13 = w12.setCell ⟨w11.heap.size, 8, none⟩ (.int .i64 3) := ⟨_, rfl⟩
              rw [← hw13] at Z13 Y13 ME13 MT13 S13 ⊢
              clear hw13 x4 z8 f8 Z12 Y12 X12 ME12 MT12 S12 B12
              have hm13 := S13.m
              go_upto_region 21 with (at_mapUpdate; refine wpList_update_mp _ rfl _ _ _ 24 rfl marks_ty rfl hm13 hnm2 (mk 1 k) rfl hid 3 rfl (by decide) (by decide) ?_; intro w14 hm14 hg14)
              have S14 := S13.mapped hm14 hg14
              have Z14 := Z13.mapped hm13 hg14
              have Y14 := Y13.mapped hm13 hg14
              have ME14 := ME13.mapped hm13 hg14
              have MT14 := MT13.mapped hm13 hg14
              clear S13 Z13 Y13 ME13 MT13 hm13 hm14 hg14
              have y0 : w14.cell? ⟨w6.heap.size, 0, none⟩ = some (.string (bs (mk 1 k))) := Y14.cell (i := 0) rfl
              have y1 : w14.cell? ⟨w6.heap.size, 1, none⟩ = some (.int .i64 MN) := Y14.cell (i := 1) rfl
              have y2 : w14.cell? ⟨w6.heap.size, 2, none⟩ = some (.int .i64 (MN + DL)) := Y14.cell (i := 2) rfl
              have y3 : w14.cell? ⟨w6.heap.size, 3, none⟩ = some (.int .i64 (1 + d)) := Y14.cell (i := 3) rfl
              have y4 : w14.cell? ⟨w6.heap.size, 4, none⟩ = some (.int .i64 1) := Y14.cell (i := 4) rfl
              have y5 : w14.cell? ⟨w6.heap.size, 5, none⟩ = some (.int .i64 (1 + e)) := Y14.cell (i := 5) rfl
              have y6 : w14.cell? ⟨w6.heap.size, 6, none⟩ = some (.slice FA 2 2) := Y14.cell (i := 6) rfl
              have y7 : w14.cell? ⟨w6.heap.size, 7, none⟩ = some (.slice sA ns sc) := Y14.cell (i := 7) rfl
              have hxk12 : xs.length ≤ 12 := by have := HXL.out; omega
              have htk12 : ts.length ≤ 12 := by have := HTL.out; omega
              go_upto_region 22 with (at_builtin; refine wpList_append_nlit rfl (.tmp 99) (.tmp 101) 23 rfl meta_ty rfl S14.o rfl (by simp) rfl (by simp [Value.oneCell']) (by simp only [maxLen]; omega) (by omega) ?_; intro v3 w15 hn15 ha15; have S15 := LSt.pushO (x := ⟨M, FA, 2, sA, sc⟩) (S14.below (below_al _ _)) (ME14.below (below_al _ _)) (by rw [HENC.out]; exact hn15) ha15; have T15 := (MT14.below (below_al _ (.cells #[.string (bs (mk 1 k)), .int .i64 MN, .int .i64 (MN + DL), .int .i64 (1 + d), .int .i64 1, .int .i64 (1 + e), .slice FA 2 2, .slice sA ns sc] 55))).ap (S14.o.alloc _).buf ha15 (by decide) (by decide); have Z15 := (Z14.alloc (.cells #[.string (bs (mk 1 k)), .int .i64 MN, .int .i64 (MN + DL), .int .i64 (1 + d), .int .i64 1, .int .i64 (1 + e), .slice FA 2 2, .slice sA ns sc] 55)).ap (S14.o.alloc _).buf ha15 (by decide))
              clear y0 y1 y2 y3 y4 y5 y6 y7 hn15 ha15
              have z0 : w15.cell? ⟨w11.heap.size, 0, none⟩ = some (.string (bs (mk 1 k))) := Z15.cell (i := 0) rfl
              have z1 : w15.cell? ⟨w11.heap.size, 1, none⟩ = some (.int .i64 MN) := Z15.cell (i := 1) rfl
              have z2 : w15.cell? ⟨w11.heap.size, 2, none⟩ = some (.int .i64 (MN + DL)) := Z15.cell (i := 2) rfl
              have z3 : w15.cell? ⟨w11.heap.size, 3, none⟩ = some (.int .i64 (1 + d)) := Z15.cell (i := 3) rfl
              have z4 : w15.cell? ⟨w11.heap.size, 4, none⟩ = some (.int .i64 1) := Z15.cell (i := 4) rfl
              have z5 : w15.cell? ⟨w11.heap.size, 5, none⟩ = some (.int .i64 (1 + e)) := Z15.cell (i := 5) rfl
              have z6 : w15.cell? ⟨w11.heap.size, 6, none⟩ = some (.slice TA 2 tc2) := Z15.cell (i := 6) rfl
              have z7 : w15.cell? ⟨w11.heap.size, 7, none⟩ = some (.slice sA ns sc) := Z15.cell (i := 7) rfl
              have z8 : w15.cell? ⟨w11.heap.size, 8, none⟩ = some (.int .i64 3) := Z15.cell (i := 8) rfl
              go_wp2_with (at_builtin; refine wpList_append_nlit rfl (.tmp 103) (.tmp 105) 27 rfl block_ty rfl S15.t rfl (by simp) rfl (by simp [Value.oneCell']) (by simp only [maxLen]; omega) (by omega) ?_; intro v4 w16 hn16 ha16; have S16 := LSt.pushT (x := (⟨M, TA, tc2, sA, sc⟩, 3)) (S15.below (below_al _ _)) (T15.below (below_al _ _)) (by rw [HENB.out]; exact hn16) ha16)
              clear z0 z1 z2 z3 z4 z5 z6 z7 z8 hn16 ha16 T15 Z15 S15
              have hxk := HXL.out
              have htk := HTL.out
              have hlk : (l.take k).length = k := by rw [List.length_take]; omega
              have htake : l.take (k + 1) = l.take k ++ [x] := by rw [List.take_add_one, HXK.out]; rfl
              have hmf : mkF (l.take (k + 1)) = upd (mkF (l.take k)) (mk 1 k) 3 := by rw [htake, mkF_snoc, hlk, him]; rfl
              have hmm : mkL wd (l.take (k + 1)) = mkL wd (l.take k) ++ [M] := by rw [htake, mkL_snoc, hlk, HMM.out, HMd.out]
              have S17 : LSt w w16 (w.heap.size + 3) (xs ++ [⟨M, FA, 2, sA, sc⟩]) (ts ++ [(⟨M, TA, tc2, sA, sc⟩, 3)]) v3 v4 (nm + 1) (mkF (l.take (k + 1))) := by rw [hmf]; exact S16
              have HX3 : Hid ((xs ++ [(⟨M, FA, 2, sA, sc⟩ : Mv)]).map (·.m) = mkL wd (l.take (k + 1))) := Lib.hid (by rw [hmm, List.map_append, HX.out]; rfl)
              have HT3 : Hid ((ts ++ [((⟨M, TA, tc2, sA, sc⟩ : Mv), (3 : Int))]).map (·.1.m) = mkL wd (l.take (k + 1))) := Lib.hid (by rw [hmm, List.map_append, HT.out]; rfl)
              have HM3 : Hid (∀ (j : Nat) (z : Mv × Int), (ts ++ [((⟨M, TA, tc2, sA, sc⟩ : Mv), (3 : Int))])[j]? = some z → ∃ y : On, l[j]? = some y ∧ z.2 = if y.im then 3 else -1) := Lib.hid (fun j z hj => by
                by_cases hjl : j < ts.length
                · rw [List.getElem?_append_left hjl] at hj
                  exact HM.out j z hj
                · have hj2 : j < (ts ++ [((⟨M, TA, tc2, sA, sc⟩ : Mv), (3 : Int))]).length := (List.getElem?_eq_some_iff.1 hj).1
                  rw [List.length_append, List.length_singleton] at hj2
                  obtain rfl : j = ts.length := by omega
                  rw [List.getElem?_append_right (Nat.le_refl _), Nat.sub_self] at hj
                  injection hj with hj
                  subst hj
                  exact ⟨x, by rw [htk]; exact HXK.out, by rw [him]; rfl⟩)
              clear hlk htake hmf hmm S16
              go_roundw
              case rel => exact ⟨k + 1, (nm + 1), _, _, by go_num, by omega, by omega, by omega, by rw [List.length_append, hxk]; rfl, by rw [List.length_append, htk]; rfl, S17, HX3, HT3, HM3⟩
              case measure => simp [intOf]; omega
      · have hlk : (l.take k).length = k := by rw [List.length_take]; omega
        have hms : MsAt wo wo (.slice oA xs.length oc) (mkL wd (l.take k)) := ⟨xs, HX.out, hS.o.slice, fun x hx => (hS.ox x hx).at_⟩
        have hnew := new_any 5 (.slice oA xs.length oc) (mkL wd (l.take k)) (w.heap.size + 3) nm (mkF (l.take k)) wo wo hms hS.m (mkL_lst hw1 hw2 _ (by omega))
        have HN := Lib.hid hnew
        have HS := Lib.hid hS
        have HL := Lib.hid hlk
        have h12 : l.take k = l.take 12 := by rw [show k = 12 by omega]
        have H12 := Lib.hid h12
        have HTL2 := Lib.hid htl
        clear hnew hS hms hlk h12 hxl htl
        go_wp2_with fail
        refine HN.out.mono ?_
        rintro e' w7 ⟨v7, rfl, hli, hb7⟩
        have S7 := HS.out.below hb7
        obtain ⟨mv7, b7, rfl, hm7, hp7⟩ := hli
        have hlt5 := S7.r5.lt
        have r40 : w7.cell? ⟨w.heap.size, 0, none⟩ = some (.int .i64 0) := S7.r4.cell (i := 0) rfl
        have r41 : w7.cell? ⟨w.heap.size, 1, none⟩ = some (.slice none 0 0) := S7.r4.cell (i := 1) rfl
        have r42 : w7.cell? ⟨w.heap.size, 2, none⟩ = some (.map none) := S7.r4.cell (i := 2) rfl
        have r50 : w7.cell? ⟨w.heap.size + 1, 0, none⟩ = some (.int .i64 0) := S7.r5.cell (i := 0) rfl
        have r51 : w7.cell? ⟨w.heap.size + 1, 1, none⟩ = some (.slice none 0 0) := S7.r5.cell (i := 1) rfl
        have q40 := S7.r4.free 0
        have q41 := S7.r4.free 1
        have q42 := S7.r4.free 2
        have q50 := S7.r5.free 0
        have q51 := S7.r5.free 1
        obtain ⟨mA, mc, rfl, hmc, _⟩ := hm7.shape
        have hnm12 : nm ≤ 12 := by omega
        have HR : Hid (∀ w8, Fr (fun k _ => k = w.heap.size ∨ k = w.heap.size + 1) w7 w8 → RetBoth w (mkL wd (l.take 12)) (mkF (l.take 12)) (.returned (.tuple #[.agg #[.int .i64 5, .slice mA (mkL wd (l.take k)).length mc, .map (some b7)], .agg #[.int .i64 5, .slice tA ts.length tc]])) w8) := Lib.hid (by
          intro w8 hf8
          rw [← H12.out]
          exact both_of S7 hm7 hp7 hb7 hf8 hnm12 hk hk12 HTL2.out HT.out HM.out)
        clear S7 hm7 hp7 hb7 HS HN
        go_wp2_with fail
        refine bodyPost_ret (v := .tuple #[.agg #[.int .i64 5, .slice mA (mkL wd (l.take k)).length mc, .map (some b7)], .agg #[.int .i64 5, .slice tA ts.length tc]]) (by simp [results, Try.results7, go_sem, r40, r41, r42, r50, r51]) rfl ?_
        refine HR.out _ ?_
        exact ((((Fr.refl _ _).setCell (fun _ => .inl rfl) _).setCell (fun _ => .inl rfl) _).setCell (fun _ => .inl rfl) _).setCell (fun _ => .inr rfl) _ |>.setCell (fun _ => .inr rfl) _
    · have hlk : (l.take k).length = k := by rw [List.length_take]; omega
      have hms : MsAt wo wo (.slice oA xs.length oc) (mkL wd (l.take k)) := ⟨xs, HX.out, hS.o.slice, fun x hx => (hS.ox x hx).at_⟩
      have hnew := new_any 5 (.slice oA xs.length oc) (mkL wd (l.take k)) (w.heap.size + 3) nm (mkF (l.take k)) wo wo hms hS.m (mkL_lst hw1 hw2 _ (by omega))
      have HN := Lib.hid hnew
      have HS := Lib.hid hS
      have HL := Lib.hid hlk
      have h12 : l.take k = l.take 12 := by rw [show k = l.length by omega, List.take_length, List.take_of_length_le (by omega)]
      have H12 := Lib.hid h12
      have HTL2 := Lib.hid htl
      clear hnew hS hms hlk h12 hxl htl
      go_wp2_with fail
      refine HN.out.mono ?_
      rintro e' w7 ⟨v7, rfl, hli, hb7⟩
      have S7 := HS.out.below hb7
      obtain ⟨mv7, b7, rfl, hm7, hp7⟩ := hli
      have hlt5 := S7.r5.lt
      have r40 : w7.cell? ⟨w.heap.size, 0, none⟩ = some (.int .i64 0) := S7.r4.cell (i := 0) rfl
      have r41 : w7.cell? ⟨w.heap.size, 1, none⟩ = some (.slice none 0 0) := S7.r4.cell (i := 1) rfl
      have r42 : w7.cell? ⟨w.heap.size, 2, none⟩ = some (.map none) := S7.r4.cell (i := 2) rfl
      have r50 : w7.cell? ⟨w.heap.size + 1, 0, none⟩ = some (.int .i64 0) := S7.r5.cell (i := 0) rfl
      have r51 : w7.cell? ⟨w.heap.size + 1, 1, none⟩ = some (.slice none 0 0) := S7.r5.cell (i := 1) rfl
      have q40 := S7.r4.free 0
      have q41 := S7.r4.free 1
      have q42 := S7.r4.free 2
      have q50 := S7.r5.free 0
      have q51 := S7.r5.free 1
      obtain ⟨mA, mc, rfl, hmc, _⟩ := hm7.shape
      have hnm12 : nm ≤ 12 := by omega
      have HR : Hid (∀ w8, Fr (fun k _ => k = w.heap.size ∨ k = w.heap.size + 1) w7 w8 → RetBoth w (mkL wd (l.take 12)) (mkF (l.take 12)) (.returned (.tuple #[.agg #[.int .i64 5, .slice mA (mkL wd (l.take k)).length mc, .map (some b7)], .agg #[.int .i64 5, .slice tA ts.length tc]])) w8) := Lib.hid (by
        intro w8 hf8
        rw [← H12.out]
        exact both_of S7 hm7 hp7 hb7 hf8 hnm12 hk hk12 HTL2.out HT.out HM.out)
      clear S7 hm7 hp7 hb7 HS HN
      go_wp2_with fail
      refine bodyPost_ret (v := .tuple #[.agg #[.int .i64 5, .slice mA (mkL wd (l.take k)).length mc, .map (some b7)], .agg #[.int .i64 5, .slice tA ts.length tc]]) (by simp [results, Try.results7, go_sem, r40, r41, r42, r50, r51]) rfl ?_
      refine HR.out _ ?_
      exact ((((Fr.refl _ _).setCell (fun _ => .inl rfl) _).setCell (fun _ => .inl rfl) _).setCell (fun _ => .inl rfl) _).setCell (fun _ => .inr rfl) _ |>.setCell (fun _ => .inr rfl) _
end Go.Proofs.Ytemmgejaoegpfaa
