/-
  Layer 2: the walks of frame.Next and frame.All.
-/
import Derived.Test.YtnoebccoaeiakaaGreatDoorZHdI
import Derived.Handy
import Derived.Test.YtnoebccoaeiakaaGreatDoorZRws
import Derived.Test.YtnoebccoaeiakaaGreatDoorZLib5

namespace Go.Proofs.YtnoebccoaeiakaaGreatDoor
open Go.RowKit Go.Bar Go.Bar.Leb Go.Bar.Frm

def recV (r : Rc) : Value := .agg #[.int .u8 r.1.toNat, .string (bs r.2)]
def nextV (x : Rc × List UInt8 × Nat) : Value := .tuple #[recV x.1, .string (bs x.2.1), .int .i64 x.2.2]

theorem or_shift (x b i : Nat) (h : x < 2 ^ i) : x ||| b * 2 ^ i = x + b * 2 ^ i := by
  have := Nat.two_pow_add_eq_or_of_lt h b
  rw [Nat.or_comm, Nat.mul_comm b, ← this, Nat.add_comm]
theorem num4_bits (a b c f : UInt8) (r : List UInt8) : bits .or .u32 (bits .or .u32 (bits .or .u32 ((a.toNat : Int) % 4294967296) ((b.toNat : Int) % 4294967296 * 256 % 4294967296)) ((c.toNat : Int) % 4294967296 * 65536 % 4294967296)) ((f.toNat : Int) % 4294967296 * 16777216 % 4294967296) = ((num4 (a :: b :: c :: f :: r) : Nat) : Int) := by
  have ha := UInt8.toNat_lt a
  have hb := UInt8.toNat_lt b
  have hc := UInt8.toNat_lt c
  have hf := UInt8.toNat_lt f
  simp only [num4, List.getD_cons_zero, List.getD_cons_succ]
  generalize a.toNat = x at *
  generalize b.toNat = y at *
  generalize c.toNat = z at *
  generalize f.toNat = v at *
  rw [show (x : Int) % 4294967296 = (x : Nat) by omega, show (y : Int) % 4294967296 * 256 % 4294967296 = ((y * 2 ^ 8 : Nat) : Int) by omega, show (z : Int) % 4294967296 * 65536 % 4294967296 = ((z * 2 ^ 16 : Nat) : Int) by omega, show (v : Int) % 4294967296 * 16777216 % 4294967296 = ((v * 2 ^ 24 : Nat) : Int) by omega]
  rw [u32_or_nat _ _ (by omega) (by omega), or_shift _ _ _ (by omega), u32_or_nat _ _ (by omega) (by omega), or_shift _ _ _ (by omega), u32_or_nat _ _ (by omega) (by omega), or_shift _ _ _ (by omega)]

set_option maxHeartbeats 1000000 in
set_option maxRecDepth 10000 in
theorem next_any (l : List UInt8) (w : World) (hs : l.length ≤ 9223372036854775807) :
    Calls Tryz.prog 57 #[.string (bs l)] w (RetBelow w (nextV (next l))) := by
  match l with
  | [] =>
    go_enter Tryz.func57, Tryz.ntmps57
    go_wp2_with fail
    refine (takeByte_none (bs []) _ rfl).mono ?_
    rintro e w' ⟨rfl, n, rfl⟩
    go_wp2_with fail
    go_returns
    exact ⟨rfl, ((below_drewN ((Below.refl _ _).alloc (Nat.le_refl _) _) _).setCell (by simp) _).setCell (by simp) _⟩
  | k :: l =>
    rw [List.length_cons] at hs
    obtain ⟨n, r, er, ht⟩ : ∃ n r er, takeMost l 1048576 = (n, r, er) := ⟨_, _, _, rfl⟩
    have hp := takeMost_prop l 1048576 (by omega)
    have hn1 : (takeMost l 1048576).2.2 = 0 → (takeMost l 1048576).1 ≤ 1048576 := takeMost_le l 1048576
    rw [next, ht]
    rw [ht] at hp hn1
    simp only at hp hn1 ⊢
    obtain ⟨hv, hrl, he⟩ := hp
    have HT := Lib.hid (show takeMost (bs l).data.toList 1048576 = (n, r, er) from ht)
    clear ht
    by_cases h1 : er ≠ 0
    · rw [if_pos h1]
      have hb : ((er : Int) != 0) = true := by rw [bne_iff_ne]; omega
      clear h1 he hn1
      go_enter Tryz.func57, Tryz.ntmps57
      go_wp2_with fail
      refine (takeByte_some (bs (k :: l)) _ k l (by rw [bs_size]; unfold maxLen; simp; omega) rfl).mono ?_
      rintro e w' ⟨rfl, n1, rfl⟩
      go_wp2_with fail
      refine (takeMost_of (bs l) 1048576 HT.out _ (by rw [bs_size]; unfold maxLen; omega) (by omega) (by omega)).mono ?_
      rintro e w' ⟨rfl, n2, rfl⟩
      go_wp2_with fail
      go_returns
      exact ⟨rfl, ((below_drewN ((Below.refl _ _).alloc (Nat.le_refl _) _) _).setCell (by simp) _).setCell (by simp) _⟩
    · rw [if_neg h1]
      obtain rfl : er = 0 := by omega
      have hn2 := hn1 rfl
      clear h1 he hn1
      by_cases h2 : r.length < 4 + n
      · rw [if_pos h2]
        go_enter Tryz.func57, Tryz.ntmps57
        go_wp2_with fail
        refine (takeByte_some (bs (k :: l)) _ k l (by rw [bs_size]; unfold maxLen; simp; omega) rfl).mono ?_
        rintro e w' ⟨rfl, n1, rfl⟩
        go_wp2_with fail
        refine (takeMost_of (bs l) 1048576 HT.out _ (by rw [bs_size]; unfold maxLen; omega) (by omega) (by omega)).mono ?_
        rintro e w' ⟨rfl, n2, rfl⟩
        go_wp2_with fail
        go_returns
        exact ⟨rfl, ((below_drewN ((Below.refl _ _).alloc (Nat.le_refl _) _) _).setCell (by simp) _).setCell (by simp) _⟩
      · rw [if_neg h2]
        obtain ⟨d, hd⟩ : ∃ d, d = (r.drop 4).take n := ⟨_, rfl⟩
        rw [← hd]
        have h5 : 4 ≤ r.length := by omega
        obtain ⟨a, b, c, f, r', rfl⟩ : ∃ a b c f r', r = a :: b :: c :: f :: r' := by
          match r, h5 with
          | a :: b :: c :: f :: r', _ => exact ⟨a, b, c, f, r', rfl⟩
        have h4 : n ≤ r'.length := by simp at h2; omega
        have hsz : (bs (a :: b :: c :: f :: r')).size = r'.length + 4 := rfl
        have hr4 : r'.length + 4 ≤ l.length := by simpa using hrl
        have hi0 := index_bs Tryz.underlying9 .i64 (a :: b :: c :: f :: r') 0 0 a rfl rfl
        have hi1 := index_bs Tryz.underlying9 .i64 (a :: b :: c :: f :: r') 1 1 b rfl rfl
        have hi2 := index_bs Tryz.underlying9 .i64 (a :: b :: c :: f :: r') 2 2 c rfl rfl
        have hi3 := index_bs Tryz.underlying9 .i64 (a :: b :: c :: f :: r') 3 3 f rfl rfl
        have HN := Lib.hid (num4_bits a b c f r')
        have hdl : d.length ≤ 1048576 := by rw [hd]; exact Nat.le_trans (List.length_take_le _ _) hn2
        have hx1 : (bs (k :: l)).extract 0 1 = bs [k] := bs_extract _ _ _
        have hx2 : (bs (a :: b :: c :: f :: r')).extract 4 (4 + n) = bs d := by rw [bs_extract, hd, Nat.add_sub_cancel_left]
        have hS : ∀ w, Calls Tryz.prog 21 #[.string ((bs (k :: l)).extract 0 1)] w fun e w' => e = .returned (.int .u32 (sum [k])) ∧ w = w' := fun w => by
          rw [hx1]; exact sum_any (bs [k]) w (by decide : 1 ≤ maxLen)
        have hM : ∀ w, Calls Tryz.prog 50 #[.int .u32 (sum [k]), .string ((bs (a :: b :: c :: f :: r')).extract 4 (4 + n))] w fun e w' => e = .returned (.int .u32 (rsum (k, d))) ∧ w = w' := fun w => by
          rw [hx2]; exact more_of (bs d) (sum [k]) w (by rw [bs_size]; unfold maxLen; omega) (sum_lt _) (more_sum [k] d)
        have HS := Lib.hid hS
        have HM := Lib.hid hM
        have HX := Lib.hid hx2
        clear h2 hd h5 hrl hS hM hx1 hx2
        have step : ∀ (bb : Bool) (v : Value), (((rsum (k, d) : Nat) : Int) != bits .or .u32 (bits .or .u32 (bits .or .u32 ((a.toNat : Int) % 4294967296) ((b.toNat : Int) % 4294967296 * 256 % 4294967296)) ((c.toNat : Int) % 4294967296 * 65536 % 4294967296)) ((f.toNat : Int) % 4294967296 * 16777216 % 4294967296)) = bb →
            Hid ((bb = true → v = nextV (z, [], 4)) ∧ (bb = false → v = nextV ((k, d), (a :: b :: c :: f :: r').drop (4 + n), 0))) → Calls Tryz.prog 57 #[.string (bs (k :: l))] w (RetBelow w v) := by
          intro bb v hbb hv
          go_enter Tryz.func57, Tryz.ntmps57
          go_wp2_with fail
          refine (takeByte_some (bs (k :: l)) _ k l (by rw [bs_size]; unfold maxLen; simp; omega) rfl).mono ?_
          rintro e w' ⟨rfl, n1, rfl⟩
          go_wp2_with fail
          refine (takeMost_of (bs l) 1048576 HT.out _ (by rw [bs_size]; unfold maxLen; omega) (by omega) (by omega)).mono ?_
          rintro e w' ⟨rfl, n2, rfl⟩
          go_wp2_with fail
          go_quiet (fail)
          go_wp2_with fail
          refine (HS.out _).mono ?_
          rintro e w' ⟨rfl, rfl⟩
          go_wp2_with fail
          refine (HM.out _).mono ?_
          rintro e w' ⟨rfl, rfl⟩
          clear hi0 hi1 hi2 hi3
          have hw4 : IntKind.i64.wrap (4 + (n : Int)) = 4 + (n : Int) := IntWalk.i64_in _ ⟨by omega, by omega⟩
          have hp4 : (0 : Int) ≤ 4 + (n : Int) := by omega
          rcases bb with _ | _
          · obtain rfl : v = nextV ((k, d), (a :: b :: c :: f :: r').drop (4 + n), 0) := by simpa using hv.out.2
            clear hv
            go_wp2_with fail
            go_region
            all_goals go_wp2_with fail
            all_goals go_returns
            all_goals
              have HY : (bs (a :: b :: c :: f :: r')).extract (4 + n) (r'.length + 4) = bs ((a :: b :: c :: f :: r').drop (4 + n)) := by
                rw [bs_extract, List.take_of_length_le (by rw [List.length_drop]; simp)]
              exact ⟨by rw [HX.out, HY]; rfl, ((below_drewN ((Below.refl _ _).alloc (Nat.le_refl _) _) _).setCell (by simp) _).setCell (by simp) _⟩
          · obtain rfl : v = nextV (z, [], 4) := by simpa using hv.out.1
            clear hv
            go_wp2_with fail
            go_returns
            exact ⟨rfl, ((below_drewN ((Below.refl _ _).alloc (Nat.le_refl _) _) _).setCell (by simp) _).setCell (by simp) _⟩
        by_cases h3 : rsum (k, d) = num4 (a :: b :: c :: f :: r')
        · rw [if_neg (fun h => h h3)]
          refine step false _ ?_ ⟨fun h => (by cases h), fun _ => rfl⟩
          rw [HN.out, h3]
          simp
        · rw [if_pos h3]
          refine step true _ ?_ ⟨fun _ => rfl, fun h => (by cases h)⟩
          rw [HN.out, bne_iff_ne]
          omega

theorem next_of {l r d : List UInt8} {k : UInt8} {er : Nat} (h : next l = ((k, d), r, er)) (w : World) (hs : l.length ≤ 9223372036854775807) :
    Calls Tryz.prog 57 #[.string (bs l)] w (RetBelow w (.tuple #[.agg #[.int .u8 k.toNat, .string (bs d)], .string (bs r), .int .i64 er])) := by
  have := next_any l w hs
  rw [h] at this
  exact this

def frcs (rs : List Rc) : List Value := rs.flatMap fun r => [.int .u8 r.1.toNat, .string (bs r.2)]
theorem frcs_snoc (rs : List Rc) (k : UInt8) (d : List UInt8) : frcs (rs ++ [(k, d)]) = frcs rs ++ [.int .u8 k.toNat, .string (bs d)] := by simp [frcs]
theorem rec_ty : ElemTy Tryz.prog 30 112 (.agg #[.int .u8 0, .string ByteArray.empty]) 2 24 :=
  ⟨Tryz.underlying30, info_parts (show (Tryz.prog.info? 112).map (fun i => (i.zero, i.size, i.bytes)) = some (some (.agg #[.int .u8 0, .string ByteArray.empty]), 2, 24) by kernel_rfl), rfl⟩

def lenOf : Value → Nat
  | .string s => s.size
  | _ => 0

def RetAll (w : World) (e : TypeId) (rs : List Rc) (n : Int) (en : Ending) (w' : World) : Prop :=
  ∃ v, en = .returned (.tuple #[v, .int .i64 n]) ∧ Buf w' e 2 v rs.length (frcs rs) ∧ Below w.heap.size w w'

set_option maxHeartbeats 1000000 in
set_option maxRecDepth 10000 in
theorem all_any (l : List UInt8) (w : World) (hs : l.length ≤ 1000000000000) :
    Calls Tryz.prog 27 #[.string (bs l)] w (RetAll w 112 (recs l) ((l.length : Int) - ((left l).length : Nat))) := by
  have hll := left_le l
  go_enter Tryz.func27, Tryz.ntmps27
  go_wp2_with fail
  go_loopw [4, 5] (fun v s wr => ∃ (rs : List Rc) (m : List UInt8), s = .string (bs m) ∧ rs.length * 6 + m.length ≤ l.length ∧ App w (.slice none 0 0) 112 2 0 [] wr v rs.length (frcs rs) ∧ Hid (rs ++ recs m = recs l ∧ left m = left l))
    (fun _ s _ => lenOf s)
  case atStart => exact ⟨[], l, rfl, by simp, App.start' (Buf.nil w _ _), rfl, rfl⟩
  case round =>
    obtain ⟨rs, m, rfl, hlen, happ, hr⟩ := hrel
    obtain ⟨k, d, r, er, hn⟩ : ∃ k d r er, next m = ((k, d), r, er) := ⟨_, _, _, _, rfl⟩
    have HN := Lib.hid hn
    by_cases he : er = 0
    · subst he
      have h6 := next_left m (by rw [hn])
      have hg := recs_go (l := m) (by rw [hn])
      rw [hn] at h6 hg
      simp only at h6 hg
      have HG := Lib.hid hg
      clear hg hn
      go_wp2_with fail
      refine (next_of HN.out _ (by omega)).mono ?_
      rintro e w1 ⟨rfl, hb1⟩
      have happ1 := happ.below hb1
      clear happ hb1
      go_wp2_with (at_builtin; refine wpList_append_lit rfl (.tmp 24) (.tmp 26) 30 rfl rec_ty rfl (happ1.alloc _) rfl (by simp) rfl (by simp [Value.oneCell']) (by simp only [maxLen]; omega) (by omega) ?_; intro v2 w2 happ2)
      go_roundw
      case rel => exact ⟨rs ++ [(k, d)], r, rfl, by simp; omega, by rw [frcs_snoc, List.length_append]; exact happ2, by rw [← hr.out.1, HG.out.1]; simp, by rw [← hr.out.2, HG.out.2]⟩
      case measure => simp only [lenOf, bs_size]; omega
    · have hg := recs_stop (l := m) (by rw [hn]; exact he)
      have hb : ((er : Int) != 0) = true := by rw [bne_iff_ne]; omega
      have HG := Lib.hid hg
      clear hg hn he
      go_wp2_with fail
      refine (next_of HN.out _ (by omega)).mono ?_
      rintro e w1 ⟨rfl, hb1⟩
      have happ1 := happ.below hb1
      clear happ hb1
      go_wp2_with fail
      go_ret2
      have e1 : rs = recs l := by rw [← hr.out.1, HG.out.1, List.append_nil]
      have e2 : m = left l := by rw [← hr.out.2, HG.out.2]
      have hbuf := (happ1.alloc (.cells #[.int .u8 k.toNat, .string (bs d)] 112)).buf
      rw [Nat.zero_add, List.nil_append] at hbuf
      subst e1
      exact ⟨_, by rw [← e2]; rfl, hbuf, (happ1.alloc _).below_nil⟩

end Go.Proofs.YtnoebccoaeiakaaGreatDoor

namespace Go.Proofs.YtnoebccoaeiakaaGreatDoor
open Go.RowKit Go.Bar Go.Bar.Leb Go.Bar.Frm Go.Bar.Lab Go.Bar.Xor Go.Bar.Mrg Go.Bar.Hd
attribute [local go_sem] Oper.semAt_some
def RetRs (w : World) (rs : List Rc) (e : Ending) (w' : World) : Prop := ∃ v, e = .returned v ∧ NBuf w w' 112 2 v rs.length (frcs rs)
def FinB2 (w0 : World) (l : List UInt8) (vs : Nat → Value) (w' : World) : Prop := NBuf w0 w' 5 1 (vs 7) l.length (bcs l)
theorem nb_map {w wr w' : World} {e : TypeId} {sz n m : Nat} {v : Value} {xs : List Value} (h : NBuf w wr e sz v n xs) (hm : ∃ es clock, wr.heap[m]? = some (.map es clock)) (hg : wr.grownBy w' (some m)) (hM : w.heap.size ≤ m) : NBuf w w' e sz v n xs := ⟨h.buf.mappedF hm hg, h.below.trans (below_grown hg hM h.below.size), h.new⟩
theorem frcs_add (rs : List Rc) (r : Rc) : frcs (rs ++ [r]) = frcs rs ++ [.int .u8 r.1.toNat, .string (bs r.2)] := frcs_snoc rs r.1 r.2

set_option maxHeartbeats 8000000 in
set_option maxRecDepth 10000 in
theorem hrecords_any (p H : Nat) (c : Cfg) (h : List Row) (g : Hg) (l : List Pv) (v : Value) (w : World) (k : HdAt Tryz.prog hty 3 w p H c h g) (hl : PtAt w v l) (hg : Gd h) (hok : OksM h (l.map plP))
    (hnx : g.nx = h.length + 1) (hb1 : h.length ≤ 100000) (hb3 : l.length ≤ 100000) :
    Calls Tryz.prog 10 #[.pointer (some ⟨p, 0, none⟩), v] w (RetRs w ((its h (l.map plP)).map Go.Bar.Hd.encI)) := by
  obtain ⟨A, cp, rfl, hlc, hcm⟩ := hl.shape
  unfold maxLen at hcm
  obtain ⟨gR, gO, gI, gQ, glv, gsv, gn, gtp, gnx, gG, gZ⟩ := g
  simp only at hnx
  have HL := Lib.hid hl
  have HG := Lib.hid hg
  have HOK := Lib.hid hok
  have HK := Lib.hid k
  have hmm := @run_makeMap Tryz.prog
  have HLEN := Lib.hid (show (l.map plP).length = l.length from List.length_map ..)
  have hd0 := k.hd
  unfold hdC at hd0
  have c6 : w.cell? ⟨p, 6, none⟩ = some (.int .i64 ((h.length : Int) + 1)) := by
    have h1 := hd0.cell (i := 6) rfl
    simp only [hnx] at h1
    rw [show ((h.length : Int) + 1) = ((h.length + 1 : Nat) : Int) by omega]
    exact h1
  have c6b := (show ∀ o, (w.alloc o).cell? ⟨p, 6, none⟩ = some (.int .i64 ((h.length : Int) + 1)) from fun o => ((hd0.alloc o).cell (i := 6) rfl).trans (by simp only [hnx]; rw [show ((h.length : Int) + 1) = ((h.length + 1 : Nat) : Int) by omega]; rfl))
  clear k hl hg hok hnx hd0
  go_enter Tryz.func10, Tryz.ntmps10
  go_wp2_with fail
  have hm0 := Lib.hid (MfAt.made w Tryz.prog 9 kyS elZ 0)
  have hb0 := below_alloc1 w (.map #[] 0)
  obtain ⟨M, hM⟩ : ∃ M, M = w.heap.size := ⟨_, rfl⟩
  obtain ⟨w1, hw1⟩ : ∃ w1, w1 = w.alloc (.map #[] 0) := ⟨_, rfl⟩
  rw [← hw1] at hm0 hb0 ⊢
  rw [← hM] at hm0 ⊢
  have HMW := Lib.hid (show w.heap.size ≤ M by omega)
  have HN0 := Lib.hid (NBuf.nil hb0 112 2)
  clear hw1 hmm hM hb0 c6 c6b
  go_loopw [21, 5, 7] (fun i ov nx wr => ∃ (j n N : Nat) (F : List UInt8 → Option Int) (R : List Rc), i = .int .i64 j ∧ nx = .int .i64 ((N : Int) + 1) ∧ j ≤ l.length ∧ n ≤ j ∧ R.length ≤ 2 * j ∧ N ≤ 100000 + j ∧ Hid (MfAt Tryz.prog 9 kyS elZ 0 wr M n F) ∧ Hid (F = frsF h ((l.map plP).take j)) ∧ Hid (N = (addMs h ((l.map plP).take j)).length) ∧ Hid (R = (its h ((l.map plP).take j)).map Go.Bar.Hd.encI) ∧ Hid (NBuf w wr 112 2 ov R.length (frcs R))) (fun i _ _ _ => l.length - (intOf i).toNat)
  case atStart => exact ⟨0, 0, h.length, _, [], rfl, rfl, Nat.zero_le _, Nat.le_refl _, Nat.le_refl _, by omega, hm0, Lib.hid (frsF_nil h).symm, Lib.hid rfl, Lib.hid rfl, HN0⟩
  case round =>
    clear hm0 HN0
    obtain ⟨j, n, N, F, R, rfl, rfl, hj, hnj, hRj, hN2, HM, HF, HN, HR, HB⟩ := hrel
    obtain ⟨ovA, ovc, rfl, hovc⟩ := HB.out.buf.shape
    by_cases hgo : j < l.length
    · obtain ⟨⟨L, la, lc, s⟩, hpk⟩ : ∃ p, l[j]? = some p := ⟨_, List.getElem?_eq_getElem hgo⟩
      obtain ⟨b, o, rfl, c0, c1, c2, hla⟩ := (HL.out.below HB.out.below).at_ hpk
      dsimp only at c0 c1 c2
      have hpk2 : (l.map plP)[j]? = some (L, s) := by rw [List.getElem?_map, hpk]; rfl
      have hop := oksM_at HOK.out hpk2
      have HGD := Lib.hid (gd_take HG.out HOK.out j)
      have HPK := Lib.hid hpk2
      have HLA := Lib.hid (show PsAt wr (.slice la L.length lc) L from hla)
      have HOL : Hid (Ok L) := Lib.hid hop.lab
      obtain ⟨T, V⟩ := s
      obtain ⟨ht1, ht2, ht3⟩ := hop.tm
      simp only at ht1 ht2 ht3
      dsimp only at c1 c2
      have hci : (0 : Int) ≤ (j : Int) := by omega
      have hci2 : (j : Int) < l.length := by omega
      have hlen := addMs_len_take (l.map plP) h j
      rw [← HN.out] at hlen
      clear hpk hpk2 hla hop
      go_upto_region 7 with fail
      have hba := below_alloc1 wr (.cells #[.slice la L.length lc, .int .i64 T, .int .u64 (V : Nat)] 100)
      have BP := Blk.new wr #[.slice la L.length lc, .int .i64 T, .int .u64 (V : Nat)] 100
      obtain ⟨wa, hwa⟩ : ∃ wa, wa = wr.alloc (.cells #[.slice la L.length lc, .int .i64 T, .int .u64 (V : Nat)] 100) := ⟨_, rfl⟩
      obtain ⟨K, hK⟩ : ∃ K, K = wr.heap.size := ⟨_, rfl⟩
      rw [← hwa] at hba BP ⊢
      rw [← hK] at BP ⊢
      have hkey := Lib.hid (key_any (.slice la L.length lc) L wa (HLA.out.below hba) (by have := HOL.out.2.1; omega) (fun q hq => by have := okL HOL.out hq; omega))
      have hkl : (key L).length ≤ maxLen := Nat.le_trans (key_le HOL.out) (by decide)
      have hkl2 : (key L).length ≤ 1000 := key_le HOL.out
      have HB1 := Lib.hid (HB.out.then_below hba)
      have HM1 := Lib.hid (HM.out.below hba)
      have q0 := BP.cell (i := 0) rfl
      clear hwa hK hba c0 c1 c2 HM HB HLA
      go_upto_region 8 with (go_at_call 36; refine hkey.out.mono ?_; rintro e w2 ⟨rfl, hb2⟩)
      have BP2 := BP.below hb2
      have HB2 := Lib.hid (HB1.out.then_below hb2)
      have HM2 := Lib.hid (HM1.out.below hb2)
      have HK2 := Lib.hid (HK.out.below HB2.out.below)
      have hd2 := HK2.out.hd
      unfold hdC at hd2
      have d3 := hd2.cell (i := 3) rfl
      simp only at d3
      have hbw := HB2.out.below
      have HBW := Lib.hid hbw
      clear hb2 BP q0 hkey HB1 HM1 hbw
      have hrf := HK2.out.rf.look_ok mtyR (key L) hkl
      rw [refF_key HG.out.lb (LbOk.of_ok HOL.out)] at hrf
      have hfl := HM2.out.look_ok mtyR (key L) hkl
      have href := ref_of (ps := (l.map plP).take j) (p := (L, (T, V))) HG.out.lb HGD.out.lb (LbOk.of_ok HOL.out)
      simp only at href
      have hits := its_snoc ((l.map plP).take j) h (L, (T, V))
      have htk : (l.map plP).take (j + 1) = (l.map plP).take j ++ [(L, (T, V))] := by rw [List.take_add_one, HPK.out]; rfl
      have haddl := addM_len (addMs h ((l.map plP).take j)) L (T, V)
      have HITS := Lib.hid hits
      have HTK := Lib.hid htk
      have HAL := Lib.hid haddl
      clear hits htk haddl
      rcases href with ⟨i, hi0, hi1⟩ | ⟨hi0, hk0, hfk⟩
      case' inl =>
        rw [hi0] at hrf
        obtain ⟨Z, hZ⟩ : ∃ Z : Nat, (Z : Int) = (i : Int) + 1 := ⟨i + 1, by omega⟩
        have hrf2 : (Instr.lookup 86 (.map (some gR)) (.string (bs (key L))) true).run Tryz.prog w2 = .ok (.tuple #[.int .i64 (Z : Nat), .bool true]) w2 := by rw [hZ]; exact hrf
        have hil := ixM_lt hi0
        have hZ2 : Z = i + 1 := by omega
        have hZm : Z ≤ 300000 := by omega
        have HR5 : Hid (R ++ [Go.Bar.Hd.encI (.smp Z (T, V))] = (its h ((l.map plP).take (j + 1))).map Go.Bar.Hd.encI) := Lib.hid (by
          rw [HTK.out, HITS.out, List.map_append, ← HR.out]
          unfold itOne
          simp only [hi1]
          rw [hZ2]
          rfl)
        have HF5 : Hid (F = frsF h ((l.map plP).take (j + 1))) := Lib.hid (by rw [HTK.out, frsF_old hi1]; exact HF.out)
        have HN5 : Hid (N = (addMs h ((l.map plP).take (j + 1))).length) := Lib.hid (by
          rw [HTK.out, addMs_snoc, HAL.out, hi1]
          simp only [reduceCtorEq, if_false]
          exact HN.out)
        clear hrf hi0 hi1 hZ hil hZ2 hfl
        go_upto_region 16 with fail
        clear hrf2
        obtain ⟨w5, hw5⟩ : ∃ w5, w5 = w2 := ⟨_, rfl⟩
        rw [← hw5] at HB2 HM2 BP2 ⊢
        clear hw5
        obtain ⟨R', rfl⟩ : ∃ R', R' = R := ⟨_, rfl⟩
        obtain ⟨n', hn'⟩ : ∃ n', n' = n := ⟨_, rfl⟩
        obtain ⟨N', hN'⟩ : ∃ N', N' = N := ⟨_, rfl⟩
        obtain ⟨F', hF'⟩ : ∃ F', F' = F := ⟨_, rfl⟩
        rw [← hn', ← hF'] at HM2
        rw [← hN'] at HN5 ⊢
        rw [← hF'] at HF5
        have hnn : n' ≤ j + 1 := by omega
        have hNN : N' ≤ 100000 + j + 1 := by omega
        have hRR : R'.length ≤ 2 * j + 1 := by omega
        have HB5 := HB2
        have HM5 := HM2
        have BP5 := BP2
        clear hn' hN' hF' HB2 HM2 BP2
      case' inr =>
        rw [hi0] at hrf
        have hrf2 : (Instr.lookup 86 (.map (some gR)) (.string (bs (key L))) true).run Tryz.prog w2 = .ok (.tuple #[.int .i64 0, .bool false]) w2 := hrf
        rw [HF.out, hfk] at hfl
        rcases hi1 : ixM (addMs h ((l.map plP).take j)) L with _ | i
      case' inr.some =>
        rw [hi1] at hfl
        obtain ⟨Z, hZ⟩ : ∃ Z : Nat, (Z : Int) = (i : Int) + 1 := ⟨i + 1, by omega⟩
        have hfl2 : (Instr.lookup 86 (.map (some M)) (.string (bs (key L))) true).run Tryz.prog w2 = .ok (.tuple #[.int .i64 (Z : Nat), .bool true]) w2 := by rw [hZ]; exact hfl
        have hil := ixM_lt hi1
        rw [← HN.out] at hil
        have hZ2 : Z = i + 1 := by omega
        have hZm : Z ≤ 300000 := by omega
        have HR5 : Hid (R ++ [Go.Bar.Hd.encI (.smp Z (T, V))] = (its h ((l.map plP).take (j + 1))).map Go.Bar.Hd.encI) := Lib.hid (by
          rw [HTK.out, HITS.out, List.map_append, ← HR.out]
          unfold itOne
          simp only [hi1]
          rw [hZ2]
          rfl)
        have HF5 : Hid (F = frsF h ((l.map plP).take (j + 1))) := Lib.hid (by rw [HTK.out, frsF_old hi1]; exact HF.out)
        have HN5 : Hid (N = (addMs h ((l.map plP).take (j + 1))).length) := Lib.hid (by
          rw [HTK.out, addMs_snoc, HAL.out, hi1]
          simp only [reduceCtorEq, if_false]
          exact HN.out)
        clear hrf hi0 hi1 hZ hil hZ2 hfl hfk hk0
        go_upto_region 16 with fail
        clear hrf2 hfl2
        obtain ⟨w5, hw5⟩ : ∃ w5, w5 = w2 := ⟨_, rfl⟩
        rw [← hw5] at HB2 HM2 BP2 ⊢
        clear hw5
        obtain ⟨R', rfl⟩ : ∃ R', R' = R := ⟨_, rfl⟩
        obtain ⟨n', hn'⟩ : ∃ n', n' = n := ⟨_, rfl⟩
        obtain ⟨N', hN'⟩ : ∃ N', N' = N := ⟨_, rfl⟩
        obtain ⟨F', hF'⟩ : ∃ F', F' = F := ⟨_, rfl⟩
        rw [← hn', ← hF'] at HM2
        rw [← hN'] at HN5 ⊢
        rw [← hF'] at HF5
        have hnn : n' ≤ j + 1 := by omega
        have hNN : N' ≤ 100000 + j + 1 := by omega
        have hRR : R'.length ≤ 2 * j + 1 := by omega
        have HB5 := HB2
        have HM5 := HM2
        have BP5 := BP2
        clear hn' hN' hF' HB2 HM2 BP2
      case' inr.none =>
        rw [hi1] at hfl
        have hfl2 : (Instr.lookup 86 (.map (some M)) (.string (bs (key L))) true).run Tryz.prog w2 = .ok (.tuple #[.int .i64 0, .bool false]) w2 := hfl
        obtain ⟨Z, hZ⟩ : ∃ Z : Nat, (Z : Int) = (N : Int) + 1 := ⟨N + 1, by omega⟩
        have hZ2 : Z = N + 1 := by omega
        have hZm : Z ≤ 300000 := by omega
        have HR5 : Hid ((R ++ [Go.Bar.Hd.encI (.ser Z L)]) ++ [Go.Bar.Hd.encI (.smp Z (T, V))] = (its h ((l.map plP).take (j + 1))).map Go.Bar.Hd.encI) := Lib.hid (by
          rw [HTK.out, HITS.out, List.map_append, ← HR.out]
          unfold itOne
          simp only [hi1]
          rw [← HN.out, hZ2, List.append_assoc]
          rfl)
        have HF5 : Hid (updF F (key L) (Z : Int) = frsF h ((l.map plP).take (j + 1))) := Lib.hid (by
          rw [HTK.out, HF.out, ← frsF_new HGD.out.lb (LbOk.of_ok HOL.out) hi1 hk0, hZ, HN.out])
        have HN5 : Hid (N + 1 = (addMs h ((l.map plP).take (j + 1))).length) := Lib.hid (by
          rw [HTK.out, addMs_snoc, HAL.out, if_pos hi1, ← HN.out])
        have huz0 := u_len Z (by omega)
        have hcz0 : IntKind.u64.wrap (Z : Int) = (Z : Int) := by rw [IntKind.wrap_u64]; omega
        have hnl : n < maxLen := by unfold maxLen; omega
        have hNZ : IntKind.i64.wrap ((N : Int) + 1 + 1) = ((N + 1 : Nat) : Int) + 1 := by rw [IntKind.wrap_i64]; omega
        rw [← hZ]
        have hZZ : (Z : Int) + 1 = ((N + 1 : Nat) : Int) + 1 := by omega
        have HZZ := Lib.hid hZZ
        clear hrf hi0 hi1 hZ hZ2 hfl hfk hk0 hNZ hZZ
        go_upto_region 15 with (at_mapUpdate; refine wpList_update_mf rfl _ _ _ 86 rfl mtyR rfl HM2.out hnl (key L) rfl hkl (Z : Int) rfl ?_; intro w3 hm3 hg3; have HM3 := Lib.hid hm3; have HB3 := Lib.hid (nb_map HB2.out HM2.out.is_map hg3 HMW.out); have BP3 := BP2.mappedF HM2.out.is_map hg3; clear hm3 hg3)
        clear hrf2 hfl2
        have hu0 := Lib.hid (uint_any (.slice none 0 0) [] Z w3 (by omega) (by simp) (BBuf.nil _ _))
        have hkz : ¬ 9223372036854775807 < (u Z).length + (key L).length := by omega
        go_upto_region 16 with (first
          | (at_builtin; refine wpList_append_nlit rfl (.tmp 53) (.tmp 61) 30 rfl rec_ty rfl HB4.out rfl (by simp) rfl (by simp [Value.oneCell']) (by simp only [maxLen]; omega) (by omega) ?_; intro v5 w5 hn5 ha5; have HN5b := Lib.hid hn5; have HM5 := Lib.hid ((HM4.out.below (below_alloc1 _ _)).ap ha5); have BP5 := (BP4.below (below_alloc1 _ _)).ap (HB4.out.alloc _).buf ha5 (by decide); clear hn5 ha5)
          | (go_at_call 20; refine hu0.out.mono ?_; rintro e w4 ⟨v4, rfl, h4⟩; have hst := h4.buf.string bytes_ty 9 Tryz.underlying9; rw [List.nil_append] at hst; have HB4 := Lib.hid (HB3.out.then_below h4.nil_below); have HM4 := Lib.hid (HM3.out.below h4.nil_below); have BP4 := BP3.below h4.nil_below; clear h4))
        obtain ⟨v5A, v5c, rfl, _⟩ := HN5b.out.buf.shape
        have hl1 : R.length + 1 = (R ++ [Go.Bar.Hd.encI (.ser Z L)]).length := by rw [List.length_append, List.length_singleton]
        have HB5 : Hid (NBuf w w5 112 2 (.slice v5A (R.length + 1) v5c) (R ++ [Go.Bar.Hd.encI (.ser Z L)]).length (frcs (R ++ [Go.Bar.Hd.encI (.ser Z L)]))) := Lib.hid (by
          rw [frcs_add, ← hl1]
          exact HN5b.out)
        rw [hl1] at HB5 ⊢
        rw [HZZ.out]
        have hRR : (R ++ [Go.Bar.Hd.encI (.ser Z L)]).length ≤ 2 * j + 1 := by omega
        obtain ⟨R', hR'⟩ : ∃ R', R' = R ++ [Go.Bar.Hd.encI (.ser Z L)] := ⟨_, rfl⟩
        rw [← hR'] at HB5 HR5 hRR ⊢
        obtain ⟨n', hn'⟩ : ∃ n', n' = n + 1 := ⟨_, rfl⟩
        have hNN : N + 1 ≤ 100000 + j + 1 := by omega
        obtain ⟨N', hN'⟩ : ∃ N', N' = N + 1 := ⟨_, rfl⟩
        obtain ⟨F', hF'⟩ : ∃ F', F' = updF F (key L) (Z : Int) := ⟨_, rfl⟩
        have hnn : n' ≤ j + 1 := by omega
        rw [← hn', ← hF'] at HM5
        rw [← hN'] at HN5 hNN ⊢
        rw [← hF'] at HF5
        clear hn' hN' hF' hR' hl1 HN5b HB2 HM2 BP2 HB3 HM3 BP3 HB4 HM4 BP4 hu0 hkz hcz0 huz0 hst hnl HZZ
      all_goals
        have huz := u_len Z (by omega)
        have hut := u_len T.toNat (by omega)
        have huv := u_len V (by omega)
        have hcz : IntKind.u64.wrap (Z : Int) = (Z : Int) := by rw [IntKind.wrap_u64]; omega
        have hct : IntKind.u64.wrap T = T := by rw [IntKind.wrap_u64]; omega
        have HTN : Hid (T = (T.toNat : Int)) := Lib.hid (by omega)
        have hBk := HB5.out.below.size
        obtain ⟨X, hX⟩ : ∃ X, X = u Z ++ u T.toNat := ⟨_, rfl⟩
        have hXl : X.length ≤ 20 := by rw [hX, List.length_append]; omega
        have HXX := Lib.hid hX
        clear hX
        have hstT : ∀ k v w w', Below w.heap.size w w' → Dv.factOf ([(2, ((fun v => ∃ A c, v = .slice A (u Z).length c), (fun v w' => NBuf w5 w' 5 1 v (u Z).length (bcs (u Z))), 7)), (5, ((fun v => v = (.int .i64 T)), noFact, 5)), (7, ((fun v => ∃ A c, v = .slice A X.length c), noFact, 7))] : List (Nat × Dv.Kp)) k v w → Dv.factOf ([(2, ((fun v => ∃ A c, v = .slice A (u Z).length c), (fun v w' => NBuf w5 w' 5 1 v (u Z).length (bcs (u Z))), 7)), (5, ((fun v => v = (.int .i64 T)), noFact, 5)), (7, ((fun v => ∃ A c, v = .slice A X.length c), noFact, 7))] : List (Nat × Dv.Kp)) k v w' := Dv.fact_st (by
          simp only [List.forall_mem_cons, List.not_mem_nil, false_imp_iff, implies_true, and_true]
          refine ⟨?_, ?_, ?_⟩
          · exact fun _ _ _ hb h => h.then_below hb
          · exact fun _ _ _ _ _ => trivial
          · exact fun _ _ _ _ _ => trivial)
        have htrT : ∀ x ∈ ([(2, ((fun v => ∃ A c, v = .slice A (u Z).length c), (fun v w' => NBuf w5 w' 5 1 v (u Z).length (bcs (u Z))), 7)), (5, ((fun v => v = (.int .i64 T)), noFact, 5)), (7, ((fun v => ∃ A c, v = .slice A X.length c), noFact, 7))] : List (Nat × Dv.Kp)), (([(2, ((fun v => ∃ A c, v = .slice A (u Z).length c), (fun v w' => NBuf w5 w' 5 1 v (u Z).length (bcs (u Z))), 7)), (5, ((fun v => v = (.int .i64 T)), noFact, 5)), (7, ((fun v => ∃ A c, v = .slice A X.length c), noFact, 7))] : List (Nat × Dv.Kp)).lookup x.2.2.2).isSome = true := by
          simp only [List.forall_mem_cons, List.not_mem_nil, false_imp_iff, implies_true, and_true]
          exact ⟨by kernel_rfl, by kernel_rfl, by kernel_rfl⟩
        refine Dv.wp_region_two (L := ([(2, ((fun v => ∃ A c, v = .slice A (u Z).length c), (fun v w' => NBuf w5 w' 5 1 v (u Z).length (bcs (u Z))), 7)), (5, ((fun v => v = (.int .i64 T)), noFact, 5)), (7, ((fun v => ∃ A c, v = .slice A X.length c), noFact, 7))] : List (Nat × Dv.Kp))) (m := 7) (Fin := (FinB2 w5 X)) (by kernel_rfl) 83 (by kernel_rfl) rfl (by kernel_rfl) ?_ ?_ ?_
        · simp only [List.forall_mem_cons, List.not_mem_nil, false_imp_iff, implies_true, and_true]
          exact ⟨⟨_, none, 0, rfl⟩, ⟨_, rfl⟩, ⟨_, none, 0, rfl⟩⟩
        · exact (fun vs vs' w' h hf => by unfold FinB2 at hf ⊢; rw [← h 7 (by kernel_rfl) (by decide)]; exact hf)
        repeat (first
          | (refine Dv.Chain.step (v := ?_) (a' := ?_) rfl rfl rfl ?_ ?_ ?_; rotate_left 2; (focus (intro w; go_simp; try with_reducible rfl)); focus (simp only [Act.put, pqA, pqS, pqZ]; try rfl))
          | (refine Dv.XT.make (i := 2) _ _ _ rfl (by decide) hstT rfl rfl (fun wx hw hF => ?_) htrT (fun v2 hv2 a' ha => ?_); (focus (go_simp); (with_reducible refine (uint_any (.slice none 0 0) [] Z wx (by omega) (by simp) (BBuf.nil _ _)).mono ?_); (rintro e w' ⟨v1, rfl, hq⟩); (have hn := (NBuf.nil hw 5 1).step hq.buf hq.ap hq.grew); (rw [List.nil_append] at hn); (obtain ⟨A2, c2, rfl, _⟩ := hn.buf.shape); (exact ⟨⟨_, _, rfl⟩, hq.nil_below, hn⟩)); obtain ⟨A2, c2, rfl⟩ := hv2; simp only [Act.put, pqA, pqS, pqZ] at ha; subst ha)
          | (refine Dv.XT.call (i := 5) (a' := ?_) _ _ rfl (by decide) hstT rfl rfl (fun wx hw hF => ?_) htrT ?_ ?_; rotate_left 1; (focus ((have y0 := (BP5.below hw).cell (i := 1) rfl; go_simp; first | exact ⟨rfl, rB⟩ | exact rB))); focus (simp only [Act.put, pqA, pqS, pqZ]; try rfl))
          | (refine Dv.XT.last (i := 7) _ _ _ rfl rfl (by kernel_rfl) rfl rfl (fun vs wx hw hF => ?_) (fun v7 hv7 a' ha => ?_); (focus (have f2 : (fun v w' => NBuf w5 w' 5 1 v (u Z).length (bcs (u Z)) : Value → World → Prop) _ wx := (hF 2 _ (by kernel_rfl) rfl).1 (by kernel_rfl)); (have q2 := (hF 2 _ (by kernel_rfl) rfl).2); (have hcall := uint_any _ (u Z) T.toNat wx (by omega) (by omega) f2.buf); (rw [← HTN.out] at hcall); (have HC := Lib.hid hcall); (clear hcall); (go_simp); (with_reducible refine HC.out.mono ?_); (rintro e w' ⟨v1, rfl, hq⟩); (have hn := f2.step hq.buf hq.ap hq.grew); (rw [← HXX.out] at hn); (obtain ⟨A7, c7, rfl, _⟩ := hn.buf.shape); (first | exact ⟨⟨_, _, rfl⟩, hn⟩ | exact ⟨_, rfl, ⟨_, _, rfl⟩, hn⟩)); obtain ⟨A7, c7, rfl⟩ := hv7; simp only [Act.put, pqA, pqS, pqZ] at ha; subst ha)
          | (refine Dv.Chain.skip' (a' := ?_) rfl rfl rfl ?_ ?_; rotate_left 1; focus (simp only [Act.put, pqA, pqS, pqZ]; try rfl)))
        refine Dv.XT.end_ (by decide) (fun vs w7 hv hfin => ?_)
        have hv7 := hv 7 _ rfl
        unfold FinB2 at hfin
        rw [hv7] at hfin
        have HFB := Lib.hid hfin
        have BP7 := BP5.below hfin.below
        have HB5k := Lib.hid HB5.out.below
        have HB7 := Lib.hid (HB5.out.then_below hfin.below)
        have HM7 := Lib.hid (HM5.out.below hfin.below)
        have y2 := BP7.cell (i := 2) rfl
        have hun := uint_any _ X V w7 ht3 (by omega) hfin.buf
        have HUN := Lib.hid hun
        have hRl : R'.length ≤ 200001 := by omega
        clear hfin hv hv7 hun BP5 HB5 HM5
        have HBK := Lib.hid HB7.out.below
        go_wp2_with (first
          | (at_builtin; refine wpList_append_nlit rfl (.tmp 71) (.tmp 79) 30 rfl rec_ty rfl HB8.out rfl (by simp) rfl (by simp [Value.oneCell']) (by simp only [maxLen]; omega) (by omega) ?_; intro v9 w9 hn9 ha9; have HN9 := Lib.hid hn9; have HM9 := Lib.hid ((HM8.out.below (below_alloc1 _ _)).ap ha9); clear hn9 ha9)
          | (go_at_call 20; refine HUN.out.mono ?_; rintro e w8 ⟨v8, rfl, h8⟩; have hst := h8.buf.string bytes_ty 9 Tryz.underlying9; have HB8 := Lib.hid (HB7.out.keep (HFB.out.after HB5k.out) h8.ap (by decide)); have HM8 := Lib.hid (HM7.out.ap h8.ap); clear h8))
        obtain ⟨v9A, v9c, rfl, _⟩ := HN9.out.buf.shape
        go_roundw
        case rel => exact ⟨j + 1, n', N', F', R' ++ [Go.Bar.Hd.encI (.smp Z (T, V))], by go_num, (by first | rfl | trivial), by omega, by omega, by rw [List.length_append, List.length_singleton]; omega, by omega, HM9, HF5, HN5, HR5, Lib.hid (by
          have h1 := HN9.out
          rw [HXX.out] at h1
          rw [frcs_add, List.length_append, List.length_singleton]
          exact h1)⟩
        case measure => simp [intOf]; omega
    · obtain rfl : j = l.length := by omega
      have hf : R = (its h (l.map plP)).map Go.Bar.Hd.encI := by
        have := HR.out
        rwa [List.take_of_length_le (by rw [HLEN.out]; exact Nat.le_refl _)] at this
      have hz := HB.out
      have HZ := Lib.hid hz
      have HF2 := Lib.hid hf
      clear hf hz HB HR
      go_wp2_with fail
      go_ret
      refine ⟨_, rfl, ?_⟩
      have hz := HZ.out
      rw [HF2.out] at hz ⊢
      exact hz
end Go.Proofs.YtnoebccoaeiakaaGreatDoor

namespace Go.Proofs.YtnoebccoaeiakaaGreatDoor
open Go.RowKit Go.Bar Go.Bar.Leb Go.Bar.Lab Go.Bar.Xor Go.Bar.Mrg Go.Bar.Hd
attribute [local go_sem] Oper.semAt_some
def RetLt (w : World) (p H : Nat) (c : Cfg) (h : List Row) (g : Hg) (n : Nat) (L : List Pr) (s : Sm) (e : Ending) (w' : World) : Prop :=
  ∃ g', e = .returned (.tuple #[]) ∧ HdAt Tryz.prog hty 3 w' p H c (addM h L s) g' ∧ HXs g.Z H w w' ∧ g'.Z = g.Z ∧ g'.n = g.n + 1 ∧ g'.nx = max g.nx (n + 1)

set_option maxHeartbeats 4000000 in
set_option maxRecDepth 10000 in
theorem hlater_any (p H : Nat) (c : Cfg) (h : List Row) (g : Hg) (n : Nat) (L : List Pr) (s : Sm) (v : Value) (w : World) (k : HdAt Tryz.prog hty 3 w p H c h g) (hl : Buf w 155 2 v L.length (pcs L)) (hop : OkP h (L, s)) (hg : Gd h)
    (hn : ixM h L = some (n - 1) ∨ ixM h L = none ∧ n = h.length + 1) (hn1 : 1 ≤ n) (hnx : h.length + 1 ≤ g.nx) (hH : H ≤ w.heap.size) (hbl : h.length ≤ 100000) (hb2' : g.n ≤ 1000000) (hb3 : ∀ r ∈ h, r.2.length ≤ 1000000) (hb4 : g.nx ≤ 2000000) :
    Calls Tryz.prog 86 #[.pointer (some ⟨p, 0, none⟩), .int .i64 (n : Nat), .agg #[v, .int .i64 s.1, .int .u64 (s.2 : Nat)]] w (RetLt w p H c h g n L s) := by
  obtain ⟨A, cp, rfl, hlc⟩ := hl.shape
  obtain ⟨T, V⟩ := s
  obtain ⟨gR, gO, gI, gQ, glv, gsv, gn, gtp, gnx, gG, gZ⟩ := g
  simp only at hnx hb2' hb4
  have hok : Ok L := hop.lab
  obtain ⟨hs1, hs2, hs3⟩ : TmOk (T, V) := hop.tm
  simp only at hs1 hs2 hs3
  have hlast : ∀ ss, (L, ss) ∈ h → lastT ss < T := hop.last
  have hkey := Lib.hid (fun wx (hb : Below w.heap.size w wx) => key_any (.slice A L.length cp) L wx ((ps_of hl).below hb) (by have := hok.2.1; omega) (fun q hq => by have := okL hok hq; omega))
  have hkl : (key L).length ≤ maxLen := Nat.le_trans (key_le hok) (by decide)
  have HK := Lib.hid k
  have HL := Lib.hid hl
  have HOK := Lib.hid hok
  have HTM := Lib.hid (show TmOk (T, V) from hop.tm)
  have HG := Lib.hid hg
  have HB3 := Lib.hid hb3
  have HLT := Lib.hid hlast
  have hil := fun i (hi : ixM h L = some i) => ixM_lt hi
  have HIL := Lib.hid hil
  have hnb : n ≤ 200000 := by
    rcases hn with hi | ⟨_, h⟩
    · have := ixM_lt hi; omega
    · omega
  clear k hl hok hg hb3 hop hlast hil
  go_enter Tryz.func86, Tryz.ntmps86
  go_upto_region 2 with (go_at_call 36; refine (hkey.out _ (below_alloc1 _ _)).mono ?_; rintro e w1 ⟨rfl, hb1⟩)
  have hb01 := below_trans (below_alloc1 w (.cells #[.slice A L.length cp, .int .i64 T, .int .u64 (V : Nat)] 100)) hb1
  have BP1 := (Blk.new w #[.slice A L.length cp, .int .i64 T, .int .u64 (V : Nat)] 100).below hb1
  obtain ⟨K, hK⟩ : ∃ K, K = w.heap.size := ⟨_, rfl⟩
  rw [← hK] at BP1 ⊢
  have HK1 := Lib.hid (HK.out.below hb01)
  have HX1 := Lib.hid (HXs.of_below (Z := gZ) hb01 hH)
  have HL1 := Lib.hid (HL.out.below hb01)
  have hH1 := HX1.out.size hH
  clear hb1 hb01 hkey hK HK
  have hd1 := HK1.out.hd
  unfold hdC at hd1
  obtain ⟨c0, c1, c2, c3, c4, c5, c6, c7, c8, c9⟩ := hd1.c10
  obtain ⟨NX, hNX⟩ : ∃ NX : Int, NX = (gnx : Nat) := ⟨_, rfl⟩
  have hNX1 : 0 ≤ NX := by omega
  have hNX2 : NX ≤ 2000000 := by omega
  simp only [← hNX] at c6
  have HNX := Lib.hid hNX
  clear hNX
  have hrf := HK1.out.rf.look_ok mtyR (key L) hkl
  rw [refF_key HG.out.lb (LbOk.of_ok HOK.out)] at hrf
  have hd0 : decide (T < 0) = false := decide_eq_false (by omega)
  have hof := HK1.out.of_.look_ok mtyO (n : Int) ⟨by omega, by omega⟩
  rcases hn with hi | ⟨hi, hnn⟩
  · have hlt := HIL.out _ hi
    rw [hi] at hrf
    have hrf2 : (Instr.lookup 86 (.map (some gR)) (.string (bs (key L))) true).run Tryz.prog w1 = .ok (.tuple #[.int .i64 (n : Nat), .bool true]) w1 := by
      rw [show ((n : Nat) : Int) = ((n - 1 : Nat) : Int) + 1 by omega]
      exact hrf
    obtain ⟨ss, hss⟩ := ixM_some hi
    have hw := HLT.out ss (List.mem_of_getElem? hss)
    obtain ⟨W, hW⟩ : ∃ W, W = lastT ss := ⟨_, rfl⟩
    rw [← hW] at hw
    have hsr := (HK1.out.sr _ _ hss).blk
    simp only [← hW] at hsr
    obtain ⟨Q, hQ⟩ : ∃ Q, Q = gQ (n - 1) := ⟨_, rfl⟩
    have hofe : ofF h.length gQ (n : Int) = some (some Q) := by
      rw [show ((n : Nat) : Int) = ((n - 1 : Nat) : Int) + 1 by omega, ofF_at _ hlt, hQ]
    simp only [← hQ] at hsr
    have HSR := Lib.hid hsr
    have hlk : ∀ wx, Below w1.heap.size w1 wx → (Instr.lookup 87 (.map (some gO)) (.int .i64 (n : Nat)) false).run Tryz.prog wx = .ok (.pointer (some ⟨Q, 0, none⟩)) wx := fun wx hb => by
      have h2 := (HK1.out.of_.below hb).look mtyO (n : Int) ⟨by omega, by omega⟩
      rw [hofe] at h2
      exact h2
    have hlk2 : ∀ wx, Below w1.heap.size w1 wx → (Instr.lookup 87 (.map (some gO)) (.int .i64 (n : Nat)) true).run Tryz.prog wx = .ok (.tuple #[.pointer (some ⟨Q, 0, none⟩), .bool true]) wx := fun wx hb => by
      have h2 := (HK1.out.of_.below hb).look_ok mtyO (n : Int) ⟨by omega, by omega⟩
      rw [hofe] at h2
      exact h2
    have HLK := Lib.hid hlk
    have HLK2 := Lib.hid hlk2
    have HI := Lib.hid hi
    have hd2 : decide (T ≤ W) = false := decide_eq_false (by omega)
    clear hrf hof hW hQ hsr hlk hlk2 hi hss hofe hw
    go_upto_region 3 with fail
    clear hrf2
    refine wp_region_known [(2, .int .i64 T), (6, .int .i64 0), (13, .int .i64 T), (17, .map (some gO)), (19, .pointer (some ⟨Q, 0, none⟩)), (22, .int .i64 W)] (by kernel_rfl) 85 (by kernel_rfl) rfl ?_
    repeat (first
      | (refine Chain.step (v := ?_) (a' := ?_) rfl rfl rfl ?_ ?_ ?_; rotate_left 2; (focus (intro w; go_simp; try with_reducible rfl)); focus (simp only [Act.put, pqA, pqS, pqZ]; try rfl))
      | (refine Chain.call (i := 2) (a' := ?_) _ rfl rfl rfl (fun wx hw => ?_) ?_ ?_; rotate_left 1; (focus ((have y0 := (BP1.below hw).cell (i := 1) rfl; go_simp; first | exact ⟨rfl, rB⟩ | exact rB))); focus (simp only [Act.put, pqA, pqS, pqZ]; try rfl))
      | (refine Chain.call (i := 6) (a' := ?_) _ rfl rfl rfl (fun wx hw => ?_) ?_ ?_; rotate_left 1; (focus ((have y0 := (hd1.below hw).cell (i := 8) rfl; go_simp; first | exact ⟨rfl, rB⟩ | exact rB))); focus (simp only [Act.put, pqA, pqS, pqZ]; try rfl))
      | (refine Chain.call (i := 13) (a' := ?_) _ rfl rfl rfl (fun wx hw => ?_) ?_ ?_; rotate_left 1; (focus ((have y0 := (BP1.below hw).cell (i := 1) rfl; go_simp; first | exact ⟨rfl, rB⟩ | exact rB))); focus (simp only [Act.put, pqA, pqS, pqZ]; try rfl))
      | (refine Chain.call (i := 17) (a' := ?_) _ rfl rfl rfl (fun wx hw => ?_) ?_ ?_; rotate_left 1; (focus ((have y0 := (hd1.below hw).cell (i := 4) rfl; go_simp; first | exact ⟨rfl, rB⟩ | exact rB))); focus (simp only [Act.put, pqA, pqS, pqZ]; try rfl))
      | (refine Chain.call (i := 19) (a' := ?_) _ rfl rfl rfl (fun wx hw => ?_) ?_ ?_; rotate_left 1; (focus ((have y0 := HLK.out wx hw; go_simp; first | exact ⟨rfl, rB⟩ | exact rB))); focus (simp only [Act.put, pqA, pqS, pqZ]; try rfl))
      | (refine Chain.call (i := 22) (a' := ?_) _ rfl rfl rfl (fun wx hw => ?_) ?_ ?_; rotate_left 1; (focus ((have y0 := (HSR.out.below hw).cell (i := 2) rfl; go_simp; first | exact ⟨rfl, rB⟩ | exact rB))); focus (simp only [Act.put, pqA, pqS, pqZ]; try rfl))
      | (refine Chain.skip (a' := ?_) rfl rfl rfl ?_ ?_; rotate_left 1; focus (simp only [Act.put, pqA, pqS, pqZ]; try rfl)))
    refine Chain.end_ (fun w2 hb2 _ => ?_)
    have hd3 := hd1.below hb2
    have BP2 := BP1.below hb2
    have HK2 := Lib.hid (HK1.out.below hb2)
    have HX2 := Lib.hid (HX1.out.trans (HXs.of_below hb2 hH1))
    have HL2 := Lib.hid (HL1.out.below hb2)
    have hH2 := HX2.out.size hH
    have hlk := HLK2.out w2 hb2
    have e4 := hd3.cell (i := 4) rfl
    have e6 := (hd3.cell (i := 6) rfl)
    simp only [← HNX.out] at e6
    obtain ⟨p0, p1, p2⟩ := BP2.c3
    have hadd := Lib.hid (hadd_any p H c h ⟨gR, gO, gI, gQ, glv, gsv, gn, gtp, gnx, gG, gZ⟩ L (T, V) (.slice A L.length cp) w2 HK2.out HL2.out HOK.out HTM.out HG.out.lb (fun hni => by rw [HI.out] at hni; cases hni) hH2 hbl hb2' HB3.out hb4)
    go_upto_region 9 with (go_at_call 41; refine hadd.out.mono ?_; rintro e w3 ⟨r, g', rfl, hk3, hx3, hz3, hn3, hnx3⟩)
    have hnx4 : g'.nx = gnx := by rw [hnx3, HI.out]; simp
    have e6c : w3.cell? ⟨p, 6, none⟩ = some (.int .i64 NX) := by
      have h1 : w3.cell? ⟨p, 6, none⟩ = some (.int .i64 (g'.nx : Nat)) := hk3.hd.cell (i := 6) rfl
      rw [h1, hnx4, HNX.out]
    have f6 := hk3.hd.free 6
    have HK4 : Hid (HdAt Tryz.prog hty 3 (w3.setCell ⟨p, 6, none⟩ (.int .i64 NX)) p H c (addM h L (T, V)) { g' with nx := gnx }) := Lib.hid (by
      have h1 := hk3.next gnx
      rw [← HNX.out] at h1
      exact h1)
    have HX4 : Hid (HXs gZ H w (w3.setCell ⟨p, 6, none⟩ (.int .i64 NX))) := Lib.hid (HX2.out.trans (hx3.trans (HXs.of_set hk3.hd (.inl rfl) hk3.hp 6 _)))
    have HZ3 : Hid (g'.Z = gZ) := Lib.hid hz3
    have HN3 : Hid (g'.n = gn + 1) := Lib.hid hn3
    have hmx : gnx = max gnx (n + 1) := by omega
    have HMX := Lib.hid hmx
    clear hk3 hx3 hz3 hn3 hnx3 hnx4 hadd hlk e4 e6 p0 p1 p2 hd3 BP2 hmx hd1 c0 c1 c2 c3 c4 c5 c6 c7 c8 c9
    go_wp2_with fail
    go_end0
    exact ⟨_, rfl, HK4.out, HX4.out, HZ3.out, HN3.out, HMX.out⟩
  · subst hnn
    rw [hi] at hrf
    have hrf2 : (Instr.lookup 86 (.map (some gR)) (.string (bs (key L))) true).run Tryz.prog w1 = .ok (.tuple #[.int .i64 0, .bool false]) w1 := hrf
    have hlk2 : ∀ wx, Below w1.heap.size w1 wx → (Instr.lookup 87 (.map (some gO)) (.int .i64 ((h.length + 1 : Nat) : Int)) true).run Tryz.prog wx = .ok (.tuple #[.pointer none, .bool false]) wx := fun wx hb => by
      have h2 := (HK1.out.of_.below hb).look_ok mtyO ((h.length + 1 : Nat) : Int) ⟨by omega, by omega⟩
      rw [ofF_out (n := h.length) gQ (z := ((h.length + 1 : Nat) : Int)) (by omega)] at h2
      exact h2
    obtain ⟨N, hN⟩ : ∃ N, N = h.length + 1 := ⟨_, rfl⟩
    rw [← hN] at hlk2 hnx hnb hn1 ⊢
    have HLK2 := Lib.hid hlk2
    have HI := Lib.hid hi
    have HNN := Lib.hid hN
    clear hrf hof hlk2 hi hN
    go_upto_region 3 with fail
    clear hrf2
    refine wp_region_known [(2, .int .i64 T), (6, .int .i64 0)] (by kernel_rfl) 85 (by kernel_rfl) rfl ?_
    repeat (first
      | (refine Chain.step (v := ?_) (a' := ?_) rfl rfl rfl ?_ ?_ ?_; rotate_left 2; (focus (intro w; go_simp; try with_reducible rfl)); focus (simp only [Act.put, pqA, pqS, pqZ]; try rfl))
      | (refine Chain.call (i := 2) (a' := ?_) _ rfl rfl rfl (fun wx hw => ?_) ?_ ?_; rotate_left 1; (focus ((have y0 := (BP1.below hw).cell (i := 1) rfl; go_simp; first | exact ⟨rfl, rB⟩ | exact rB))); focus (simp only [Act.put, pqA, pqS, pqZ]; try rfl))
      | (refine Chain.call (i := 6) (a' := ?_) _ rfl rfl rfl (fun wx hw => ?_) ?_ ?_; rotate_left 1; (focus ((have y0 := (hd1.below hw).cell (i := 8) rfl; go_simp; first | exact ⟨rfl, rB⟩ | exact rB))); focus (simp only [Act.put, pqA, pqS, pqZ]; try rfl))
      | (refine Chain.skip (a' := ?_) rfl rfl rfl ?_ ?_; rotate_left 1; focus (simp only [Act.put, pqA, pqS, pqZ]; try rfl)))
    refine Chain.end_ (fun w2 hb2 _ => ?_)
    have hd3 := hd1.below hb2
    have BP2 := BP1.below hb2
    have HK2 := Lib.hid ((HK1.out.below hb2).next N)
    have HX2 := Lib.hid ((HX1.out.trans (HXs.of_below hb2 hH1)).trans (HXs.of_set (HK1.out.below hb2).hd (.inl rfl) HK1.out.hp 6 (.int .i64 (N : Nat))))
    have HL2 := Lib.hid (HX2.out.kx.buf HL.out nh_pair)
    have hH2 := HX2.out.size hH
    have hlk := HLK2.out w2 hb2
    have e4 := hd3.cell (i := 4) rfl
    have e6 := (hd3.cell (i := 6) rfl)
    have f6 := hd3.free 6
    simp only [← HNX.out] at e6
    have BP3 := BP2.other (blk_types BP2 hd3 (by decide)) 6 (.int .i64 (N : Nat))
    obtain ⟨p0, p1, p2⟩ := BP3.c3
    have hadd := Lib.hid (hadd_any p H c h ⟨gR, gO, gI, gQ, glv, gsv, gn, gtp, N, gG, gZ⟩ L (T, V) (.slice A L.length cp) _ HK2.out HL2.out HOK.out HTM.out HG.out.lb (fun _ => HNN.out) hH2 hbl hb2' HB3.out (by show N ≤ _; omega))
    go_upto_region 9 with (go_at_call 41; refine hadd.out.mono ?_; rintro e w3 ⟨r, g', rfl, hk3, hx3, hz3, hn3, hnx3⟩)
    have hnx4 : g'.nx = N + 1 := by rw [hnx3, HI.out]; simp
    have e6c : w3.cell? ⟨p, 6, none⟩ = some (.int .i64 ((N : Int) + 1)) := by
      have h1 : w3.cell? ⟨p, 6, none⟩ = some (.int .i64 (g'.nx : Nat)) := hk3.hd.cell (i := 6) rfl
      rw [h1, hnx4, show ((N + 1 : Nat) : Int) = (N : Int) + 1 by omega]
    have f6c := hk3.hd.free 6
    have hmx : ∃ MX : Nat, MX = max gnx (N + 1) ∧ (MX : Int) = max ((N : Int) + 1) NX := by
      refine ⟨_, rfl, ?_⟩
      rw [HNX.out]
      omega
    obtain ⟨MX, hm1, hm2⟩ := hmx
    have HK4 : Hid (HdAt Tryz.prog hty 3 (w3.setCell ⟨p, 6, none⟩ (.int .i64 (MX : Nat))) p H c (addM h L (T, V)) { g' with nx := MX }) := Lib.hid (hk3.next MX)
    have HX4 : Hid (HXs gZ H w (w3.setCell ⟨p, 6, none⟩ (.int .i64 (MX : Nat)))) := Lib.hid (HX2.out.trans (hx3.trans (HXs.of_set hk3.hd (.inl rfl) hk3.hp 6 _)))
    have HZ3 : Hid (g'.Z = gZ) := Lib.hid hz3
    have HN3 : Hid (g'.n = gn + 1) := Lib.hid hn3
    have HMX := Lib.hid hm1
    rw [hm2] at HK4 HX4
    clear hk3 hx3 hz3 hn3 hnx3 hnx4 hadd hlk e4 e6 p0 p1 p2 hd3 BP2 BP3 hm1 hm2 hd1 c0 c1 c2 c3 c4 c5 c6 c7 c8 c9
    go_wp2_with fail
    go_end0
    exact ⟨_, rfl, HK4.out, HX4.out, HZ3.out, HN3.out, by have h1 := HMX.out; have h2 := HNN.out; simp only; omega⟩
end Go.Proofs.YtnoebccoaeiakaaGreatDoor
