/-
 Layer 16 (blocks): plain: bounds of what is taken: no program in sight; no condition.
-/
import Derived.Test.YtgabmfibfikdbaaGreatDoorZBokM
import Derived.Test.YtgabmfibfikdbaaGreatDoorZLabT
import Derived.Test.YtgabmfibfikdbaaGreatDoorZLabF
import Derived.Test.YtgabmfibfikdbaaGreatDoorZLib6
import Derived.Test.YtgabmfibfikdbaaGreatDoorZLib11
import Derived.Test.YtgabmfibfikdbaaGreatDoorZLib22
import Derived.Test.YtgabmfibfikdbaaGreatDoorZLib27
import Derived.Test.YtgabmfibfikdbaaGreatDoorZIdtA
import Derived.Test.YtgabmfibfikdbaaGreatDoorZLabB
import Derived.Deep.QuietTactic
import Derived.BigQuiet

namespace Go.Bar.Bok
open Go.RowKit Go.Bar Go.Bar.Leb Go.Bar.Frm Go.Bar.Lab Go.Bar.Xor Go.Bar.Mrg Go.Bar.Met

theorem recs_len : ∀ (n : Nat) (l : List UInt8), l.length <= n -> 6 * (recs l).length <= l.length
 | 0, l, h => by
  have : l = [] := List.eq_nil_of_length_eq_zero (by omega)
  subst this
  rw [(recs_stop next_nil).1]
  simp
 | n + 1, l, h => by
  by_cases he : (Frm.next l).2.2 = 0
  ·have h1 := next_left l he
   rw [(recs_go he).1, List.length_cons]
   have h2 := recs_len n (Frm.next l).2.1 (by omega)
   omega
  ·rw [(recs_stop he).1]
   simp
theorem smpsR_len (s : List UInt8) : (smpsR s).1.length <= 20 * s.length := by
 unfold smpsR
 split
 ·exact Nat.zero_le _
 ·rcases h : tSm (recs s) [] with _ | l
  ·exact Nat.zero_le _
  ·have h1 := tSm_len _ _ _ h
   have h2 := recs_len s.length s (Nat.le_refl _)
   simp only [List.length_nil] at h1
   show l.length <= _
   omega
theorem take_ok {s : List UInt8} (h : (Lab.take s).2.2 = 0) : Lab.Ok (Lab.take s).1 := by
 unfold Lab.take at h ⊢
 rcases h1 : takeMost s 8 with ⟨n, r, e⟩
 rw [h1] at h
 simp only at h ⊢
 split at h
 ·rename_i he; exact absurd h he
 ·rename_i he
  rw [if_neg he]
  rcases h2 : tp n r with ⟨l, r2, e2⟩
  rw [h2] at h
  simp only at h ⊢
  split at h
  ·rename_i he2; exact absurd h he2
  ·rename_i he2
   rw [if_neg he2]
   split at h
   ·rename_i hc
    rw [if_pos hc]
    exact chk_iff.1 hc
   ·cases h
theorem take_le (s : List UInt8) : (Lab.take s).2.1.length <= s.length := by
 unfold Lab.take
 have hp := (takeMost_prop s 8 (by omega)).2.1
 rcases h1 : takeMost s 8 with ⟨n, r, e⟩
 rw [h1] at hp
 simp only at hp ⊢
 split
 ·exact Nat.zero_le _
 ·have ht : ∀ (n : Nat) (r : List UInt8), (tp n r).2.1.length <= r.length := by
   intro n
   induction n with
   | zero => intro r; exact Nat.le_refl _
   | succ n ih =>
    intro r
    rw [tp]
    rcases h3 : takeText r 40 with ⟨a, s1, e1⟩
    have l1 := (takeText_len (by omega) h3).2
    simp only
    split
    ·exact Nat.zero_le _
    ·rcases h4 : takeText s1 40 with ⟨b, s2, e2⟩
     have l2 := (takeText_len (by omega) h4).2
     simp only
     split
     ·exact Nat.zero_le _
     ·have l3 := ih s2
      rcases h5 : tp n s2 with ⟨l, r3, e3⟩
      rw [h5] at l3
      simp only at l3 ⊢
      split
      ·exact Nat.zero_le _
      ·show r3.length <= _
       omega
  have h3 := ht n r
  rcases h2 : tp n r with ⟨l, r2, e2⟩
  rw [h2] at h3
  simp only at h3 ⊢
  split
  ·exact Nat.zero_le _
  ·split
   ·show r2.length <= _
    omega
   ·exact Nat.zero_le _
theorem tN_le : ∀ (ms : List Int) (s : List UInt8), (∀ m ∈ ms, m <= 9223372036854775807) -> (tN ms s).2.1.length <= s.length
 | [], s, _ => Nat.le_refl _
 | m :: ms, s, h => by
  have h1 := (takeMost_prop s m (h m (List.mem_cons_self ..))).2.1
  have h2 := tN_le ms (takeMost s m).2.1 (fun x hx => h x (List.mem_cons_of_mem _ hx))
  rw [tN]
  split
  ·exact Nat.zero_le _
  ·split
   ·exact Nat.zero_le _
   ·show (tN ms (takeMost s m).2.1).2.1.length <= _
    omega
theorem tN_rng : ∀ (ms : List Nat) (s : List UInt8), (tN (ms.map (fun m : Nat => (m : Int))) s).2.2 = 0 -> ∀ i, (tN (ms.map (fun m : Nat => (m : Int))) s).1.getD i 0 <= ms.getD i 0
 | [], s, _, i => by simp [tN]
 | m :: ms, s, h, i => by
  rw [List.map_cons, tN] at h ⊢
  by_cases h1 : (takeMost s (m : Int)).2.2 ≠ 0
  ·rw [if_pos h1] at h; exact absurd h h1
  ·rw [if_neg h1] at h ⊢
   by_cases h2 : (tN (ms.map (fun m : Nat => (m : Int))) (takeMost s (m : Int)).2.1).2.2 ≠ 0
   ·rw [if_pos h2] at h; exact absurd h h2
   ·rw [if_neg h2]
    rcases i with _ | i
    ·exact takeMost_le s m (Decidable.not_not.1 h1)
    ·exact tN_rng ms _ (Decidable.not_not.1 h2) i
theorem tEn_ok {s : List UInt8} (h : (tEn s).2.2 = 0) : EnOk (tEn s).1 := by
 have hr := tN_rng [1048576, 1048576, 1099511627776, 1099511627776] (Lab.take s).2.1
 have e : ([1048576, 1048576, 1099511627776, 1099511627776] : List Nat).map (fun m : Nat => (m : Int)) = mosts := rfl
 rw [e] at hr
 unfold tEn at h ⊢
 by_cases h1 : (Lab.take s).2.2 ≠ 0
 ·rw [if_pos h1] at h; exact absurd h h1
 ·rw [if_neg h1] at h ⊢
  by_cases h2 : (tN mosts (Lab.take s).2.1).2.2 ≠ 0
  ·rw [if_pos h2] at h; exact absurd h h2
  ·rw [if_neg h2] at h ⊢
   have hr := hr (Decidable.not_not.1 h2)
   by_cases h3 : (tN mosts (Lab.take s).2.1).1.getD 1 0 = 0 \/ (tN mosts (Lab.take s).2.1).1.getD 3 0 < (tN mosts (Lab.take s).2.1).1.getD 2 0
   ·rw [if_pos h3] at h; cases h
   ·rw [if_neg h3]
    have r0 := hr 0
    have r1 := hr 1
    have r2 := hr 2
    have r3 := hr 3
    simp only [List.getD_cons_zero, List.getD_cons_succ] at r0 r1 r2 r3
    exact ⟨take_ok (Decidable.not_not.1 h1), ⟨by simp only; omega, by simp only; omega⟩, ⟨by simp only; omega, by simp only; omega⟩, by simp only; omega, by simp only; omega, by simp only; omega⟩
theorem tEn_le (s : List UInt8) : (tEn s).2.1.length <= s.length := by
 have h1 := take_le s
 have h2 := tN_le mosts (Lab.take s).2.1 (by decide)
 unfold tEn
 split
 ·exact Nat.zero_le _
 ·split
  ·exact Nat.zero_le _
  ·split
   ·exact Nat.zero_le _
   ·show (tN mosts (Lab.take s).2.1).2.1.length <= _
    omega
theorem tEns_ok : ∀ (n : Nat) (s : List UInt8) (out : List En), (∀ x ∈ out, EnOk x) -> (∀ x ∈ (tEns n s out).1, EnOk x) /\ (tEns n s out).1.length <= out.length + n
 | 0, s, out, h => ⟨h, Nat.le_refl _⟩
 | n + 1, s, out, h => by
  rw [tEns]
  by_cases h1 : (tEn s).2.2 ≠ 0
  ·rw [if_pos h1]; exact ⟨fun x hx => (by cases hx), Nat.zero_le _⟩
  ·rw [if_neg h1]
   by_cases h2 : early out (tEn s).1
   ·rw [if_pos h2]; exact ⟨fun x hx => (by cases hx), Nat.zero_le _⟩
   ·rw [if_neg h2]
    have ih := tEns_ok n (tEn s).2.1 (out ++ [(tEn s).1]) (fun x hx => by
     rcases List.mem_append.1 hx with hx | hx
     ·exact h x hx
     ·obtain rfl := List.mem_singleton.1 hx
      exact tEn_ok (Decidable.not_not.1 h1))
    refine ⟨ih.1, ?_⟩
    have := ih.2
    rw [List.length_append] at this
    simp only [List.length_singleton] at this
    omega
theorem entriesR_ok (s : List UInt8) : (∀ x ∈ (entriesR s).1, EnOk x) /\ (entriesR s).1.length <= 10000 := by
 unfold entriesR
 split
 ·exact ⟨fun x hx => (by cases hx), Nat.zero_le _⟩
 ·unfold ensD
  by_cases h1 : (takeMost (only s 5).1 10000).2.2 ≠ 0
  ·rw [if_pos h1]; exact ⟨fun x hx => (by cases hx), Nat.zero_le _⟩
  ·rw [if_neg h1]
   have hl : (takeMost (only s 5).1 10000).1 <= 10000 := takeMost_le (only s 5).1 10000 (Decidable.not_not.1 h1)
   split
   ·exact ⟨fun x hx => (by cases hx), Nat.zero_le _⟩
   ·split
    ·exact ⟨fun x hx => (by cases hx), Nat.zero_le _⟩
    ·have ht := tEns_ok (takeMost (only s 5).1 10000).1 (takeMost (only s 5).1 10000).2.1 [] (fun x hx => by cases hx)
     refine ⟨ht.1, ?_⟩
     have h3 := ht.2
     simp only [List.length_nil] at h3
     show (tEns _ _ _).1.length <= _
     omega
end Go.Bar.Bok

set_option maxHeartbeats 32000000
set_option maxRecDepth 10000
namespace Go.Proofs.YtgabmfibfikdbaaGreatDoor
open Go.RowKit Go.Bar Go.Bar.Leb Go.Bar.Lab Go.Bar.Xor Go.Bar.Mrg Go.Bar.Met Go.Bar.Bok

def RetE (Tp : TypeId) (w : World) (R : En × List UInt8 × Nat) (e : Ending) (w' : World) : Prop :=
  ∃ x : Ev, e = .returned (.tuple #[.agg #[.slice x.la x.ls.length x.lc, .int .i64 x.fr, .int .i64 x.n, .int .i64 x.mn, .int .i64 x.mx], .string (bs R.2.1), .int .i64 (R.2.2 : Nat)]) /\ plE x = R.1 /\ NBuf w w' Tp 2 (.slice x.la x.ls.length x.lc) x.ls.length (pcs x.ls)
def Ev.z : Ev := ⟨[], none, 0, 0, 0, 0, 0⟩
theorem RetE.no {Tp : TypeId} {w w' : World} {e : Nat} (h : Below w.heap.size w w') : RetE Tp w (En.z, [], e) (.returned (.tuple #[.agg #[.slice none 0 0, .int .i64 0, .int .i64 0, .int .i64 0, .int .i64 0], .string (bs []), .int .i64 (e : Nat)])) w' := ⟨Ev.z, rfl, rfl, NBuf.nil h _ _⟩
theorem most4_0 (w : World) : (Instr.index 23 (.agg #[.int .i64 1048576, .int .i64 1048576, .int .i64 1099511627776, .int .i64 1099511627776]) (.int .i64 0)).run Tryz.prog w = .ok (.int .i64 1048576) w := by kernel_rfl
theorem most4_1 (w : World) : (Instr.index 23 (.agg #[.int .i64 1048576, .int .i64 1048576, .int .i64 1099511627776, .int .i64 1099511627776]) (.int .i64 1)).run Tryz.prog w = .ok (.int .i64 1048576) w := by kernel_rfl
theorem most4_2 (w : World) : (Instr.index 23 (.agg #[.int .i64 1048576, .int .i64 1048576, .int .i64 1099511627776, .int .i64 1099511627776]) (.int .i64 2)).run Tryz.prog w = .ok (.int .i64 1099511627776) w := by kernel_rfl
theorem most4_3 (w : World) : (Instr.index 23 (.agg #[.int .i64 1048576, .int .i64 1048576, .int .i64 1099511627776, .int .i64 1099511627776]) (.int .i64 3)).run Tryz.prog w = .ok (.int .i64 1099511627776) w := by kernel_rfl

abbrev nums (ns : List Nat) : Array Value := #[.int .i64 (ns.getD 0 0 : Nat), .int .i64 (ns.getD 1 0 : Nat), .int .i64 (ns.getD 2 0 : Nat), .int .i64 (ns.getD 3 0 : Nat)]
theorem nums_set {w : World} {B : Nat} {ns : List Nat} {k q : Nat} (h : Blk w B 23 ((nums ns).setIfInBounds k (.int .i64 (q : Nat)))) (hk : ns.length = k) : Blk w B 23 (nums (ns ++ [q])) := by
  have e : (nums ns).setIfInBounds k (.int .i64 (q : Nat)) = nums (ns ++ [q]) \/ 4 <= k := by
    match ns, hk with
    | [], hk => subst hk; exact .inl rfl
    | [a], hk => subst hk; exact .inl rfl
    | [a, b], hk => subst hk; exact .inl rfl
    | [a, b, c], hk => subst hk; exact .inl rfl
    | a :: b :: c :: d :: r, hk => exact .inr (by simp at hk; omega)
  rcases e with e | e
  · rw [e] at h; exact h
  · have e1 : (nums ns).setIfInBounds k (.int .i64 (q : Nat)) = nums ns := by
      rw [Array.setIfInBounds_eq_of_size_le]
      exact e
    rw [e1] at h
    have e2 : nums ns = nums (ns ++ [q]) := by
      have g : ∀ i, i < 4 -> ns.getD i 0 = (ns ++ [q]).getD i 0 := fun i hi => by
        rw [List.getD_eq_getElem?_getD, List.getD_eq_getElem?_getD, List.getElem?_append_left (by omega)]
      unfold nums
      rw [g 0 (by omega), g 1 (by omega), g 2 (by omega), g 3 (by omega)]
    rw [<- e2]; exact h

theorem ktake_any (s : List UInt8) (w : World) (hs : s.length <= 1000000000000) :
    Calls Tryz.prog 37 #[.string (bs s)] w (RetE 128 w (tEn s)) := by
  have htk := fun w => take_any s w hs
  have hsl := take_le s
  obtain ⟨R, hR⟩ : ∃ R, R = tEn s := ⟨_, rfl⟩
  rw [<- hR]
  have HR := Lib.hid hR
  have HTK := Lib.hid htk
  clear htk hR
  go_enter Tryz.func37, Tryz.ntmps37
  go_wp2_with fail
  have X1 := Blk.new w #[.slice none 0 0, .int .i64 0, .int .i64 0, .int .i64 0, .int .i64 0] 45
  have Y1 := Blk.new (w.alloc (.cells #[.slice none 0 0, .int .i64 0, .int .i64 0, .int .i64 0, .int .i64 0] 45)) #[.slice none 0 0, .int .i64 0, .int .i64 0, .int .i64 0, .int .i64 0] 45
  have b1 := below_trans (below_al w (.cells #[.slice none 0 0, .int .i64 0, .int .i64 0, .int .i64 0, .int .i64 0] 45)) (below_al _ (.cells #[.slice none 0 0, .int .i64 0, .int .i64 0, .int .i64 0, .int .i64 0] 45))
  have X1 := X1.alloc (.cells #[.slice none 0 0, .int .i64 0, .int .i64 0, .int .i64 0, .int .i64 0] 45)
  rw [show (w.alloc (.cells #[.slice none 0 0, .int .i64 0, .int .i64 0, .int .i64 0, .int .i64 0] 45)).heap.size = w.heap.size + 1 by simp] at Y1
  refine (HTK.out _).mono ?_
  rintro e w1 ⟨v, l, r, c, htk, rfl, hnb⟩
  have X2 := X1.below hnb.below
  have Y2 := Y1.below hnb.below
  have hb2 := below_trans b1 hnb.below
  have hn2 := hnb.after b1
  obtain ⟨X, hX⟩ : ∃ X, X = w.heap.size := ⟨_, rfl⟩
  rw [<- hX] at X2 Y2 ⊢
  have hXw : w.heap.size <= X := by omega
  have hYw : w.heap.size <= X + 1 := by omega
  rw [htk] at hsl
  dsimp only at hsl
  clear X1 Y1 b1 hnb HTK hX
  obtain ⟨vA, vc, rfl, hvc⟩ := hn2.buf.shape
  by_cases hc : c = 0
  · subst hc
    obtain ⟨y0, y1, y2, y3, y4⟩ := Y2.c5
    have yf := Y2.free 0
    go_upto_region 7 with fail
    have LS := hn2.set_ne Y2 (by decide) hYw 0 (.slice vA l.length vc)
    have XS := X2.other (show X ≠ X + 1 by omega) 0 (.slice vA l.length vc)
    have YS := Y2.set 0 (.slice vA l.length vc)
    obtain ⟨ws, hws⟩ : ∃ ws, ws = w1.setCell ⟨X + 1, 0, none⟩ (.slice vA l.length vc) := ⟨_, rfl⟩
    rw [<- hws] at LS XS YS ⊢
    have HL3 := Lib.hid (LS.alloc (.cells #[.int .i64 0, .int .i64 0, .int .i64 0, .int .i64 0] 23))
    have HX3 := Lib.hid (XS.alloc (.cells #[.int .i64 0, .int .i64 0, .int .i64 0, .int .i64 0] 23))
    have HY3 := Lib.hid (YS.alloc (.cells #[.int .i64 0, .int .i64 0, .int .i64 0, .int .i64 0] 23))
    have HN3 := Lib.hid (Blk.new ws #[.int .i64 0, .int .i64 0, .int .i64 0, .int .i64 0] 23)
    have hsz : ws.heap.size = w1.heap.size := by rw [hws]; simp
    obtain ⟨NB, hNB⟩ : ∃ NB, NB = w1.heap.size := ⟨_, rfl⟩
    have hNX : X + 1 < NB := by rw [hNB, <- hsz]; exact YS.lt
    have hNBw : w.heap.size <= NB := by omega
    obtain ⟨w3, hw3⟩ : ∃ w3, w3 = ws.alloc (.cells #[.int .i64 0, .int .i64 0, .int .i64 0, .int .i64 0] 23) := ⟨_, rfl⟩
    rw [<- hw3] at HL3 HX3 HY3 HN3 ⊢
    rw [hsz, <- hNB] at HN3
    rw [<- hNB]
    have hbad : ∀ e2 : Nat, 0 < e2 -> tN mosts r = ([], [], e2) -> R = (En.z, [], e2) := fun e2 he hg => by
      rw [HR.out]
      unfold tEn
      rw [htk]
      simp only
      rw [if_neg (by omega), hg]
      simp only
      rw [if_pos (by omega)]
    have HBAD := Lib.hid hbad
    have hgood : ∀ (ns : List Nat) (r' : List UInt8), tN mosts r = (ns, r', 0) -> R = if ns.getD 1 0 = 0 \/ ns.getD 3 0 < ns.getD 2 0 then (En.z, [], 3) else (⟨l, ns.getD 0 0, ns.getD 1 0, ns.getD 2 0, ns.getD 3 0⟩, r', 0) := fun ns r' hg => by
      rw [HR.out]
      unfold tEn
      rw [htk]
      simp only
      rw [if_neg (by omega), hg]
      simp
    have HGOOD := Lib.hid hgood
    clear htk hbad hgood X2 Y2 hn2 hb2 LS XS YS hws hw3 hNB hsz y0 y1 y2 y3 y4 yf
    go_upto_region 8 with fail
    go_loopw [24, 0, 7] (fun i sv ev wr => ∃ (k : Nat) (ns : List Nat) (r' : List UInt8), i = .int .i64 k /\ k <= 4 /\ ns.length = k /\ sv = .string (bs r') /\ ev = .int .i64 0 /\ r'.length <= r.length /\ Hid (Blk wr X 45 #[.slice none 0 0, .int .i64 0, .int .i64 0, .int .i64 0, .int .i64 0]) /\
      Hid (Blk wr (X + 1) 45 #[.slice vA l.length vc, .int .i64 0, .int .i64 0, .int .i64 0, .int .i64 0]) /\ Hid (Blk wr NB 23 (nums ns)) /\ Hid (NBuf w wr 128 2 (.slice vA l.length vc) l.length (pcs l)) /\ Hid (tN mosts r = glue ns (tN (mosts.drop k) r'))) (fun i _ _ _ => 4 - (intOf i).toNat)
    case atStart => exact ⟨0, [], r, rfl, by omega, rfl, rfl, rfl, Nat.le_refl _, HX3, HY3, HN3, HL3, Lib.hid (by rw [List.drop_zero, glue_nil])⟩
    case round =>
      obtain ⟨k, ns, r', rfl, hk, hns, rfl, rfl, hrl, HX4, HY4, HN4, HL4, HG⟩ := hrel
      clear HX3 HY3 HN3 HL3
      rcases (show k = 0 \/ k = 1 \/ k = 2 \/ k = 3 \/ k = 4 by omega) with rfl | rfl | rfl | rfl | rfl
      -- ROUNDS
      · have hmk := most4_0
        obtain ⟨q, r2, e2, htm⟩ : ∃ q r2 e2, takeMost r' 1048576 = (q, r2, e2) := ⟨_, _, _, rfl⟩
        have hpr := (takeMost_prop r' 1048576 (by omega)).2.1
        rw [htm] at hpr
        have htc := fun w => takeMost_of (bs r') 1048576 htm w (by rw [bs_size]; unfold maxLen; omega) (by omega) (by omega)
        have HTC := Lib.hid htc
        have hgl := HG.out
        rw [show mosts.drop 0 = 1048576 :: [1048576, 1099511627776, 1099511627776] from rfl] at hgl
        have HGL := Lib.hid hgl
        have HTM := Lib.hid htm
        dsimp only at hpr
        clear htc hgl htm HG
        go_upto_region 11 with fail
        refine (HTC.out _).mono ?_
        rintro e w5 ⟨rfl, q5, rfl⟩
        have X5 := HX4.out.drewN q5
        have Y5 := HY4.out.drewN q5
        have N5 := HN4.out.drewN q5
        have L5 := HL4.out.drewN q5
        obtain ⟨n0, n1, n2, n3⟩ := N5.c4
        have nf := N5.free 0
        clear HX4 HY4 HN4 HL4 HTC
        rcases Nat.eq_zero_or_pos e2 with he | he
        · subst he
          have X6 := Lib.hid (X5.other (show X ≠ NB by omega) 0 (.int .i64 (q : Nat)))
          have Y6 := Lib.hid (Y5.other (show X + 1 ≠ NB by omega) 0 (.int .i64 (q : Nat)))
          have N6 := Lib.hid (N5.set 0 (.int .i64 (q : Nat)))
          have L6 := Lib.hid (L5.set_ne N5 (by decide) hNBw 0 (.int .i64 (q : Nat)))
          have hgs := glue_step (l := ns) (m := 1048576) (ms := [1048576, 1099511627776, 1099511627776]) (s := r') (by rw [HTM.out])
          rw [HTM.out, <- HGL.out] at hgs
          have HGS := Lib.hid hgs
          clear hgs X5 Y5 N5 L5 HGL HTM
          go_wp2_with fail
          go_roundw
          case rel => exact ⟨0 + 1, ns ++ [q], r2, by go_num, by omega, by rw [List.length_append, hns]; rfl, rfl, rfl, by omega, X6, Y6, Lib.hid (nums_set N6.out hns), L6, HGS⟩
          case measure => simp [intOf]
        · have hcz : ((e2 : Int) == 0) = false := by rw [beq_eq_false_iff_ne]; omega
          have hgb := glue_bad (l := ns) (m := 1048576) (ms := [1048576, 1099511627776, 1099511627776]) (s := r') (by rw [HTM.out]; exact Nat.ne_of_gt he)
          rw [HTM.out, <- HGL.out] at hgb
          have HRES := Lib.hid (HBAD.out e2 he hgb)
          obtain ⟨x0, x1, x2, x3, x4⟩ := (X5.other (show X ≠ NB by omega) 0 (.int .i64 (q : Nat))).c5
          have XF := X5.other (show X ≠ NB by omega) 0 (.int .i64 (q : Nat))
          have z0 := XF.free 0
          have z1 := XF.free 1
          have z2 := XF.free 2
          have z3 := XF.free 3
          have z4 := XF.free 4
          have HB := Lib.hid ((((((L5.below.setCell (p := ⟨NB, 0, none⟩) hNBw (.int .i64 (q : Nat))).setCell hXw (.slice none 0 0) (p := ⟨X, 0, none⟩)).setCell hXw (.int .i64 0) (p := ⟨X, 1, none⟩)).setCell hXw (.int .i64 0) (p := ⟨X, 2, none⟩)).setCell hXw (.int .i64 0) (p := ⟨X, 3, none⟩)).setCell hXw (.int .i64 0) (p := ⟨X, 4, none⟩))
          clear hgb X5 Y5 N5 L5 HGL HTM XF
          go_wp2_with fail
          refine bodyPost_ret (v := .tuple #[.agg #[.slice none 0 0, .int .i64 0, .int .i64 0, .int .i64 0, .int .i64 0], .string (bs []), .int .i64 (e2 : Nat)]) (by simp [results, Tryz.results37, go_sem, x0, x1, x2, x3, x4]; rfl) rfl ?_
          rw [HRES.out]
          exact RetE.no HB.out
      · have hmk := most4_1
        obtain ⟨q, r2, e2, htm⟩ : ∃ q r2 e2, takeMost r' 1048576 = (q, r2, e2) := ⟨_, _, _, rfl⟩
        have hpr := (takeMost_prop r' 1048576 (by omega)).2.1
        rw [htm] at hpr
        have htc := fun w => takeMost_of (bs r') 1048576 htm w (by rw [bs_size]; unfold maxLen; omega) (by omega) (by omega)
        have HTC := Lib.hid htc
        have hgl := HG.out
        rw [show mosts.drop 1 = 1048576 :: [1099511627776, 1099511627776] from rfl] at hgl
        have HGL := Lib.hid hgl
        have HTM := Lib.hid htm
        dsimp only at hpr
        clear htc hgl htm HG
        go_upto_region 11 with fail
        refine (HTC.out _).mono ?_
        rintro e w5 ⟨rfl, q5, rfl⟩
        have X5 := HX4.out.drewN q5
        have Y5 := HY4.out.drewN q5
        have N5 := HN4.out.drewN q5
        have L5 := HL4.out.drewN q5
        obtain ⟨n0, n1, n2, n3⟩ := N5.c4
        have nf := N5.free 1
        clear HX4 HY4 HN4 HL4 HTC
        rcases Nat.eq_zero_or_pos e2 with he | he
        · subst he
          have X6 := Lib.hid (X5.other (show X ≠ NB by omega) 1 (.int .i64 (q : Nat)))
          have Y6 := Lib.hid (Y5.other (show X + 1 ≠ NB by omega) 1 (.int .i64 (q : Nat)))
          have N6 := Lib.hid (N5.set 1 (.int .i64 (q : Nat)))
          have L6 := Lib.hid (L5.set_ne N5 (by decide) hNBw 1 (.int .i64 (q : Nat)))
          have hgs := glue_step (l := ns) (m := 1048576) (ms := [1099511627776, 1099511627776]) (s := r') (by rw [HTM.out])
          rw [HTM.out, <- HGL.out] at hgs
          have HGS := Lib.hid hgs
          clear hgs X5 Y5 N5 L5 HGL HTM
          go_wp2_with fail
          go_roundw
          case rel => exact ⟨1 + 1, ns ++ [q], r2, by go_num, by omega, by rw [List.length_append, hns]; rfl, rfl, rfl, by omega, X6, Y6, Lib.hid (nums_set N6.out hns), L6, HGS⟩
          case measure => simp [intOf]
        · have hcz : ((e2 : Int) == 0) = false := by rw [beq_eq_false_iff_ne]; omega
          have hgb := glue_bad (l := ns) (m := 1048576) (ms := [1099511627776, 1099511627776]) (s := r') (by rw [HTM.out]; exact Nat.ne_of_gt he)
          rw [HTM.out, <- HGL.out] at hgb
          have HRES := Lib.hid (HBAD.out e2 he hgb)
          obtain ⟨x0, x1, x2, x3, x4⟩ := (X5.other (show X ≠ NB by omega) 1 (.int .i64 (q : Nat))).c5
          have XF := X5.other (show X ≠ NB by omega) 1 (.int .i64 (q : Nat))
          have z0 := XF.free 0
          have z1 := XF.free 1
          have z2 := XF.free 2
          have z3 := XF.free 3
          have z4 := XF.free 4
          have HB := Lib.hid ((((((L5.below.setCell (p := ⟨NB, 1, none⟩) hNBw (.int .i64 (q : Nat))).setCell hXw (.slice none 0 0) (p := ⟨X, 0, none⟩)).setCell hXw (.int .i64 0) (p := ⟨X, 1, none⟩)).setCell hXw (.int .i64 0) (p := ⟨X, 2, none⟩)).setCell hXw (.int .i64 0) (p := ⟨X, 3, none⟩)).setCell hXw (.int .i64 0) (p := ⟨X, 4, none⟩))
          clear hgb X5 Y5 N5 L5 HGL HTM XF
          go_wp2_with fail
          refine bodyPost_ret (v := .tuple #[.agg #[.slice none 0 0, .int .i64 0, .int .i64 0, .int .i64 0, .int .i64 0], .string (bs []), .int .i64 (e2 : Nat)]) (by simp [results, Tryz.results37, go_sem, x0, x1, x2, x3, x4]; rfl) rfl ?_
          rw [HRES.out]
          exact RetE.no HB.out
      · have hmk := most4_2
        obtain ⟨q, r2, e2, htm⟩ : ∃ q r2 e2, takeMost r' 1099511627776 = (q, r2, e2) := ⟨_, _, _, rfl⟩
        have hpr := (takeMost_prop r' 1099511627776 (by omega)).2.1
        rw [htm] at hpr
        have htc := fun w => takeMost_of (bs r') 1099511627776 htm w (by rw [bs_size]; unfold maxLen; omega) (by omega) (by omega)
        have HTC := Lib.hid htc
        have hgl := HG.out
        rw [show mosts.drop 2 = 1099511627776 :: [1099511627776] from rfl] at hgl
        have HGL := Lib.hid hgl
        have HTM := Lib.hid htm
        dsimp only at hpr
        clear htc hgl htm HG
        go_upto_region 11 with fail
        refine (HTC.out _).mono ?_
        rintro e w5 ⟨rfl, q5, rfl⟩
        have X5 := HX4.out.drewN q5
        have Y5 := HY4.out.drewN q5
        have N5 := HN4.out.drewN q5
        have L5 := HL4.out.drewN q5
        obtain ⟨n0, n1, n2, n3⟩ := N5.c4
        have nf := N5.free 2
        clear HX4 HY4 HN4 HL4 HTC
        rcases Nat.eq_zero_or_pos e2 with he | he
        · subst he
          have X6 := Lib.hid (X5.other (show X ≠ NB by omega) 2 (.int .i64 (q : Nat)))
          have Y6 := Lib.hid (Y5.other (show X + 1 ≠ NB by omega) 2 (.int .i64 (q : Nat)))
          have N6 := Lib.hid (N5.set 2 (.int .i64 (q : Nat)))
          have L6 := Lib.hid (L5.set_ne N5 (by decide) hNBw 2 (.int .i64 (q : Nat)))
          have hgs := glue_step (l := ns) (m := 1099511627776) (ms := [1099511627776]) (s := r') (by rw [HTM.out])
          rw [HTM.out, <- HGL.out] at hgs
          have HGS := Lib.hid hgs
          clear hgs X5 Y5 N5 L5 HGL HTM
          go_wp2_with fail
          go_roundw
          case rel => exact ⟨2 + 1, ns ++ [q], r2, by go_num, by omega, by rw [List.length_append, hns]; rfl, rfl, rfl, by omega, X6, Y6, Lib.hid (nums_set N6.out hns), L6, HGS⟩
          case measure => simp [intOf]
        · have hcz : ((e2 : Int) == 0) = false := by rw [beq_eq_false_iff_ne]; omega
          have hgb := glue_bad (l := ns) (m := 1099511627776) (ms := [1099511627776]) (s := r') (by rw [HTM.out]; exact Nat.ne_of_gt he)
          rw [HTM.out, <- HGL.out] at hgb
          have HRES := Lib.hid (HBAD.out e2 he hgb)
          obtain ⟨x0, x1, x2, x3, x4⟩ := (X5.other (show X ≠ NB by omega) 2 (.int .i64 (q : Nat))).c5
          have XF := X5.other (show X ≠ NB by omega) 2 (.int .i64 (q : Nat))
          have z0 := XF.free 0
          have z1 := XF.free 1
          have z2 := XF.free 2
          have z3 := XF.free 3
          have z4 := XF.free 4
          have HB := Lib.hid ((((((L5.below.setCell (p := ⟨NB, 2, none⟩) hNBw (.int .i64 (q : Nat))).setCell hXw (.slice none 0 0) (p := ⟨X, 0, none⟩)).setCell hXw (.int .i64 0) (p := ⟨X, 1, none⟩)).setCell hXw (.int .i64 0) (p := ⟨X, 2, none⟩)).setCell hXw (.int .i64 0) (p := ⟨X, 3, none⟩)).setCell hXw (.int .i64 0) (p := ⟨X, 4, none⟩))
          clear hgb X5 Y5 N5 L5 HGL HTM XF
          go_wp2_with fail
          refine bodyPost_ret (v := .tuple #[.agg #[.slice none 0 0, .int .i64 0, .int .i64 0, .int .i64 0, .int .i64 0], .string (bs []), .int .i64 (e2 : Nat)]) (by simp [results, Tryz.results37, go_sem, x0, x1, x2, x3, x4]; rfl) rfl ?_
          rw [HRES.out]
          exact RetE.no HB.out
      · have hmk := most4_3
        obtain ⟨q, r2, e2, htm⟩ : ∃ q r2 e2, takeMost r' 1099511627776 = (q, r2, e2) := ⟨_, _, _, rfl⟩
        have hpr := (takeMost_prop r' 1099511627776 (by omega)).2.1
        rw [htm] at hpr
        have htc := fun w => takeMost_of (bs r') 1099511627776 htm w (by rw [bs_size]; unfold maxLen; omega) (by omega) (by omega)
        have HTC := Lib.hid htc
        have hgl := HG.out
        rw [show mosts.drop 3 = 1099511627776 :: [] from rfl] at hgl
        have HGL := Lib.hid hgl
        have HTM := Lib.hid htm
        dsimp only at hpr
        clear htc hgl htm HG
        go_upto_region 11 with fail
        refine (HTC.out _).mono ?_
        rintro e w5 ⟨rfl, q5, rfl⟩
        have X5 := HX4.out.drewN q5
        have Y5 := HY4.out.drewN q5
        have N5 := HN4.out.drewN q5
        have L5 := HL4.out.drewN q5
        obtain ⟨n0, n1, n2, n3⟩ := N5.c4
        have nf := N5.free 3
        clear HX4 HY4 HN4 HL4 HTC
        rcases Nat.eq_zero_or_pos e2 with he | he
        · subst he
          have X6 := Lib.hid (X5.other (show X ≠ NB by omega) 3 (.int .i64 (q : Nat)))
          have Y6 := Lib.hid (Y5.other (show X + 1 ≠ NB by omega) 3 (.int .i64 (q : Nat)))
          have N6 := Lib.hid (N5.set 3 (.int .i64 (q : Nat)))
          have L6 := Lib.hid (L5.set_ne N5 (by decide) hNBw 3 (.int .i64 (q : Nat)))
          have hgs := glue_step (l := ns) (m := 1099511627776) (ms := []) (s := r') (by rw [HTM.out])
          rw [HTM.out, <- HGL.out] at hgs
          have HGS := Lib.hid hgs
          clear hgs X5 Y5 N5 L5 HGL HTM
          go_wp2_with fail
          go_roundw
          case rel => exact ⟨3 + 1, ns ++ [q], r2, by go_num, by omega, by rw [List.length_append, hns]; rfl, rfl, rfl, by omega, X6, Y6, Lib.hid (nums_set N6.out hns), L6, HGS⟩
          case measure => simp [intOf]
        · have hcz : ((e2 : Int) == 0) = false := by rw [beq_eq_false_iff_ne]; omega
          have hgb := glue_bad (l := ns) (m := 1099511627776) (ms := []) (s := r') (by rw [HTM.out]; exact Nat.ne_of_gt he)
          rw [HTM.out, <- HGL.out] at hgb
          have HRES := Lib.hid (HBAD.out e2 he hgb)
          obtain ⟨x0, x1, x2, x3, x4⟩ := (X5.other (show X ≠ NB by omega) 3 (.int .i64 (q : Nat))).c5
          have XF := X5.other (show X ≠ NB by omega) 3 (.int .i64 (q : Nat))
          have z0 := XF.free 0
          have z1 := XF.free 1
          have z2 := XF.free 2
          have z3 := XF.free 3
          have z4 := XF.free 4
          have HB := Lib.hid ((((((L5.below.setCell (p := ⟨NB, 3, none⟩) hNBw (.int .i64 (q : Nat))).setCell hXw (.slice none 0 0) (p := ⟨X, 0, none⟩)).setCell hXw (.int .i64 0) (p := ⟨X, 1, none⟩)).setCell hXw (.int .i64 0) (p := ⟨X, 2, none⟩)).setCell hXw (.int .i64 0) (p := ⟨X, 3, none⟩)).setCell hXw (.int .i64 0) (p := ⟨X, 4, none⟩))
          clear hgb X5 Y5 N5 L5 HGL HTM XF
          go_wp2_with fail
          refine bodyPost_ret (v := .tuple #[.agg #[.slice none 0 0, .int .i64 0, .int .i64 0, .int .i64 0, .int .i64 0], .string (bs []), .int .i64 (e2 : Nat)]) (by simp [results, Tryz.results37, go_sem, x0, x1, x2, x3, x4]; rfl) rfl ?_
          rw [HRES.out]
          exact RetE.no HB.out
      -- ROUNDS END
      · obtain ⟨a, b, c, d, rfl⟩ : ∃ a b c d, ns = [a, b, c, d] := by
          match ns, hns with
          | [a, b, c, d], _ => exact ⟨a, b, c, d, rfl⟩
        have hRR := HGOOD.out [a, b, c, d] r' HG.out
        simp only [List.getD_cons_zero, List.getD_cons_succ] at hRR
        have HRR := Lib.hid hRR
        have HN5 := Lib.hid (show Blk wr NB 23 #[.int .i64 (a : Nat), .int .i64 (b : Nat), .int .i64 (c : Nat), .int .i64 (d : Nat)] from HN4.out)
        clear hRR HG HN4 HGOOD HBAD
        go_upto_region 14 with fail
        refine Dn.wp_region_states [(1, .int .i64 (a : Nat)), (3, .int .i64 (b : Nat)), (5, .int .i64 (c : Nat)), (7, .int .i64 (d : Nat)), (9, undef), (11, undef), (13, undef), (15, undef)]
          (fun D w' => Fr (fun k _ => k = X + 1) wr w' /\ Sv (X + 1) 45 [(9, 1, .int .i64 (a : Nat)), (11, 2, .int .i64 (b : Nat)), (13, 3, .int .i64 (c : Nat)), (15, 4, .int .i64 (d : Nat))] #[.slice vA l.length vc, .int .i64 0, .int .i64 0, .int .i64 0, .int .i64 0] D w') (by kernel_rfl) 67 (by kernel_rfl) rfl
          (fun i D w' hi hx => ⟨hx.1, hx.2.same (by
            simp only [List.forall_mem_cons, List.not_mem_nil, false_imp_iff, implies_true, and_true]
            exact ⟨lookup_ne' rfl hi, lookup_ne' rfl hi, lookup_ne' rfl hi, lookup_ne' rfl hi⟩)⟩)
          ⟨Fr.of_below (Below.refl _ _).drew, Sv.start HY4.out.drew⟩ ?_
        repeat (first
          | (refine Dn.Chain.step (v := ?_) (a' := ?_) rfl rfl rfl ?_ ?_ ?_; rotate_left 2; (focus (intro w; go_simp; try with_reducible rfl)); focus (simp only [Act.put, pqA, pqS, pqZ]; try rfl))
          | (refine Dn.Chain.call (a' := ?_) _ rfl rfl rfl (fun D wx hx hD hp => ?_) ?_ ?_
             rotate_left 1
             focus
               first
               | (obtain ⟨hf, hb⟩ := hx
                  have N := HN5.out.fr hf (fun i (e : NB = X + 1) => by omega)
                  obtain ⟨g0, g1, g2, g3⟩ := N.c4
                  clear N
                  go_simp
                  (repeat' (with_reducible apply And.intro)) <;> first | exact rfl | exact hf | exact hb.same (by simp))
               | (obtain ⟨hf, hb⟩ := hx
                  obtain ⟨u1, l1⟩ := hb.some_ (i := 1) (by simp)
                  have f1 := hb.free 1
                  go_simp
                  (repeat' (with_reducible apply And.intro)) <;> first | exact rfl | exact hf.setCell (fun _ => rfl) _ | exact hb.set (m := 9) (j := 1) (by simp) (by simp) (by simp))
               | (obtain ⟨hf, hb⟩ := hx
                  obtain ⟨u1, l1⟩ := hb.some_ (i := 2) (by simp)
                  have f1 := hb.free 2
                  go_simp
                  (repeat' (with_reducible apply And.intro)) <;> first | exact rfl | exact hf.setCell (fun _ => rfl) _ | exact hb.set (m := 11) (j := 2) (by simp) (by simp) (by simp))
               | (obtain ⟨hf, hb⟩ := hx
                  obtain ⟨u1, l1⟩ := hb.some_ (i := 3) (by simp)
                  have f1 := hb.free 3
                  go_simp
                  (repeat' (with_reducible apply And.intro)) <;> first | exact rfl | exact hf.setCell (fun _ => rfl) _ | exact hb.set (m := 13) (j := 3) (by simp) (by simp) (by simp))
               | (obtain ⟨hf, hb⟩ := hx
                  obtain ⟨u1, l1⟩ := hb.some_ (i := 4) (by simp)
                  have f1 := hb.free 4
                  go_simp
                  (repeat' (with_reducible apply And.intro)) <;> first | exact rfl | exact hf.setCell (fun _ => rfl) _ | exact hb.set (m := 15) (j := 4) (by simp) (by simp) (by simp))
             focus (simp only [Act.put, pqA, pqS, pqZ]; try rfl))
          | (refine Dn.Chain.skip (a' := ?_) rfl rfl rfl ?_ ?_; rotate_left 1; focus (simp only [Act.put, pqA, pqS, pqZ]; try rfl)))
        refine Dn.Chain.end_ (fun D w7 hDD hx => ?_)
        obtain ⟨hf7, hb7⟩ := hx
        have Y7 := hb7.end_ (by
          simp only [List.forall_mem_cons, List.not_mem_nil, false_imp_iff, implies_true, and_true]
          exact ⟨hDD 9 (by decide), hDD 11 (by decide), hDD 13 (by decide), hDD 15 (by decide)⟩) #[.slice vA l.length vc, .int .i64 (a : Nat), .int .i64 (b : Nat), .int .i64 (c : Nat), .int .i64 (d : Nat)] rfl (fun i hi => by
          match i, hi with
          | 0, _ => rfl
          | 1, _ => rfl
          | 2, _ => rfl
          | 3, _ => rfl
          | 4, _ => rfl
          | i + 5, hi => exact absurd hi (by simp))
        have X7 := HX4.out.fr hf7 (fun i (e : X = X + 1) => by omega)
        have L7 := HL4.out.fr_ne HY4.out (by decide) hYw hf7
        clear hf7 hb7 hDD HX4 HY4 HN5 HL4
        obtain ⟨y0, y1, y2, y3, y4⟩ := Y7.c5
        by_cases hb0 : b = 0
        · subst hb0
          have hRR := HRR.out
          rw [if_pos (.inl rfl)] at hRR
          have HRES := Lib.hid hRR
          obtain ⟨x0, x1, x2, x3, x4⟩ := X7.c5
          have z0 := X7.free 0
          have z1 := X7.free 1
          have z2 := X7.free 2
          have z3 := X7.free 3
          have z4 := X7.free 4
          have HB := Lib.hid (((((L7.below.setCell hXw (.slice none 0 0) (p := ⟨X, 0, none⟩)).setCell hXw (.int .i64 0) (p := ⟨X, 1, none⟩)).setCell hXw (.int .i64 0) (p := ⟨X, 2, none⟩)).setCell hXw (.int .i64 0) (p := ⟨X, 3, none⟩)).setCell hXw (.int .i64 0) (p := ⟨X, 4, none⟩))
          clear hRR X7 L7 Y7 HRR
          go_wp2_with fail
          refine bodyPost_ret (v := .tuple #[.agg #[.slice none 0 0, .int .i64 0, .int .i64 0, .int .i64 0, .int .i64 0], .string (bs []), .int .i64 3]) (by simp [results, Tryz.results37, go_sem, x0, x1, x2, x3, x4]; rfl) rfl ?_
          rw [HRES.out]
          exact RetE.no HB.out
        · have hbz : ((b : Int) == 0) = false := by rw [beq_eq_false_iff_ne]; omega
          by_cases hcd : d < c
          · have hRR := HRR.out
            rw [if_pos (.inr hcd)] at hRR
            have hd : decide ((d : Int) < (c : Int)) = true := decide_eq_true (by omega)
            have hd2 : (d : Int) < (c : Int) := by omega
            clear hcd hb0
            have HRES := Lib.hid hRR
            obtain ⟨x0, x1, x2, x3, x4⟩ := X7.c5
            have z0 := X7.free 0
            have z1 := X7.free 1
            have z2 := X7.free 2
            have z3 := X7.free 3
            have z4 := X7.free 4
            have HB := Lib.hid (((((L7.below.setCell hXw (.slice none 0 0) (p := ⟨X, 0, none⟩)).setCell hXw (.int .i64 0) (p := ⟨X, 1, none⟩)).setCell hXw (.int .i64 0) (p := ⟨X, 2, none⟩)).setCell hXw (.int .i64 0) (p := ⟨X, 3, none⟩)).setCell hXw (.int .i64 0) (p := ⟨X, 4, none⟩))
            clear hRR X7 L7 Y7 HRR
            go_wp2_with fail
            refine bodyPost_ret (v := .tuple #[.agg #[.slice none 0 0, .int .i64 0, .int .i64 0, .int .i64 0, .int .i64 0], .string (bs []), .int .i64 3]) (by simp [results, Tryz.results37, go_sem, x0, x1, x2, x3, x4]; rfl) rfl ?_
            rw [HRES.out]
            exact RetE.no HB.out
          · have hRR := HRR.out
            rw [if_neg (by omega)] at hRR
            have hd : decide ((d : Int) < (c : Int)) = false := decide_eq_false (by omega)
            have hd2 : ¬ ((d : Int) < (c : Int)) := by omega
            have HRES := Lib.hid hRR
            obtain ⟨x0, x1, x2, x3, x4⟩ := X7.c5
            have z0 := X7.free 0
            have z1 := X7.free 1
            have z2 := X7.free 2
            have z3 := X7.free 3
            have z4 := X7.free 4
            have HNF := Lib.hid (((((L7.set_ne X7 (by decide) hXw 0 (.slice vA l.length vc)).set_ne (X7.set _ _) (by decide) hXw 1 (.int .i64 (a : Nat))).set_ne ((X7.set _ _).set _ _) (by decide) hXw 2 (.int .i64 (b : Nat))).set_ne (((X7.set _ _).set _ _).set _ _) (by decide) hXw 3 (.int .i64 (c : Nat))).set_ne ((((X7.set _ _).set _ _).set _ _).set _ _) (by decide) hXw 4 (.int .i64 (d : Nat)))
            clear hRR X7 L7 Y7 HRR hcd hb0
            go_wp2_with fail
            refine bodyPost_ret (v := .tuple #[.agg #[.slice vA l.length vc, .int .i64 (a : Nat), .int .i64 (b : Nat), .int .i64 (c : Nat), .int .i64 (d : Nat)], .string (bs r'), .int .i64 0]) (by simp [results, Tryz.results37, go_sem, x0, x1, x2, x3, x4]) rfl ?_
            rw [HRES.out]
            exact ⟨⟨l, vA, vc, a, b, c, d⟩, rfl, rfl, HNF.out⟩
  · have hcz : ((c : Int) == 0) = false := by rw [beq_eq_false_iff_ne]; omega
    have hres : R = (En.z, [], c) := by
      rw [HR.out]
      unfold tEn
      rw [htk, if_pos hc]
    have HRES := Lib.hid hres
    obtain ⟨x0, x1, x2, x3, x4⟩ := X2.c5
    have z0 := X2.free 0
    have z1 := X2.free 1
    have z2 := X2.free 2
    have z3 := X2.free 3
    have z4 := X2.free 4
    have HB := Lib.hid (((((hb2.setCell hXw (.slice none 0 0) (p := ⟨X, 0, none⟩)).setCell hXw (.int .i64 0) (p := ⟨X, 1, none⟩)).setCell hXw (.int .i64 0) (p := ⟨X, 2, none⟩)).setCell hXw (.int .i64 0) (p := ⟨X, 3, none⟩)).setCell hXw (.int .i64 0) (p := ⟨X, 4, none⟩))
    clear htk hres X2 Y2 hn2 hb2 hc
    go_wp2_with fail
    refine bodyPost_ret (v := .tuple #[.agg #[.slice none 0 0, .int .i64 0, .int .i64 0, .int .i64 0, .int .i64 0], .string (bs []), .int .i64 (c : Nat)]) (by simp [results, Tryz.results37, go_sem, x0, x1, x2, x3, x4]; rfl) rfl ?_
    rw [HRES.out]
    exact RetE.no HB.out
end Go.Proofs.YtgabmfibfikdbaaGreatDoor

set_option maxHeartbeats 32000000
set_option maxRecDepth 10000
namespace Go.Proofs.YtgabmfibfikdbaaGreatDoor
open Go.RowKit Go.Bar Go.Bar.Leb Go.Bar.Frm Go.Bar.Lab Go.Bar.Xor Go.Bar.Mrg Go.Bar.Met Go.Bar.Bok

def RetEs (T Tp : TypeId) (w : World) (R : List En × Nat) (e : Ending) (w' : World) : Prop := ∃ v l, e = .returned (.tuple #[v, .int .i64 (R.2 : Nat)]) /\ DEs w w w w' T Tp v l /\ l.map plE = R.1
theorem RetEs.no {T Tp : TypeId} {w w' : World} {e : Nat} (h : Below w.heap.size w w') : RetEs T Tp w ([], e) (.returned (.tuple #[.slice none 0 0, .int .i64 (e : Nat)])) w' := ⟨_, [], rfl, DEs.nil h (Below.refl _ _) _ _, rfl⟩
theorem entriesR_bad {s : List UInt8} {e : Nat} (h : (only s 5).2 = e) (he : e ≠ 0) : entriesR s = ([], e) := by
 unfold entriesR
 rw [h, if_pos he]
theorem entriesR_ok' {s d : List UInt8} (h : only s 5 = (d, 0)) : entriesR s = ensD d := by
 unfold entriesR
 rw [h]
 simp
theorem ensD_bad {d r : List UInt8} {n e : Nat} (h : takeMost d 10000 = (n, r, e)) (he : e ≠ 0) : ensD d = ([], e) := by
 unfold ensD
 rw [h]
 simp only
 rw [if_pos he]
theorem ensD_of {d r : List UInt8} {n : Nat} (h : takeMost d 10000 = (n, r, 0)) {l : List En} {r' : List UInt8} {e : Nat} (ht : tEns n r [] = (l, r', e)) : ensD d = if e ≠ 0 then ([], e) else if r' ≠ [] then ([], 3) else (l, 0) := by
 unfold ensD
 rw [h]
 simp only
 rw [if_neg (by omega), ht]
theorem early_nil (y : En) : ¬ Bok.early [] y := fun ⟨p, h, _⟩ => by simp at h
theorem early_at {l : List Ev} {m : Nat} {p : Ev} {y : En} (hl : l.length = m + 1) (hp : l[m]? = some p) : Bok.early (l.map plE) y ↔ 0 <= cmpL p.ls y.ls := by
 have e : (l.map plE).getLast? = some (plE p) := by
  rw [List.getLast?_eq_getElem?, List.length_map, hl, List.getElem?_map]
  show (l[m]?).map plE = _
  rw [hp]; rfl
 unfold Bok.early
 rw [e]
 exact ⟨fun ⟨q, h1, h2⟩ => by injection h1 with h1; rw [<- h1] at h2; exact h2, fun h => ⟨_, rfl, h⟩⟩
theorem DEs.fr {B W0 W w w' : World} {T Tp T' : TypeId} {v : Value} {l : List Ev} {X : Nat} {cur : Array Value} (h : DEs B W0 W w T Tp v l) (hf : Fr (fun k _ => k = X) w w') (hb : Blk w X T' cur) (hne : Tp ≠ T') (hX : W.heap.size <= X) (hv : v.ownBlock ≠ some X) : DEs B W0 W w' T Tp v l := by
 have hX0 : W0.heap.size <= X := Nat.le_trans h.b.size hX
 refine ⟨⟨hf.buf h.n.buf (fun k i hk e => hv (by rw [hk]; exact congrArg some e)), h.n.below.trans (hf.below h.n.below.size (fun k i hk e => by have e : k = X := e; omega)), h.n.new⟩, h.b, fun x hx => ?_⟩
 exact (h.d x hx).imp id fun h => h.fr_ne hb hne hX0 hf

theorem kentries_any (s : List UInt8) (w : World) (hs : s.length <= 1000000000) :
  Calls Tryz.prog 10 #[.string (bs s)] w (RetEs 45 128 w (entriesR s)) := by
 obtain ⟨kd, d, r, er, hn⟩ : ∃ k d r e, Frm.next s = ((k, d), r, e) := ⟨_, _, _, _, rfl⟩
 have hc : ∀ w, Calls Tryz.prog 35 #[.string (bs s)] w (RetBelow w (.tuple #[.agg #[.int .u8 kd.toNat, .string (bs d)], .string (bs r), .int .i64 er])) := fun w => by
  have := next_any s w (by omega)
  rw [hn] at this
  exact this
 have ho : only s 5 = (d, if er = 0 /\ (r ≠ [] \/ kd ≠ 5) then 3 else er) := by
  unfold only
  rw [hn]
 have hdl : er = 0 -> d.length <= 1048576 := fun he => by
  have := (next_one s (by rw [hn]; exact he)).2
  rw [hn] at this
  exact this
 obtain ⟨R, hR⟩ : ∃ R, R = entriesR s := ⟨_, rfl⟩
 rw [<- hR]
 have HC := Lib.hid hc
 have HR := Lib.hid hR
 have HO := Lib.hid ho
 clear hc hn hR ho
 by_cases h0 : er = 0
 ·subst h0
  have hdl := hdl rfl
  by_cases h1 : r = []
  ·subst h1
   by_cases h2 : kd = 5
   ·subst h2
    have hes : R = ensD d := by
     rw [HR.out]
     exact entriesR_ok' (by rw [HO.out]; simp)
    obtain ⟨n0, r0, e0, htm⟩ : ∃ n r e, takeMost d 10000 = (n, r, e) := ⟨_, _, _, rfl⟩
    have htc := fun w => takeMost_of (bs d) 10000 htm w (by rw [bs_size]; unfold maxLen; omega) (by omega) (by omega)
    have hle := (takeMost_prop d 10000 (by omega)).2.1
    rw [htm] at hle
    have hn0 : e0 = 0 -> n0 <= 10000 := fun he => by
     have := takeMost_le d 10000 (by rw [show ((10000 : Nat) : Int) = 10000 from rfl, htm]; exact he)
     rw [show ((10000 : Nat) : Int) = 10000 from rfl, htm] at this
     exact this
    have HES := Lib.hid hes
    have HTM := Lib.hid htm
    have HTC := Lib.hid htc
    dsimp only at hle
    clear hes htm htc HO HR
    go_enter Tryz.func10, Tryz.ntmps10
    go_wp2_with fail
    refine (HC.out _).mono ?_
    rintro e w1 ⟨rfl, hb1⟩
    have HB1 := Lib.hid (below_trans hb1 (below_al w1 (.cells #[.int .u8 ((5 : UInt8).toNat : Nat), .string (bs d)] 100)))
    clear hb1 HC
    go_wp2_with fail
    refine (HTC.out _).mono ?_
    rintro e w2 ⟨rfl, q2, rfl⟩
    have HB2 := Lib.hid (below_trans HB1.out (below_draws _ q2))
    clear HB1 HTC
    have hst : (e0 = 0 /\ tEns n0 r0 [] = tEns n0 r0 (([] : List Ev).map plE)) \/ (e0 ≠ 0 /\ R = ([], e0)) := by
     by_cases he0 : e0 = 0
     ·exact .inl ⟨he0, rfl⟩
     ·exact .inr ⟨he0, by rw [HES.out]; exact ensD_bad HTM.out he0⟩
    have HST := Lib.hid hst
    have HE0 := Lib.hid hn0
    have hens : ∀ (l : List En) (r' : List UInt8) (e : Nat), e0 = 0 -> tEns n0 r0 [] = (l, r', e) -> R = if e ≠ 0 then ([], e) else if r' ≠ [] then ([], 3) else (l, 0) := fun l r' e he ht => by
     subst he
     rw [HES.out]
     exact ensD_of HTM.out ht
    have HENS := Lib.hid hens
    have hds0 := DEs.nil (B := w) HB2.out (Below.refl w.heap.size w) 45 128
    have HDS0 := Lib.hid hds0
    have hr0l : r0.length <= 1000000000 := by omega
    clear hst hn0 hens hds0 HES HTM
    go_upto_region 8 with fail
    go_loopw [7, 8, 6, 9] (fun nv dv ev ov wr => ∃ (m : Nat) (r' : List UInt8) (l : List Ev) (e2 : Nat), nv = .int .i64 m /\ dv = .string (bs r') /\ ev = .int .i64 (e2 : Nat) /\ Hid (DEs w w w wr 45 128 ov l) /\ Hid (∀ u, ov.ownBlock = some u -> u < wr.heap.size) /\ Hid (e2 = 0 -> l.length + m <= 10000) /\ r'.length <= 1000000000 /\
     Hid ((e2 = 0 /\ e0 = 0 /\ tEns n0 r0 [] = tEns m r' (l.map plE)) \/ (e2 ≠ 0 /\ R = ([], e2)))) (fun nv _ _ _ _ => (intOf nv).toNat)
    case atStart => exact ⟨n0, r0, [], e0, rfl, rfl, rfl, HDS0, Lib.hid (fun u hu => by simp [Value.ownBlock] at hu), Lib.hid (fun he => by have := HE0.out he; simpa using this), hr0l, Lib.hid (by
     rcases HST.out with ⟨h1, h2⟩ | h
     ·exact .inl ⟨h1, h1, h2⟩
     ·exact .inr h)⟩
    case round =>
     obtain ⟨m, r', l, e2, rfl, rfl, rfl, HD, HOW, HM, hrl, HS⟩ := hrel
     clear HDS0 HST HE0
     have hbw := HD.out.n.below
     have HBW := Lib.hid hbw
     obtain ⟨oA, oc, rfl, hoc⟩ := HD.out.n.buf.shape
     rcases HS.out with ⟨h1, h2, h3⟩ | ⟨h1, h2⟩
     ·subst h1
      have HT := Lib.hid h3
      have hlm := HM.out rfl
      have H2 := Lib.hid h2
      clear h2 h3 HS HM
      rcases m with _ | m
      ·have hR := HENS.out (l.map plE) r' 0 H2.out (by rw [HT.out]; rfl)
       by_cases hr : r' = []
       ·subst hr
        rw [if_neg (by omega), if_neg (by simp)] at hR
        have HRES := Lib.hid hR
        have HDX := Lib.hid HD.out
        clear hR HT hbw
        go_wp2_with fail
        go_ret2
        rw [HRES.out]
        exact ⟨_, l, rfl, HDX.out, rfl⟩
       ·rw [if_neg (by omega), if_pos hr] at hR
        have hb : r'.isEmpty = false := by cases r'; exact absurd rfl hr; rfl
        have hb2 : (r' != []) = true := by rw [bne_iff_ne]; exact hr
        have HRES := Lib.hid hR
        clear hR HT hbw hr HD
        go_wp2_with fail
        go_ret2
        rw [HRES.out]
        exact RetEs.no HBW.out
      ·have hm1 : (0 : Int) < ((m + 1 : Nat) : Int) := by omega
       have htk := fun w' => ktake_any r' w' (by omega)
       obtain ⟨y, r2, e3, hte⟩ : ∃ y r e, tEn r' = (y, r, e) := ⟨_, _, _, rfl⟩
       have hle2 := tEn_le r'
       rw [hte] at hle2 htk
       dsimp only at hle2
       have htn : tEns (m + 1) r' (l.map plE) = if e3 ≠ 0 then ([], [], e3) else if Bok.early (l.map plE) y then ([], [], 3) else tEns m r2 (l.map plE ++ [y]) := by rw [tEns, hte]
       have HTN := Lib.hid htn
       have HTK := Lib.hid htk
       have X1 := Blk.new wr #[.slice none 0 0, .int .i64 0, .int .i64 0, .int .i64 0, .int .i64 0] 45
       have hb1 := below_al wr (.cells #[.slice none 0 0, .int .i64 0, .int .i64 0, .int .i64 0, .int .i64 0] 45)
       have HD1 := Lib.hid (HD.out.below hb1)
       have HB1 := Lib.hid (below_trans hbw hb1)
       clear hte htk htn HD hbw hb1
       go_upto_region 11 with fail
       obtain ⟨wb, hwb⟩ : ∃ wb, wb = wr.alloc (.cells #[.slice none 0 0, .int .i64 0, .int .i64 0, .int .i64 0, .int .i64 0] 45) := ⟨_, rfl⟩
       obtain ⟨X, hX⟩ : ∃ X, X = wr.heap.size := ⟨_, rfl⟩
       have hXw : w.heap.size <= X := by rw [hX]; exact HBW.out.size
       have HOX : Hid ((Value.slice oA l.length oc).ownBlock ≠ some X) := Lib.hid (fun e => by have := HOW.out X e; omega)
       rw [<- hwb] at X1 HD1 HB1 ⊢
       rw [<- hX] at X1 ⊢
       clear hwb hX
       go_wp2_with fail
       refine (HTK.out _).mono ?_
       rintro e w3 ⟨x, rfl, hxy, hnx⟩
       dsimp only at hxy ⊢
       have X3 := X1.below hnx.below
       have HD3 := Lib.hid (HD1.out.below hnx.below)
       have HB3 := Lib.hid (below_trans HB1.out hnx.below)
       have HN3 := Lib.hid (hnx.after HB1.out)
       obtain ⟨x0, x1, x2, x3, x4⟩ := X3.c5
       have z0 := X3.free 0
       have z1 := X3.free 1
       have z2 := X3.free 2
       have z3 := X3.free 3
       have z4 := X3.free 4
       have HXY := Lib.hid hxy
       clear X1 HD1 HB1 hnx hxy HTK
       by_cases he3 : e3 = 0
       ·subst he3
        have hf4 : Fr (fun k _ => k = X) w3 (((((w3.setCell ⟨X, 0, none⟩ (.slice x.la x.ls.length x.lc)).setCell ⟨X, 1, none⟩ (.int .i64 x.fr)).setCell ⟨X, 2, none⟩ (.int .i64 x.n)).setCell ⟨X, 3, none⟩ (.int .i64 x.mn)).setCell ⟨X, 4, none⟩ (.int .i64 x.mx)) :=
         (((((Fr.refl (fun k _ => k = X) w3).setCell (fun _ => rfl) _).setCell (fun _ => rfl) _).setCell (fun _ => rfl) _).setCell (fun _ => rfl) _).setCell (fun _ => rfl) _
        have X4 := ((((X3.set 0 (.slice x.la x.ls.length x.lc)).set 1 (.int .i64 x.fr)).set 2 (.int .i64 x.n)).set 3 (.int .i64 x.mn)).set 4 (.int .i64 x.mx)
        have hd4 := HD3.out.fr hf4 X3 (by decide) hXw HOX.out
        have hn4 := HN3.out.fr_ne X3 (by decide) hXw hf4
        go_upto_region 13 with fail
        obtain ⟨w4, hw4⟩ : ∃ w4, w4 = (((((w3.setCell ⟨X, 0, none⟩ (.slice x.la x.ls.length x.lc)).setCell ⟨X, 1, none⟩ (.int .i64 x.fr)).setCell ⟨X, 2, none⟩ (.int .i64 x.n)).setCell ⟨X, 3, none⟩ (.int .i64 x.mn)).setCell ⟨X, 4, none⟩ (.int .i64 x.mx)) := ⟨_, rfl⟩
        rw [<- hw4] at X4 hd4 hn4 ⊢
        have HX4 : Hid (Blk w4 X 45 #[.slice x.la x.ls.length x.lc, .int .i64 x.fr, .int .i64 x.n, .int .i64 x.mn, .int .i64 x.mx]) := Lib.hid X4
        have HD4 := Lib.hid hd4
        have HN4 := Lib.hid hn4
        clear hw4 X4 hd4 hn4 hf4 X3 HD3 HB3 HN3 x0 x1 x2 x3 x4 z0 z1 z2 z3 z4 HOX HOW
        rcases hlq : l with _ | ⟨y0, ys0⟩
        ·subst hlq
         have HNE := Lib.hid (show ¬ Bok.early (([] : List Ev).map plE) y from early_nil y)
         rw [List.length_nil] at hoc ⊢
         go_wp2_with fail
         go_quiet (fail)
         have HDD := Lib.hid (HD4.out.below ((Below.refl _ _).drewN' nq))
         have HNN := Lib.hid (HN4.out.then_below ((Below.refl _ _).drewN' nq))
         obtain ⟨x0, x1, x2, x3, x4⟩ := (HX4.out.drewN nq).c5
         have hnb := HDD.out.n
         go_wp2_with (at_builtin; refine wpList_append_nlit rfl (.tmp 71) (.tmp 73) 25 rfl entry_ty rfl hnb rfl (by simp) rfl (by simp [Value.oneCell']) (by simp only [maxLen]; omega) (by omega) ?_; intro v6 w6 hn6 ha6; have HAP := Lib.hid ha6; clear ha6)
         have HD6 := Lib.hid ((HDD.out.below (below_al _ (.cells #[.slice x.la x.ls.length x.lc, .int .i64 x.fr, .int .i64 x.n, .int .i64 x.mn, .int .i64 x.mx] 45))).snoc (x := x) (DeepE.below (.inr HNN.out) (below_al _ (.cells #[.slice x.la x.ls.length x.lc, .int .i64 x.fr, .int .i64 x.n, .int .i64 x.mn, .int .i64 x.mx] 45))) hn6 HAP.out (by decide))
         have HW6 := Lib.hid (hn6.lt (by simp))
         clear hn6 HAP hnb
         go_roundw
         case rel => exact ⟨m, r2, [] ++ [x], 0, by go_num, rfl, rfl, HD6, HW6, Lib.hid (fun _ => by rw [List.length_append]; simp only [List.length_singleton]; omega), by omega, Lib.hid (.inl ⟨rfl, H2.out, by rw [HT.out, HTN.out, if_neg (by omega), if_neg HNE.out, List.map_append, <- HXY.out]; rfl⟩)⟩
         case measure => simp [intOf]
        ·rw [<- hlq]
         obtain ⟨q, hq⟩ : ∃ q, l.length = q + 1 := ⟨ys0.length, by rw [hlq]; rfl⟩
         obtain ⟨p, hp⟩ : ∃ p, l[q]? = some p := ⟨_, List.getElem?_eq_getElem (by omega)⟩
         have hes := HD4.out.at_ (HD4.out.n.below)
         obtain ⟨bo, oo, hoA, hbo, hps, g0, _, _, _, _⟩ := hes.at_ hp
         subst hoA
         have hcm := fun w' (hb : Below w4.heap.size w4 w') => lcompare_any _ _ p.ls x.ls w' (hps.below hb) (HN4.out.slice.below hb)
         obtain ⟨C, hC⟩ : ∃ C, C = cmpL p.ls x.ls := ⟨_, rfl⟩
         rw [<- hC] at hcm
         have hea := early_at (y := y) hq hp
         rw [<- HXY.out, show (plE x).ls = x.ls from rfl, <- hC] at hea
         have HCM := Lib.hid hcm
         have HP0 := Lib.hid g0
         have HEA := Lib.hid hea
         have hk0 : (0 : Int) < (l.length : Int) := by omega
         have hk1 : 0 < l.length := by omega
         have hk2 : ¬ l = [] := by rw [hlq]; simp
         have hk3 : decide ((0 : Int) < (l.length : Int)) = true := decide_eq_true hk0
         have hkw : IntKind.i64.wrap ((l.length : Int) - 1) = (q : Int) := by rw [IntKind.wrap_i64]; omega
         have hkq : (q : Int) < (l.length : Int) := by omega
         have hkq0 : (0 : Int) <= (q : Int) := by omega
         clear hcm g0 hea hC hps hes hp hq hlq
         go_upto_region 14 with fail
         refine wp_region_known [(8, .slice p.la p.ls.length p.lc), (10, .slice x.la x.ls.length x.lc), (11, .int .i64 C)] (by kernel_rfl) 85 (by kernel_rfl) rfl ?_
         repeat (first
          | (refine Chain.step (v := ?_) (a' := ?_) rfl rfl rfl ?_ ?_ ?_; rotate_left 2; (focus (intro w; go_simp; try with_reducible rfl)); focus (simp only [Act.put, pqA, pqS, pqZ]; try rfl))
          | (refine Chain.call (i := 8) (a' := ?_) _ rfl rfl rfl (fun wx hw => ?_) ?_ ?_; rotate_left 1; (focus (have g0 := (Below.cell hw (p := ⟨bo, oo + q * 5, none⟩) hbo).trans HP0.out); (go_simp); (first | exact ⟨rfl, rB⟩ | exact rB)); focus (simp only [Act.put, pqA, pqS, pqZ]; try rfl))
          | (refine Chain.call (i := 10) (a' := ?_) _ rfl rfl rfl (fun wx hw => ?_) ?_ ?_; rotate_left 1; (focus (obtain ⟨g0, g1, g2, g3, g4⟩ := Blk.c5 (HX4.out.below hw); go_simp; first | exact ⟨rfl, rB⟩ | exact rB)); focus (simp only [Act.put, pqA, pqS, pqZ]; try rfl))
          | (refine Chain.call (i := 11) (a' := ?_) _ rfl rfl rfl (fun wx hw => ?_) ?_ ?_; rotate_left 1; (focus (go_simp; (with_reducible refine (HCM.out _ hw).mono ?_); exact (fun e w' ⟨h1, h2⟩ => by subst h1; exact ⟨rfl, h2⟩))); focus (simp only [Act.put, pqA, pqS, pqZ]; try rfl))
          | (refine Chain.skip (a' := ?_) rfl rfl rfl ?_ ?_; rotate_left 1; focus (simp only [Act.put, pqA, pqS, pqZ]; try rfl)))
         refine Chain.end_ (fun wz hwz _ => ?_)
         have HDD := Lib.hid (HD4.out.below hwz)
         have HNN := Lib.hid (HN4.out.then_below hwz)
         obtain ⟨x0, x1, x2, x3, x4⟩ := (HX4.out.below hwz).c5
         rcases Int.lt_or_le C 0 with hC | hC
         ·have HNE := Lib.hid (show ¬ Bok.early (l.map plE) y from fun h => by rw [<- HXY.out] at h; have := HEA.out.1 h; omega)
          have hnb := HDD.out.n
          go_wp2_with (at_builtin; refine wpList_append_nlit rfl (.tmp 71) (.tmp 73) 25 rfl entry_ty rfl hnb rfl (by simp) rfl (by simp [Value.oneCell']) (by simp only [maxLen]; omega) (by omega) ?_; intro v6 w6 hn6 ha6; have HAP := Lib.hid ha6; clear ha6)
          have HD6 := Lib.hid ((HDD.out.below (below_al _ (.cells #[.slice x.la x.ls.length x.lc, .int .i64 x.fr, .int .i64 x.n, .int .i64 x.mn, .int .i64 x.mx] 45))).snoc (x := x) (DeepE.below (.inr HNN.out) (below_al _ (.cells #[.slice x.la x.ls.length x.lc, .int .i64 x.fr, .int .i64 x.n, .int .i64 x.mn, .int .i64 x.mx] 45))) hn6 HAP.out (by decide))
          have HW6 := Lib.hid (hn6.lt (by simp))
          clear hn6 HAP hnb
          go_roundw
          case rel => exact ⟨m, r2, l ++ [x], 0, by go_num, rfl, rfl, HD6, HW6, Lib.hid (fun _ => by rw [List.length_append]; simp only [List.length_singleton]; omega), by omega, Lib.hid (.inl ⟨rfl, H2.out, by rw [HT.out, HTN.out, if_neg (by omega), if_neg HNE.out, List.map_append, <- HXY.out]; rfl⟩)⟩
          case measure => simp [intOf]
         ·have hR := HENS.out [] [] 3 H2.out (by rw [HT.out, HTN.out, if_neg (by omega), if_pos (by rw [<- HXY.out]; exact HEA.out.2 hC)])
          rw [if_pos (by omega)] at hR
          have HRES := Lib.hid hR
          clear hR
          have hnb := HDD.out.n
          go_wp2_with (at_builtin; refine wpList_append_nlit rfl (.tmp 71) (.tmp 73) 25 rfl entry_ty rfl hnb rfl (by simp) rfl (by simp [Value.oneCell']) (by simp only [maxLen]; omega) (by omega) ?_; intro v6 w6 hn6 ha6; have HAP := Lib.hid ha6; clear ha6)
          have HD6 := Lib.hid ((HDD.out.below (below_al _ (.cells #[.slice x.la x.ls.length x.lc, .int .i64 x.fr, .int .i64 x.n, .int .i64 x.mn, .int .i64 x.mx] 45))).snoc (x := x) (DeepE.below (.inr HNN.out) (below_al _ (.cells #[.slice x.la x.ls.length x.lc, .int .i64 x.fr, .int .i64 x.n, .int .i64 x.mn, .int .i64 x.mx] 45))) hn6 HAP.out (by decide))
          have HW6 := Lib.hid (hn6.lt (by simp))
          clear hn6 HAP hnb
          go_roundw
          case rel => exact ⟨m, r2, l ++ [x], 3, by go_num, rfl, rfl, HD6, HW6, Lib.hid (fun h => by omega), by omega, Lib.hid (.inr ⟨by omega, HRES.out⟩)⟩
          case measure => simp [intOf]
       ·have hez : ((e3 : Int) == 0) = false := by rw [beq_eq_false_iff_ne]; omega
        have hR := HENS.out [] [] e3 H2.out (by rw [HT.out, HTN.out, if_pos he3])
        rw [if_pos he3] at hR
        have HRES := Lib.hid hR
        have HBX := Lib.hid (((((HB3.out.setCell hXw (.slice x.la x.ls.length x.lc) (p := ⟨X, 0, none⟩)).setCell hXw (.int .i64 x.fr) (p := ⟨X, 1, none⟩)).setCell hXw (.int .i64 x.n) (p := ⟨X, 2, none⟩)).setCell hXw (.int .i64 x.mn) (p := ⟨X, 3, none⟩)).setCell hXw (.int .i64 x.mx) (p := ⟨X, 4, none⟩))
        clear hR he3 HT HTN X3
        go_wp2_with fail
        go_ret2
        rw [HRES.out]
        exact RetEs.no HBX.out
     ·have hez : ((e2 : Int) == 0) = false := by rw [beq_eq_false_iff_ne]; omega
      have HRES := Lib.hid h2
      clear h1 h2 HS HM hbw HD
      rcases Nat.eq_zero_or_pos m with hm | hm
      ·subst hm
       go_wp2_with fail
       go_ret2
       rw [HRES.out]
       exact RetEs.no HBW.out
      ·have hm1 : (0 : Int) < (m : Int) := by omega
       go_wp2_with fail
       go_ret2
       rw [HRES.out]
       exact RetEs.no HBW.out
   ·have hne : kd.toNat ≠ 5 := fun h => h2 (UInt8.toNat_inj.1 h)
    have hb : (((kd.toNat : Nat) : Int) == 5) = false := by rw [beq_eq_false_iff_ne]; omega
    have hb' : (((kd.toNat : Nat) : Int) != 5) = true := by rw [bne_iff_ne]; omega
    have hres : R = ([], 3) := by
     rw [HR.out]
     exact entriesR_bad (by rw [HO.out]; simp [h2]) (by omega)
    have HRES := Lib.hid hres
    clear hne h2 hres HO HR
    go_enter Tryz.func10, Tryz.ntmps10
    go_wp2_with fail
    refine (HC.out _).mono ?_
    rintro e w1 ⟨rfl, hb1⟩
    have HB1 := Lib.hid (below_trans hb1 (below_al w1 (.cells #[.int .u8 (kd.toNat : Nat), .string (bs d)] 100)))
    clear hb1 HC
    go_wp2_with fail
    go_ret2
    rw [HRES.out]
    exact RetEs.no HB1.out
  ·have hb : r.isEmpty = false := by cases r; exact absurd rfl h1; rfl
   have hb2 : (r != []) = true := by rw [bne_iff_ne]; exact h1
   have hres : R = ([], 3) := by
    rw [HR.out]
    exact entriesR_bad (by rw [HO.out]; simp [h1]) (by omega)
   have HRES := Lib.hid hres
   clear h1 hres HO HR
   go_enter Tryz.func10, Tryz.ntmps10
   go_wp2_with fail
   refine (HC.out _).mono ?_
   rintro e w1 ⟨rfl, hb1⟩
   have HB1 := Lib.hid (below_trans hb1 (below_al w1 (.cells #[.int .u8 (kd.toNat : Nat), .string (bs d)] 100)))
   clear hb1 HC
   go_wp2_with fail
   go_ret2
   rw [HRES.out]
   exact RetEs.no HB1.out
 ·have hb : ((er : Int) == 0) = false := by rw [beq_eq_false_iff_ne]; omega
  have hres : R = ([], er) := by
   rw [HR.out]
   exact entriesR_bad (by rw [HO.out]; simp [h0]) h0
  have HRES := Lib.hid hres
  clear h0 hres HO HR hdl
  go_enter Tryz.func10, Tryz.ntmps10
  go_wp2_with fail
  refine (HC.out _).mono ?_
  rintro e w1 ⟨rfl, hb1⟩
  have HB1 := Lib.hid (below_trans hb1 (below_al w1 (.cells #[.int .u8 (kd.toNat : Nat), .string (bs d)] 100)))
  clear hb1 HC
  go_wp2_with fail
  go_ret2
  rw [HRES.out]
  exact RetEs.no HB1.out
end Go.Proofs.YtgabmfibfikdbaaGreatDoor
