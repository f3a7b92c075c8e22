/-
 Layer 16: plain: the tables of the laws go as blocks: no condition.
-/
import Derived.Test.YtgabmfibfikdbaaGreatDoorZLabT
import Derived.Test.YtgabmfibfikdbaaGreatDoorZBokI
import Derived.Test.YtgabmfibfikdbaaGreatDoorZIdtA
import Derived.Test.YtgabmfibfikdbaaGreatDoorZLib5
import Derived.Test.YtgabmfibfikdbaaGreatDoorZLib22
import Derived.Deep.CutRange
import Derived.Test.YtgabmfibfikdbaaGreatDoorZBokHd
import Derived.Test.YtgabmfibfikdbaaGreatDoorZLib14
import Derived.Test.YtgabmfibfikdbaaGreatDoorZLib4
import Derived.Test.YtgabmfibfikdbaaGreatDoorZLib2
import Derived.Test.YtgabmfibfikdbaaGreatDoorRows
import Derived.LaidMore
import Derived.Lay
import Derived.Stop.Joined
import Derived.ChangeSame
import Derived.Test.YtgabmfibfikdbaaGreatDoorZBokM

namespace Go.Bar.Bok
open Go.RowKit Go.Bar Go.Bar.Leb Go.Bar.Frm Go.Bar.Lab Go.Bar.Xor Go.Bar.Mrg Go.Bar.Met

theorem lab5_ok (n : Nat) : Lab.Ok (Go.Proofs.YtgabmfibfikdbaaGreatDoor.lab5 n) := by
 have h : ∀ j, j < 5 → Lab.Ok (Go.Proofs.YtgabmfibfikdbaaGreatDoor.lab5 j) := by decide
 have e : Go.Proofs.YtgabmfibfikdbaaGreatDoor.lab5 n = Go.Proofs.YtgabmfibfikdbaaGreatDoor.lab5 (n % 5) := by unfold Go.Proofs.YtgabmfibfikdbaaGreatDoor.lab5; rw [Nat.mod_mod]
 rw [e]
 exact h _ (Nat.mod_lt _ (by decide))

structure SmallT (a b : Int) (R : List Row) : Prop where
 good : GoodP R
 n : R.length ≤ 40
 lab : ∀ r ∈ R, ∃ k, r.1 = Go.Proofs.YtgabmfibfikdbaaGreatDoor.lab5 k
 ne : ∀ r ∈ R, r.2 ≠ []
 len : ∀ r ∈ R, r.2.length ≤ 400
 tm : ∀ r ∈ R, ∀ y ∈ r.2, a ≤ y.1 ∧ y.1 < b
 v : ∀ r ∈ R, ∀ y ∈ r.2, y.2 < 18446744073709551616

section
variable {a b : Int} {R : List Row}
theorem SmallT.row (h : SmallT a b R) (ha : 0 ≤ a) (hb : b ≤ 1099511627776) : ∀ r ∈ R, RowOk a b r := fun r hr => by
 obtain ⟨k, hk⟩ := h.lab r hr
 obtain ⟨x, hx, e1⟩ := first_mem (h.ne r hr)
 obtain ⟨y, hy, e2⟩ := last_mem (h.ne r hr)
 exact ⟨h.ne r hr, by rw [hk]; exact lab5_ok k, by rw [e1]; exact (h.tm r hr x hx).1, by rw [e2]; exact (h.tm r hr y hy).2, fun z hz => by have := h.tm r hr z hz; omega⟩
theorem SmallT.smok (h : SmallT a b R) (ha : 0 ≤ a) (hb : b ≤ 1099511627776) : ∀ r ∈ R, SmOk r.2 := fun _ hr => row_sm (h.row ha hb) h.good h.v hr
theorem bCh_bound {K : Nat} : ∀ {R : List Row}, (∀ r ∈ R, (chB r.2).length ≤ K) → (bCh R).length ≤ K * R.length
 | [], _ => Nat.zero_le _
 | r :: R, h => by
  have h1 := h r (List.mem_cons_self ..)
  have h2 := bCh_bound (R := R) fun x hx => h x (List.mem_cons_of_mem _ hx)
  unfold bCh at h2 ⊢
  rw [List.flatMap_cons, List.length_append, List.length_cons, Nat.mul_succ]
  omega
theorem SmallT.ch (h : SmallT a b R) (ha : 0 ≤ a) (hb : b ≤ 1099511627776) : (bCh R).length ≤ 400000 := by
 have h1 := bCh_bound (K := 9600) (R := R) fun r hr => by
  have h2 := chB_len (h.smok ha hb r hr)
  have h3 := h.len r hr
  unfold nP at h2
  omega
 have h2 := h.n
 omega
theorem enBs_bound : ∀ {l : List En}, (∀ x ∈ l, EnOk x) → (l.flatMap enB).length ≤ 800 * l.length
 | [], _ => Nat.zero_le _
 | x :: l, h => by
  have h1 := enB_len (h x (List.mem_cons_self ..))
  have h2 := enBs_bound (l := l) fun y hy => h y (List.mem_cons_of_mem _ hy)
  rw [List.flatMap_cons, List.length_append, List.length_cons]
  omega
theorem SmallT.idx (h : SmallT a b R) (ha : 0 ≤ a) (hb : b ≤ 1099511627776) : (idxD (bEn R 0)).length ≤ 40000 := by
 have h1 := enBs_bound (bEn_ok (h.row ha hb) h.good (by have := h.ch ha hb; omega))
 rw [bEn_len] at h1
 have h2 := h.n
 have h3 := u_len (bEn R 0).length (by rw [bEn_len]; omega)
 unfold idxD
 rw [List.length_append]
 omega
theorem SmallT.idxB (h : SmallT a b R) (ha : 0 ≤ a) (hb : b ≤ 1099511627776) : (idxB (bEn R 0)).length ≤ 50000 := by
 have h1 := h.idx ha hb
 have h2 := u_len (idxD (bEn R 0)).length (by omega)
 unfold Bok.idxB
 rw [rec_len]
 show 5 + (u (idxD (bEn R 0)).length).length + (idxD (bEn R 0)).length ≤ _
 omega
theorem cnt_bound {K : Nat} : ∀ {R : List Row}, (∀ r ∈ R, 1 ≤ r.2.length ∧ r.2.length ≤ K) → R.length ≤ cntR R ∧ cntR R ≤ K * R.length
 | [], _ => ⟨Nat.le_refl _, Nat.le_refl _⟩
 | r :: R, h => by
  have h1 := h r (List.mem_cons_self ..)
  have h2 := cnt_bound (R := R) fun x hx => h x (List.mem_cons_of_mem _ hx)
  unfold cntR at h2 ⊢
  rw [List.map_cons, List.sum_cons, List.length_cons, Nat.mul_succ]
  omega
theorem SmallT.cnt (h : SmallT a b R) : R.length ≤ cntR R ∧ cntR R ≤ 16000 := by
 have h1 := cnt_bound (K := 400) (R := R) fun r hr => ⟨by
  have := h.ne r hr
  cases hc : r.2 with
  | nil => exact absurd hc this
  | cons => simp, h.len r hr⟩
 have h2 := h.n
 omega
theorem SmallT.bd (h : SmallT a b R) (ha : 0 ≤ a) (hab : a < b) (hb : b ≤ 1099511627776) {lv : Int} (h1 : 1 ≤ lv) (h9 : lv ≤ 9) {t s : Nat} (ht : t < 32 ^ 8) (hs : s < 32 ^ 8) : BdOk (Idt.mk t s) a b lv [] R := by
 have hc := h.cnt
 have h2 := h.ch ha hb
 have h3 := h.idxB ha hb
 refine ⟨h.good, h.row ha hb, ⟨idOk_mk t s ht hs, ha, hab, hb, h1, h9, ?_, ?_, ?_⟩, rfl, Nat.zero_le _, fun i hi => ?_, fun i hi => absurd hi (Nat.not_lt_zero _)⟩
 ·show (0 : Int) ≤ (R.length : Nat); omega
 ·show ((R.length : Nat) : Int) ≤ (cntR R : Nat); omega
 ·show ((cntR R : Nat) : Int) ≤ _; omega
 ·rcases i with _ | _ | i
  ·exact ⟨rfl, by show (0 : Int) ≤ ((bCh R).length : Nat); omega, by show (((bCh R).length : Nat) : Int) ≤ _; omega⟩
  ·exact ⟨rfl, by show (0 : Int) ≤ ((Bok.idxB (bEn R 0)).length : Nat); omega, by show (((Bok.idxB (bEn R 0)).length : Nat) : Int) ≤ _; omega⟩
  ·omega
theorem SmallT.back (h : SmallT a b R) (ha : 0 ≤ a) (hab : a < b) (hb : b ≤ 1099511627776) {lv : Int} (h1 : 1 ≤ lv) (h9 : lv ≤ 9) {t s : Nat} (ht : t < 32 ^ 8) (hs : s < 32 ^ 8) : tableR (bMt (Idt.mk t s) a b lv [] R) (bCh R) (Bok.idxB (bEn R 0)) = (R, 0) :=
 tableR_of (h.bd ha hab hb h1 h9 ht hs) h.v (by have := h.n; omega) (by have := h.idx ha hb; omega) (by have := h.ch ha hb; omega)
end

def longS (n st : Nat) : List Sm := (List.range n).map fun i => (((i * st : Nat) : Int), i % 3)
def longT (n st : Nat) : List Row := [(Go.Proofs.YtgabmfibfikdbaaGreatDoor.lab5 0, longS n st)]
theorem longS_len (n st : Nat) : (longS n st).length = n := by unfold longS; rw [List.length_map, List.length_range]
theorem longS_succ (n st : Nat) : longS (n + 1) st = longS n st ++ [(((n * st : Nat) : Int), n % 3)] := by unfold longS; rw [List.range_succ, List.map_append]; rfl
theorem longS_mem {n st : Nat} {x : Sm} (h : x ∈ longS n st) : ∃ i, i < n ∧ x = (((i * st : Nat) : Int), i % 3) := by
 obtain ⟨i, hi, rfl⟩ := List.mem_map.1 h
 exact ⟨i, List.mem_range.1 hi, rfl⟩
theorem longS_ris {n st : Nat} (h : 0 < st) : Ris (longS n st) := by
 induction n with
 | zero => exact List.Pairwise.nil
 | succ n ih =>
  rw [longS_succ]
  refine List.pairwise_append.2 ⟨ih, List.pairwise_singleton _ _, fun x hx y hy => ?_⟩
  obtain ⟨i, hi, rfl⟩ := longS_mem hx
  obtain rfl := List.mem_singleton.1 hy
  have := Nat.mul_lt_mul_of_pos_right hi h
  show ((i * st : Nat) : Int) < ((n * st : Nat) : Int)
  omega
theorem long_small {n st : Nat} {b : Int} (hn : 0 < n) (hn2 : n ≤ 400) (hs : 0 < st) (hb : ((400 * st : Nat) : Int) ≤ b) : SmallT 0 b (longT n st) := by
 have hone : ∀ {p : Row → Prop}, p (Go.Proofs.YtgabmfibfikdbaaGreatDoor.lab5 0, longS n st) → ∀ r ∈ longT n st, p r := fun h r hr => by
  obtain rfl := List.mem_singleton.1 hr
  exact h
 refine ⟨⟨List.pairwise_singleton _ _, hone (longS_ris hs)⟩, (by decide : 1 ≤ 40), hone ⟨0, rfl⟩, hone ?_, hone ?_, hone ?_, hone ?_⟩
 ·intro e
  have h1 := longS_len n st
  have e : longS n st = [] := e
  rw [e] at h1
  have h1 : 0 = n := h1
  omega
 ·show (longS n st).length ≤ _
  rw [longS_len]; exact hn2
 ·intro y hy
  obtain ⟨i, hi, rfl⟩ := longS_mem hy
  have h1 : i * st < 400 * st := Nat.mul_lt_mul_of_pos_right (by omega) hs
  exact ⟨by show (0 : Int) ≤ ((i * st : Nat) : Int); omega, by show ((i * st : Nat) : Int) < _; omega⟩
 ·intro y hy
  obtain ⟨i, hi, rfl⟩ := longS_mem hy
  show i % 3 < _
  omega
end Go.Bar.Bok

/-
 Layer 14: the walk of the reference's Same, of tables that are the same.
-/
namespace Go.Proofs.YtgabmfibfikdbaaGreatDoor
open Go.RowKit Go.Bar Go.Bar.Leb Go.Bar.Lab Go.Bar.Xor Go.Bar.Mrg

theorem SmsAt.at2 {w : World} {b o n c i : Nat} {l : List Sm} {x : Sm} (h : SmsAt w (.slice (some ⟨b, o, none⟩) n c) l) (hi : l[i]? = some x) : w.cell? ⟨b, o + i * 2, none⟩ = some (.int .i64 x.1) ∧ w.cell? ⟨b, o + i * 2 + 1, none⟩ = some (.int .u64 (x.2 : Nat)) := by
 obtain ⟨b', o', he, _, h1, h2⟩ := h.at_ hi
 injection he with he
 injection he with e1 e2 _
 subst e1; subst e2
 exact ⟨h1, h2⟩

set_option maxHeartbeats 8000000 in
set_option maxRecDepth 10000 in
theorem rsame_any (v v' : Value) (t t' : List Rv) (w : World) (h : TbAt w v t) (h' : TbAt w v' t') (he : t.map plR = t'.map plR) :
  Calls Tryz.prog 28 #[v, v'] w (RetBelow w (.bool true)) := by
 obtain ⟨A, c, rfl, hlc, hcm⟩ := h.shape
 obtain ⟨A', c', rfl, hlc', hcm'⟩ := h'.shape
 unfold maxLen at hcm hcm'
 have hlen : t'.length = t.length := by have := congrArg List.length he; simpa using this.symm
 obtain ⟨n, hn⟩ : ∃ n, n = t.length := ⟨_, rfl⟩
 rw [hlen]
 rw [← hn] at hlc hlen ⊢
 have HT := Lib.hid h
 have HT' := Lib.hid h'
 have HE := Lib.hid he
 have HN := Lib.hid hn
 have HL := Lib.hid hlen
 clear h h' he hn hlen hlc'
 go_enter Tryz.func28, Tryz.ntmps28
 go_wp2_with fail
 go_loopw [14] (fun i wr => ∃ k : Nat, k ≤ n ∧ i = .int .i64 k ∧ Below w.heap.size w wr) (fun i _ => n - (intOf i).toNat)
 case atStart => exact ⟨0, Nat.zero_le _, rfl, Below.refl _ _⟩
 case round =>
  obtain ⟨k, hk, rfl, hb⟩ := hrel
  by_cases hgo : k < n
  ·obtain ⟨x, hx⟩ : ∃ x, t[k]? = some x := ⟨_, List.getElem?_eq_getElem (by have := HN.out; omega)⟩
   obtain ⟨y, hy⟩ : ∃ y, t'[k]? = some y := ⟨_, List.getElem?_eq_getElem (by have := HL.out; omega)⟩
   have hxy : plR x = plR y := by
    have h1 : (t.map plR)[k]? = some (plR x) := by rw [List.getElem?_map, hx]; rfl
    have h2 : (t'.map plR)[k]? = some (plR y) := by rw [List.getElem?_map, hy]; rfl
    rw [HE.out, h2] at h1
    injection h1 with h1; exact h1.symm
   obtain ⟨b, o, rfl, _, _, hrx⟩ := (HT.out).at_ hx
   obtain ⟨b', o', rfl, _, _, hry⟩ := (HT'.out).at_ hy
   obtain ⟨L, S, la, lc, sa, sc⟩ := x
   obtain ⟨L', S', la', lc', sa', sc'⟩ := y
   obtain ⟨e1, e2⟩ : L = L' ∧ S = S' := by
    injection hxy with e1 e2
    exact ⟨e1, e2⟩
   clear hxy
   subst e1; subst e2
   have hc := fun w' (hb : Below w.heap.size w w') => rcompare_any (.slice la L.length lc) (.slice la' L.length lc') L L w' (hrx.1.below hb) (hry.1.below hb)
   rw [cmpL_self] at hc
   have HC := Lib.hid hc
   have HX := Lib.hid (fun w' (hb : Below w.heap.size w w') => show w'.cell? ⟨b, o + k * 2, none⟩ = some (.slice la L.length lc) ∧ w'.cell? ⟨b, o + k * 2 + 1, none⟩ = some (.slice sa S.length sc) from ⟨((HT.out.below hb).at2 hx).1, ((HT.out.below hb).at2 hx).2.1⟩)
   have HY := Lib.hid (fun w' (hb : Below w.heap.size w w') => show w'.cell? ⟨b', o' + k * 2, none⟩ = some (.slice la' L.length lc') ∧ w'.cell? ⟨b', o' + k * 2 + 1, none⟩ = some (.slice sa' S.length sc') from ⟨((HT'.out.below hb).at2 hy).1, ((HT'.out.below hb).at2 hy).2.1⟩)
   obtain ⟨_, _, _, hs1, hs2⟩ := hrx.2.shape
   have hsl : (S.length : Int) ≤ 9223372036854775807 := by unfold maxLen at hs2; dsimp only at hs1; omega
   have HS := Lib.hid (show SmsAt w (.slice sa S.length sc) S from hrx.2)
   have HS' := Lib.hid (show SmsAt w (.slice sa' S.length sc') S from hry.2)
   clear hx hy hrx hry hc hs1 hs2
   go_upto_region 6 with fail
   refine wp_region_known [(4, .slice la L.length lc), (9, .slice la' L.length lc'), (10, .int .i64 0), (17, .slice sa S.length sc), (23, .slice sa' S.length sc')] (by kernel_rfl) 72 (by kernel_rfl) rfl ?_
   repeat (first
    | (refine Chain.step (v := ?_) (a' := ?_) rfl rfl rfl ?_ ?_ ?_; rotate_left 2; (focus (intro w; go_simp; try with_reducible rfl)); focus (simp only [Act.put, pqA, pqS, pqZ]; try rfl))
    | (refine Chain.call (i := 4) (a' := ?_) _ rfl rfl rfl (fun wx hw => ?_) ?_ ?_; rotate_left 1; (focus (obtain ⟨g0, g1⟩ := HX.out _ (below_trans hb hw)); (go_simp; first | exact ⟨rfl, Below.refl _ _⟩ | exact Below.refl _ _)); focus (simp only [Act.put, pqA, pqS, pqZ]; try rfl))
    | (refine Chain.call (i := 9) (a' := ?_) _ rfl rfl rfl (fun wx hw => ?_) ?_ ?_; rotate_left 1; (focus (obtain ⟨g0, g1⟩ := HY.out _ (below_trans hb hw)); (go_simp; first | exact ⟨rfl, Below.refl _ _⟩ | exact Below.refl _ _)); focus (simp only [Act.put, pqA, pqS, pqZ]; try rfl))
    | (refine Chain.call (i := 10) (a' := ?_) _ rfl rfl rfl (fun wx hw => ?_) ?_ ?_; rotate_left 1; (focus (go_simp; (with_reducible refine (HC.out _ (below_trans hb hw)).mono ?_); exact (fun e w' ⟨h1, h2⟩ => by subst h1; exact ⟨rfl, h2⟩))); focus (simp only [Act.put, pqA, pqS, pqZ]; try rfl))
    | (refine Chain.call (i := 17) (a' := ?_) _ rfl rfl rfl (fun wx hw => ?_) ?_ ?_; rotate_left 1; (focus (obtain ⟨g0, g1⟩ := HX.out _ (below_trans hb hw)); (go_simp; first | exact ⟨rfl, Below.refl _ _⟩ | exact Below.refl _ _)); focus (simp only [Act.put, pqA, pqS, pqZ]; try rfl))
    | (refine Chain.call (i := 23) (a' := ?_) _ rfl rfl rfl (fun wx hw => ?_) ?_ ?_; rotate_left 1; (focus (obtain ⟨g0, g1⟩ := HY.out _ (below_trans hb hw)); (go_simp; first | exact ⟨rfl, Below.refl _ _⟩ | exact Below.refl _ _)); focus (simp only [Act.put, pqA, pqS, pqZ]; try rfl))
    | (refine Chain.skip (a' := ?_) rfl rfl rfl ?_ ?_; rotate_left 1; focus (simp only [Act.put, pqA, pqS, pqZ]; try rfl)))
   refine Chain.end_ (fun wz hwz _ => ?_)
   have hb2 := below_trans hb hwz
   obtain ⟨g0, g1⟩ := HX.out _ hb2
   clear hb hwz
   go_wp2_with fail
   go_loopw [50] (fun i wy => ∃ j : Nat, j ≤ S.length ∧ i = .int .i64 j ∧ Below w.heap.size w wy) (fun i _ => S.length - (intOf i).toNat)
   case atStart => exact ⟨0, Nat.zero_le _, rfl, hb2⟩
   case round =>
    obtain ⟨j, hj, rfl, hb3⟩ := hrel
    clear g0 g1 hb2
    by_cases hgo2 : j < S.length
    ·obtain ⟨z, hz⟩ : ∃ z, S[j]? = some z := ⟨_, List.getElem?_eq_getElem hgo2⟩
     obtain ⟨sb, so, rfl, _⟩ := HS.out.at_ hz
     obtain ⟨sb', so', rfl, _⟩ := HS'.out.at_ hz
     have HZ := Lib.hid hz
     clear hz
     go_upto_region 11 with fail
     refine wp_region_known [(4, .slice (some ⟨sb, so, none⟩) S.length sc), (7, .agg #[.int .i64 z.1, .int .u64 (z.2 : Nat)]), (12, .slice (some ⟨sb', so', none⟩) S.length sc'), (15, .agg #[.int .i64 z.1, .int .u64 (z.2 : Nat)])] (by kernel_rfl) 72 (by kernel_rfl) rfl ?_
     repeat (first
      | (refine Chain.step (v := ?_) (a' := ?_) rfl rfl rfl ?_ ?_ ?_; rotate_left 2; (focus (intro w; go_simp; try with_reducible rfl)); focus (simp only [Act.put, pqA, pqS, pqZ]; try rfl))
      | (refine Chain.call (i := 4) (a' := ?_) _ rfl rfl rfl (fun wx hw => ?_) ?_ ?_; rotate_left 1; (focus (obtain ⟨g0, g1⟩ := HX.out _ (below_trans hb3 hw)); (go_simp; first | exact ⟨rfl, Below.refl _ _⟩ | exact Below.refl _ _)); focus (simp only [Act.put, pqA, pqS, pqZ]; try rfl))
      | (refine Chain.call (i := 7) (a' := ?_) _ rfl rfl rfl (fun wx hw => ?_) ?_ ?_; rotate_left 1; (focus (obtain ⟨g0, g1⟩ := (HS.out.below (below_trans hb3 hw)).at2 HZ.out); (go_simp; first | exact ⟨rfl, Below.refl _ _⟩ | exact Below.refl _ _)); focus (simp only [Act.put, pqA, pqS, pqZ]; try rfl))
      | (refine Chain.call (i := 12) (a' := ?_) _ rfl rfl rfl (fun wx hw => ?_) ?_ ?_; rotate_left 1; (focus (obtain ⟨g0, g1⟩ := HY.out _ (below_trans hb3 hw)); (go_simp; first | exact ⟨rfl, Below.refl _ _⟩ | exact Below.refl _ _)); focus (simp only [Act.put, pqA, pqS, pqZ]; try rfl))
      | (refine Chain.call (i := 15) (a' := ?_) _ rfl rfl rfl (fun wx hw => ?_) ?_ ?_; rotate_left 1; (focus (obtain ⟨g0, g1⟩ := (HS'.out.below (below_trans hb3 hw)).at2 HZ.out); (go_simp; first | exact ⟨rfl, Below.refl _ _⟩ | exact Below.refl _ _)); focus (simp only [Act.put, pqA, pqS, pqZ]; try rfl))
      | (refine Chain.skip (a' := ?_) rfl rfl rfl ?_ ?_; rotate_left 1; focus (simp only [Act.put, pqA, pqS, pqZ]; try rfl)))
     refine Chain.end_ (fun wz2 hwz2 _ => ?_)
     have hb4 := below_trans hb3 hwz2
     clear hb3 hwz2
     go_wp2_with fail
     go_roundw
     case rel => exact ⟨j + 1, by omega, by go_num, hb4⟩
     case measure => simp [intOf]; omega
    ·obtain rfl : j = S.length := by omega
     go_wp2_with fail
     go_roundw
     case rel => exact ⟨k + 1, by omega, by go_num, hb3⟩
     case measure => simp [intOf]; omega
  ·obtain rfl : k = n := by omega
   go_wp2_with fail
   go_ret
   exact ⟨rfl, hb⟩
end Go.Proofs.YtgabmfibfikdbaaGreatDoor

/-
 Layer 16: the laws' own functions: Long, awake; Build, Table, Entries as the laws call them.
-/
namespace Go.Proofs.YtgabmfibfikdbaaGreatDoor
open Go.RowKit Go.Bar Go.Bar.Leb Go.Bar.Frm Go.Bar.Lab Go.Bar.Xor Go.Bar.Mrg Go.Bar.Met Go.Bar.Bok

theorem SlAt.none0 (w : World) (sz : Nat) : SlAt w sz (.slice none 0 0) 0 [] := ⟨by simp, _, _, rfl, Nat.le_refl _, by decide, fun h => absurd h (by simp)⟩

def RetF (w : World) (m : Mt) (C I : List UInt8) (e : Ending) (w' : World) : Prop :=
 ∃ F fc S sc, e = .returned (.tuple #[.agg #[.string (bs m.id), .int .i64 m.mn, .int .i64 m.mx, .int .i64 m.lv, .int .i64 m.sr, .int .i64 m.sm, .slice F 2 fc, .slice S 0 sc, .string (bs C), .string (bs I)], .int .i64 0]) ∧ FlsAt w' (.slice F 2 fc) m.fs ∧ Below w.heap.size w w'
theorem built (t s : Nat) (b lv : Int) (tv : Value) (T : List Rv) (R : List Row) (w : World) (hW : WidthsAt w) (hT : TbAt w tv T) (he : T.map plR = R) (hs : SmallT 0 b R) (hb : 0 < b) (hb2 : b ≤ 1099511627776) (h1 : 1 ≤ lv) (h9 : lv ≤ 9) (ht : t < 32 ^ 8) (hs2 : s < 32 ^ 8) :
  Calls Tryz.prog 22 #[.string (bs (Idt.mk t s)), .int .i64 0, .int .i64 b, .int .i64 lv, .slice none 0 0, tv] w (RetF w (bMt (Idt.mk t s) 0 b lv [] R) (bCh R) (idxB (bEn R 0))) := by
 have hl : T.length = R.length := by rw [← he, List.length_map]
 subst he
 have hch := hs.ch (Int.le_refl _) hb2
 have hix := hs.idx (Int.le_refl _) hb2
 have hc := hs.cnt
 have hn := hs.n
 refine (kbuild_ok (Idt.mk t s) 0 b lv (.slice none 0 0) [] tv T w hW (SlAt.none0 w 1) hT (by rw [Idt.mk_length]; omega) ⟨Nat.zero_le _, fun s hs => by cases hs⟩ (by omega) (fun r hr => ⟨hs.smok (Int.le_refl _) hb2 r hr, by have := hs.len r hr; omega⟩) (fun r hr => ?_) (by omega) (by omega) (by omega) (hs.bd (Int.le_refl _) hb hb2 h1 h9 ht hs2)).mono ?_
 ·obtain ⟨k, hk⟩ := hs.lab r hr
  have hok := lab5_ok k
  rw [← hk] at hok
  exact ⟨by have := hok.2.1; omega, fun p hp => by have h1 := okP_len (hok.2.2.1 p hp); omega⟩
 ·rintro e w' (⟨_, F, fc, S, sc, rfl, hf, _, hbl⟩ | ⟨h, _⟩)
  ·exact ⟨F, fc, S, sc, rfl, SlAt.of_buf hf, hbl⟩
  ·exact absurd (hs.bd (Int.le_refl _) hb hb2 h1 h9 ht hs2) h
def RetT0 (w : World) (R : List Row) (e : Ending) (w' : World) : Prop := ∃ v t, e = .returned (.tuple #[v, .int .i64 0]) ∧ RTb w w' 94 v t ∧ t.map plR = R
theorem tabled (t s : Nat) (b lv : Int) (R : List Row) (F : Option Addr) (fc : Nat) (S : Option Addr) (sc : Nat) (w : World) (hW : WidthsAt w) (hF : FlsAt w (.slice F 2 fc) (bMt (Idt.mk t s) 0 b lv [] R).fs) (hs : SmallT 0 b R) (hb : 0 < b) (hb2 : b ≤ 1099511627776) (h1 : 1 ≤ lv) (h9 : lv ≤ 9) (ht : t < 32 ^ 8) (hs2 : s < 32 ^ 8) :
  Calls Tryz.prog 27 #[.agg #[.string (bs (Idt.mk t s)), .int .i64 0, .int .i64 b, .int .i64 lv, .int .i64 (R.length : Nat), .int .i64 (cntR R : Nat), .slice F 2 fc, .slice S 0 sc, .string (bs (bCh R)), .string (bs (idxB (bEn R 0)))]] w (RetT0 w R) := by
 have hch := hs.ch (Int.le_refl _) hb2
 have hix := hs.idxB (Int.le_refl _) hb2
 refine (ktable_ok (bMt (Idt.mk t s) 0 b lv [] R) ⟨chunksN, (bCh R).length, Frm.sum (bCh R)⟩ ⟨indexN, (idxB (bEn R 0)).length, Frm.sum (idxB (bEn R 0))⟩ rfl (.slice F 2 fc) (.slice S 0 sc) (bCh R) (idxB (bEn R 0)) w hW hF (by omega) (by omega) (by rw [hs.back (Int.le_refl _) hb hb2 h1 h9 ht hs2])).mono ?_
 rw [hs.back (Int.le_refl _) hb hb2 h1 h9 ht hs2]
 exact fun e w' h => h
def RetEs0 (w : World) (R : List Row) (e : Ending) (w' : World) : Prop := ∃ v l, e = .returned (.tuple #[v, .int .i64 0]) ∧ DEs w w w w' 45 128 v l ∧ l.map plE = bEn R 0
theorem entried (b : Int) (R : List Row) (w : World) (hs : SmallT 0 b R) (hb2 : b ≤ 1099511627776) : Calls Tryz.prog 10 #[.string (bs (idxB (bEn R 0)))] w (RetEs0 w R) := by
 have hch := hs.ch (Int.le_refl _) hb2
 have hix := hs.idx (Int.le_refl _) hb2
 have hixB := hs.idxB (Int.le_refl _) hb2
 have hn := hs.n
 refine (kentries_any (idxB (bEn R 0)) w (by omega)).mono ?_
 rw [entriesR_of (bEn_ok (hs.row (Int.le_refl _) hb2) hs.good (by omega)) (bEn_rls R 0 hs.good.1) (by rw [bEn_len]; omega) (by omega)]
 exact fun e w' h => h

set_option maxHeartbeats 8000000 in
set_option maxRecDepth 10000 in
theorem long_any (n st : Nat) (w : World) (hn : n ≤ 400) (hs : st ≤ 1000) : Calls Tryz.prog 34 #[.int .i64 (n : Nat), .int .i64 (st : Nat)] w (RetTb w 94 (longT n st)) := by
 have hl : ∀ w, Calls Tryz.prog 56 #[.int .u8 0] w (RetN14 w 128 (lab5 0)) := fun w => labels_any 0 w
 obtain ⟨L, hL⟩ : ∃ L, L = lab5 0 := ⟨_, rfl⟩
 rw [← hL] at hl
 have HL := Lib.hid hL
 have hmin : min (n : Int) 400 = (n : Int) := by omega
 clear hL
 go_enter Tryz.func34, Tryz.ntmps34
 go_wp2_with fail
 refine (hl _).mono ?_
 rintro e w1 ⟨lv, rfl, hlv⟩
 obtain ⟨lA, lc, rfl, hlc⟩ := hlv.buf.shape
 have HLV := Lib.hid hlv
 clear hl hlv
 go_upto_region 3 with fail
 obtain ⟨wz, hwz⟩ : ∃ wz, wz = w1.alloc (.cells #[.slice lA L.length lc, .slice none 0 0] 94) := ⟨_, rfl⟩
 have X1 : Hid (Blk wz w1.heap.size 94 #[.slice lA L.length lc, .slice none 0 0]) := Lib.hid (by rw [hwz]; exact Blk.new _ _ _)
 have b1 : Below w1.heap.size w1 wz := by rw [hwz]; exact below_al _ _
 obtain ⟨X, hX⟩ : ∃ X, X = w1.heap.size := ⟨_, rfl⟩
 have HLZ := Lib.hid (HLV.out.then_below b1)
 have HXw : Hid (w.heap.size ≤ X) := Lib.hid (by rw [hX]; exact HLV.out.below.size)
 rw [← hwz, ← hX]
 rw [← hX] at X1
 clear hwz hX HLV b1
 go_loopw [6] (fun iv wr => ∃ (k : Nat) (sv : Value), iv = .int .i64 k ∧ k ≤ n ∧ Hid (Blk wr X 94 #[.slice lA L.length lc, sv]) ∧ Hid (NBuf w wr 41 2 sv k (smc (longS k st))) ∧ Hid (NBuf w wr 128 2 (.slice lA L.length lc) L.length (pcs L))) (fun iv _ => n - (intOf iv).toNat)
 case atStart => exact ⟨0, _, rfl, Nat.zero_le _, X1, Lib.hid (NBuf.nil HLZ.out.below _ _), HLZ⟩
 case round =>
  obtain ⟨k, sv, rfl, hk, HX, HS, HLR⟩ := hrel
  clear X1 HLZ
  obtain ⟨sA, sc, rfl, hsc⟩ := HS.out.buf.shape
  obtain ⟨r0, r1⟩ := HX.out.c2
  by_cases hgo : k < n
  ·have hmul : (k : Int) * (st : Int) = ((k * st : Nat) : Int) := by rw [Int.natCast_mul]
   have hkst : k * st ≤ 400000 := Nat.le_trans (Nat.mul_le_mul (by omega : k ≤ 400) hs) (by decide)
   have hw1 : wrap64 ((k * st : Nat) : Int) = ((k * st : Nat) : Int) := by unfold wrap64; omega
   obtain ⟨m3, hm3⟩ : ∃ m, m = k % 3 := ⟨_, rfl⟩
   have hmod : (k : Int) % 3 = ((m3 : Nat) : Int) := by omega
   have HM3 := Lib.hid hm3
   have hm3b : m3 < 3 := by omega
   obtain ⟨T, hT⟩ : ∃ T, T = k * st := ⟨_, rfl⟩
   rw [← hT] at hmul hkst hw1
   have HT := Lib.hid hT
   have f1 := HX.out.free 1
   have hlit := below_al wr (.cells #[.int .i64 (T : Nat), .int .u64 (m3 : Nat)] 41)
   have HN1 := Lib.hid (HS.out.then_below hlit)
   have HX1 := Lib.hid (HX.out.below hlit)
   have HL1 := Lib.hid (HLR.out.then_below hlit)
   clear hT hlit hm3
   go_wp2_with (at_builtin; refine wpList_append_nlit rfl (.tmp 16) (.tmp 24) 32 rfl sm_ty rfl HS.out rfl (by simp) rfl (by simp [Value.oneCell']) (by simp only [maxLen]; omega) (by omega) ?_; intro v7 w7 hn7 ha7; have hk7 := Ke.of_ap (Ts := fun U => U = 41) HN1.out.buf ha7 rfl; have HX7 := Lib.hid (hk7.blk HX1.out (by decide)); have HL7 := Lib.hid (nbuf_ke HL1.out hk7 hn7.below (by decide)); have HN7 := Lib.hid hn7; have f7 := HX7.out.free 1; obtain ⟨_, q1⟩ := HX7.out.c2; clear hk7 ha7 hn7; obtain ⟨nA, nc, rfl, hnc⟩ := HN7.out.buf.shape)
   have HN8 := Lib.hid (HN7.out.set_ne HX7.out (by decide) HXw.out 1 (.slice nA (k + 1) nc))
   have HL8 := Lib.hid (HL7.out.set_ne HX7.out (by decide) HXw.out 1 (.slice nA (k + 1) nc))
   have HX8 := Lib.hid (show Blk _ X 94 #[.slice lA L.length lc, .slice nA (k + 1) nc] by simpa using HX7.out.set 1 (.slice nA (k + 1) nc))
   clear HN7 HL7 HX7 f7 q1 HX1 HN1 HL1
   go_roundw
   case rel =>
    refine ⟨k + 1, .slice nA (k + 1) nc, by go_num, hgo, HX8, Lib.hid ?_, HL8⟩
    have h8 := HN8.out
    rw [longS_succ, smc_append, ← HT.out, ← HM3.out]
    exact h8
   case measure => simp [intOf]; omega
  ·obtain rfl : k = n := by omega
   have hn := nbuf_lit (W := w) (w := wr) HS.out.below 94 2 1 [.slice lA L.length lc, .slice sA k sc] rfl (by decide)
   have HN := Lib.hid hn
   clear hn
   go_wp2_with fail
   go_ret
   have hb := below_al wr (.cells #[.slice lA L.length lc, .slice sA k sc] 94)
   refine ⟨_, [⟨L, longS k st, lA, lc, sA, sc⟩], rfl, ⟨?_, fun x hx => ?_⟩, ?_⟩
   ·have h8 := HN.out
    show NBuf _ _ _ _ _ 1 [.slice lA L.length lc, .slice sA (longS k st).length sc]
    rw [longS_len]
    exact h8
   ·obtain rfl := List.mem_singleton.1 hx
    refine ⟨(HLR.out.then_below hb).slice, ?_⟩
    have h8 := (HS.out.then_below hb).slice
    show SmsAt _ (.slice sA (longS k st).length sc) (longS k st)
    unfold SmsAt
    rw [longS_len]
    exact h8
   ·rw [HL.out]; rfl

theorem bCh_one (L : List Pr) (S : List Sm) : bCh [(L, S)] = chB S := by simp [bCh]

set_option maxHeartbeats 16000000 in
set_option maxRecDepth 10000 in
theorem awake16_any (w : World) (hW : WidthsAt w) : Calls Tryz.prog 14 #[] w (RetBelow w (.bool true)) := by
 have hs : SmallT 0 1000 (longT 121 5) := by
  have h := long_small (n := 121) (st := 5) (b := 2000) (by decide) (by decide) (by decide) (by decide)
  refine ⟨h.good, h.n, h.lab, h.ne, h.len, fun r hr y hy => ?_, h.v⟩
  obtain rfl := List.mem_singleton.1 hr
  obtain ⟨i, hi, rfl⟩ := longS_mem hy
  exact ⟨by show (0 : Int) ≤ ((i * 5 : Nat) : Int); omega, by show ((i * 5 : Nat) : Int) < _; omega⟩
 have hm : ∀ w, Calls Tryz.prog 30 #[.int .i64 1, .int .i64 1] w (RetBelow w (.tuple #[.string (bs (Idt.mk 1 1)), .int .i64 0])) := fun w => make_ok 1 1 w ⟨by decide, by decide⟩ ⟨by decide, by decide⟩
 have hl : ∀ w, Calls Tryz.prog 34 #[.int .i64 121, .int .i64 5] w (RetTb w 94 (longT 121 5)) := fun w => long_any 121 5 w (by decide) (by decide)
 obtain ⟨R, hR⟩ : ∃ R, R = longT 121 5 := ⟨_, rfl⟩
 have hR1 : ∃ L S, R = [(L, S)] ∧ S.length = 121 := ⟨_, _, hR, longS_len _ _⟩
 rw [← hR] at hs hl
 obtain ⟨I, hI⟩ : ∃ I, I = Idt.mk 1 1 := ⟨_, rfl⟩
 rw [← hI] at hm
 have hbu := fun tv T w hW hT he => built 1 1 1000 1 tv T R w hW hT he hs (by decide) (by decide) (by decide) (by decide) (by decide) (by decide)
 have hta := fun F fc S sc w hW hF => tabled 1 1 1000 1 R F fc S sc w hW hF hs (by decide) (by decide) (by decide) (by decide) (by decide) (by decide)
 have hen := fun w => entried 1000 R w hs (by decide)
 rw [← hI] at hbu hta
 unfold RetF bMt at hbu
 dsimp only at hbu
 unfold bMt at hta
 dsimp only at hta
 obtain ⟨C, hC⟩ : ∃ C, C = bCh R := ⟨_, rfl⟩
 obtain ⟨X, hX⟩ : ∃ X, X = idxB (bEn R 0) := ⟨_, rfl⟩
 rw [← hC, ← hX] at hbu hta
 rw [← hX] at hen
 have HR1 := Lib.hid hR1
 have HBU := Lib.hid hbu
 have HTA := Lib.hid hta
 have HEN := Lib.hid hen
 have HC := Lib.hid hC
 have HW := Lib.hid hW
 clear hs hR hR1 hI hbu hta hen hC hX hW
 go_enter Tryz.func14, Tryz.ntmps14
 go_wp2_with fail
 refine (hm _).mono ?_
 rintro e w1 ⟨rfl, hb1⟩
 have HB1 := Lib.hid hb1
 clear hb1 hm
 go_wp2_with fail
 refine (hl _).mono ?_
 rintro e w2 ⟨v2, t2, rfl, ht2, he2⟩
 have HB2 := Lib.hid (below_trans HB1.out ht2.1.below)
 have hb3 := HBU.out v2 t2 w2 (HW.out.below HB2.out) ht2.tb he2
 have HB3 := Lib.hid hb3
 clear hb3 ht2 he2 HBU hl HB1
 go_wp2_with fail
 refine HB3.out.mono ?_
 rintro e w3 ⟨F, fc, S, sc, rfl, hf, hb⟩
 have HB4 := Lib.hid (below_trans HB2.out hb)
 have HF := Lib.hid hf
 clear hf hb HB3 HB2
 go_upto_region 3 with fail
 obtain ⟨wz, hwz⟩ : ∃ wz, wz = w3.alloc (.cells #[.string (bs I), .int .i64 0, .int .i64 1000, .int .i64 1, .int .i64 (R.length : Nat), .int .i64 (cntR R : Nat), .slice F 2 fc, .slice S 0 sc, .string (bs C), .string (bs X)] 64) := ⟨_, rfl⟩
 have X1 : Hid (Blk wz w3.heap.size 64 #[.string (bs I), .int .i64 0, .int .i64 1000, .int .i64 1, .int .i64 (R.length : Nat), .int .i64 (cntR R : Nat), .slice F 2 fc, .slice S 0 sc, .string (bs C), .string (bs X)]) := Lib.hid (by rw [hwz]; exact Blk.new _ _ _)
 have b1 : Below w3.heap.size w3 wz := by rw [hwz]; exact below_al _ _
 obtain ⟨Q, hQ⟩ : ∃ Q, Q = w3.heap.size := ⟨_, rfl⟩
 have HB5 := Lib.hid (below_trans HB4.out b1)
 have HF5 := Lib.hid (HF.out.below b1)
 rw [← hwz, ← hQ]
 rw [← hQ] at X1
 clear hwz hQ b1 HB4 HF
 obtain ⟨k0, k1, k2, k3, k4, k5, k6, k7, k8, k9⟩ := X1.out.c10
 go_wp2_with fail
 refine (HEN.out _).mono ?_
 rintro e w6 ⟨v6, es, rfl, hes, hpl⟩
 have HB6 := Lib.hid (below_trans HB5.out hes.n.below)
 have HF6 := Lib.hid (HF5.out.below hes.n.below)
 have X6 := Lib.hid (X1.out.below hes.n.below)
 have HES := Lib.hid hes
 have HPL := Lib.hid hpl
 clear hes hpl HB5 HF5 X1 k0 k1 k2 k3 k4 k5 k6 k7 k8 k9 HEN
 obtain ⟨k0, k1, k2, k3, k4, k5, k6, k7, k8, k9⟩ := X6.out.c10
 have hta := HTA.out F fc S sc w6 (HW.out.below HB6.out) HF6.out
 have HT := Lib.hid hta
 clear hta HTA HF6
 go_wp2_with fail
 refine HT.out.mono ?_
 rintro e w7 ⟨v7, t7, rfl, ht7, he7⟩
 have HB7 := Lib.hid (below_trans HB6.out ht7.1.below)
 have X7 := Lib.hid (X6.out.below ht7.1.below)
 have HES7 := Lib.hid (HES.out.below ht7.1.below)
 obtain ⟨L, S2, hR, hSl⟩ := HR1.out
 have hpl := HPL.out
 rw [hR] at hpl he7
 obtain ⟨⟨ls, la, lc, fr, n, mn, mx⟩, rfl⟩ : ∃ x, es = [x] := by
  match es, congrArg List.length hpl with
  | [x], _ => exact ⟨x, rfl⟩
 obtain ⟨⟨rl, rs, ra, rc, sa, sc2⟩, rfl⟩ : ∃ x, t7 = [x] := by
  match t7, congrArg List.length he7 with
  | [x], _ => exact ⟨x, rfl⟩
 have hn : n = (C.length : Int) := by
  have h1 : (⟨ls, fr, n, mn, mx⟩ : En) = ⟨L, 0, ((chB S2).length : Nat), first S2, last S2⟩ := by injection hpl
  rw [HC.out, hR, bCh_one]
  exact congrArg En.n h1
 have hrs : rs.length = 121 := by
  have h1 : (rl, rs) = (L, S2) := by injection he7
  rw [(Prod.mk.inj h1).2]; exact hSl
 have hcn : cntR R = 121 := by rw [hR]; show cntR ([] ++ [(L, S2)]) = _; rw [cntR_snoc]; show 0 + S2.length = _; omega
 obtain ⟨oA, oc, rfl, hoc⟩ := HES7.out.n.buf.shape
 obtain ⟨tA, tc, rfl, htc⟩ := ht7.1.buf.shape
 obtain ⟨eb, eo, rfl, _, _, _, _, g2, _, _⟩ := (HES7.out.at_ (HES7.out.n.below)).at_ (i := 0) rfl
 obtain ⟨tb, to_, rfl, _, f1, _⟩ := ht7.tb.at_ (i := 0) rfl
 dsimp only at g2 f1
 subst hn
 rw [hrs] at f1
 rw [hcn] at X7
 obtain ⟨k0, k1, k2, k3, k4, k5, k6, k7, k8, k9⟩ := X7.out.c10
 clear ht7 hpl he7 hrs hcn hSl hR HC HPL HR1 HES X6 HB6 HT
 go_wp2_with fail
 go_quiet (fail)
 go_wp2_with fail
 go_ret
 exact ⟨rfl, below_trans HB7.out (below_draws _ _)⟩
end Go.Proofs.YtgabmfibfikdbaaGreatDoor

/-
 Layer 16: what the laws' frames take.
-/
namespace Go.Proofs.YtgabmfibfikdbaaGreatDoor
open Go.RowKit Go.Bar Go.Bar.Xor Go.ChangeShapes Go.WideShapes Go.ChangeAt Go.Deep

theorem law_own : ownKnob Tryz.prog.godebug = none := by kernel_rfl
theorem law_laid : laidOutB Tryz.prog = true := by kernel_rfl
theorem g_widths : Tryz.prog.globalNamed "barograph/xor.widths" = some 1 := by kernel_rfl
theorem t_widths : (Tryz.prog.globals[1]?).map (·.type) = some 230 := by kernel_rfl
set_option maxRecDepth 100000 in
theorem of_laid {W : World} (h : laidMetH Tryz.prog [("barograph/xor.widths", Rows.laid_barograph_xor_widths), ("unicode/utf8.acceptRanges", Rows.laid_unicode_utf8_acceptRanges), ("unicode/utf8.first", Rows.laid_unicode_utf8_first)] W) : WidthsAt W := by
 rw [MakeChecks.laidMetH_plain _ _ _ (by kernel_rfl)] at h
 obtain ⟨ps, ⟨g0, t0, cs0, f0, p0, q0, hg0, ht0, hv0, hd0, _, _⟩, _, _⟩ := h
 obtain rfl := Option.some.inj (g_widths.symm.trans hg0)
 obtain rfl := Option.some.inj (t_widths.symm.trans ht0)
 obtain ⟨xs, m1, rfl, hx1, hlen, hn3, hel⟩ := DataW.trod_array Tryz.underlying230 hd0
 have c3 : Tryz.prog.cellsOf 3 = 1 := by kernel_rfl
 have c94 : Tryz.prog.cellsOf 230 = 5 := by kernel_rfl
 rw [c94] at hlen
 obtain ⟨l, hcs⟩ : ∃ l, cs0.toList = l := ⟨_, rfl⟩
 rw [hcs] at hlen hel
 simp only [Prod.mk.injEq] at hx1
 have hx := hx1.1
 match xs, hn3, hx, hel with
 | [x0, x1, x2, x3, x4], _, hx, hel =>
  match l, hlen, hcs, hel with
  | [a0, a1, a2, a3, a4], _, hcs, hel =>
   simp only [Rows.laid_barograph_xor_widths, DataW.agg.injEq, List.map_cons, List.map_nil, List.cons.injEq, and_true] at hx
   obtain ⟨y0, y1, y2, y3, y4⟩ := hx
   have hcell : ∀ i, W.cell? ⟨1, i, none⟩ = [a0, a1, a2, a3, a4][i]? := fun i => by
    have := World.var?_cell hg0 hv0 i
    rw [← hcs, Array.getElem?_toList]
    exact this
   have h0 := hel 0 (by decide)
   have h1 := hel 1 (by decide)
   have h2 := hel 2 (by decide)
   have h3 := hel 3 (by decide)
   have h4 := hel 4 (by decide)
   rw [c3] at h0 h1 h2 h3 h4
   have val : ∀ (a : Value) (x : DataW Unit × List MemPlace) (k : Int), DataW.trod (fun _ => ()) Tryz.prog W 0 (fun _ => true) false m1 3 [a] = some x → DataW.lit (.int .i64 k) = x.1 → a = .int .i64 k := fun a x k hd hk => by
    obtain ⟨z, e1, e2, _⟩ := DataW.trod_int Tryz.underlying3 hd
    rw [e2] at hk
    simp only [DataW.lit.injEq, Lit.int.injEq, true_and] at hk
    subst hk
    simpa using e1
   refine ⟨fun k hk => ?_⟩
   rw [hcell]
   rcases (show k = 0 ∨ k = 1 ∨ k = 2 ∨ k = 3 ∨ k = 4 by omega) with rfl | rfl | rfl | rfl | rfl
   ·exact congrArg some (val a0 x0 0 h0 y0)
   ·exact congrArg some (val a1 x1 7 h1 y1)
   ·exact congrArg some (val a2 x2 12 h2 y2)
   ·exact congrArg some (val a3 x3 20 h3 y3)
   ·exact congrArg some (val a4 x4 64 h4 y4)

theorem door_met (os : Os) (args : Array Value) : laidMetH Tryz.prog [("barograph/xor.widths", Rows.laid_barograph_xor_widths), ("unicode/utf8.acceptRanges", Rows.laid_unicode_utf8_acceptRanges), ("unicode/utf8.first", Rows.laid_unicode_utf8_first)] ((World.laidAll Tryz.prog os [("barograph/xor.widths", Rows.laid_barograph_xor_widths), ("unicode/utf8.acceptRanges", Rows.laid_unicode_utf8_acceptRanges), ("unicode/utf8.first", Rows.laid_unicode_utf8_first)]).forCall (fun _ _ => 0) ⟨#[], args, []⟩).memory := by
 rw [MakeChecks.laidMetH_plain _ _ _ (by kernel_rfl)]; exact laidMet_laidAll _ (by kernel_rfl) (by kernel_rfl)

end Go.Proofs.YtgabmfibfikdbaaGreatDoor

/-
 Layer 2: the walks of the document's answer (barographref02): it computes what frame computes.
-/
namespace Go.Proofs.YtgabmfibfikdbaaGreatDoor
open Go.RowKit Go.Bar Go.Bar.Leb Go.Bar.Frm

theorem ref_yes {D y : Nat} (hD : D < 4294967296) (h : (((D : Int) + (y : Int)) % 2 == 1) = true) : bits .xor .u32 ((D : Int) / 2) 2197175160 = ((bstep D y : Nat) : Int) := by
 rw [beq_iff_eq] at h
 unfold bstep
 rw [if_pos (by omega)]
 have := u32_xor_nat (D / 2) 2197175160 (by omega) (by omega)
 rw [← this]
 rfl
theorem ref_no {D y : Nat} (h : (((D : Int) + (y : Int)) % 2 == 1) = false) : (D : Int) / 2 = ((bstep D y : Nat) : Int) := by
 rw [beq_eq_false_iff_ne] at h
 unfold bstep
 rw [if_neg (by omega)]
 rfl

set_option maxHeartbeats 1000000 in
set_option maxRecDepth 10000 in
theorem refSum_any (s : ByteArray) (w : World) (hs : s.size ≤ 1000000000000) :
  Calls Tryz.prog 66 #[.string s] w (RetBelow w (.int .u32 (sum s.data.toList))) := by
 go_enter Tryz.func66, Tryz.ntmps66
 go_wp2_with ((with_reducible refine wpList_bytes rfl (.tmp 8) 96 9 rfl bytes_ty Tryz.underlying9 s rfl (by unfold maxLen; omega) ?_); intro v w1 hb hbl hown; obtain ⟨A, c, rfl, hle⟩ := Buf.shape hb; clear hown)
 go_loop [3, 11] (fun c i => ∃ k C : Nat, k ≤ s.data.toList.length ∧ i = .int .i64 k ∧ C < 4294967296 ∧ c = .int .u32 C ∧ Hid (C = crc (no 0) (s.data.toList.take k))) (fun _ i => s.data.toList.length - (intOf i).toNat)
 case atStart => exact ⟨0, 4294967295, Nat.zero_le _, rfl, by omega, rfl, rfl⟩
 case round =>
  obtain ⟨k, C, hk, rfl, hC, rfl, HC⟩ := hrel
  by_cases hlt : k < s.data.toList.length
  ·obtain ⟨b, o, rfl, hbw, hc⟩ := Buf.cell hb (by omega)
   obtain ⟨x, hx⟩ : ∃ x, s.data.toList[k]? = some x := ⟨_, List.getElem?_eq_getElem hlt⟩
   have hck : w1.cell? ⟨b, o + k, none⟩ = some (.int .u8 x.toNat) := by rw [hc k (by omega)]; simp only [bcs, List.getElem?_map, hx]; rfl
   have hx2 := UInt8.toNat_lt x
   have HX := Lib.hid hx
   clear hc hx
   go_wp2
   go_loop [3, 5, 6] (fun c b i => ∃ j D y : Nat, j ≤ 8 ∧ i = .int .i64 j ∧ D < 4294967296 ∧ y < 256 ∧ c = .int .u32 D ∧ b = .int .u8 y ∧ Hid (D = bsteps j C x.toNat ∧ y = x.toNat / 2 ^ j)) (fun _ _ i => 8 - (intOf i).toNat)
   case atStart => exact ⟨0, C, x.toNat, by omega, rfl, hC, hx2, rfl, rfl, rfl, by simp⟩
   case round =>
    obtain ⟨j, D, y, hj, rfl, hD, hy, rfl, rfl, HD⟩ := hrel
    by_cases hj8 : j < 8
    ·go_wp2
     all_goals
      go_round
      case rel => exact ⟨j + 1, bstep D y, y / 2, by omega, by go_num, bstep_lt hD, by omega, by first | rw [ref_yes hD (by assumption)] | rw [ref_no (by assumption)], rfl, by rw [HD.out.1, HD.out.2]; rfl, by rw [HD.out.2, Nat.div_div_eq_div_mul, Nat.pow_succ]⟩
      case measure => simp [intOf]; omega
    ·obtain rfl : j = 8 := by omega
     go_wp2
     go_round
     case rel => exact ⟨k + 1, D, by omega, by go_num, hD, rfl, by
      obtain ⟨h1, h2⟩ := List.getElem?_eq_some_iff.1 HX.out
      show D = _
      rw [HD.out.1, HC.out, List.take_succ_eq_append_getElem h1, crc_snoc, h2]⟩
     case measure => simp [intOf]; omega
  ·go_wp2
   go_ret
   refine ⟨?_, hbl⟩
   rw [List.take_of_length_le (by omega)] at HC
   have := crc_lt s.data.toList (no_lt 0)
   have e : (4294967295 - (C : Int)) = ((sum s.data.toList : Nat) : Int) := by
    rw [HC.out]; unfold sum more
    show _ = ((4294967295 - crc (no 0) s.data.toList : Nat) : Int)
    omega
   rw [← e]
   rfl

theorem sum4_next (S j : Nat) (h : j < 4) : (sum4 S).take (j + 1) = (sum4 S).take j ++ [UInt8.ofNat (S / 256 ^ j)] := by
 rcases j with _ | _ | _ | _ | j <;> first | (exfalso; omega) | simp [sum4]

set_option maxHeartbeats 1000000 in
set_option maxRecDepth 10000 in
theorem refBytes_any (k : UInt8) (d : List UInt8) (W : World) (hd : d.length ≤ 100000000000) :
  Calls Tryz.prog 53 #[.agg #[.int .u8 k.toNat, .string (bs d)]] W (RetBelow W (.string (bs (rec (k, d))))) := by
 have hc1 := conv_one bytes_ty 9 Tryz.underlying9 (W.alloc (.cells #[.int .u8 k.toNat, .string (bs d)] 108)) (k.toNat : Int) k rfl
 rw [show (W.alloc (.cells #[.int .u8 k.toNat, .string (bs d)] 108)).heap.size = W.heap.size + 1 by simp] at hc1
 have hul := u_len d.length (by omega)
 go_enter Tryz.func53, Tryz.ntmps53
 go_wp2_with fail
 refine (refSum_any (bs (k :: d)) _ (by rw [bs_size]; simp; omega)).mono ?_
 rintro e w1 ⟨rfl, hb1⟩
 have c1 : w1.cell? ⟨W.heap.size, 1, none⟩ = some (.string (bs d)) := by rw [hb1.cell (by simp; omega)]; simp
 have hbl : Below (W.alloc (.cells #[.int .u8 k.toNat, .string (bs d)] 108)).heap.size (W.alloc (.cells #[.int .u8 k.toNat, .string (bs d)] 108)) w1 := ((Below.refl _ _).alloc (Nat.le_refl _) _).trans (hb1.mono (by simp))
 clear hb1 hc1
 go_wp2_with fail
 refine (refUint_any d.length _ (by omega)).mono ?_
 rintro e w2 ⟨rfl, hb2⟩
 have hbl := below_trans hbl hb2
 clear hb2 c1
 have hS := sum_lt (k :: d)
 rw [bs_data]
 obtain ⟨S, hSe⟩ : ∃ S, S = sum (k :: d) := ⟨_, rfl⟩
 rw [← hSe] at hS ⊢
 have HS := Lib.hid hSe
 clear hSe
 go_wp2_with fail
 go_loopw [4, 5, 6] (fun m s i wr => ∃ (j M : Nat), j ≤ 4 ∧ i = .int .i64 j ∧ M < 4294967296 ∧ m = .int .u32 M ∧ s = .string (bs (k :: (u d.length ++ (sum4 S).take j))) ∧ Hid (M = S / 256 ^ j) ∧ Below (W.alloc (.cells #[.int .u8 k.toNat, .string (bs d)] 108)).heap.size (W.alloc (.cells #[.int .u8 k.toNat, .string (bs d)] 108)) wr)
  (fun _ _ i _ => 4 - (intOf i).toNat)
 case atStart => exact ⟨0, S, by omega, rfl, hS, rfl, by simp, (by simp : S = S / 256 ^ 0), hbl⟩
 case round =>
  obtain ⟨j, M, hj, rfl, hM, rfl, rfl, HM, hbr⟩ := hrel
  clear hbl
  have c1 : wr.cell? ⟨W.heap.size, 1, none⟩ = some (.string (bs d)) := by rw [hbr.cell (by simp)]; simp
  by_cases hj4 : j < 4
  ·have hc1 := fun w => conv_one bytes_ty 9 Tryz.underlying9 w ((M : Int) % 256) (UInt8.ofNat M) (by simp)
   go_wp2_with fail
   go_roundw
   case rel => exact ⟨j + 1, M / 256, by omega, by go_num, by omega, rfl, by rw [sum4_next S j hj4, HM.out], (by rw [HM.out, Nat.div_div_eq_div_mul, Nat.pow_succ] : M / 256 = S / 256 ^ (j + 1)), hbr.alloc hbr.size _⟩
   case measure => simp [intOf]; omega
  ·obtain rfl : j = 4 := by omega
   go_wp2_with fail
   go_ret
   refine ⟨?_, ((Below.refl _ _).alloc (Nat.le_refl _) _).trans (hbr.mono (by simp))⟩
   have e : bs (k :: (u d.length ++ (sum4 S ++ d))) = bs (rec (k, d)) := by simp [rec, rsum, HS.out]
   rw [← e]
   rfl

theorem refNext_bytes (k : UInt8) (l : List UInt8) (n : Nat) (r : List UInt8) (h : takeMost l 1048576 = (n, r, 0)) (h2 : 4 + n ≤ r.length) :
  rec (k, (r.drop 4).take n) = (k :: l).take (rec (k, (r.drop 4).take n)).length ↔ rsum (k, (r.drop 4).take n) = num4 r := by
 have ho := takeMost_one l 1048576 (by rw [h])
 rw [h] at ho
 simp only at ho
 have hd : ((r.drop 4).take n).length = n := by rw [List.length_take, List.length_drop]; omega
 have hl : rec (k, (r.drop 4).take n) = k :: (u n ++ (sum4 (rsum (k, (r.drop 4).take n)) ++ (r.drop 4).take n)) := by simp [rec, hd]
 have hll : (rec (k, (r.drop 4).take n)).length = (u n).length + 4 + n + 1 := by rw [rec_len, hd]; omega
 have e : (k :: l).take ((u n).length + 4 + n + 1) = k :: (u n ++ (r.take 4 ++ (r.drop 4).take n)) := by
  rw [List.take_succ_cons, ← ho, show (u n).length + 4 + n = (u n).length + (4 + n) by omega, List.take_length_add_append, List.take_add]
 rw [hll, e, hl]
 constructor
 ·intro he
  have h3 := List.append_cancel_left (List.cons.inj he).2
  have h4 := (List.append_inj h3 (by rw [sum4_len, List.length_take]; omega)).1
  have h5 := congrArg num4 h4
  have h6 := num4_sum4 (rsum (k, (r.drop 4).take n)) (sum_lt _) []
  rw [List.append_nil] at h6
  rw [h6] at h5
  rw [h5]
  match r, h2 with
  | a :: b :: c :: f :: r', _ => rfl
  | [], h | [_], h | [_, _], h | [_, _, _], h => simp at h <;> omega
 ·intro he
  rw [he, sum4_num4 r (by omega)]
theorem refNext_len (k : UInt8) (l : List UInt8) (n : Nat) (r : List UInt8) (h : takeMost l 1048576 = (n, r, 0)) (h2 : 4 + n ≤ r.length) :
  (rec (k, (r.drop 4).take n)).length ≤ l.length + 1 ∧ (k :: l).drop (rec (k, (r.drop 4).take n)).length = r.drop (4 + n) := by
 have ho := takeMost_one l 1048576 (by rw [h])
 rw [h] at ho
 simp only at ho
 have hd : ((r.drop 4).take n).length = n := by rw [List.length_take, List.length_drop]; omega
 have hll : (rec (k, (r.drop 4).take n)).length = (u n).length + 4 + n + 1 := by rw [rec_len, hd]; omega
 have := congrArg List.length ho
 rw [List.length_append] at this
 refine ⟨by rw [hll]; omega, ?_⟩
 rw [hll, List.drop_succ_cons, ← ho, show (u n).length + 4 + n = (u n).length + (4 + n) by omega, List.drop_length_add_append]

set_option maxHeartbeats 1000000 in
set_option maxRecDepth 10000 in
theorem refNext_any (l : List UInt8) (w : World) (hs : l.length ≤ 1000000000000) :
  Calls Tryz.prog 39 #[.string (bs l)] w (RetBelow w (nextV (next l))) := by
 match l with
 | [] =>
  have he : (bs []).toList.isEmpty = true := bs_isEmpty []
  go_enter Tryz.func39, Tryz.ntmps39
  go_wp2_with fail
  go_returns
  exact ⟨rfl, (Below.refl _ _).alloc (Nat.le_refl _) _⟩
 | k :: l =>
  rw [List.length_cons] at hs
  obtain ⟨n, r, er, ht⟩ : ∃ n r er, takeMost l 1048576 = (n, r, er) := ⟨_, _, _, rfl⟩
  have hp := takeMost_prop l 1048576 (by omega)
  have hn1 : (takeMost l 1048576).2.2 = 0 → (takeMost l 1048576).1 ≤ 1048576 := takeMost_le l 1048576
  have hq1 := refNext_bytes k l n r
  have hq2 := refNext_len k l n r
  rw [next, ht]
  rw [ht] at hp hn1
  simp only at hp hn1 ⊢
  obtain ⟨hv, hrl, he⟩ := hp
  have hT : ∀ w, Calls Tryz.prog 40 #[.string ((bs (k :: l)).extract 1 (l.length + 1)), .int .i64 1048576] w (Quiet w (.tuple #[.int .i64 n, .string (bs r), .int .i64 er])) := fun w => by
   have e : (bs (k :: l)).extract 1 (l.length + 1) = bs l := by rw [bs_extract]; simp
   rw [e]
   exact refTakeMost_of (bs l) 1048576 ht w (by rw [bs_size]; unfold maxLen; omega) (by omega) (by omega)
  have HT := Lib.hid hT
  have h0 : (bs (k :: l)).toList.isEmpty = false := bs_isEmpty _
  have hsz : (bs (k :: l)).size = l.length + 1 := rfl
  clear hT
  by_cases h1 : er ≠ 0
  ·rw [if_pos h1]
   have hb : ((er : Int) != 0) = true := by rw [bne_iff_ne]; omega
   clear h1 he hn1 ht hq1 hq2
   go_enter Tryz.func39, Tryz.ntmps39
   go_wp2_with fail
   refine (HT.out _).mono ?_
   rintro e w' ⟨rfl, n2, rfl⟩
   go_wp2_with fail
   go_returns
   exact ⟨rfl, ((below_drewN ((Below.refl _ _).alloc (Nat.le_refl _) _) _).setCell (by simp) _).setCell (by simp) _⟩
  ·rw [if_neg h1]
   obtain rfl : er = 0 := by omega
   have hn2 := hn1 rfl
   clear h1 he hn1
   by_cases h2 : r.length < 4 + n
   ·rw [if_pos h2]
    clear ht hq1 hq2
    go_enter Tryz.func39, Tryz.ntmps39
    go_wp2_with fail
    refine (HT.out _).mono ?_
    rintro e w' ⟨rfl, n2, rfl⟩
    go_wp2_with fail
    go_returns
    exact ⟨rfl, ((below_drewN ((Below.refl _ _).alloc (Nat.le_refl _) _) _).setCell (by simp) _).setCell (by simp) _⟩
   ·rw [if_neg h2]
    have hq1 := hq1 ht (by omega)
    obtain ⟨hq2, hq3⟩ := hq2 ht (by omega)
    have h4 : 4 + n ≤ r.length := by omega
    obtain ⟨d, hd⟩ : ∃ d, d = (r.drop 4).take n := ⟨_, rfl⟩
    rw [← hd] at hq1 hq2 hq3 ⊢
    have hdl : d.length ≤ 1048576 := by rw [hd]; exact Nat.le_trans (List.length_take_le _ _) hn2
    have hx2 : (bs r).extract 4 (4 + n) = bs d := by rw [bs_extract, hd, Nat.add_sub_cancel_left]
    have hi0 := index_bs Tryz.underlying9 .i64 (k :: l) 0 0 k rfl rfl
    have hB : ∀ w, Calls Tryz.prog 53 #[.agg #[.int .u8 k.toNat, .string ((bs r).extract 4 (4 + n))]] w (RetBelow w (.string (bs (rec (k, d))))) := fun w => by
     rw [hx2]; exact refBytes_any k d w (by omega)
    have HB := Lib.hid hB
    have hw4 : IntKind.i64.wrap (4 + (n : Int)) = 4 + (n : Int) := IntWalk.i64_in _ ⟨by omega, by omega⟩
    have hp4 : (0 : Int) ≤ 4 + (n : Int) := by omega
    have hp5 : 4 + (n : Int) ≤ r.length := by omega
    have HX := Lib.hid hx2
    have HQ := Lib.hid hq1
    have HQ3 := Lib.hid hq3
    have hxa : (bs (k :: l)).extract 0 (rec (k, d)).length = bs ((k :: l).take (rec (k, d)).length) := by rw [bs_extract, List.drop_zero, Nat.sub_zero]
    have HXA := Lib.hid hxa
    clear h2 hd hB ht hx2 hq1 hq3 hxa
    have step : ∀ (bb : Bool) (v : Value), Hid (decide (rec (k, d) = (k :: l).take (rec (k, d)).length) = bb) →
      Hid ((bb = false → v = nextV (z, [], 4)) ∧ (bb = true → v = nextV ((k, d), r.drop (4 + n), 0))) → Calls Tryz.prog 39 #[.string (bs (k :: l))] w (RetBelow w v) := by
     intro bb v hbb hv
     go_enter Tryz.func39, Tryz.ntmps39
     go_wp2_with fail
     refine (HT.out _).mono ?_
     rintro e w' ⟨rfl, n2, rfl⟩
     go_wp2_with fail
     go_region
     all_goals go_wp2_with fail
     all_goals
      refine (HB.out _).mono ?_
      rintro e w1 ⟨rfl, hb1⟩
      have a0 : w1.cell? ⟨w.heap.size, 0, none⟩ = some (.int .u8 0) := by rw [hb1.cell (by simp; omega)]; simp [go_sem]
      have a1 : w1.cell? ⟨w.heap.size, 1, none⟩ = some (.string { data := #[] }) := by rw [hb1.cell (by simp; omega)]; simp [go_sem]
      have a2 : w1.cell? ⟨w.heap.size + 1, 0, none⟩ = some (.int .u8 k.toNat) := by rw [hb1.cell (by simp)]; simp [go_sem]
      have a3 : w1.cell? ⟨w.heap.size + 1, 1, none⟩ = some (.string ((bs r).extract 4 (4 + n))) := by rw [hb1.cell (by simp)]; simp [go_sem]
      have f0 : w1.frozen? ⟨w.heap.size, 0, none⟩ = false := by rw [hb1.frozen (by simp; omega)]; simp [go_sem]
      have f1 : w1.frozen? ⟨w.heap.size, 1, none⟩ = false := by rw [hb1.frozen (by simp; omega)]; simp [go_sem]
      have hz1 : w.heap.size + 1 < w1.heap.size := by have := hb1.size; simp at this; omega
      have hcmp : (rec (k, d) == ((bs (k :: l)).extract 0 (rec (k, d)).length).toList) = bb := by
       rw [HXA.out, bs_toList, ← hbb.out]; rw [Bool.eq_iff_iff]; simp
      obtain ⟨r0, r1⟩ := set2 a0 a1
      clear hi0
      rcases bb with _ | _
      ·obtain rfl : v = nextV (z, [], 4) := by simpa using hv.out.1
       clear hv hbb
       go_wp2_with fail
       refine bodyPost_ret (v := .tuple #[.agg #[.int .u8 0, .string { data := #[] }], .string { data := #[] }, .int .i64 4]) (by simp [results, Tryz.results39, go_sem, r0, r1]) rfl ⟨rfl, ?_⟩
       exact ((((below_drewN ((Below.refl _ _).alloc (Nat.le_refl _) _) _).alloc (by simp) _).trans (hb1.mono (by simp; omega))).setCell (by simp) _).setCell (by simp) _
      ·obtain rfl : v = nextV ((k, d), r.drop (4 + n), 0) := by simpa using hv.out.2
       clear hv hbb
       go_wp2_with fail
       go_region
       all_goals go_wp2_with fail
       all_goals
        refine bodyPost_ret (v := .tuple #[.agg #[.int .u8 k.toNat, .string ((bs r).extract 4 (4 + n))], .string ((bs (k :: l)).extract (rec (k, d)).length (l.length + 1)), .int .i64 0]) (by simp [results, Tryz.results39, go_sem, r0, r1]) rfl ⟨?_, ?_⟩
        ·have e : (bs (k :: l)).extract (rec (k, d)).length (l.length + 1) = bs (r.drop (4 + n)) := by
          rw [bs_extract, ← HQ3.out, List.take_of_length_le (by rw [List.length_drop]; simp)]
         rw [e, HX.out]
         rfl
        ·exact (((((below_drewN ((Below.refl _ _).alloc (Nat.le_refl _) _) _).alloc (by simp) _).trans (hb1.mono (by simp; omega))).setCell (by simp) _).setCell (by simp) _).drew
    by_cases h3 : rsum (k, d) = num4 r
    ·rw [if_neg (fun h => h h3)]
     exact step true _ (decide_eq_true (HQ.out.2 h3)) ⟨fun h => (by cases h), fun _ => rfl⟩
    ·rw [if_pos h3]
     exact step false _ (decide_eq_false (fun h => h3 (HQ.out.1 h))) ⟨fun _ => rfl, fun h => (by cases h)⟩

theorem refNext_of {l r d : List UInt8} {k : UInt8} {er : Nat} (h : next l = ((k, d), r, er)) (w : World) (hs : l.length ≤ 1000000000000) :
  Calls Tryz.prog 39 #[.string (bs l)] w (RetBelow w (.tuple #[.agg #[.int .u8 k.toNat, .string (bs d)], .string (bs r), .int .i64 er])) := by
 have := refNext_any l w hs
 rw [h] at this
 exact this

theorem rrec_ty : ElemTy Tryz.prog 121 108 (.agg #[.int .u8 0, .string ByteArray.empty]) 2 24 :=
 ⟨Tryz.underlying121, info_parts (show (Tryz.prog.info? 108).map (fun i => (i.zero, i.size, i.bytes)) = some (some (.agg #[.int .u8 0, .string ByteArray.empty]), 2, 24) by kernel_rfl), rfl⟩

set_option maxHeartbeats 1000000 in
set_option maxRecDepth 10000 in
theorem refAll_any (l : List UInt8) (w : World) (hs : l.length ≤ 1000000000) :
  Calls Tryz.prog 45 #[.string (bs l)] w (RetAll w 108 (recs l) ((l.length : Int) - ((left l).length : Nat))) := by
 have hll := left_le l
 go_enter Tryz.func45, Tryz.ntmps45
 go_wp2_with fail
 go_loopw [4, 5, 6] (fun v s i wr => ∃ (rs : List Rc) (m : List UInt8) (k : Nat), i = .int .i64 k ∧ s = .string (bs m) ∧ rs.length * 6 + m.length ≤ l.length ∧ k ≤ rs.length ∧ App (w.alloc (.cells #[] 108)) (.slice (some ⟨w.heap.size, 0, none⟩) 0 0) 108 2 0 [] wr v rs.length (frcs rs) ∧ Hid (rs ++ recs m = recs l ∧ left m = left l))
  (fun _ s _ _ => lenOf s)
 case atStart => exact ⟨[], l, 0, rfl, rfl, by simp, Nat.le_refl _, App.lit0 w _ _, rfl, rfl⟩
 case round =>
  obtain ⟨rs, m, j, rfl, rfl, hlen, hj, happ, hr⟩ := hrel
  obtain ⟨k, d, r, er, hn⟩ : ∃ k d r er, next m = ((k, d), r, er) := ⟨_, _, _, _, rfl⟩
  have HN := Lib.hid hn
  have hjl : j ≤ l.length := by omega
  by_cases he : er = 0
  ·subst he
   have h6 := next_left m (by rw [hn])
   have hg := recs_go (l := m) (by rw [hn])
   rw [hn] at h6 hg
   simp only at h6 hg
   have HG := Lib.hid hg
   clear hg hn
   go_wp2_with fail
   refine (refNext_of HN.out _ (by omega)).mono ?_
   rintro e w1 ⟨rfl, hb1⟩
   have happ1 := happ.below hb1
   clear happ hb1
   go_wp2_with (at_builtin; refine wpList_append_lit rfl (.tmp 26) (.tmp 28) 121 rfl rrec_ty rfl (happ1.alloc _) rfl (by simp) rfl (by simp [Value.oneCell']) (by simp only [maxLen]; omega) (by omega) ?_; intro v2 w2 happ2)
   go_roundw
   case rel => exact ⟨rs ++ [(k, d)], r, j + 1, by go_num, rfl, by simp; omega, by simp; omega, by rw [frcs_snoc, List.length_append]; exact happ2, by rw [← hr.out.1, HG.out.1]; simp, by rw [← hr.out.2, HG.out.2]⟩
   case measure => simp only [lenOf, bs_size]; omega
  ·have hg := recs_stop (l := m) (by rw [hn]; exact he)
   have hb : ((er : Int) != 0) = true := by rw [bne_iff_ne]; omega
   have HG := Lib.hid hg
   clear hg hn he
   go_wp2_with fail
   refine (refNext_of HN.out _ (by omega)).mono ?_
   rintro e w1 ⟨rfl, hb1⟩
   have happ1 := happ.below hb1
   clear happ hb1
   go_wp2_with fail
   go_ret2
   have e1 : rs = recs l := by rw [← hr.out.1, HG.out.1, List.append_nil]
   have e2 : m = left l := by rw [← hr.out.2, HG.out.2]
   have happ2 := happ1.alloc (.cells #[.int .u8 k.toNat, .string (bs d)] 108)
   have hbuf := happ2.buf
   rw [Nat.zero_add, List.nil_append] at hbuf
   have hbl := happ2.below_lit0
   subst e1
   exact ⟨_, by rw [← e2]; rfl, hbuf, hbl⟩

end Go.Proofs.YtgabmfibfikdbaaGreatDoor
