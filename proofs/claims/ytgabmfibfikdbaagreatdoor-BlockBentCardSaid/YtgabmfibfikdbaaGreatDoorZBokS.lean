/-
  Layer 16: plain: the tables of the laws go as blocks: no condition.
-/
import Derived.Test.YtgabmfibfikdbaaGreatDoorZBokB
import Derived.Test.YtgabmfibfikdbaaGreatDoorZMrgE
import Derived.Test.YtgabmfibfikdbaaGreatDoorZLib11
import Derived.Test.YtgabmfibfikdbaaGreatDoorZLabU
import Derived.Test.YtgabmfibfikdbaaGreatDoorZLib5
import Derived.Deep.CutRange

namespace Go.Bar.Bok
open Go.RowKit Go.Bar Go.Bar.Leb Go.Bar.Frm Go.Bar.Lab Go.Bar.Xor Go.Bar.Mrg Go.Bar.Met

theorem putS_all {p : Sm → Prop} {s : Sm} (hs : p s) {l : List Sm} (h : ∀ x ∈ l, p x) : ∀ x ∈ putS l s, p x := fun x hx => (putS_mem hx).elim (h x) (fun e => e ▸ hs)
theorem addG_all {p : Sm → Prop} {L : List Pr} {s : Sm} (hs : p s) : ∀ (b : Bool) (l : List Row), (∀ r ∈ l, ∀ y ∈ r.2, p y) → ∀ r ∈ addG L s b l, ∀ y ∈ r.2, p y
  | true, [], _ => fun r hr => by cases hr
  | false, [], _ => fun r hr => by
    obtain rfl := List.mem_singleton.1 hr
    intro y hy
    obtain rfl := List.mem_singleton.1 hy
    exact hs
  | true, x :: l, h => fun r hr => by
    have h1 := h x (List.mem_cons_self ..)
    have h2 := addG_all (L := L) hs true l fun y hy => h y (List.mem_cons_of_mem _ hy)
    rcases List.mem_cons.1 (show r ∈ (if cmpL L x.1 = 0 then (x.1, putS x.2 s) else x) :: addG L s true l from hr) with e | e
    · rw [e]
      split
      · exact putS_all hs h1
      · exact h1
    · exact h2 r e
  | false, x :: l, h => fun r hr => by
    have h1 := h x (List.mem_cons_self ..)
    have h2 := addG_all (L := L) hs true l fun y hy => h y (List.mem_cons_of_mem _ hy)
    have h3 := addG_all (L := L) hs false l fun y hy => h y (List.mem_cons_of_mem _ hy)
    have h4 : ∀ y ∈ [s], p y := fun y hy => by obtain rfl := List.mem_singleton.1 hy; exact hs
    have hr : r ∈ (if cmpL L x.1 = 0 then (x.1, putS x.2 s) :: addG L s true l else if cmpL L x.1 < 0 then (L, [s]) :: x :: addG L s true l else x :: addG L s false l) := hr
    split at hr
    · rcases List.mem_cons.1 hr with e | e
      · rw [e]; exact putS_all hs h1
      · exact h2 r e
    · split at hr
      · rcases List.mem_cons.1 hr with e | e
        · rw [e]; exact h4
        · rcases List.mem_cons.1 e with e | e
          · rw [e]; exact h1
          · exact h2 r e
      · rcases List.mem_cons.1 hr with e | e
        · rw [e]; exact h1
        · exact h3 r e
theorem addAll_all {p : Sm → Prop} : ∀ (xs : List Pt) (l : List Row), (∀ x ∈ xs, p x.2) → (∀ r ∈ l, ∀ y ∈ r.2, p y) → ∀ r ∈ addAll l xs, ∀ y ∈ r.2, p y
  | [], l, _, h => h
  | x :: xs, l, hx, h => addAll_all xs (addR l x.1 x.2) (fun y hy => hx y (List.mem_cons_of_mem _ hy)) (addG_all (hx x (List.mem_cons_self ..)) false l h)
theorem lab5_ok (n : Nat) : Lab.Ok (Go.Proofs.YtgabmfibfikdbaaGreatDoor.lab5 n) := by
  have h : ∀ j, j < 5 → Lab.Ok (Go.Proofs.YtgabmfibfikdbaaGreatDoor.lab5 j) := by decide
  have e : Go.Proofs.YtgabmfibfikdbaaGreatDoor.lab5 n = Go.Proofs.YtgabmfibfikdbaaGreatDoor.lab5 (n % 5) := by unfold Go.Proofs.YtgabmfibfikdbaaGreatDoor.lab5; rw [Nat.mod_mod]
  rw [e]
  exact h _ (Nat.mod_lt _ (by decide))

/-- a small table whose times lie between a and b -/
structure SmallT (a b : Int) (R : List Row) : Prop where
  good : GoodP R
  n : R.length ≤ 40
  lab : ∀ r ∈ R, ∃ k, r.1 = Go.Proofs.YtgabmfibfikdbaaGreatDoor.lab5 k
  ne : ∀ r ∈ R, r.2 ≠ []
  len : ∀ r ∈ R, r.2.length ≤ 400
  tm : ∀ r ∈ R, ∀ y ∈ r.2, a ≤ y.1 ∧ y.1 < b
  v : ∀ r ∈ R, ∀ y ∈ r.2, y.2 < 18446744073709551616
theorem tab3_small (l : List On3) (h : ∀ z ∈ l, z.v < 18446744073709551616) : SmallT 0 1000 (tab3 l) := by
  have htb := tab3_tb l
  have h1 := tab3_bound (l.take 40)
  have hl : (l.take 40).length ≤ 40 := by rw [List.length_take]; omega
  have h2 := addAll_bound (P := fun L => ∃ k, L = Go.Proofs.YtgabmfibfikdbaaGreatDoor.lab5 k) ((l.take 40).map pt3) [] 0 (fun x hx => by
    obtain ⟨y, _, rfl⟩ := List.mem_map.1 hx
    exact ⟨y.nm, rfl⟩) (fun x hx => by cases hx)
  have h3 := addAll_all (p := fun y => (0 ≤ y.1 ∧ y.1 < 1000) ∧ y.2 < 18446744073709551616) ((l.take 40).map pt3) [] (fun x hx => by
    obtain ⟨y, hy, rfl⟩ := List.mem_map.1 hx
    exact ⟨tm3_rng y.t, h y (List.mem_of_mem_take hy)⟩) (fun x hx => by cases hx)
  exact ⟨htb.good, by have := h1.1; show (addAll _ _).length ≤ _; omega, fun r hr => (h2 r hr).1, htb.ne, fun r hr => by have := (h1.2 r hr).2; omega, fun r hr y hy => (h3 r hr y hy).1, fun r hr y hy => (h3 r hr y hy).2⟩

section
variable {a b : Int} {R : List Row}
theorem SmallT.row (h : SmallT a b R) (ha : 0 ≤ a) (hb : b ≤ 1099511627776) : ∀ r ∈ R, RowOk a b r := fun r hr => by
  obtain ⟨k, hk⟩ := h.lab r hr
  obtain ⟨x, hx, e1⟩ := first_mem (h.ne r hr)
  obtain ⟨y, hy, e2⟩ := last_mem (h.ne r hr)
  exact ⟨h.ne r hr, by rw [hk]; exact lab5_ok k, by rw [e1]; exact (h.tm r hr x hx).1, by rw [e2]; exact (h.tm r hr y hy).2, fun z hz => by have := h.tm r hr z hz; omega⟩
theorem SmallT.smok (h : SmallT a b R) (ha : 0 ≤ a) (hb : b ≤ 1099511627776) : ∀ r ∈ R, SmOk r.2 := fun _ hr => row_sm (h.row ha hb) h.good h.v hr
theorem bCh_bound {K : Nat} : ∀ {R : List Row}, (∀ r ∈ R, (chB r.2).length ≤ K) → (bCh R).length ≤ K * R.length
  | [], _ => Nat.zero_le _
  | r :: R, h => by
    have h1 := h r (List.mem_cons_self ..)
    have h2 := bCh_bound (R := R) fun x hx => h x (List.mem_cons_of_mem _ hx)
    unfold bCh at h2 ⊢
    rw [List.flatMap_cons, List.length_append, List.length_cons, Nat.mul_succ]
    omega
theorem SmallT.ch (h : SmallT a b R) (ha : 0 ≤ a) (hb : b ≤ 1099511627776) : (bCh R).length ≤ 400000 := by
  have h1 := bCh_bound (K := 9600) (R := R) fun r hr => by
    have h2 := chB_len (h.smok ha hb r hr)
    have h3 := h.len r hr
    unfold nP at h2
    omega
  have h2 := h.n
  omega
theorem enBs_bound : ∀ {l : List En}, (∀ x ∈ l, EnOk x) → (l.flatMap enB).length ≤ 800 * l.length
  | [], _ => Nat.zero_le _
  | x :: l, h => by
    have h1 := enB_len (h x (List.mem_cons_self ..))
    have h2 := enBs_bound (l := l) fun y hy => h y (List.mem_cons_of_mem _ hy)
    rw [List.flatMap_cons, List.length_append, List.length_cons]
    omega
theorem SmallT.idx (h : SmallT a b R) (ha : 0 ≤ a) (hb : b ≤ 1099511627776) : (idxD (bEn R 0)).length ≤ 40000 := by
  have h1 := enBs_bound (bEn_ok (h.row ha hb) h.good (by have := h.ch ha hb; omega))
  rw [bEn_len] at h1
  have h2 := h.n
  have h3 := u_len (bEn R 0).length (by rw [bEn_len]; omega)
  unfold idxD
  rw [List.length_append]
  omega
theorem SmallT.idxB (h : SmallT a b R) (ha : 0 ≤ a) (hb : b ≤ 1099511627776) : (idxB (bEn R 0)).length ≤ 50000 := by
  have h1 := h.idx ha hb
  have h2 := u_len (idxD (bEn R 0)).length (by omega)
  unfold Bok.idxB
  rw [rec_len]
  show 5 + (u (idxD (bEn R 0)).length).length + (idxD (bEn R 0)).length ≤ _
  omega
theorem cnt_bound {K : Nat} : ∀ {R : List Row}, (∀ r ∈ R, 1 ≤ r.2.length ∧ r.2.length ≤ K) → R.length ≤ cntR R ∧ cntR R ≤ K * R.length
  | [], _ => ⟨Nat.le_refl _, Nat.le_refl _⟩
  | r :: R, h => by
    have h1 := h r (List.mem_cons_self ..)
    have h2 := cnt_bound (R := R) fun x hx => h x (List.mem_cons_of_mem _ hx)
    unfold cntR at h2 ⊢
    rw [List.map_cons, List.sum_cons, List.length_cons, Nat.mul_succ]
    omega
theorem SmallT.cnt (h : SmallT a b R) : R.length ≤ cntR R ∧ cntR R ≤ 16000 := by
  have h1 := cnt_bound (K := 400) (R := R) fun r hr => ⟨by
    have := h.ne r hr
    cases hc : r.2 with
    | nil => exact absurd hc this
    | cons => simp, h.len r hr⟩
  have h2 := h.n
  omega
theorem SmallT.bd (h : SmallT a b R) (ha : 0 ≤ a) (hab : a < b) (hb : b ≤ 1099511627776) {lv : Int} (h1 : 1 ≤ lv) (h9 : lv ≤ 9) {t s : Nat} (ht : t < 32 ^ 8) (hs : s < 32 ^ 8) : BdOk (Idt.mk t s) a b lv [] R := by
  have hc := h.cnt
  have h2 := h.ch ha hb
  have h3 := h.idxB ha hb
  refine ⟨h.good, h.row ha hb, ⟨idOk_mk t s ht hs, ha, hab, hb, h1, h9, ?_, ?_, ?_⟩, rfl, Nat.zero_le _, fun i hi => ?_, fun i hi => absurd hi (Nat.not_lt_zero _)⟩
  · show (0 : Int) ≤ (R.length : Nat); omega
  · show ((R.length : Nat) : Int) ≤ (cntR R : Nat); omega
  · show ((cntR R : Nat) : Int) ≤ _; omega
  · rcases i with _ | _ | i
    · exact ⟨rfl, by show (0 : Int) ≤ ((bCh R).length : Nat); omega, by show (((bCh R).length : Nat) : Int) ≤ _; omega⟩
    · exact ⟨rfl, by show (0 : Int) ≤ ((Bok.idxB (bEn R 0)).length : Nat); omega, by show (((Bok.idxB (bEn R 0)).length : Nat) : Int) ≤ _; omega⟩
    · omega
theorem SmallT.back (h : SmallT a b R) (ha : 0 ≤ a) (hab : a < b) (hb : b ≤ 1099511627776) {lv : Int} (h1 : 1 ≤ lv) (h9 : lv ≤ 9) {t s : Nat} (ht : t < 32 ^ 8) (hs : s < 32 ^ 8) : tableR (bMt (Idt.mk t s) a b lv [] R) (bCh R) (Bok.idxB (bEn R 0)) = (R, 0) :=
  tableR_of (h.bd ha hab hb h1 h9 ht hs) h.v (by have := h.n; omega) (by have := h.idx ha hb; omega) (by have := h.ch ha hb; omega)
end

/-- samples at steps -/
def longS (n st : Nat) : List Sm := (List.range n).map fun i => (((i * st : Nat) : Int), i % 3)
def longT (n st : Nat) : List Row := [(Go.Proofs.YtgabmfibfikdbaaGreatDoor.lab5 0, longS n st)]
theorem longS_len (n st : Nat) : (longS n st).length = n := by unfold longS; rw [List.length_map, List.length_range]
theorem longS_succ (n st : Nat) : longS (n + 1) st = longS n st ++ [(((n * st : Nat) : Int), n % 3)] := by unfold longS; rw [List.range_succ, List.map_append]; rfl
theorem longS_mem {n st : Nat} {x : Sm} (h : x ∈ longS n st) : ∃ i, i < n ∧ x = (((i * st : Nat) : Int), i % 3) := by
  obtain ⟨i, hi, rfl⟩ := List.mem_map.1 h
  exact ⟨i, List.mem_range.1 hi, rfl⟩
theorem longS_ris {n st : Nat} (h : 0 < st) : Ris (longS n st) := by
  induction n with
  | zero => exact List.Pairwise.nil
  | succ n ih =>
    rw [longS_succ]
    refine List.pairwise_append.2 ⟨ih, List.pairwise_singleton _ _, fun x hx y hy => ?_⟩
    obtain ⟨i, hi, rfl⟩ := longS_mem hx
    obtain rfl := List.mem_singleton.1 hy
    have := Nat.mul_lt_mul_of_pos_right hi h
    show ((i * st : Nat) : Int) < ((n * st : Nat) : Int)
    omega
theorem long_small {n st : Nat} {b : Int} (hn : 0 < n) (hn2 : n ≤ 400) (hs : 0 < st) (hb : ((400 * st : Nat) : Int) ≤ b) : SmallT 0 b (longT n st) := by
  have hone : ∀ {p : Row → Prop}, p (Go.Proofs.YtgabmfibfikdbaaGreatDoor.lab5 0, longS n st) → ∀ r ∈ longT n st, p r := fun h r hr => by
    obtain rfl := List.mem_singleton.1 hr
    exact h
  refine ⟨⟨List.pairwise_singleton _ _, hone (longS_ris hs)⟩, (by decide : 1 ≤ 40), hone ⟨0, rfl⟩, hone ?_, hone ?_, hone ?_, hone ?_⟩
  · intro e
    have h1 := longS_len n st
    have e : longS n st = [] := e
    rw [e] at h1
    have h1 : 0 = n := h1
    omega
  · show (longS n st).length ≤ _
    rw [longS_len]; exact hn2
  · intro y hy
    obtain ⟨i, hi, rfl⟩ := longS_mem hy
    have h1 : i * st < 400 * st := Nat.mul_lt_mul_of_pos_right (by omega) hs
    exact ⟨by show (0 : Int) ≤ ((i * st : Nat) : Int); omega, by show ((i * st : Nat) : Int) < _; omega⟩
  · intro y hy
    obtain ⟨i, hi, rfl⟩ := longS_mem hy
    show i % 3 < _
    omega
end Go.Bar.Bok

/-
  Layer 14: the walk of the reference's Same, of tables that are the same.
-/
namespace Go.Proofs.YtgabmfibfikdbaaGreatDoor
open Go.RowKit Go.Bar Go.Bar.Leb Go.Bar.Lab Go.Bar.Xor Go.Bar.Mrg

theorem SmsAt.at2 {w : World} {b o n c i : Nat} {l : List Sm} {x : Sm} (h : SmsAt w (.slice (some ⟨b, o, none⟩) n c) l) (hi : l[i]? = some x) : w.cell? ⟨b, o + i * 2, none⟩ = some (.int .i64 x.1) ∧ w.cell? ⟨b, o + i * 2 + 1, none⟩ = some (.int .u64 (x.2 : Nat)) := by
  obtain ⟨b', o', he, _, h1, h2⟩ := h.at_ hi
  injection he with he
  injection he with e1 e2 _
  subst e1; subst e2
  exact ⟨h1, h2⟩

set_option maxHeartbeats 8000000 in
set_option maxRecDepth 10000 in
theorem rsame_any (v v' : Value) (t t' : List Rv) (w : World) (h : TbAt w v t) (h' : TbAt w v' t') (he : t.map plR = t'.map plR) :
    Calls Tryz.prog 28 #[v, v'] w (RetBelow w (.bool true)) := by
  obtain ⟨A, c, rfl, hlc, hcm⟩ := h.shape
  obtain ⟨A', c', rfl, hlc', hcm'⟩ := h'.shape
  unfold maxLen at hcm hcm'
  have hlen : t'.length = t.length := by have := congrArg List.length he; simpa using this.symm
  obtain ⟨n, hn⟩ : ∃ n, n = t.length := ⟨_, rfl⟩
  rw [hlen]
  rw [← hn] at hlc hlen ⊢
  have HT := Lib.hid h
  have HT' := Lib.hid h'
  have HE := Lib.hid he
  have HN := Lib.hid hn
  have HL := Lib.hid hlen
  clear h h' he hn hlen hlc'
  go_enter Tryz.func28, Tryz.ntmps28
  go_wp2_with fail
  go_loopw [14] (fun i wr => ∃ k : Nat, k ≤ n ∧ i = .int .i64 k ∧ Below w.heap.size w wr) (fun i _ => n - (intOf i).toNat)
  case atStart => exact ⟨0, Nat.zero_le _, rfl, Below.refl _ _⟩
  case round =>
    obtain ⟨k, hk, rfl, hb⟩ := hrel
    by_cases hgo : k < n
    · obtain ⟨x, hx⟩ : ∃ x, t[k]? = some x := ⟨_, List.getElem?_eq_getElem (by have := HN.out; omega)⟩
      obtain ⟨y, hy⟩ : ∃ y, t'[k]? = some y := ⟨_, List.getElem?_eq_getElem (by have := HL.out; omega)⟩
      have hxy : plR x = plR y := by
        have h1 : (t.map plR)[k]? = some (plR x) := by rw [List.getElem?_map, hx]; rfl
        have h2 : (t'.map plR)[k]? = some (plR y) := by rw [List.getElem?_map, hy]; rfl
        rw [HE.out, h2] at h1
        injection h1 with h1; exact h1.symm
      obtain ⟨b, o, rfl, _, _, hrx⟩ := (HT.out).at_ hx
      obtain ⟨b', o', rfl, _, _, hry⟩ := (HT'.out).at_ hy
      obtain ⟨L, S, la, lc, sa, sc⟩ := x
      obtain ⟨L', S', la', lc', sa', sc'⟩ := y
      obtain ⟨e1, e2⟩ : L = L' ∧ S = S' := by
        injection hxy with e1 e2
        exact ⟨e1, e2⟩
      clear hxy
      subst e1; subst e2
      have hc := fun w' (hb : Below w.heap.size w w') => rcompare_any (.slice la L.length lc) (.slice la' L.length lc') L L w' (hrx.1.below hb) (hry.1.below hb)
      rw [cmpL_self] at hc
      have HC := Lib.hid hc
      have HX := Lib.hid (fun w' (hb : Below w.heap.size w w') => show w'.cell? ⟨b, o + k * 2, none⟩ = some (.slice la L.length lc) ∧ w'.cell? ⟨b, o + k * 2 + 1, none⟩ = some (.slice sa S.length sc) from ⟨((HT.out.below hb).at2 hx).1, ((HT.out.below hb).at2 hx).2.1⟩)
      have HY := Lib.hid (fun w' (hb : Below w.heap.size w w') => show w'.cell? ⟨b', o' + k * 2, none⟩ = some (.slice la' L.length lc') ∧ w'.cell? ⟨b', o' + k * 2 + 1, none⟩ = some (.slice sa' S.length sc') from ⟨((HT'.out.below hb).at2 hy).1, ((HT'.out.below hb).at2 hy).2.1⟩)
      obtain ⟨_, _, _, hs1, hs2⟩ := hrx.2.shape
      have hsl : (S.length : Int) ≤ 9223372036854775807 := by unfold maxLen at hs2; dsimp only at hs1; omega
      have HS := Lib.hid (show SmsAt w (.slice sa S.length sc) S from hrx.2)
      have HS' := Lib.hid (show SmsAt w (.slice sa' S.length sc') S from hry.2)
      clear hx hy hrx hry hc hs1 hs2
      go_upto_region 6 with fail
      refine wp_region_facts [(4, (isV (.slice la L.length lc), noFact)), (9, (isV (.slice la' L.length lc'), noFact)), (10, (isV (.int .i64 0), noFact)), (17, (isV (.slice sa S.length sc), noFact)), (23, (isV (.slice sa' S.length sc'), noFact))] (by kernel_rfl) 72 (by kernel_rfl) rfl ?_ ?_ ?_
      · apply lookup_ne
        simp only [List.forall_mem_cons, List.not_mem_nil, false_imp_iff, implies_true, and_true]
        exact ⟨⟨_, rfl⟩, ⟨_, rfl⟩, ⟨_, rfl⟩, ⟨_, rfl⟩, ⟨_, rfl⟩⟩
      · apply lookup_st
        simp only [List.forall_mem_cons, List.not_mem_nil, false_imp_iff, implies_true, and_true]
        refine ⟨?_, ?_, ?_, ?_, ?_⟩
        · exact fun _ _ _ _ _ => trivial
        · exact fun _ _ _ _ _ => trivial
        · exact fun _ _ _ _ _ => trivial
        · exact fun _ _ _ _ _ => trivial
        · exact fun _ _ _ _ _ => trivial
      repeat (first
        | (refine Chain.step (v := ?_) (a' := ?_) rfl rfl rfl ?_ ?_ ?_
           rotate_left 2
           focus (intro w; go_simp; try with_reducible rfl)
           focus (simp only [Act.put, List.setIfInBounds_toArray, List.set_cons_succ, List.set_cons_zero]; try rfl))
        | (refine Chain.skip (a' := ?_) rfl rfl rfl ?_ ?_
           rotate_left 1
           focus (simp only [Act.put, List.setIfInBounds_toArray, List.set_cons_succ, List.set_cons_zero]; try rfl)))
      refine Chain.call' (a' := ?_) _ rfl rfl rfl rfl (fun wx hw hF => ?_) ?_ ?_
      rotate_left 1
      focus
        obtain ⟨g0, g1⟩ := HX.out _ (below_trans hb hw)
        go_simp; first | exact ⟨rfl, Below.refl _ _⟩ | exact Below.refl _ _
      focus (simp only [Act.put, List.setIfInBounds_toArray, List.set_cons_succ, List.set_cons_zero]; try rfl)
      repeat (first
        | (refine Chain.step (v := ?_) (a' := ?_) rfl rfl rfl ?_ ?_ ?_
           rotate_left 2
           focus (intro w; go_simp; try with_reducible rfl)
           focus (simp only [Act.put, List.setIfInBounds_toArray, List.set_cons_succ, List.set_cons_zero]; try rfl))
        | (refine Chain.skip (a' := ?_) rfl rfl rfl ?_ ?_
           rotate_left 1
           focus (simp only [Act.put, List.setIfInBounds_toArray, List.set_cons_succ, List.set_cons_zero]; try rfl)))
      refine Chain.call' (a' := ?_) _ rfl rfl rfl rfl (fun wx hw hF => ?_) ?_ ?_
      rotate_left 1
      focus
        obtain ⟨g0, g1⟩ := HY.out _ (below_trans hb hw)
        go_simp; first | exact ⟨rfl, Below.refl _ _⟩ | exact Below.refl _ _
      focus (simp only [Act.put, List.setIfInBounds_toArray, List.set_cons_succ, List.set_cons_zero]; try rfl)
      repeat (first
        | (refine Chain.step (v := ?_) (a' := ?_) rfl rfl rfl ?_ ?_ ?_
           rotate_left 2
           focus (intro w; go_simp; try with_reducible rfl)
           focus (simp only [Act.put, List.setIfInBounds_toArray, List.set_cons_succ, List.set_cons_zero]; try rfl))
        | (refine Chain.skip (a' := ?_) rfl rfl rfl ?_ ?_
           rotate_left 1
           focus (simp only [Act.put, List.setIfInBounds_toArray, List.set_cons_succ, List.set_cons_zero]; try rfl)))
      refine Chain.call' (a' := ?_) _ rfl rfl rfl rfl (fun wx hw hF => ?_) ?_ ?_
      rotate_left 1
      focus
        go_simp; (with_reducible refine (HC.out _ (below_trans hb hw)).mono ?_); exact (fun e w' ⟨h1, h2⟩ => by subst h1; exact ⟨rfl, h2⟩)
      focus (simp only [Act.put, List.setIfInBounds_toArray, List.set_cons_succ, List.set_cons_zero]; try rfl)
      repeat (first
        | (refine Chain.step (v := ?_) (a' := ?_) rfl rfl rfl ?_ ?_ ?_
           rotate_left 2
           focus (intro w; go_simp; try with_reducible rfl)
           focus (simp only [Act.put, List.setIfInBounds_toArray, List.set_cons_succ, List.set_cons_zero]; try rfl))
        | (refine Chain.skip (a' := ?_) rfl rfl rfl ?_ ?_
           rotate_left 1
           focus (simp only [Act.put, List.setIfInBounds_toArray, List.set_cons_succ, List.set_cons_zero]; try rfl)))
      refine Chain.call' (a' := ?_) _ rfl rfl rfl rfl (fun wx hw hF => ?_) ?_ ?_
      rotate_left 1
      focus
        obtain ⟨g0, g1⟩ := HX.out _ (below_trans hb hw)
        go_simp; first | exact ⟨rfl, Below.refl _ _⟩ | exact Below.refl _ _
      focus (simp only [Act.put, List.setIfInBounds_toArray, List.set_cons_succ, List.set_cons_zero]; try rfl)
      repeat (first
        | (refine Chain.step (v := ?_) (a' := ?_) rfl rfl rfl ?_ ?_ ?_
           rotate_left 2
           focus (intro w; go_simp; try with_reducible rfl)
           focus (simp only [Act.put, List.setIfInBounds_toArray, List.set_cons_succ, List.set_cons_zero]; try rfl))
        | (refine Chain.skip (a' := ?_) rfl rfl rfl ?_ ?_
           rotate_left 1
           focus (simp only [Act.put, List.setIfInBounds_toArray, List.set_cons_succ, List.set_cons_zero]; try rfl)))
      refine Chain.call' (a' := ?_) _ rfl rfl rfl rfl (fun wx hw hF => ?_) ?_ ?_
      rotate_left 1
      focus
        obtain ⟨g0, g1⟩ := HY.out _ (below_trans hb hw)
        go_simp; first | exact ⟨rfl, Below.refl _ _⟩ | exact Below.refl _ _
      focus (simp only [Act.put, List.setIfInBounds_toArray, List.set_cons_succ, List.set_cons_zero]; try rfl)
      repeat (first
        | (refine Chain.step (v := ?_) (a' := ?_) rfl rfl rfl ?_ ?_ ?_
           rotate_left 2
           focus (intro w; go_simp; try with_reducible rfl)
           focus (simp only [Act.put, List.setIfInBounds_toArray, List.set_cons_succ, List.set_cons_zero]; try rfl))
        | (refine Chain.skip (a' := ?_) rfl rfl rfl ?_ ?_
           rotate_left 1
           focus (simp only [Act.put, List.setIfInBounds_toArray, List.set_cons_succ, List.set_cons_zero]; try rfl)))
      refine Chain.end_ (fun wz hwz _ => ?_)
      have hb2 := below_trans hb hwz
      obtain ⟨g0, g1⟩ := HX.out _ hb2
      clear hb hwz
      go_wp2_with fail
      go_loopw [50] (fun i wy => ∃ j : Nat, j ≤ S.length ∧ i = .int .i64 j ∧ Below w.heap.size w wy) (fun i _ => S.length - (intOf i).toNat)
      case atStart => exact ⟨0, Nat.zero_le _, rfl, hb2⟩
      case round =>
        obtain ⟨j, hj, rfl, hb3⟩ := hrel
        clear g0 g1 hb2
        by_cases hgo2 : j < S.length
        · obtain ⟨z, hz⟩ : ∃ z, S[j]? = some z := ⟨_, List.getElem?_eq_getElem hgo2⟩
          obtain ⟨sb, so, rfl, _⟩ := HS.out.at_ hz
          obtain ⟨sb', so', rfl, _⟩ := HS'.out.at_ hz
          have HZ := Lib.hid hz
          clear hz
          go_upto_region 11 with fail
          refine wp_region_facts [(4, (isV (.slice (some ⟨sb, so, none⟩) S.length sc), noFact)), (7, (isV (.agg #[.int .i64 z.1, .int .u64 (z.2 : Nat)]), noFact)), (12, (isV (.slice (some ⟨sb', so', none⟩) S.length sc'), noFact)), (15, (isV (.agg #[.int .i64 z.1, .int .u64 (z.2 : Nat)]), noFact))] (by kernel_rfl) 72 (by kernel_rfl) rfl ?_ ?_ ?_
          · apply lookup_ne
            simp only [List.forall_mem_cons, List.not_mem_nil, false_imp_iff, implies_true, and_true]
            exact ⟨⟨_, rfl⟩, ⟨_, rfl⟩, ⟨_, rfl⟩, ⟨_, rfl⟩⟩
          · apply lookup_st
            simp only [List.forall_mem_cons, List.not_mem_nil, false_imp_iff, implies_true, and_true]
            refine ⟨?_, ?_, ?_, ?_⟩
            · exact fun _ _ _ _ _ => trivial
            · exact fun _ _ _ _ _ => trivial
            · exact fun _ _ _ _ _ => trivial
            · exact fun _ _ _ _ _ => trivial
          repeat (first
            | (refine Chain.step (v := ?_) (a' := ?_) rfl rfl rfl ?_ ?_ ?_
               rotate_left 2
               focus (intro w; go_simp; try with_reducible rfl)
               focus (simp only [Act.put, List.setIfInBounds_toArray, List.set_cons_succ, List.set_cons_zero]; try rfl))
            | (refine Chain.skip (a' := ?_) rfl rfl rfl ?_ ?_
               rotate_left 1
               focus (simp only [Act.put, List.setIfInBounds_toArray, List.set_cons_succ, List.set_cons_zero]; try rfl)))
          refine Chain.call' (a' := ?_) _ rfl rfl rfl rfl (fun wx hw hF => ?_) ?_ ?_
          rotate_left 1
          focus
            obtain ⟨g0, g1⟩ := HX.out _ (below_trans hb3 hw)
            go_simp; first | exact ⟨rfl, Below.refl _ _⟩ | exact Below.refl _ _
          focus (simp only [Act.put, List.setIfInBounds_toArray, List.set_cons_succ, List.set_cons_zero]; try rfl)
          repeat (first
            | (refine Chain.step (v := ?_) (a' := ?_) rfl rfl rfl ?_ ?_ ?_
               rotate_left 2
               focus (intro w; go_simp; try with_reducible rfl)
               focus (simp only [Act.put, List.setIfInBounds_toArray, List.set_cons_succ, List.set_cons_zero]; try rfl))
            | (refine Chain.skip (a' := ?_) rfl rfl rfl ?_ ?_
               rotate_left 1
               focus (simp only [Act.put, List.setIfInBounds_toArray, List.set_cons_succ, List.set_cons_zero]; try rfl)))
          refine Chain.call' (a' := ?_) _ rfl rfl rfl rfl (fun wx hw hF => ?_) ?_ ?_
          rotate_left 1
          focus
            obtain ⟨g0, g1⟩ := (HS.out.below (below_trans hb3 hw)).at2 HZ.out
            go_simp; first | exact ⟨rfl, Below.refl _ _⟩ | exact Below.refl _ _
          focus (simp only [Act.put, List.setIfInBounds_toArray, List.set_cons_succ, List.set_cons_zero]; try rfl)
          repeat (first
            | (refine Chain.step (v := ?_) (a' := ?_) rfl rfl rfl ?_ ?_ ?_
               rotate_left 2
               focus (intro w; go_simp; try with_reducible rfl)
               focus (simp only [Act.put, List.setIfInBounds_toArray, List.set_cons_succ, List.set_cons_zero]; try rfl))
            | (refine Chain.skip (a' := ?_) rfl rfl rfl ?_ ?_
               rotate_left 1
               focus (simp only [Act.put, List.setIfInBounds_toArray, List.set_cons_succ, List.set_cons_zero]; try rfl)))
          refine Chain.call' (a' := ?_) _ rfl rfl rfl rfl (fun wx hw hF => ?_) ?_ ?_
          rotate_left 1
          focus
            obtain ⟨g0, g1⟩ := HY.out _ (below_trans hb3 hw)
            go_simp; first | exact ⟨rfl, Below.refl _ _⟩ | exact Below.refl _ _
          focus (simp only [Act.put, List.setIfInBounds_toArray, List.set_cons_succ, List.set_cons_zero]; try rfl)
          repeat (first
            | (refine Chain.step (v := ?_) (a' := ?_) rfl rfl rfl ?_ ?_ ?_
               rotate_left 2
               focus (intro w; go_simp; try with_reducible rfl)
               focus (simp only [Act.put, List.setIfInBounds_toArray, List.set_cons_succ, List.set_cons_zero]; try rfl))
            | (refine Chain.skip (a' := ?_) rfl rfl rfl ?_ ?_
               rotate_left 1
               focus (simp only [Act.put, List.setIfInBounds_toArray, List.set_cons_succ, List.set_cons_zero]; try rfl)))
          refine Chain.call' (a' := ?_) _ rfl rfl rfl rfl (fun wx hw hF => ?_) ?_ ?_
          rotate_left 1
          focus
            obtain ⟨g0, g1⟩ := (HS'.out.below (below_trans hb3 hw)).at2 HZ.out
            go_simp; first | exact ⟨rfl, Below.refl _ _⟩ | exact Below.refl _ _
          focus (simp only [Act.put, List.setIfInBounds_toArray, List.set_cons_succ, List.set_cons_zero]; try rfl)
          repeat (first
            | (refine Chain.step (v := ?_) (a' := ?_) rfl rfl rfl ?_ ?_ ?_
               rotate_left 2
               focus (intro w; go_simp; try with_reducible rfl)
               focus (simp only [Act.put, List.setIfInBounds_toArray, List.set_cons_succ, List.set_cons_zero]; try rfl))
            | (refine Chain.skip (a' := ?_) rfl rfl rfl ?_ ?_
               rotate_left 1
               focus (simp only [Act.put, List.setIfInBounds_toArray, List.set_cons_succ, List.set_cons_zero]; try rfl)))
          refine Chain.end_ (fun wz2 hwz2 _ => ?_)
          have hb4 := below_trans hb3 hwz2
          clear hb3 hwz2
          go_wp2_with fail
          go_roundw
          case rel => exact ⟨j + 1, by omega, by go_num, hb4⟩
          case measure => simp [intOf]; omega
        · obtain rfl : j = S.length := by omega
          go_wp2_with fail
          go_roundw
          case rel => exact ⟨k + 1, by omega, by go_num, hb3⟩
          case measure => simp [intOf]; omega
    · obtain rfl : k = n := by omega
      go_wp2_with fail
      go_ret
      exact ⟨rfl, hb⟩
end Go.Proofs.YtgabmfibfikdbaaGreatDoor
