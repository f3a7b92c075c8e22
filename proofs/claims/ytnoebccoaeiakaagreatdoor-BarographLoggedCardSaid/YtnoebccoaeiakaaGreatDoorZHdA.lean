/-
  Layers 12 and 15 (posting, head): an index in memory: a map of maps of lists of numbers, all numbers. Plain lemmas over any program; no condition.
-/
import Derived.Test.YtnoebccoaeiakaaGreatDoorZFrmM
import Derived.Test.YtnoebccoaeiakaaGreatDoorZMrgS
import Derived.Test.YtnoebccoaeiakaaGreatDoorZLib35
import Derived.BigQuiet
import Derived.Deep.QuietTactic
import Derived.Test.YtnoebccoaeiakaaGreatDoorZLib4
import Derived.Test.YtnoebccoaeiakaaGreatDoorZLib9
import Derived.BigRegion

namespace Go.Bar
open Go.RowKit
theorem Buf.grown {w w' : World} {e : TypeId} {sz n : Nat} {v : Value} {xs : List Value} {row : Option Nat} (h : Buf w e sz v n xs) (hg : w.grownBy w' row) (hne : ∀ b, v.ownBlock = some b → row ≠ some b) : Buf w' e sz v n xs := by
  obtain ⟨hl, A, c, rfl, hnc, hc, hv⟩ := h
  refine ⟨hl, A, c, rfl, hnc, hc, fun h0 => ?_⟩
  obtain ⟨b, o, cur, fr, rfl, hbk, hs, hf, hx⟩ := hv h0
  exact ⟨b, o, cur, fr, rfl, (hg.block b (Array.getElem?_eq_some_iff.1 hbk).1 (fun e => hne b rfl e.symm)).trans hbk, hs, hf, hx⟩
theorem Blk.grownF {w w' : World} {M : Nat} {T : TypeId} {cur : Array Value} {row : Option Nat} (h : Blk w M T cur) (hg : w.grownBy w' row) (hne : row ≠ some M) : Blk w' M T cur :=
  (hg.block M h.lt (fun e => hne e.symm)).trans h
theorem MfAt.grownF {κ α : Type} {K : Kyk κ} {E : Elk α} {z : α} {P : Program} {k : TypeId} {w w' : World} {b n : Nat} {f : κ → Option α} {row : Option Nat} (h : MfAt P k K E z w b n f) (hg : w.grownBy w' row) (hne : row ≠ some b) : MfAt P k K E z w' b n f :=
  h.block (hg.block b h.lt (fun e => hne e.symm))
theorem Buf.own_cells {w : World} {e : TypeId} {sz n : Nat} {v : Value} {xs : List Value} (h : Buf w e sz v n xs) (hn : 0 < n) : ∃ b cur fr, v.ownBlock = some b ∧ w.heap[b]? = some (.cells cur e fr) := by
  obtain ⟨hl, A, c, rfl, hnc, hc, hv⟩ := h
  obtain ⟨b, o, cur, fr, rfl, hbk, _⟩ := hv (by omega)
  exact ⟨b, cur, fr, rfl, hbk⟩
end Go.Bar
namespace Go.Bar.Hd
open Go.RowKit Go.Bar
structure HTy where
  hd : TypeId
  sr : TypeId
  ix : TypeId
  sm : TypeId
  pr : TypeId
  it : TypeId
  st : TypeId
  ne : [hd, sr, ix, sm, pr, it].Nodup
abbrev Slp := Option (Nat × Nat) × Nat × Nat
def nilS : Slp := (none, 0, 0)
def ints (m : Nat) : List Value := (List.range' 1 m).map fun i => .int .i64 (i : Nat)
theorem ints_succ (m : Nat) : ints (m + 1) = ints m ++ [.int .i64 ((m : Int) + 1)] := by
  unfold ints
  rw [List.range'_concat, List.map_append]
  simp
  omega
theorem ints_at {m i : Nat} (h : i < m) : (ints m)[i]? = some (.int .i64 ((i : Int) + 1)) := by
  unfold ints
  rw [List.getElem?_map, List.getElem?_range' h]
  simp
  omega
structure IxG where
  M : Nat
  al : Value
  fo : List UInt8 → Option (Option Nat)
  fi : List UInt8 → List UInt8 → Option Slp
  N : Nat
def zs (xs : List Int) : List Value := xs.map fun x => .int .i64 x
structure IxAt (P : Program) (T : HTy) (w : World) (I H : Nat) (O : Nat → Prop) (m : Nat) (le : List UInt8 → Int) (G : IxG) : Prop where
  blk : Blk w I T.ix #[.map (some G.M), G.al]
  hI : H ≤ I
  hM : H ≤ G.M ∧ ¬ O G.M
  hO : ∀ b, O b → b < w.heap.size
  all : Buf w T.it 1 G.al m (ints m)
  alo : ∀ b, G.al.ownBlock = some b → H ≤ b
  mp : MfAt P T.st kyS elM none w G.M G.N G.fo
  inn : ∀ a q, G.fo a = some q → ∃ b, q = some b ∧ (G.M < b ∧ ¬ O b) ∧ MfAt P T.st kyS elS nilS w b G.N (G.fi a)
  inj : ∀ a a' b, G.fo a = some (some b) → G.fo a' = some (some b) → a = a'
  lst : ∀ a q v s, G.fo a = some q → G.fi a v = some s → ∃ k xs, Buf w T.it 1 (elS.enc s) k (zs xs) ∧ (∀ x ∈ xs, x ≤ le a) ∧ k ≤ G.N ∧ 0 < k ∧ ∀ b, (elS.enc s).ownBlock = some b → H ≤ b
  own : ∀ a q v s a' q' v' s' b, G.fo a = some q → G.fo a' = some q' → G.fi a v = some s → G.fi a' v' = some s' → (elS.enc s).ownBlock = some b → (elS.enc s').ownBlock = some b → a = a' ∧ v = v'
  owa : ∀ a q v s b, G.fo a = some q → G.fi a v = some s → (elS.enc s).ownBlock = some b → G.al.ownBlock ≠ some b
  lt : ∀ a q v s b, G.fo a = some q → G.fi a v = some s → (elS.enc s).ownBlock = some b → b < w.heap.size
  alt : ∀ b, G.al.ownBlock = some b → b < w.heap.size
  az : m = 0 → G.al.ownBlock = none
section
variable {P : Program} {T : HTy} {w w' : World} {I H : Nat} {O : Nat → Prop} {m : Nat} {le : List UInt8 → Int} {G : IxG}
theorem HTy.ixit (T : HTy) : T.ix ≠ T.it := fun e => by
  have := T.ne
  simp only [List.nodup_cons, List.mem_cons, List.not_mem_nil, or_false, not_or, List.nodup_nil, and_true] at this
  exact this.2.2.1.2.2 e
theorem IxAt.keep (h : IxAt P T w I H O m le G) {Ts : TypeId → Prop} {Ms : Nat → Prop} (k : Kx Ts Ms w w') (h1 : ¬ Ts T.ix) (h2 : ¬ Ts T.it) (h3 : ∀ b, H ≤ b → ¬ O b → ¬ Ms b) : IxAt P T w' I H O m le G where
  blk := k.blk h.blk h1
  hI := h.hI
  hM := h.hM
  hO b hb := Nat.lt_of_lt_of_le (h.hO b hb) k.kc.size
  all := k.buf h.all h2
  alo := h.alo
  mp := k.map h.mp (h3 _ h.hM.1 h.hM.2)
  inn a q ha := by
    obtain ⟨b, e, hb, hm⟩ := h.inn a q ha
    exact ⟨b, e, hb, k.map hm (h3 _ (Nat.le_trans h.hM.1 (Nat.le_of_lt hb.1)) hb.2)⟩
  inj := h.inj
  lst a q v s ha hv := by
    obtain ⟨n, xs, hb, hx⟩ := h.lst a q v s ha hv
    exact ⟨n, xs, k.buf hb h2, hx⟩
  own := h.own
  owa := h.owa
  lt a q v s b ha hv hb := Nat.lt_of_lt_of_le (h.lt a q v s b ha hv hb) k.kc.size
  alt b hb := Nat.lt_of_lt_of_le (h.alt b hb) k.kc.size
  az := h.az
theorem IxAt.below (h : IxAt P T w I H O m le G) (hb : Below w.heap.size w w') : IxAt P T w' I H O m le G := h.keep (Ts := fun _ => False) (Ms := fun _ => False) (Kx.of_below hb) id id (fun _ _ _ => id)
theorem IxAt.le_mono (h : IxAt P T w I H O m le G) {le' : List UInt8 → Int} (hl : ∀ a, le a ≤ le' a) : IxAt P T w I H O m le' G :=
  ⟨h.blk, h.hI, h.hM, h.hO, h.all, h.alo, h.mp, h.inn, h.inj, fun a q v s ha hv => (h.lst a q v s ha hv).elim fun n ⟨xs, hb, hx, hr⟩ => ⟨n, xs, hb, fun x hx' => Int.le_trans (hx x hx') (hl a), hr⟩, h.own, h.owa, h.lt, h.alt, h.az⟩
theorem map_ne {b : Nat} (hm : ∃ es clock, w.heap[b]? = some (.map es clock)) {e : TypeId} {sz n : Nat} {v : Value} {xs : List Value} (hb : Buf w e sz v n xs) (hn : 0 < n) : v.ownBlock ≠ some b := fun e => by
  obtain ⟨b', cur, fr, h1, h2⟩ := hb.own_cells hn
  rw [h1] at e
  injection e with e
  subst e
  obtain ⟨es, cl, h3⟩ := hm
  rw [h3] at h2
  cases h2
theorem zs_app (xs ys : List Int) : zs (xs ++ ys) = zs xs ++ zs ys := List.map_append
open Classical in
theorem IxAt.put (h : IxAt P T w I H O m le G) {w1 w2 : World} {a v : List UInt8} {b k : Nat} {s s1 : Slp} {xs : List Int} {n : Int} (ha : G.fo a = some (some b)) (hs : (G.fi a v).getD nilS = s)
    (hk : k ≤ G.N) (happ : App w (elS.enc s) T.it 1 k (zs xs) w1 (elS.enc s1) 1 [.int .i64 n]) (hx : ∀ x ∈ xs, x ≤ n) (hle : le a ≤ n) (hH : H ≤ w.heap.size)
    (hg : w1.grownBy w2 (some b)) (hm : MfAt P T.st kyS elS nilS w2 b (G.N + 1) (updF (G.fi a) v s1)) :
    IxAt P T w2 I H O m (fun x => if x = a then n else le x) { G with fi := fun x => if x = a then updF (G.fi a) v s1 else G.fi x, N := G.N + 1 } := by
  have hgw := happ.ap.grownBy
  have hsz1 : w.heap.size ≤ w1.heap.size := happ.ap.size
  have hsz2 : w1.heap.size ≤ w2.heap.size := hg.size
  obtain ⟨b', e, hbM, hmb⟩ := h.inn a _ ha
  injection e with e
  subst e
  have hmb1 := hmb
  -- the list's block
  have hrow : ∀ r, (elS.enc s).ownBlock = some r → (∃ cur fr, w.heap[r]? = some (.cells cur T.it fr)) ∧ H ≤ r ∧ r < w.heap.size ∧ G.al.ownBlock ≠ some r ∧ G.fi a v = some s := fun r hr => by
    cases hv : G.fi a v with
    | none => rw [hv] at hs; subst hs; cases hr
    | some s' =>
      rw [hv] at hs
      have hs : s' = s := hs
      subst hs
      obtain ⟨k', xs', hb, _, _, hk0, ho⟩ := h.lst a _ v s' ha hv
      obtain ⟨r', cur, fr, h1, h2⟩ := hb.own_cells hk0
      rw [h1] at hr
      injection hr with hr
      subst hr
      exact ⟨⟨cur, fr, h2⟩, ho _ h1, (Array.getElem?_eq_some_iff.1 h2).1, h.owa a _ v s' _ ha hv h1, rfl⟩
  have hmap : ∀ c, (∃ es cl, w.heap[c]? = some (.map es cl)) → (elS.enc s).ownBlock ≠ some c := fun c hc e => by
    obtain ⟨⟨cur, fr, h1⟩, _⟩ := hrow c e
    obtain ⟨es, cl, h2⟩ := hc
    rw [h1] at h2; cases h2
  have hI : (elS.enc s).ownBlock ≠ some I := fun e => by
    obtain ⟨⟨cur, fr, h1⟩, _⟩ := hrow I e
    have h3 := h.blk
    unfold Blk at h3
    rw [h3] at h1
    injection h1 with h1
    injection h1 with _ h1 _
    exact T.ixit h1
  have hmapb := hmb.is_map
  have b1 := h.blk.grownF hgw hI
  have hbI : (some b : Option Nat) ≠ some I := fun e => by
    injection e with e
    subst e
    obtain ⟨es, cl, h2⟩ := hmapb
    have h3 := h.blk
    unfold Blk at h3
    rw [h3] at h2; cases h2
  -- another list stays
  have hoth : ∀ {u : Value} {ku : Nat} {ys : List Value}, Buf w T.it 1 u ku ys → (∀ r, u.ownBlock = some r → (elS.enc s).ownBlock ≠ some r) → (∀ r, u.ownBlock = some r → r < w.heap.size) → (0 < ku ∨ u.ownBlock = none) → Buf w2 T.it 1 u ku ys := fun {u ku ys} hb hne hlt hk => by
    have h1 := hb.grown hgw hne
    refine h1.grown hg fun r hr e => ?_
    injection e with e
    subst e
    rcases hk with hk | hk
    · exact map_ne hmapb hb hk hr
    · rw [hk] at hr; cases hr
  have hmM : G.M ≠ b := Nat.ne_of_lt hbM.1
  have hnew : ∀ r, (elS.enc s1).ownBlock = some r → (elS.enc s).ownBlock = some r ∨ w.heap.size ≤ r := fun r hr => by
    rcases happ.grew with ⟨A, n1, n2, c, e1, e2, _⟩ | ⟨g, n', c', e1, e2⟩
    · left
      rw [e1]
      rw [e2] at hr
      cases A with
      | none => cases hr
      | some A => exact hr
    · right
      rw [e1] at hr
      have hr : some g = some r := hr
      injection hr with hr
      omega
  have hs1lt : ∀ r, (elS.enc s1).ownBlock = some r → r < w2.heap.size := fun r hr => Nat.lt_of_lt_of_le (happ.buf.lt (by omega) r hr) hsz2
  refine ⟨b1.grownF hg hbI, h.hI, h.hM, fun r hr => Nat.lt_of_lt_of_le (h.hO r hr) (Nat.le_trans hsz1 hsz2), ?_, h.alo, ?_, fun a' q ha' => ?_, h.inj, fun a' q v' s' ha' hv' => ?_, fun a' q v' s' a'' q' v'' s'' r ha' ha'' hv' hv'' hr hr' => ?_, fun a' q v' s' r ha' hv' hr => ?_, fun a' q v' s' r ha' hv' hr => ?_, fun r hr => Nat.lt_of_lt_of_le (h.alt r hr) (Nat.le_trans hsz1 hsz2), h.az⟩
  · rcases Nat.eq_zero_or_pos m with h0 | h0
    · exact hoth h.all (fun r hr e => (hrow r e).2.2.2.1 hr) h.alt (.inr (h.az h0))
    · exact hoth h.all (fun r hr e => (hrow r e).2.2.2.1 hr) h.alt (.inl h0)
  · exact ((h.mp.grownF hgw (hmap _ h.mp.is_map)).grownF hg fun e => hmM (by injection e with e; exact e.symm)).mono (Nat.le_succ _)
  · obtain ⟨b', e, hb', hm'⟩ := h.inn a' q ha'
    by_cases hh : a' = a
    · subst hh
      rw [ha] at ha'
      injection ha' with ha'
      subst ha'
      refine ⟨b, rfl, hbM, ?_⟩
      show MfAt P T.st kyS elS nilS w2 b (G.N + 1) (if a' = a' then _ else _)
      rw [if_pos rfl]
      exact hm
    · refine ⟨b', e, hb', ?_⟩
      show MfAt P T.st kyS elS nilS w2 b' (G.N + 1) (if a' = a then _ else _)
      rw [if_neg hh]
      refine ((hm'.grownF hgw (hmap _ hm'.is_map)).grownF hg fun e' => hh ?_).mono (Nat.le_succ _)
      injection e' with e'
      subst e'
      subst e
      exact h.inj a' a b ha' ha
  all_goals
    have hnewl : ∀ {x : List UInt8} {y : List UInt8} {z : Slp}, (if x = a then updF (G.fi a) v s1 else G.fi x) y = some z → (x = a ∧ y = v ∧ z = s1) ∨ (G.fi x y = some z ∧ ¬ (x = a ∧ y = v)) := fun {x y z} hz => by
      by_cases hxa : x = a
      · subst hxa
        rw [if_pos rfl] at hz
        by_cases hyv : y = v
        · subst hyv
          rw [updF_same] at hz
          injection hz with hz
          exact .inl ⟨rfl, rfl, hz.symm⟩
        · rw [updF_ne _ _ hyv] at hz
          exact .inr ⟨hz, fun e => hyv e.2⟩
      · rw [if_neg hxa] at hz
        exact .inr ⟨hz, fun e => hxa e.1⟩
    have holdb : ∀ {x : List UInt8} {p : Option Nat} {y : List UInt8} {z : Slp} {r : Nat}, G.fo x = some p → G.fi x y = some z → (elS.enc z).ownBlock = some r → ¬ (x = a ∧ y = v) → (elS.enc s1).ownBlock ≠ some r := fun {x p y z r} hx1 hx2 hx3 hne hr => by
      rcases hnew r hr with h1 | h1
      · obtain ⟨_, _, _, _, h2⟩ := hrow r h1
        exact hne (h.own x p y z a _ v s r hx1 ha hx2 h2 hx3 h1)
      · have := h.lt x p y z r hx1 hx2 hx3
        omega
  · have hv' : (if a' = a then updF (G.fi a) v s1 else G.fi a') v' = some s' := hv'
    rcases hnewl hv' with ⟨rfl, rfl, rfl⟩ | ⟨h1, h2⟩
    · refine ⟨k + 1, xs ++ [n], ?_, fun x hx' => ?_, Nat.succ_le_succ hk, Nat.succ_pos _, fun r hr => ?_⟩
      · rw [zs_app]
        refine happ.buf.grown hg fun r hr e => ?_
        injection e with e
        subst e
        exact map_ne (hmb1.grownF hgw (hmap _ hmapb)).is_map happ.buf (Nat.succ_pos _) hr
      · show x ≤ (if a' = a' then n else le a')
        rw [if_pos rfl]
        rcases List.mem_append.1 hx' with hx' | hx'
        · exact hx x hx'
        · obtain rfl := List.mem_singleton.1 hx'
          exact Int.le_refl _
      · rcases hnew r hr with h1 | h1
        · exact (hrow r h1).2.1
        · omega
    · obtain ⟨k', ys, hb, hy, hkN, hk0, ho⟩ := h.lst a' q v' s' ha' h1
      refine ⟨k', ys, ?_, fun y hy' => ?_, Nat.le_succ_of_le hkN, hk0, ho⟩
      · refine hoth hb (fun r hr e => ?_) (fun r hr => h.lt a' q v' s' r ha' h1 hr) (.inl hk0)
        obtain ⟨_, _, _, _, h3⟩ := hrow r e
        exact h2 (h.own a' q v' s' a _ v s r ha' ha h1 h3 hr e)
      · show y ≤ (if a' = a then n else le a')
        by_cases hh : a' = a
        · subst hh
          rw [if_pos rfl]
          exact Int.le_trans (hy y hy') hle
        · rw [if_neg hh]
          exact hy y hy'
  · have hv' : (if a' = a then updF (G.fi a) v s1 else G.fi a') v' = some s' := hv'
    have hv'' : (if a'' = a then updF (G.fi a) v s1 else G.fi a'') v'' = some s'' := hv''
    rcases hnewl hv' with ⟨rfl, rfl, rfl⟩ | ⟨h1, h2⟩
    · rcases hnewl hv'' with ⟨rfl, rfl, rfl⟩ | ⟨h3, h4⟩
      · exact ⟨rfl, rfl⟩
      · exact absurd hr (holdb ha'' h3 hr' h4)
    · rcases hnewl hv'' with ⟨rfl, rfl, rfl⟩ | ⟨h3, h4⟩
      · exact absurd hr' (holdb ha' h1 hr h2)
      · exact h.own a' q v' s' a'' q' v'' s'' r ha' ha'' h1 h3 hr hr'
  · have hv' : (if a' = a then updF (G.fi a) v s1 else G.fi a') v' = some s' := hv'
    rcases hnewl hv' with ⟨rfl, rfl, rfl⟩ | ⟨h1, h2⟩
    · rcases hnew r hr with h1 | h1
      · exact (hrow r h1).2.2.2.1
      · intro e
        have := h.alt r e
        omega
    · exact h.owa a' q v' s' r ha' h1 hr
  · have hv' : (if a' = a then updF (G.fi a) v s1 else G.fi a') v' = some s' := hv'
    rcases hnewl hv' with ⟨rfl, rfl, rfl⟩ | ⟨h1, h2⟩
    · exact hs1lt r hr
    · exact Nat.lt_of_lt_of_le (h.lt a' q v' s' r ha' h1 hr) (Nat.le_trans hsz1 hsz2)
theorem IxAt.more (h : IxAt P T w I H O m le G) {w1 : World} {v1 : Value} (happ : App w G.al T.it 1 m (ints m) w1 v1 1 [.int .i64 ((m : Int) + 1)]) (hH : H ≤ w.heap.size) :
    IxAt P T (w1.setCell ⟨I, 1, none⟩ v1) I H O (m + 1) le { G with al := v1 } := by
  have hgw := happ.ap.grownBy
  have hsz1 : w.heap.size ≤ w1.heap.size := happ.ap.size
  have hrow : ∀ r, G.al.ownBlock = some r → 0 < m ∧ ∃ cur fr, w.heap[r]? = some (.cells cur T.it fr) := fun r hr => by
    rcases Nat.eq_zero_or_pos m with h0 | h0
    · rw [h.az h0] at hr; cases hr
    · obtain ⟨r', cur, fr, h1, h2⟩ := h.all.own_cells h0
      rw [h1] at hr
      injection hr with hr
      subst hr
      exact ⟨h0, cur, fr, h2⟩
  have hmap : ∀ c, (∃ es cl, w.heap[c]? = some (.map es cl)) → G.al.ownBlock ≠ some c := fun c hc e => by
    obtain ⟨_, cur, fr, h1⟩ := hrow c e
    obtain ⟨es, cl, h2⟩ := hc
    rw [h1] at h2; cases h2
  have hI : G.al.ownBlock ≠ some I := fun e => by
    obtain ⟨_, cur, fr, h1⟩ := hrow I e
    have h3 := h.blk
    unfold Blk at h3
    rw [h3] at h1
    injection h1 with h1
    injection h1 with _ h1 _
    exact T.ixit h1
  have b1 := h.blk.grownF hgw hI
  have b2 := b1.set 1 v1
  have hnew : ∀ r, v1.ownBlock = some r → G.al.ownBlock = some r ∨ w.heap.size ≤ r := fun r hr => by
    rcases happ.grew with ⟨A, n1, n2, c, e1, e2, _⟩ | ⟨g, n', c', e1, e2⟩
    · left
      rw [e1]
      rw [e2] at hr
      cases A with
      | none => cases hr
      | some A => exact hr
    · right
      rw [e1] at hr
      have hr : some g = some r := hr
      injection hr with hr
      omega
  have hs : (w1.setCell ⟨I, 1, none⟩ v1).heap.size = w1.heap.size := by simp [World.setCell]
  have hset : ∀ k, k ≠ I → (w1.setCell ⟨I, 1, none⟩ v1).heap[k]? = w1.heap[k]? := fun k hk => Below.heap_setCell w1 ⟨I, 1, none⟩ v1 k hk
  have hbset : ∀ {u : Value} {ku : Nat} {ys : List Value}, Buf w1 T.it 1 u ku ys → Buf (w1.setCell ⟨I, 1, none⟩ v1) T.it 1 u ku ys := fun hb => hb.set_ne b1 (fun e => T.ixit e.symm) 1 v1
  have hmset : ∀ {κ α : Type} {K : Kyk κ} {E : Elk α} {z : α} {b n : Nat} {f : κ → Option α}, MfAt P T.st K E z w b n f → MfAt P T.st K E z (w1.setCell ⟨I, 1, none⟩ v1) b n f := fun hm => (hm.grownF hgw (hmap _ hm.is_map)).set I 1 v1
  refine ⟨b2, h.hI, h.hM, fun r hr => by rw [hs]; exact Nat.lt_of_lt_of_le (h.hO r hr) hsz1, ?_, fun r hr => ?_, hmset h.mp, fun a q ha => ?_, h.inj, fun a q v s ha hv => ?_, h.own, fun a q v s r ha hv hr => ?_, fun a q v s r ha hv hr => ?_, fun r hr => ?_, fun e => by omega⟩
  · rw [ints_succ]
    exact hbset happ.buf
  · rcases hnew r hr with h1 | h1
    · exact h.alo r h1
    · omega
  · obtain ⟨b, e, hb, hm⟩ := h.inn a q ha
    exact ⟨b, e, hb, hmset hm⟩
  · obtain ⟨k, xs, hb, hx, hkN, hk0, ho⟩ := h.lst a q v s ha hv
    exact ⟨k, xs, hbset (hb.grown hgw fun r hr e => h.owa a q v s r ha hv hr e), hx, hkN, hk0, ho⟩
  · intro e
    rcases hnew r e with h1 | h1
    · exact h.owa a q v s r ha hv hr h1
    · have := h.lt a q v s r ha hv hr
      omega
  · rw [hs]
    exact Nat.lt_of_lt_of_le (h.lt a q v s r ha hv hr) hsz1
  · rw [hs]
    exact happ.buf.lt (Nat.succ_pos _) r hr
open Classical in
theorem IxAt.name (h : IxAt P T w I H O m le G) {w2 : World} {a : List UInt8} (ha : G.fo a = none) (hg : (w.alloc (.map #[] 0)).grownBy w2 (some G.M)) (hm : MfAt P T.st kyS elM none w2 G.M (G.N + 1) (updF G.fo a (some w.heap.size))) :
    IxAt P T w2 I H O m le { G with fo := updF G.fo a (some w.heap.size), fi := fun x => if x = a then fun _ => none else G.fi x, N := G.N + 1 } := by
  have h0 := h.below ((Below.refl _ w).alloc (Nat.le_refl _) (.map #[] 0))
  have hMm := h0.mp.is_map
  have hMI : (some G.M : Option Nat) ≠ some I := fun e => by
    injection e with e
    obtain ⟨es, cl, h2⟩ := hMm
    have h3 := h0.blk
    unfold Blk at h3
    rw [← e, h2] at h3; cases h3
  have hsz : w.heap.size < (w.alloc (.map #[] 0)).heap.size := by simp
  have hup : ∀ {x : List UInt8} {q : Option Nat}, updF G.fo a (some w.heap.size) x = some q → (x = a ∧ q = some w.heap.size) ∨ (x ≠ a ∧ G.fo x = some q) := fun {x q} hx => by
    by_cases hxa : x = a
    · subst hxa
      rw [updF_same] at hx
      injection hx with hx
      exact .inl ⟨rfl, hx.symm⟩
    · rw [updF_ne _ _ hxa] at hx
      exact .inr ⟨hxa, hx⟩
  have hinlt : ∀ x b, G.fo x = some (some b) → b < w.heap.size := fun x b hx => by
    obtain ⟨b', e, _, hm'⟩ := h.inn x _ hx
    injection e with e
    subst e
    exact hm'.lt
  have hfi : ∀ {x : List UInt8} {y : List UInt8} {z : Slp}, (if x = a then fun _ => none else G.fi x) y = some z → x ≠ a ∧ G.fi x y = some z := fun {x y z} hz => by
    by_cases hxa : x = a
    · rw [if_pos hxa] at hz; cases hz
    · rw [if_neg hxa] at hz
      exact ⟨hxa, hz⟩
  have hcell : ∀ {u : Value} {ku : Nat} {ys : List Value}, Buf (w.alloc (.map #[] 0)) T.it 1 u ku ys → (0 < ku ∨ u.ownBlock = none) → Buf w2 T.it 1 u ku ys := fun {u ku ys} hb hk => hb.grown hg fun r hr e => by
    injection e with e
    subst e
    rcases hk with hk | hk
    · exact map_ne hMm hb hk hr
    · rw [hk] at hr; cases hr
  have hfo : ∀ {x : List UInt8} {q : Option Nat} {y : List UInt8} {z : Slp}, updF G.fo a (some w.heap.size) x = some q → (if x = a then fun _ => none else G.fi x) y = some z → G.fo x = some q ∧ G.fi x y = some z := fun {x q y z} h1 h2 => by
    obtain ⟨h3, h4⟩ := hfi h2
    rcases hup h1 with ⟨h5, _⟩ | ⟨_, h5⟩
    · exact absurd h5 h3
    · exact ⟨h5, h4⟩
  have hs2 : (w.alloc (.map #[] 0)).heap.size ≤ w2.heap.size := hg.size
  refine ⟨h0.blk.grownF hg hMI, h.hI, h.hM, fun r hr => Nat.lt_of_lt_of_le (h0.hO r hr) hs2, hcell h0.all ?_, h.alo, hm, fun x q hx => ?_, fun x x' b hx hx' => ?_, fun x q y z hx hy => ?_, fun x q y z x' q' y' z' r hx hx' hy hy' hr hr' => ?_, fun x q y z r hx hy hr => ?_, fun x q y z r hx hy hr => ?_, fun r hr => Nat.lt_of_lt_of_le (h0.alt r hr) hs2, h.az⟩
  · rcases Nat.eq_zero_or_pos m with h1 | h1
    · exact .inr (h.az h1)
    · exact .inl h1
  · rcases hup hx with ⟨rfl, rfl⟩ | ⟨hxa, hx'⟩
    · refine ⟨w.heap.size, rfl, ⟨h.mp.lt, fun e => Nat.lt_irrefl _ (h.hO _ e)⟩, ?_⟩
      show MfAt P T.st kyS elS nilS w2 w.heap.size (G.N + 1) (if x = x then _ else _)
      rw [if_pos rfl]
      have hmade : MfAt P T.st kyS elS nilS (w.alloc (.map #[] 0)) w.heap.size 0 (fun _ => none) := MfAt.made w P T.st kyS elS nilS
      exact (hmade.grownF hg fun e => by injection e with e; have := h.mp.lt; omega).mono (Nat.zero_le _)
    · obtain ⟨b, e, hb, hm'⟩ := h0.inn x q hx'
      refine ⟨b, e, hb, ?_⟩
      show MfAt P T.st kyS elS nilS w2 b (G.N + 1) (if x = a then _ else _)
      rw [if_neg hxa]
      exact (hm'.grownF hg fun e' => by injection e' with e'; omega).mono (Nat.le_succ _)
  · rcases hup hx with ⟨rfl, e1⟩ | ⟨hxa, hx1⟩
    · rcases hup hx' with ⟨rfl, _⟩ | ⟨hxa', hx1'⟩
      · rfl
      · injection e1 with e1
        have := hinlt x' b hx1'
        omega
    · rcases hup hx' with ⟨rfl, e1⟩ | ⟨hxa', hx1'⟩
      · injection e1 with e1
        have := hinlt x b hx1
        omega
      · exact h.inj x x' b hx1 hx1'
  · obtain ⟨h1, h2⟩ := hfo hx hy
    obtain ⟨k, xs, hb, hxx, hkN, hk0, ho⟩ := h0.lst x q y z h1 h2
    exact ⟨k, xs, hcell hb (.inl hk0), hxx, Nat.le_succ_of_le hkN, hk0, ho⟩
  · obtain ⟨h1, h2⟩ := hfo hx hy
    obtain ⟨h3, h4⟩ := hfo hx' hy'
    exact h.own x q y z x' q' y' z' r h1 h3 h2 h4 hr hr'
  · obtain ⟨h1, h2⟩ := hfo hx hy
    exact h.owa x q y z r h1 h2 hr
  · obtain ⟨h1, h2⟩ := hfo hx hy
    exact Nat.lt_of_lt_of_le (h0.lt x q y z r h1 h2 hr) hs2
theorem IxAt.new {I M : Nat} (hb : Blk w I T.ix #[.map (some M), .slice none 0 0]) (hm : MfAt P T.st kyS elM none w M 0 (fun _ => none)) (hI : H ≤ I) (hM : H ≤ M ∧ ¬ O M) (hO : ∀ b, O b → b < w.heap.size) (le : List UInt8 → Int) :
    IxAt P T w I H O 0 le ⟨M, .slice none 0 0, fun _ => none, fun _ _ => none, 0⟩ :=
  ⟨hb, hI, hM, hO, Buf.nil w T.it 1, fun b e => (by cases e), hm, fun a q e => (by cases e), fun a a' b e => (by cases e), fun a q v s e => (by cases e), fun a q v s a' q' v' s' b e => (by cases e), fun a q v s b e => (by cases e), fun a q v s b e => (by cases e), fun b e => (by cases e), fun _ => rfl⟩
def leJ (s : List Lab.Pr) (j : Nat) (m : Int) : List UInt8 → Int := fun a => if a ∈ (s.take j).map (·.1) then m + 1 else m
theorem leJ_zero (s : List Lab.Pr) (m : Int) : leJ s 0 m = fun _ => m := by
  funext a
  unfold leJ
  rw [if_neg (by simp)]
open Classical in
theorem leJ_step {s : List Lab.Pr} {j : Nat} {p : Lab.Pr} (h : s[j]? = some p) (m : Int) : (fun x => if x = p.1 then m + 1 else leJ s j m x) = leJ s (j + 1) m := by
  funext a
  unfold leJ
  rw [List.take_add_one, h, Option.toList_some, List.map_append, List.map_singleton]
  by_cases ha : a = p.1
  · rw [if_pos ha, if_pos (by rw [ha]; simp)]
  · rw [if_neg ha]
    by_cases h2 : a ∈ (s.take j).map (·.1)
    · rw [if_pos h2, if_pos (List.mem_append_left _ h2)]
    · rw [if_neg h2, if_neg (fun e => (List.mem_append.1 e).elim h2 (fun e => ha (List.mem_singleton.1 e)))]
theorem leJ_cur {s : List Lab.Pr} {j : Nat} {p : Lab.Pr} (h : s[j]? = some p) (hs : (s.map (·.1)).Nodup) (m : Int) : leJ s j m p.1 = m := by
  unfold leJ
  rw [if_neg]
  intro e
  obtain ⟨i, hi⟩ := List.mem_iff_getElem?.1 e
  rw [List.getElem?_map, List.getElem?_take] at hi
  split at hi
  · rename_i hlt
    have h1 : (s.map (·.1))[i]? = some p.1 := by rw [List.getElem?_map]; exact hi
    have h2 : (s.map (·.1))[j]? = some p.1 := by rw [List.getElem?_map, h]; rfl
    have h3 := (List.getElem?_inj (by rw [List.length_map]; have := (List.getElem?_eq_some_iff.1 h).1; omega) hs).1 (h1.trans h2.symm)
    omega
  · cases hi
theorem leJ_le (s : List Lab.Pr) (j : Nat) (m : Int) (a : List UInt8) : m ≤ leJ s j m a ∧ leJ s j m a ≤ m + 1 := by
  unfold leJ
  split <;> omega
end
end Go.Bar.Hd

namespace Go.Proofs.YtnoebccoaeiakaaGreatDoor
open Go.RowKit Go.Bar Go.Bar.Leb

set_option maxHeartbeats 400000 in
set_option maxRecDepth 10000 in
theorem takeUint_any (s : ByteArray) (w : World) (hs : s.size ≤ maxLen) :
    Calls Tryz.prog 85 #[.string s] w (Quiet w (.tuple #[.int .u64 (takeU s.data.toList).1, .string (bs (takeU s.data.toList).2.1), .int .i64 (takeU s.data.toList).2.2])) := by
  unfold maxLen at hs
  go_enter Tryz.func85, Tryz.ntmps85
  go_wp2
  go_loopw [5, 10] (fun v i wr => ∃ k acc : Nat, k ≤ s.size ∧ k ≤ 9 ∧ acc < 128 ^ k ∧ v = .int .u64 acc ∧ i = .int .i64 k ∧ wr = w ∧ tk k acc (s.data.toList.drop k) = takeU s.data.toList)
    (fun _ i _ => s.size - (intOf i).toNat)
  case atStart => exact ⟨0, 0, Nat.zero_le _, by omega, by simp, rfl, rfl, rfl, rfl⟩
  case round =>
    obtain ⟨k, acc, hk, hk9, hacc, rfl, rfl, rfl, htk⟩ := hrel
    have HT := Lib.hid htk
    clear htk
    by_cases hlt : k < s.size
    · rw [drop_cons s k hlt] at HT
      go_wp2
      case roundEnd =>
        have h9 : ¬ (k : Int) = 9 := by assumption
        have h1 : (128 : Int) ≤ s[k].toNat := by assumption
        refine ⟨⟨k + 1, _, by omega, by omega, acc_lt acc k _ hacc, by rw [acc_step acc k _ hacc hk9 (UInt8.toNat_lt _) (by omega) _ (by simp)], by go_num, trivial, ?_⟩, by simp [intOf]; omega⟩
        rw [← HT.out, tk_more (by omega) (by omega)]
      all_goals (try (go_quiet (fail); go_wp2))
      all_goals go_ret3
      all_goals first
        | exact Quiet.of (takeU_bad hlt HT (by omega)) ⟨0, rfl⟩
        | exact Quiet.of (takeU_last hlt hk9 hacc HT (by omega) (by omega) (by omega) _ _ _ (by omega) (by first | (simp; done) | (rw [show k = 9 by omega]; rfl)) (by omega)) ⟨_, rfl⟩
    · go_wp2
      go_ret3
      have e : s.data.toList.drop k = [] := List.drop_eq_nil_of_le (by rw [← size_eq]; omega)
      rw [← HT.out, e]
      exact Quiet.same

theorem takeUint_of {v e : Nat} {r : List UInt8} (s : ByteArray) (h : takeU s.data.toList = (v, r, e)) (w : World) (hs : s.size ≤ maxLen) :
    Calls Tryz.prog 85 #[.string s] w (Quiet w (.tuple #[.int .u64 v, .string (bs r), .int .i64 e])) := by
  have := takeUint_any s w hs
  rw [h] at this
  exact this

theorem bytes_ty : ByteTy Tryz.prog 66 5 :=
  ⟨Tryz.underlying66, Tryz.underlying5, info_parts (show (Tryz.prog.info? 5).map (fun i => (i.zero, i.size, i.bytes)) = some (some (.int .u8 0), 1, 1) by kernel_rfl)⟩

set_option maxHeartbeats 400000 in
set_option maxRecDepth 10000 in
theorem uint_any (V : Value) (xs : List UInt8) (n : Nat) (W : World) (hn : n < 18446744073709551616) (hx : xs.length + 10 ≤ 140737488355328) (hb : BBuf W 5 V xs) :
    Calls Tryz.prog 20 #[V, .int .u64 n] W (RetB W V 5 xs (u n)) := by
  have hul := u_len n hn
  go_enter Tryz.func20, Tryz.ntmps20
  go_wp2
  go_loopw [0, 1] (fun b m wr => ∃ (k : Nat) (ys : List UInt8), k < 18446744073709551616 ∧ m = .int .u64 k ∧ BApp W V 5 xs wr b ys ∧ ys ++ u k = u n) (fun _ m _ => (intOf m).toNat)
  case atStart => exact ⟨n, [], hn, rfl, BApp.start' hb, rfl⟩
  case round =>
    obtain ⟨k, ys, hk, rfl, happ, hys⟩ := hrel
    have HY := Lib.hid hys
    have hyl : ys.length + (u k).length ≤ 10 := by rw [← List.length_append, hys]; exact hul
    have hup := u_pos k
    clear hys
    by_cases hlt : 127 < k
    · go_wp2_with (at_builtin; refine wpList_append_byte rfl (.tmp 9) (.tmp 13) 66 rfl bytes_ty _ (byte_hi k) rfl happ rfl (by omega) ?_; intro v' w' happ'; clear happ)
      go_roundw
      case rel => exact ⟨k / 128, _, by omega, by go_num, happ', by rw [← HY.out, u_ge (n := k) (by omega), List.append_assoc]; rfl⟩
      case measure => simp [intOf]; omega
    · go_wp2_with (at_builtin; refine wpList_append_byte rfl (.tmp 15) (.tmp 18) 66 rfl bytes_ty _ (byte_lo k (by omega)) rfl happ rfl (by omega) ?_; intro v' w' happ'; clear happ)
      go_ret
      exact ⟨v', rfl, by rw [← HY.out, u_lt (by omega)]; exact happ'⟩

set_option maxHeartbeats 400000 in
theorem text_any (V : Value) (xs : List UInt8) (s : ByteArray) (W : World) (hs : s.size ≤ maxLen) (hx : xs.length + 10 + s.size ≤ 140737488355328) (hb : BBuf W 5 V xs) :
    Calls Tryz.prog 63 #[V, .string s] W (RetB W V 5 xs (u s.size ++ s.data.toList)) := by
  unfold maxLen at hs
  have hul := u_len s.size (by omega)
  go_enter Tryz.func63, Tryz.ntmps63
  go_wp2_with fail
  refine (uint_any V xs s.size _ (by omega) (by omega) hb).mono ?_
  rintro e w' ⟨v', rfl, happ⟩
  go_wp2_with (at_builtin; refine wpList_append_str rfl (.tmp 9) (.tmp 10) 66 9 rfl bytes_ty Tryz.underlying9 s rfl happ rfl (by omega) ?_; intro v2 w2 happ2)
  go_ret
  exact ⟨v2, rfl, happ2⟩

set_option maxHeartbeats 400000 in
theorem takeMost_any (s : ByteArray) (most : Int) (w : World) (hs : s.size ≤ maxLen) (h1 : -9223372036854775808 ≤ most) (h2 : most ≤ 9223372036854775807) :
    Calls Tryz.prog 82 #[.string s, .int .i64 most] w (Quiet w (.tuple #[.int .i64 (takeMost s.data.toList most).1, .string (bs (takeMost s.data.toList most).2.1), .int .i64 (takeMost s.data.toList most).2.2])) := by
  have hp := takeU_prop s.data.toList
  unfold takeMost
  obtain ⟨v, r, er, ht⟩ : ∃ v r er, takeU s.data.toList = (v, r, er) := ⟨_, _, _, rfl⟩
  have HT := Lib.hid ht
  rw [ht] at hp ⊢
  clear ht
  obtain ⟨hv, _, he⟩ := hp
  simp only [] at hv he ⊢
  rcases he with rfl | ⟨he, rfl, rfl⟩
  · by_cases hm : (max most 0).toNat < v
    · rw [if_pos ⟨rfl, hm⟩]
      go_enter Tryz.func82, Tryz.ntmps82
      go_wp2_with fail
      refine (takeUint_of s HT.out _ hs).mono ?_
      rintro e w' ⟨rfl, n, rfl⟩
      go_wp2_with fail
      all_goals go_ret3
      all_goals exact ⟨rfl, _, rfl⟩
    · rw [if_neg (fun h => hm h.2)]
      have hv2 : v ≤ 9223372036854775807 := by omega
      go_enter Tryz.func82, Tryz.ntmps82
      go_wp2_with fail
      refine (takeUint_of s HT.out _ hs).mono ?_
      rintro e w' ⟨rfl, n, rfl⟩
      go_wp2_with fail
      all_goals go_ret3
      all_goals exact ⟨rfl, _, rfl⟩
  · rw [if_neg (fun h => by omega)]
    have hb : ((er : Int) == 0) = false := by rw [beq_eq_false_iff_ne]; omega
    clear he
    go_enter Tryz.func82, Tryz.ntmps82
    go_wp2_with fail
    refine (takeUint_of s HT.out _ hs).mono ?_
    rintro e w' ⟨rfl, n, rfl⟩
    go_wp2_with fail
    all_goals go_ret3
    all_goals exact ⟨rfl, _, rfl⟩

theorem takeMost_of {v e : Nat} {r : List UInt8} (s : ByteArray) (most : Int) (h : takeMost s.data.toList most = (v, r, e)) (w : World) (hs : s.size ≤ maxLen) (h1 : -9223372036854775808 ≤ most) (h2 : most ≤ 9223372036854775807) :
    Calls Tryz.prog 82 #[.string s, .int .i64 most] w (Quiet w (.tuple #[.int .i64 v, .string (bs r), .int .i64 e])) := by
  have := takeMost_any s most w hs h1 h2
  rw [h] at this
  exact this

set_option maxHeartbeats 400000 in
theorem takeText_any (s : ByteArray) (most : Int) (w : World) (hs : s.size ≤ maxLen) (h1 : -9223372036854775808 ≤ most) (h2 : most ≤ 9223372036854775807) :
    Calls Tryz.prog 119 #[.string s, .int .i64 most] w (Quiet w (.tuple #[.string (bs (takeText s.data.toList most).1), .string (bs (takeText s.data.toList most).2.1), .int .i64 (takeText s.data.toList most).2.2])) := by
  have hp := takeMost_prop s.data.toList most h2
  have hs' : s.data.toList.length ≤ 9223372036854775807 := hs
  unfold takeText
  obtain ⟨v, r, er, ht⟩ : ∃ v r er, takeMost s.data.toList most = (v, r, er) := ⟨_, _, _, rfl⟩
  have HT := Lib.hid ht
  rw [ht] at hp ⊢
  clear ht
  obtain ⟨hv, hr, he⟩ := hp
  simp only [] at hv he hr ⊢
  have hrs : (bs r).size = r.length := rfl
  have hrl : r.length ≤ 9223372036854775807 := Nat.le_trans hr hs'
  clear hr hs'
  rcases he with rfl | ⟨he, rfl, rfl⟩
  · rw [if_neg (by omega)]
    by_cases hm : r.length < v
    · rw [if_pos hm]
      go_enter Tryz.func119, Tryz.ntmps119
      go_wp2_with fail
      refine (takeMost_of s most HT.out _ hs h1 h2).mono ?_
      rintro e w' ⟨rfl, n, rfl⟩
      go_wp2_with fail
      all_goals go_ret3
      all_goals exact ⟨rfl, _, rfl⟩
    · rw [if_neg hm]
      have hle : v ≤ (bs r).size := by rw [bs_size]; omega
      go_enter Tryz.func119, Tryz.ntmps119
      go_wp2_with fail
      refine (takeMost_of s most HT.out _ hs h1 h2).mono ?_
      rintro e w' ⟨rfl, n, rfl⟩
      go_wp2_with fail
      go_quiet (fail)
      go_wp2_with fail
      all_goals go_ret3
      refine ⟨?_, n + nq, by rw [World.drewN_drewN]⟩
      have e1 : (bs r).extract 0 v = bs (r.take v) := bs_extract r 0 v
      have e2 : (bs r).extract v r.length = bs (r.drop v) := by rw [bs_extract, List.take_of_length_le (by rw [List.length_drop]; exact Nat.le_refl _)]
      rw [← e1, ← e2]
      rfl
  · rw [if_pos he]
    have hb : ((er : Int) == 0) = false := by rw [beq_eq_false_iff_ne]; omega
    have hb2 : ((er : Int) != 0) = true := by rw [bne_iff_ne]; omega
    clear he
    go_enter Tryz.func119, Tryz.ntmps119
    go_wp2_with fail
    refine (takeMost_of s most HT.out _ hs h1 h2).mono ?_
    rintro e w' ⟨rfl, n, rfl⟩
    go_wp2_with fail
    all_goals go_ret3
    all_goals exact ⟨rfl, _, rfl⟩

theorem takeText_of {e : Nat} {t r : List UInt8} (s : ByteArray) (most : Int) (h : takeText s.data.toList most = (t, r, e)) (w : World) (hs : s.size ≤ maxLen) (h1 : -9223372036854775808 ≤ most) (h2 : most ≤ 9223372036854775807) :
    Calls Tryz.prog 119 #[.string s, .int .i64 most] w (Quiet w (.tuple #[.string (bs t), .string (bs r), .int .i64 e])) := by
  have := takeText_any s most w hs h1 h2
  rw [h] at this
  exact this

set_option maxHeartbeats 400000 in
theorem takeByte_none (s : ByteArray) (w : World) (h0 : s.data.toList = []) :
    Calls Tryz.prog 98 #[.string s] w (Quiet w (.tuple #[.int .u8 0, .string (bs []), .int .i64 2])) := by
  obtain rfl : s = bs [] := by rw [← bs_eta s, h0]
  clear h0
  have he : (bs []).toList.isEmpty = true := bs_isEmpty []
  go_enter Tryz.func98, Tryz.ntmps98
  go_wp2_with fail
  all_goals go_ret3
  all_goals exact ⟨rfl, 0, rfl⟩

set_option maxHeartbeats 400000 in
theorem takeByte_some (s : ByteArray) (w : World) (c : UInt8) (r : List UInt8) (hs : s.size ≤ maxLen) (h0 : s.data.toList = c :: r) :
    Calls Tryz.prog 98 #[.string s] w (Quiet w (.tuple #[.int .u8 c.toNat, .string (bs r), .int .i64 0])) := by
  obtain rfl : s = bs (c :: r) := by rw [← bs_eta s, h0]
  unfold maxLen at hs
  clear h0
  have hsz : (bs (c :: r)).size = r.length + 1 := rfl
  have he : (bs (c :: r)).toList.isEmpty = false := bs_isEmpty _
  go_enter Tryz.func98, Tryz.ntmps98
  go_wp2_with fail
  go_quiet (fail)
  go_wp2_with fail
  go_ret3
  refine ⟨?_, _, rfl⟩
  have e2 : (bs (c :: r)).extract 1 (r.length + 1) = bs r := by
    rw [bs_extract]
    simp
  rw [← e2]
  rfl

theorem fix3 : u 300 = [172, 2] := by rw [u_ge (by omega), u_lt (by omega)]; rfl

end Go.Proofs.YtnoebccoaeiakaaGreatDoor

namespace Go.Proofs.YtnoebccoaeiakaaGreatDoor
open Go.RowKit Go.Bar Go.Bar.Leb Go.Bar.Lab

def pcs (l : List Pr) : List Value := l.flatMap fun p => [.string (bs p.1), .string (bs p.2)]
theorem pcs_append (l m : List Pr) : pcs (l ++ m) = pcs l ++ pcs m := List.flatMap_append
theorem pcs_snoc (l : List Pr) (p : Pr) : pcs (l ++ [p]) = pcs l ++ [.string (bs p.1), .string (bs p.2)] := by simp [pcs]
theorem pcs_one (l : List Pr) : ∀ u ∈ pcs l, u.oneCell' = true := by
  intro u hu
  unfold pcs at hu
  rw [List.mem_flatMap] at hu
  obtain ⟨p, _, hp⟩ := hu
  simp only [List.mem_cons, List.not_mem_nil, or_false] at hp
  rcases hp with rfl | rfl <;> rfl
def PsAt (w : World) (v : Value) (l : List Pr) : Prop := SlAt w 2 v l.length (pcs l)
section
variable {w w' : World} {v : Value} {l : List Pr}
theorem PsAt.below (h : PsAt w v l) (hb : Below w.heap.size w w') : PsAt w' v l := SlAt.below h hb
theorem PsAt.shape (h : PsAt w v l) : ∃ A c, v = .slice A l.length c ∧ l.length ≤ c ∧ c ≤ maxLen := SlAt.shape h
theorem PsAt.at_ {A : Option Addr} {n c i : Nat} {p : Pr} (h : PsAt w (.slice A n c) l) (hi : l[i]? = some p) : ∃ b o, A = some ⟨b, o, none⟩ ∧ b < w.heap.size ∧ w.cell? ⟨b, o + i * 2, none⟩ = some (.string (bs p.1)) ∧ w.cell? ⟨b, o + i * 2 + 1, none⟩ = some (.string (bs p.2)) := by
  have hlt : i < l.length := (List.getElem?_eq_some_iff.1 hi).1
  obtain ⟨A', c', he, _⟩ := h.shape
  injection he with h1 h2 h3
  subst h1; subst h2; subst h3
  obtain ⟨b, o, rfl, hb, hc⟩ := SlAt.cells h (by omega)
  obtain ⟨g1, g2⟩ := flat2 (fun p : Pr => .string (bs p.1)) (fun p : Pr => .string (bs p.2)) l i p hi
  exact ⟨b, o, rfl, hb, hc _ _ g1, hc _ _ g2⟩
end
theorem below_alloc1 (w : World) (o : Obj) : Below w.heap.size w (w.alloc o) := (Below.refl _ _).alloc (Nat.le_refl _) o

theorem byte_rng (c : UInt8) : (c.toNat : Int) < 48 ∨ (48 ≤ (c.toNat : Int) ∧ (c.toNat : Int) ≤ 57) ∨ (57 < (c.toNat : Int) ∧ (c.toNat : Int) < 65) ∨ (65 ≤ (c.toNat : Int) ∧ (c.toNat : Int) ≤ 90) ∨ (90 < (c.toNat : Int) ∧ (c.toNat : Int) < 97 ∧ (c.toNat : Int) ≠ 95) ∨ (c.toNat : Int) = 95 ∨
    (97 ≤ (c.toNat : Int) ∧ (c.toNat : Int) ≤ 122) ∨ 122 < (c.toNat : Int) := by omega
theorem letter_nat (c : UInt8) : letter c = decide (97 ≤ (c.toNat : Int) ∧ (c.toNat : Int) ≤ 122 ∨ 65 ≤ (c.toNat : Int) ∧ (c.toNat : Int) ≤ 90 ∨ (c.toNat : Int) = 95) := by
  unfold letter
  rw [decide_eq_decide, UInt8.le_iff_toNat_le, UInt8.le_iff_toNat_le, UInt8.le_iff_toNat_le, UInt8.le_iff_toNat_le, ← UInt8.toNat_inj]
  simp
  omega
theorem digit_nat (c : UInt8) : digit c = decide (48 ≤ (c.toNat : Int) ∧ (c.toNat : Int) ≤ 57) := by
  unfold digit
  rw [decide_eq_decide, UInt8.le_iff_toNat_le, UInt8.le_iff_toNat_le]
  simp
  omega
theorem sign_letter {c : UInt8} (h : 97 ≤ (c.toNat : Int) ∧ (c.toNat : Int) ≤ 122 ∨ 65 ≤ (c.toNat : Int) ∧ (c.toNat : Int) ≤ 90 ∨ (c.toNat : Int) = 95) (f : Bool) : signB f c = true := by
  unfold signB; rw [letter_nat, decide_eq_true h, Bool.true_or]
theorem sign_digit {c : UInt8} (h : 48 ≤ (c.toNat : Int) ∧ (c.toNat : Int) ≤ 57) (f : Bool) : signB f c = !f := by
  unfold signB
  rw [letter_nat, digit_nat, decide_eq_false (by omega), decide_eq_true h, Bool.false_or, Bool.and_true]
theorem sign_other {c : UInt8} (h : ¬ (97 ≤ (c.toNat : Int) ∧ (c.toNat : Int) ≤ 122 ∨ 65 ≤ (c.toNat : Int) ∧ (c.toNat : Int) ≤ 90 ∨ (c.toNat : Int) = 95)) (h2 : ¬ (48 ≤ (c.toNat : Int) ∧ (c.toNat : Int) ≤ 57)) (f : Bool) : signB f c = false := by
  unfold signB
  rw [letter_nat, digit_nat, decide_eq_false h, decide_eq_false h2, Bool.and_false]; rfl

def signs (l : List UInt8) (k : Nat) : Prop := ∀ j c, j < k → l[j]? = some c → signB (j == 0) c = true
theorem signs_zero (l : List UInt8) : signs l 0 := fun j _ h => absurd h (Nat.not_lt_zero j)
theorem signs_succ {l : List UInt8} {k : Nat} {c : UInt8} (h : signs l k) (hc : l[k]? = some c) (hs : signB (k == 0) c = true) : signs l (k + 1) := by
  intro j d hj hd
  by_cases hjk : j < k
  · exact h j d hjk hd
  · obtain rfl : j = k := by omega
    rw [hc] at hd
    injection hd with hd
    subst hd
    exact hs
theorem sign_weak {c : UInt8} {b : Bool} (h : signB b c = true) : signB false c = true := by
  unfold signB at *
  rcases hl : letter c with _ | _
  · rw [hl] at h
    simp at h ⊢
    exact h.2
  · rfl
theorem nameB_signs {l : List UInt8} (h : signs l l.length) : nameB l = (!l.isEmpty && decide (l.length ≤ 40)) := by
  unfold nameB
  cases l with
  | nil => rfl
  | cons c r =>
    have h0 : signB true c = true := h 0 c (by simp) rfl
    have ha : (c :: r).all (signB false) = true := by
      rw [List.all_eq_true]
      intro x hx
      obtain ⟨i, hi, he⟩ := List.mem_iff_getElem.1 hx
      exact sign_weak (h i x hi (by rw [List.getElem?_eq_getElem hi, he]))
    rw [ha]
    simp [h0]
theorem nameB_bad {l : List UInt8} {k : Nat} {c : UInt8} (hc : l[k]? = some c) (hs : signB (k == 0) c = false) : nameB l = false := by
  unfold nameB
  cases l with
  | nil => rfl
  | cons d r =>
    match k with
    | 0 =>
      simp at hc
      subst hc
      have hs : signB true d = false := hs
      simp [hs]
    | k + 1 =>
      have : (d :: r).all (signB false) = false := by
        rw [Bool.eq_false_iff]
        intro h
        rw [List.all_eq_true] at h
        have := h c (List.mem_of_getElem? hc)
        rw [show signB ((k + 1) == 0) c = signB false c from rfl, this] at hs
        cases hs
      rw [this]
      simp

set_option maxHeartbeats 4000000 in
set_option maxRecDepth 10000 in
theorem goodName_any (l : List UInt8) (w : World) (hl : l.length ≤ 1000000000000) :
    Calls Tryz.prog 62 #[.string (bs l)] w (RetBelow w (.bool (nameB l))) := by
  obtain ⟨Z, hZ⟩ : ∃ Z, Z = nameB l := ⟨_, rfl⟩
  rw [← hZ]
  have HZ := Lib.hid hZ
  clear hZ
  go_enter Tryz.func62, Tryz.ntmps62
  go_wp2_with (refine wpList_bytes rfl (.tmp 6) 66 9 rfl bytes_ty Tryz.underlying9 _ rfl (by rw [bs_size]; unfold maxLen; omega) ?_; intro v w1 hb hbl _; obtain ⟨A, c, rfl, hlc⟩ := Buf.shape hb; dsimp only)
  rw [bs_data] at *
  go_loop [9] (fun i => ∃ k : Nat, k ≤ l.length ∧ i = .int .i64 k ∧ Hid (signs l k)) (fun i => l.length - (intOf i).toNat)
  case atStart => exact ⟨0, Nat.zero_le _, rfl, Lib.hid (signs_zero l)⟩
  case round =>
    obtain ⟨k, hk, rfl, hsg⟩ := hrel
    by_cases hgo : k < l.length
    · obtain ⟨c, hc⟩ : ∃ c, l[k]? = some c := ⟨_, List.getElem?_eq_getElem hgo⟩
      obtain ⟨b, o, rfl, hbb, hcc⟩ := Buf.cell hb (by omega)
      have hcell : w1.cell? ⟨b, o + k, none⟩ = some (.int .u8 (c.toNat : Int)) := by
        rw [hcc k (by omega)]; simp [bcs, hc]
      have HC := Lib.hid hc
      have HB := Lib.hid hb
      have h0 : k = 0 ∨ 0 < k := by omega
      have hrng := byte_rng c
      clear hc hb hcc
      rcases hrng with h1 | ⟨h1, h2⟩ | ⟨h1, h2⟩ | ⟨h1, h2⟩ | ⟨h1, h2, h3⟩ | h1 | ⟨h1, h2⟩ | h1
      case inr.inl =>
        have hs := sign_digit ⟨h1, h2⟩
        have HS := Lib.hid hs
        clear hs
        have hne : ((c.toNat : Int) == 95) = false := by rw [beq_eq_false_iff_ne]; omega
        rcases h0 with h0 | h0
        · have hk0 : ((k : Int) == 0) = true := by rw [beq_iff_eq]; omega
          have hk1 : (k == 0) = true := by rw [beq_iff_eq]; omega
          have HK1 := Lib.hid hk1
          clear hk1 h0
          go_wp2_with fail
          go_ret
          exact ⟨by rw [HZ.out, nameB_bad HC.out (by rw [HS.out, HK1.out]; rfl)]; rfl, hbl⟩
        · have hk0 : ((k : Int) == 0) = false := by rw [beq_eq_false_iff_ne]; omega
          go_wp2_with fail
          go_round
          case rel => exact ⟨k + 1, by omega, by go_num, Lib.hid (signs_succ hsg.out HC.out (by rw [HS.out, show (k == 0) = false from by rw [beq_eq_false_iff_ne]; omega]; rfl))⟩
          case measure => simp [intOf]; omega
      case inr.inr.inr.inr.inr.inl =>
        have hs := sign_letter (.inr (.inr h1))
        have HS := Lib.hid hs
        have hne : ((c.toNat : Int) == 95) = true := by rw [beq_iff_eq]; omega
        clear hs h1
        have h1 : (c.toNat : Int) ≤ 95 ∧ 95 ≤ (c.toNat : Int) := by rw [beq_iff_eq] at hne; omega
        obtain ⟨h1, h2⟩ := h1
        go_wp2_with fail
        go_round
        case rel => exact ⟨k + 1, by omega, by go_num, Lib.hid (signs_succ hsg.out HC.out (HS.out _))⟩
        case measure => simp [intOf]; omega
      case inr.inr.inr.inl =>
        have hs := sign_letter (.inr (.inl ⟨h1, h2⟩))
        have HS := Lib.hid hs
        clear hs
        go_wp2_with fail
        go_round
        case rel => exact ⟨k + 1, by omega, by go_num, Lib.hid (signs_succ hsg.out HC.out (HS.out _))⟩
        case measure => simp [intOf]; omega
      case inr.inr.inr.inr.inr.inr.inl =>
        have hs := sign_letter (.inl ⟨h1, h2⟩)
        have HS := Lib.hid hs
        clear hs
        go_wp2_with fail
        go_round
        case rel => exact ⟨k + 1, by omega, by go_num, Lib.hid (signs_succ hsg.out HC.out (HS.out _))⟩
        case measure => simp [intOf]; omega
      all_goals
        have hs : ∀ f, signB f c = false := sign_other (by omega) (by omega)
        have HS := Lib.hid hs
        clear hs
        have hne : ((c.toNat : Int) == 95) = false := by rw [beq_eq_false_iff_ne]; omega
        first | (have hx : (c.toNat : Int) < 48 := (by omega)) | ((have hx : 57 < (c.toNat : Int) := (by omega)); (have hy : 48 ≤ (c.toNat : Int) := (by omega)))
        try (have hx3 : 65 ≤ (c.toNat : Int) := (by omega))
        try (have hx4 : decide ((c.toNat : Int) ≤ 90) = false := decide_eq_false (by omega))
        try (have hx5 : decide ((c.toNat : Int) ≤ 122) = false := decide_eq_false (by omega))
        rcases h0 with h0 | h0
        · have hk0 : ((k : Int) == 0) = true := by rw [beq_iff_eq]; omega
          clear h0
          go_wp2_with fail
          go_ret
          exact ⟨by rw [HZ.out, nameB_bad HC.out (HS.out _)]; rfl, hbl⟩
        · have hk0 : ((k : Int) == 0) = false := by rw [beq_eq_false_iff_ne]; omega
          go_wp2_with fail
          go_ret
          exact ⟨by rw [HZ.out, nameB_bad HC.out (HS.out _)]; rfl, hbl⟩
    · obtain rfl : k = l.length := by omega
      have hz := HZ.out
      rw [nameB_signs hsg.out] at hz
      have HZ2 := Lib.hid hz
      clear hz
      have h0 : l = [] ∨ 0 < l.length := by cases l <;> simp
      rcases h0 with rfl | h0
      · go_wp2_with fail
        go_ret
        exact ⟨by rw [HZ2.out]; rfl, hbl⟩
      · have hne : (l != []) = true := by rw [bne_iff_ne]; intro h; rw [h] at h0; exact absurd h0 (by simp)
        have he : l.isEmpty = false := by cases l; exact absurd h0 (by simp); rfl
        by_cases h40 : l.length ≤ 40
        · go_wp2_with fail
          go_ret
          exact ⟨by rw [HZ2.out, he, decide_eq_true h40, decide_eq_true (by omega)]; rfl, hbl⟩
        · go_wp2_with fail
          go_ret
          exact ⟨by rw [HZ2.out, he, decide_eq_false h40, decide_eq_false (by omega)]; rfl, hbl⟩

end Go.Proofs.YtnoebccoaeiakaaGreatDoor
