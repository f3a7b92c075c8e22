/-
  Layer 25: plain: what a table has; tables within tables; points that settle.
-/
import Derived.Test.YtjklcojnbcemoaaGreatDoorZMrgU
import Derived.Test.YtjklcojnbcemoaaGreatDoorZRws

namespace Go.Bar.Mrg
open Go.RowKit Go.Bar Go.Bar.Xor Go.Bar.Lab

/-- has a table a sample of labels? -/
def hasP (R : List Row) (L : List Pr) (s : Sm) : Bool := decide (s ∈ (rk R L).getD [])
theorem hasP_val {R : List Row} (h : Tb R) (L : List Pr) (s : Sm) : hasP R L s = true ↔ val R L s.1 = some s := by
  unfold hasP val
  rw [decide_eq_true_eq]
  rcases hr : rk R L with _ | l
  · simp
  · have hl := h.ris _ (rk_some hr)
    constructor
    · intro hm
      exact hl.mem hm
    · intro hm
      exact (lk_some hm).1
/-- are a table's samples in another one? -/
def withinP (S G : List Row) : Bool := (ptsOf S).all (fun x => hasP G x.1 x.2)
theorem pts_val {S : List Row} (h : Tb S) {L : List Pr} {s : Sm} : (L, s) ∈ ptsOf S ↔ val S L s.1 = some s := by
  constructor
  · intro hm
    obtain ⟨r, hr, hs⟩ := List.mem_flatMap.1 hm
    obtain ⟨y, hy, e⟩ := List.mem_map.1 hs
    injection e with e1 e2
    subst e1; subst e2
    unfold val
    rw [rk_mem h.rls hr]
    exact (h.ris r hr).mem hy
  · intro hv
    unfold val at hv
    rcases hr : rk S L with _ | l
    · rw [hr] at hv; cases hv
    · rw [hr] at hv
      exact List.mem_flatMap.2 ⟨(L, l), rk_some hr, List.mem_map.2 ⟨s, (lk_some hv).1, rfl⟩⟩
theorem within_val {S G : List Row} (hS : Tb S) (hG : Tb G) : withinP S G = true ↔ ∀ L t s, val S L t = some s → val G L t = some s := by
  unfold withinP
  rw [List.all_eq_true]
  constructor
  · intro h L t s hs
    have ht := val_time hs
    rw [← ht] at hs ⊢
    exact (hasP_val hG L s).1 (h (L, s) ((pts_val hS).2 hs))
  · rintro h ⟨L, s⟩ hm
    exact (hasP_val hG L s).2 (h L s.1 s ((pts_val hS).1 hm))
theorem within_self {S : List Row} (h : Tb S) : withinP S S = true := (within_val h h).2 fun _ _ _ h => h
theorem within_trans {a b c : List Row} (ha : Tb a) (hb : Tb b) (hc : Tb c) (h1 : withinP a b = true) (h2 : withinP b c = true) : withinP a c = true :=
  (within_val ha hc).2 fun L t s h => (within_val hb hc).1 h2 L t s ((within_val ha hb).1 h1 L t s h)
theorem within_anti {a b : List Row} (ha : Tb a) (hb : Tb b) (h1 : withinP a b = true) (h2 : withinP b a = true) : a = b := by
  refine tb_ext ha hb fun L t => ?_
  have k1 := (within_val ha hb).1 h1 L t
  have k2 := (within_val hb ha).1 h2 L t
  rcases h : val a L t with _ | s
  · rcases h' : val b L t with _ | s'
    · rfl
    · have := k2 s' h'; rw [h] at this; cases this
  · exact (k1 s h).symm
theorem within_nil (G : List Row) : withinP [] G = true := rfl
/-- a table with points -/
theorem add_spec {R : List Row} (ps : List Pt) (h : Tb R) : Tb (addAll R ps) ∧ ∀ L t, val (addAll R ps) L t = (val R L t).or (ptv ps L t) := addAll_spec ps h
theorem within_add {R : List Row} (ps qs : List Pt) (h : Tb R) : withinP (addAll R ps) (addAll R (ps ++ qs)) = true := by
  obtain ⟨h1, h2⟩ := add_spec ps h
  obtain ⟨h3, h4⟩ := add_spec (ps ++ qs) h
  refine (within_val h1 h3).2 fun L t s hs => ?_
  rw [h2] at hs
  rw [h4, ptv_append, ← Option.or_assoc, hs]
  rfl
theorem within_add0 {R : List Row} (ps : List Pt) (h : Tb R) : withinP R (addAll R ps) = true := within_add [] ps h
/-- several tables, the first of them -/
theorem within_tabs {x y S : List Row} (hx : Tb x) (hy : Tb y) (h : tabs [x, y] S) : withinP x S = true := by
  obtain ⟨h1, h2⟩ := tabs_spec h (all2 hx hy)
  refine (within_val hx h1).2 fun L t s hs => ?_
  rw [h2, List.findSome?_cons, hs]
/-- a table and a point -/
theorem tabs_point {R S : List Row} {L : List Pr} {s : Sm} (hR : Tb R) (h : tabs [R, [(L, [s])]] S) : S = addR R L s := by
  have hp : Tb [(L, [s])] := (addR_spec (L := L) (s := s) Tb.nil).1
  have := want_tabs h (all2 hR hp)
  rw [this]
  show addAll [] (ptsOf R ++ (ptsOf [(L, [s])] ++ [])) = _
  rw [List.append_nil, addAll_append, addAll_pts hR]
  rfl
/-- what is between two times, of tables within tables -/
theorem within_betw {S G : List Row} (a b : Int) (hS : Tb S) (hG : Tb G) (h : withinP S G = true) : withinP (betw S a b) (betw G a b) = true := by
  obtain ⟨p1, p2⟩ := betw_spec a b hS
  obtain ⟨q1, q2⟩ := betw_spec a b hG
  refine (within_val p1 q1).2 fun L t s hs => ?_
  rw [p2] at hs
  rw [q2]
  split at hs
  · rename_i hc
    rw [if_pos hc]
    exact (within_val hS hG).1 h L t s hs
  · cases hs

/-! ### the open points -/
/-- is what is there the first ones of each series' open points? (the count of those that are missing, by labels) -/
def firstP (R : List Row) : List Pt → List (List Pr) → Bool
  | [], _ => true
  | p :: ps, ms => if hasP R p.1 p.2 = true then (if p.1 ∈ ms then false else firstP R ps ms) else firstP R ps (p.1 :: ms)
theorem firstP_ok (R : List Row) : ∀ (ps qs : List Pt) (ms : List (List Pr)), (∀ p ∈ ps, hasP R p.1 p.2 = true) → (∀ p ∈ qs, hasP R p.1 p.2 = false) → (∀ p ∈ ps, p.1 ∉ ms) → firstP R (ps ++ qs) ms = true
  | [], [], ms, _, _, _ => rfl
  | [], q :: qs, ms, h1, h2, _ => by
    show (if hasP R q.1 q.2 = true then _ else firstP R qs (q.1 :: ms) : Bool) = true
    rw [if_neg (by rw [h2 q (List.mem_cons_self ..)]; exact Bool.false_ne_true)]
    exact firstP_ok R [] qs _ (fun p hp => by cases hp) (fun p hp => h2 p (List.mem_cons_of_mem _ hp)) (fun p hp => by cases hp)
  | p :: ps, qs, ms, h1, h2, h3 => by
    show (if hasP R p.1 p.2 = true then (if p.1 ∈ ms then false else firstP R (ps ++ qs) ms) else _ : Bool) = true
    rw [if_pos (h1 p (List.mem_cons_self ..)), if_neg (h3 p (List.mem_cons_self ..))]
    exact firstP_ok R ps qs ms (fun q hq => h1 q (List.mem_cons_of_mem _ hq)) h2 (fun q hq => h3 q (List.mem_cons_of_mem _ hq))
/-- points whose times rise, behind all of a table's -/
theorem ptv_mem {ps : List Pt} (h : ps.Pairwise (fun a b => a.2.1 < b.2.1)) {p : Pt} (hp : p ∈ ps) : ptv ps p.1 p.2.1 = some p.2 := by
  induction ps with
  | nil => cases hp
  | cons x ps ih =>
    obtain ⟨h1, h2⟩ := List.pairwise_cons.1 h
    rw [ptv_cons]
    rcases List.mem_cons.1 hp with rfl | hp
    · rw [if_pos rfl, lk_first]; rfl
    · have hlt := h1 p hp
      rw [ih h2 hp]
      have : (if x.1 = p.1 then lk [x.2] p.2.1 else none) = none := by
        split
        · rw [lk_cons, if_neg (by omega)]; rfl
        · rfl
      rw [this, Option.none_or]
theorem ptv_no {ps : List Pt} {L : List Pr} {t : Int} (h : ∀ p ∈ ps, p.2.1 ≠ t) : ptv ps L t = none := by
  induction ps with
  | nil => rfl
  | cons x ps ih =>
    rw [ptv_cons, ih fun p hp => h p (List.mem_cons_of_mem _ hp), Option.or_none]
    split
    · rw [lk_cons, if_neg (h x (List.mem_cons_self ..))]; rfl
    · rfl
theorem settle_first {R : List Row} {ps qs : List Pt} (hR : Tb R) (hs : (ps ++ qs).Pairwise (fun a b => a.2.1 < b.2.1)) (hr : ∀ p ∈ ps ++ qs, ∀ L, val R L p.2.1 = none) : firstP (addAll R ps) (ps ++ qs) [] = true := by
  obtain ⟨h1, h2⟩ := add_spec ps hR
  obtain ⟨s1, s2, s3⟩ := List.pairwise_append.1 hs
  refine firstP_ok _ ps qs [] (fun p hp => ?_) (fun p hp => ?_) (fun p hp => by simp)
  · refine (hasP_val h1 _ _).2 ?_
    rw [h2, hr p (List.mem_append_left _ hp), Option.none_or, ptv_mem s1 hp]
  · rw [← Bool.not_eq_true]
    intro h
    have := (hasP_val h1 _ _).1 h
    rw [h2, hr p (List.mem_append_right _ hp), Option.none_or, ptv_no fun q hq => by have := s3 q hq p hp; omega] at this
    cases this

/-! ### a search among rows by rising labels -/
theorem bs_lo {R : List Row} (h : Rls R) {L : List Pr} {m k : Nat} {r x : Row} (hr : R[m]? = some r) (hc : cmpL r.1 L < 0) (hx : R[k]? = some x) (hk : k ≤ m) : cmpL x.1 L < 0 := by
  rcases Nat.lt_or_ge k m with h1 | h1
  · obtain ⟨a1, rfl⟩ := List.getElem?_eq_some_iff.1 hr
    obtain ⟨a2, rfl⟩ := List.getElem?_eq_some_iff.1 hx
    exact cmpL_lt_trans ((List.pairwise_iff_getElem.1 h) k m a2 a1 h1) hc
  · obtain rfl : k = m := by omega
    rw [hr] at hx
    injection hx with hx
    rw [← hx]; exact hc
theorem bs_hi {R : List Row} (h : Rls R) {L : List Pr} {m k : Nat} {r x : Row} (hr : R[m]? = some r) (hc : 0 ≤ cmpL r.1 L) (hx : R[k]? = some x) (hk : m ≤ k) : 0 ≤ cmpL x.1 L := by
  rcases Int.lt_or_le (cmpL x.1 L) 0 with h1 | h1
  · have := bs_lo h hx h1 hr hk
    omega
  · exact h1
theorem bs_find {R : List Row} (h : Rls R) {L : List Pr} {i : Nat} (h1 : ∀ k r, k < i → R[k]? = some r → cmpL r.1 L < 0) (h2 : ∀ k r, i ≤ k → R[k]? = some r → 0 ≤ cmpL r.1 L) :
    (∃ r, R[i]? = some r ∧ cmpL r.1 L = 0 ∧ rk R L = some r.2) ∨ ((∀ r, R[i]? = some r → cmpL r.1 L ≠ 0) ∧ rk R L = none) := by
  by_cases hc : ∃ r, R[i]? = some r ∧ cmpL r.1 L = 0
  · obtain ⟨r, hr, h0⟩ := hc
    have := rk_mem h (List.mem_of_getElem? hr)
    rw [cmpL_zero.1 h0] at this
    exact .inl ⟨r, hr, h0, this⟩
  · refine .inr ⟨fun r hr h0 => hc ⟨r, hr, h0⟩, rk_none.2 fun x hx he => ?_⟩
    obtain ⟨k, hk⟩ := List.mem_iff_getElem?.1 hx
    have h0 : cmpL x.1 L = 0 := cmpL_zero.2 he
    rcases Nat.lt_trichotomy k i with hlt | rfl | hlt
    · have := h1 k x hlt hk
      omega
    · exact hc ⟨x, hk, h0⟩
    · obtain ⟨a2, e2⟩ := List.getElem?_eq_some_iff.1 hk
      have hi : i < R.length := by omega
      have hri : R[i]? = some R[i] := List.getElem?_eq_getElem hi
      have h3 := h2 i _ (Nat.le_refl _) hri
      have h4 : cmpL R[i].1 R[k].1 < 0 := (List.pairwise_iff_getElem.1 h) i k hi a2 hlt
      rw [e2, he] at h4
      omega
end Go.Bar.Mrg

/-
  Points (labels and a sample) in memory.
-/
namespace Go.Proofs.YtjklcojnbcemoaaGreatDoor
open Go.RowKit Go.Bar Go.Bar.Leb Go.Bar.Lab Go.Bar.Xor Go.Bar.Mrg

/-- a point in memory: where its labels lie -/
structure Pv where
  ls : List Pr
  la : Option Addr
  lc : Nat
  s : Sm
def encPt (p : Pv) : List Value := [.slice p.la p.ls.length p.lc, .int .i64 p.s.1, .int .u64 (p.s.2 : Nat)]
theorem encPt_three (p : Pv) : (encPt p).length = 3 := rfl
def pts3 (l : List Pv) : List Value := l.flatMap encPt
theorem pts3_len (l : List Pv) : (pts3 l).length = l.length * 3 := flat_length encPt 3 encPt_three l
theorem pts3_app (l m : List Pv) : pts3 (l ++ m) = pts3 l ++ pts3 m := List.flatMap_append
theorem pts3_snoc (l : List Pv) (p : Pv) : pts3 (l ++ [p]) = pts3 l ++ encPt p := by rw [pts3_app]; exact congrArg _ (List.append_nil _)
/-- its plain content -/
def plP (p : Pv) : Pt := (p.ls, p.s)
def LAt (w : World) (p : Pv) : Prop := PsAt w (.slice p.la p.ls.length p.lc) p.ls
theorem LAt.below {w w' : World} {p : Pv} (h : LAt w p) (hb : Below w.heap.size w w') : LAt w' p := PsAt.below h hb
/-- points, a slice -/
def PtAt (w : World) (v : Value) (l : List Pv) : Prop := SlAt w 3 v l.length (pts3 l) ∧ ∀ p ∈ l, LAt w p
section
variable {w w' : World} {v : Value} {l : List Pv}
theorem PtAt.below (h : PtAt w v l) (hb : Below w.heap.size w w') : PtAt w' v l := ⟨h.1.below hb, fun p hp => (h.2 p hp).below hb⟩
theorem PtAt.shape (h : PtAt w v l) : ∃ A c, v = .slice A l.length c ∧ l.length ≤ c ∧ c ≤ maxLen := h.1.shape
theorem PtAt.at_ {A : Option Addr} {n c i : Nat} {p : Pv} (h : PtAt w (.slice A n c) l) (hi : l[i]? = some p) : ∃ b o, A = some ⟨b, o, none⟩ ∧ w.cell? ⟨b, o + i * 3, none⟩ = some (.slice p.la p.ls.length p.lc) ∧ w.cell? ⟨b, o + i * 3 + 1, none⟩ = some (.int .i64 p.s.1) ∧ w.cell? ⟨b, o + i * 3 + 2, none⟩ = some (.int .u64 (p.s.2 : Nat)) ∧ LAt w p := by
  have hlt : i < l.length := (List.getElem?_eq_some_iff.1 hi).1
  obtain ⟨A', c', he, _⟩ := h.1.shape
  injection he with e1 e2 e3
  subst e1; subst e2; subst e3
  obtain ⟨b, o, rfl, hb, hc⟩ := SlAt.cells h.1 (by omega)
  have g := flat_get encPt 3 encPt_three l i p hi
  have g0 := hc _ _ (g 0 (by omega))
  have g1 := hc _ _ (g 1 (by omega))
  have g2 := hc _ _ (g 2 (by omega))
  exact ⟨b, o, rfl, g0, (by rw [Nat.add_assoc]; exact g1), (by rw [Nat.add_assoc]; exact g2), h.2 p (List.mem_of_getElem? hi)⟩
theorem PtAt.at2 {b o n c i : Nat} {p : Pv} (h : PtAt w (.slice (some ⟨b, o, none⟩) n c) l) (hi : l[i]? = some p) : w.cell? ⟨b, o + i * 3, none⟩ = some (.slice p.la p.ls.length p.lc) ∧ w.cell? ⟨b, o + i * 3 + 1, none⟩ = some (.int .i64 p.s.1) ∧ w.cell? ⟨b, o + i * 3 + 2, none⟩ = some (.int .u64 (p.s.2 : Nat)) ∧ LAt w p := by
  obtain ⟨b', o', he, h1, h2, h3, h4⟩ := h.at_ hi
  injection he with he
  injection he with e1 e2 _
  subst e1; subst e2
  exact ⟨h1, h2, h3, h4⟩
end
theorem pts3_one (l : List Pv) : ∀ u ∈ pts3 l, u.oneCell' = true := fun u hu => by
  obtain ⟨x, _, hx⟩ := List.mem_flatMap.1 hu
  simp [encPt] at hx
  rcases hx with rfl | rfl | rfl <;> simp [Value.oneCell']
/-- a point whose labels were there at B, or are the call's own since W0 -/
def DpP (B W0 w : World) (Tp : TypeId) (p : Pv) : Prop := PsAt B (.slice p.la p.ls.length p.lc) p.ls ∨ NBuf W0 w Tp 2 (.slice p.la p.ls.length p.lc) p.ls.length (pcs p.ls)
/-- points in a buffer that is new since W -/
structure DPt (B W0 W w : World) (T Tp : TypeId) (v : Value) (l : List Pv) : Prop where
  n : NBuf W w T 3 v l.length (pts3 l)
  b : Below W0.heap.size W0 W
  d : ∀ p ∈ l, DpP B W0 w Tp p
section
variable {B W0 W w w' : World} {T Tp : TypeId} {v : Value} {l : List Pv} {p : Pv}
theorem DpP.ke {Ts : TypeId → Prop} (h : DpP B W0 w Tp p) (hk : Ke Ts w w') (hb : Below W0.heap.size W0 w') (h1 : ¬ Ts Tp) : DpP B W0 w' Tp p := h.imp id fun h => ⟨hk.buf h.buf h1, hb, h.new⟩
theorem DpP.below (h : DpP B W0 w Tp p) (hb : Below w.heap.size w w') : DpP B W0 w' Tp p := h.imp id fun h => h.then_below hb
theorem DpP.lat (h : DpP B W0 w Tp p) (hb : Below B.heap.size B w) : LAt w p := h.elim (fun h => h.below hb) fun h => h.slice
theorem DPt.below (h : DPt B W0 W w T Tp v l) (hb : Below w.heap.size w w') : DPt B W0 W w' T Tp v l := ⟨h.n.then_below hb, h.b, fun p hp => (h.d p hp).below hb⟩
theorem DPt.at_ (h : DPt B W0 W w T Tp v l) (hb : Below B.heap.size B W) : PtAt w v l := ⟨h.n.slice, fun p hp => (h.d p hp).lat (below_trans hb h.n.below)⟩
theorem DPt.nil (hb : Below W.heap.size W w) (h0 : Below W0.heap.size W0 W) (T Tp : TypeId) : DPt B W0 W w T Tp (.slice none 0 0) [] := ⟨NBuf.nil hb _ _, h0, fun p hp => by cases hp⟩
theorem DPt.snoc {wa w2 : World} {v2 : Value} (h : DPt B W0 W wa T Tp v l) (hx : DpP B W0 wa Tp p) (hn : NBuf W w2 T 3 v2 (l.length + 1) (pts3 l ++ encPt p)) (ha : Ap wa w2 3 v) (h1 : Tp ≠ T) : DPt B W0 W w2 T Tp v2 (l ++ [p]) := by
  have hk : Ke (fun U => U = T) wa w2 := Ke.of_ap h.n.buf ha rfl
  have hb := below_trans h.b hn.below
  refine ⟨?_, h.b, fun q hq => ?_⟩
  · rw [List.length_append, pts3_snoc]
    exact hn
  · rcases List.mem_append.1 hq with hq | hq
    · exact (h.d q hq).ke hk hb h1
    · obtain rfl := List.mem_singleton.1 hq
      exact hx.ke hk hb h1
end
end Go.Proofs.YtjklcojnbcemoaaGreatDoor
