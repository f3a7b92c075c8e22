/-
  Law 11 (wal), WalPlays: the calls as arguments; what a round holds, and what each call does to it.
-/
import Derived.Test.YtcopknopifbebaaGreatDoorZWalLA
import Derived.Test.YtcopknopifbebaaGreatDoorZLib24
import Derived.Test.YtcopknopifbebaaGreatDoorZLib18
import Derived.Test.YtcopknopifbebaaGreatDoorZWalAB
import Derived.Test.YtcopknopifbebaaGreatDoorTie
import Derived.Test.YtcopknopifbebaaGreatDoorCards

namespace Go.Bar.Wal
open Go.RowKit Go.Bar Go.Bar.Leb Go.Bar.Frm
theorem lenAt_le {fs : Fs} {n : Nm} : lenAt fs n ≤ tot fs := by
  induction fs with
  | nil => exact Nat.le_refl _
  | cons p r ih =>
    obtain ⟨m, g⟩ := p
    rw [len_cons]
    show _ ≤ g.s.length + tot r
    split <;> omega
theorem LG.size_le {d : Ds} {g : Lg} {ns : List Nat} {A : Nat → List Rc} {c : Nat} (h : LG d g ns A) (ha : Acc c d) : (g.size : Int) ≤ d.used := by
  rw [ha.use]
  rcases h.at_ with ⟨h1, h2⟩ | ⟨_, h2⟩
  · have hf := h.li.last _ h1
    rw [List.append_nil] at hf
    have h3 := len_some hf
    have h4 : lenAt d.fs (segN g.seg) ≤ tot d.fs := lenAt_le
    have h5 : (⟨laid (A g.seg), 0⟩ : Fi).s.length = (laid (A g.seg)).length := rfl
    rw [h3] at h4
    have h6 : (laid (A g.seg)).length ≤ tot d.fs := h4
    omega
  · omega
theorem wOpen_nb (d : Ds) (limit : Int) : (wOpen d limit).2.2.1.broken = false := by
  unfold wOpen
  split <;> rfl
theorem arm_q (z : Fz) (n : Int) (b : Bool) (h : z.q.length ≤ 16) : (z.arm n b).2.q.length ≤ 16 := by
  unfold Fz.arm
  split
  · show (z.q ++ [(max n 0, b)]).length ≤ 16
    rw [List.length_append, List.length_singleton]
    omega
  · exact h
end Go.Bar.Wal
namespace Go.Proofs.YtcopknopifbebaaGreatDoor
open Go.RowKit Go.Bar Go.Bar.Wal Go.Bar.Leb Go.Bar.Frm Go.Conc Go.ChangeShapes Go.WideShapes Go.ChangeAt Go.Deep
attribute [local go_sem] Oper.semAt_some
structure ActV where
  kd : Int
  n : Int
  lv : Value
  l : List Rc
  dn : Bool
  cv : Value
  ch : List Int
def encA (x : ActV) : List Value := [.int .i64 x.kd, .int .i64 x.n, x.lv, .bool x.dn, x.cv]
theorem encA_five (x : ActV) : (encA x).length = 5 := rfl
def ActOk (W : World) (x : ActV) : Prop := RecsAt W x.lv x.l ∧ (∀ r ∈ x.l, r.2.length ≤ maxLen) ∧ IntsAt W x.cv x.ch
def ActsAt (W : World) (v : Value) (l : List ActV) : Prop := SlAt W 5 v l.length (l.flatMap encA) ∧ ∀ x ∈ l, ActOk W x
theorem ActsAt.at_ {w : World} {A : Option Addr} {n c i : Nat} {l : List ActV} {x : ActV} (h : SlAt w 5 (.slice A n c) l.length (l.flatMap encA)) (hi : l[i]? = some x) : ∃ b o, A = some ⟨b, o, none⟩ ∧ b < w.heap.size ∧
    w.cell? ⟨b, o + i * 5, none⟩ = some (.int .i64 x.kd) ∧ w.cell? ⟨b, o + i * 5 + 1, none⟩ = some (.int .i64 x.n) ∧ w.cell? ⟨b, o + i * 5 + 2, none⟩ = some x.lv ∧ w.cell? ⟨b, o + i * 5 + 3, none⟩ = some (.bool x.dn) ∧ w.cell? ⟨b, o + i * 5 + 4, none⟩ = some x.cv := by
  have hlt : i < l.length := (List.getElem?_eq_some_iff.1 hi).1
  obtain ⟨A', c', he, _⟩ := h.shape
  injection he with e1 e2 e3
  subst e1; subst e2; subst e3
  obtain ⟨b, o, rfl, hb, hc⟩ := SlAt.cells h (by omega)
  have g := flat_get encA 5 encA_five l i x hi
  exact ⟨b, o, rfl, hb, hc _ _ (g 0 (by omega)), hc _ _ (g 1 (by omega)), hc _ _ (g 2 (by omega)), hc _ _ (g 3 (by omega)), hc _ _ (g 4 (by omega))⟩
set_option maxRecDepth 100000 in
theorem open_acts {H : Type} {enc : TypeId × Value → H} {W : World} {base b0 : Nat} {spare : Nat → Bool} {held : Bool} {r : Reach} {v : Value} {d : DataW H} {p : List MemPlace} (hval : Value.okWide Tryz.prog W r b0 60 v)
    (h : DataW.Trod enc Tryz.prog W base spare held 60 v d p) : ∃ l : List ActV, ActsAt W v l := by
  obtain ⟨A, n, c, rfl, hnc, hcm, hx⟩ := open_slice_fields Tryz.underlying60 Tryz.underlying62 (by kernel_rfl) (by kernel_rfl) (Nat.zero_lt_succ 4 : 0 < 5) hval h
  rcases Nat.eq_zero_or_pos n with h0 | h0
  · subst h0
    exact ⟨[], ⟨rfl, A, c, rfl, hnc, hcm, fun h => absurd h (by simp)⟩, by simp⟩
  · obtain ⟨b, o, rfl, hb, hf⟩ := hx h0
    obtain ⟨rs, hl, ht⟩ := list_of (fun i (x : ActV) => (∀ j u, (encA x)[j]? = some u → W.cell? ⟨b, o + (i * 5 + j), none⟩ = some u) ∧ ActOk W x) n (fun i hi => by
      obtain ⟨x0, y0, k0, c0, t0⟩ := hf i hi 0 _ rfl
      obtain ⟨x1, y1, k1, c1, t1⟩ := hf i hi 1 _ rfl
      obtain ⟨x2, y2, k2, c2, t2⟩ := hf i hi 2 _ rfl
      obtain ⟨x3, y3, k3, c3, t3⟩ := hf i hi 3 _ rfl
      obtain ⟨x4, y4, k4, c4, t4⟩ := hf i hi 4 _ rfl
      obtain ⟨n0, e0, _, w0⟩ := DataW.trod_int Tryz.underlying3 t0
      obtain ⟨n1, e1, _, w1⟩ := DataW.trod_int Tryz.underlying3 t1
      obtain ⟨l2, g2, g3⟩ := open_recs_raw t2
      obtain ⟨n3, e3, _⟩ := DataW.trod_bool Tryz.underlying4 t3
      obtain ⟨l4, g4⟩ := open_ints_raw t4
      replace e0 : x0 = _ := (List.cons.inj e0).1
      replace e1 : x1 = _ := (List.cons.inj e1).1
      replace e3 : x3 = _ := (List.cons.inj e3).1
      subst e0; subst e1; subst e3
      refine ⟨⟨n0, n1, x2, l2, n3, x4, l4⟩, fun j u hu => ?_, g2, g3, g4⟩
      match j, hu with
      | 0, hu => simp [encA] at hu; subst hu; exact c0
      | 1, hu => simp [encA] at hu; subst hu; exact c1
      | 2, hu => simp [encA] at hu; subst hu; exact c2
      | 3, hu => simp [encA] at hu; subst hu; exact c3
      | 4, hu => simp [encA] at hu; subst hu; exact c4
      | j + 5, hu => simp [encA] at hu)
    refine ⟨rs, ⟨flat_length encA 5 encA_five rs, some ⟨b, o, none⟩, c, by rw [hl], by rw [hl]; exact hnc, hcm, fun _ => ⟨b, o, rfl, hb, fun j hj => ?_⟩⟩, fun x hx => by obtain ⟨i, hi⟩ := List.mem_iff_getElem?.1 hx; exact (ht i x hi).2⟩
    have hlt : j / 5 < rs.length := by omega
    have hg := List.getElem?_eq_getElem hlt
    have h1 := flat_get encA 5 encA_five rs (j / 5) _ hg (j % 5) (by omega)
    rw [show j / 5 * 5 + j % 5 = j by omega] at h1
    have hm5 : j % 5 < (encA rs[j / 5]).length := by rw [encA_five]; exact Nat.mod_lt _ (by omega)
    obtain ⟨u, hu⟩ : ∃ u, (encA rs[j / 5])[j % 5]? = some u := ⟨_, List.getElem?_eq_getElem hm5⟩
    have h2 := (ht (j / 5) _ hg).1 (j % 5) u hu
    rw [show j / 5 * 5 + j % 5 = j by omega] at h2
    rw [h2, h1, hu]

def OtAt (w : World) : Option (List Rc) → Value → Prop
  | none, v => v = .slice none 0 0
  | some o, v => ∃ A c, v = .slice (some A) (o.length + 1) c ∧ Buf w 34 2 v (o.length + 1) (frcs ((255, []) :: o))
theorem OtAt.keep {w w' : World} {o : Option (List Rc)} {v : Value} (h : OtAt w o v) (hk : ∀ n xs, Buf w 34 2 v n xs → Buf w' 34 2 v n xs) : OtAt w' o v := by
  cases o with
  | none => exact h
  | some o => obtain ⟨A, c, e, hb⟩ := h; exact ⟨A, c, e, hk _ _ hb⟩
structure PlSt (B : Nat) (w wr : World) (h : Hd) (lim : Int) (k L : Nat) (sv lv ov : Value) (d : Ds) (g : Lg) (sure loose : List Rc) (other : Option (List Rc)) : Prop where
  pl : PlayI lim k sure loose other d g
  kd : DkAt wr h d
  lg : LgAt wr L h g
  hL : B ≤ L
  of_ : Off LTs B w wr
  sz : g.size ≤ 1000 * k
  l1 : sure.length ≤ 4 * k
  l2 : loose.length ≤ 4
  l3 : ∀ o, other = some o → o.length ≤ 4
  sb : Buf wr 34 2 sv sure.length (frcs sure)
  lb : Buf wr 34 2 lv loose.length (frcs loose)
  ob : OtAt wr other ov
theorem PlSt.below {B : Nat} {w wr w' : World} {h : Hd} {lim : Int} {k L : Nat} {sv lv ov : Value} {d : Ds} {g : Lg} {sure loose : List Rc} {other : Option (List Rc)} (s : PlSt B w wr h lim k L sv lv ov d g sure loose other) (hb : Below wr.heap.size wr w') (hB : B ≤ wr.heap.size) : PlSt B w w' h lim k L sv lv ov d g sure loose other :=
  ⟨s.pl, s.kd.below hb, s.lg.below hb, s.hL, s.of_.trans (Off.of_below hb hB), s.sz, s.l1, s.l2, s.l3, s.sb.below hb, s.lb.below hb, s.ob.keep fun _ _ h => h.below hb⟩

theorem brk_any (w : World) (L : Nat) (h : Hd) (g : Lg) (l : LgAt w L h g) : Calls Tryz.prog 29 #[.pointer (some ⟨L, 0, none⟩)] w (RetBelow w (.bool g.broken)) := by
  obtain ⟨d0, d1, d2, d3, d4⟩ := Blk.c5 l
  go_enter Tryz.func29, Tryz.ntmps29
  go_wp2_with fail
  go_ret
  exact ⟨rfl, Below.refl _ _⟩
theorem and7_11 (t : Int) : bits .and .i64 t 7 ≤ 9223372036854775807 := by
  have h : bits .and .i64 t 7 = t % 8 := and_mask11 t 3 (by omega)
  omega
theorem laid4 {X : List Rc} (D : ∀ r ∈ X, r.2.length ≤ 30) (C : X.length ≤ 4) : (laid X).length ≤ 300 ∧ (laid (reset X)).length ≤ 400 := by
  have h1 := laid_short X (fun r hr => Nat.le_trans (D r hr) (by decide))
  have h2 := laid_short (reset X) (fun r hr => by
    rcases List.mem_cons.1 hr with rfl | hr
    · exact Nat.zero_le _
    · exact Nat.le_trans (D r hr) (by decide))
  have h3 : (reset X).length = X.length + 1 := rfl
  omega
theorem prefix_yes {sure loose : List Rc} (j : Nat) : prefixB (sure ++ loose.take j) sure loose = true :=
  decide_eq_true ⟨by rw [List.length_append]; omega, by rw [List.length_append, List.length_take]; omega, List.prefix_iff_eq_take.1 ((List.prefix_append_right_inj _).2 (List.take_prefix j loose))⟩
section
variable {B : Nat} {w wr : World} {h : Hd} {lim : Int} {k L : Nat} {sv lv ov : Value} {d : Ds} {g : Lg} {sure loose : List Rc} {other : Option (List Rc)} {X : List Rc} {v : Value}
theorem PlSt.same {w' : World} (s : PlSt B w wr h lim k L sv lv ov d g sure loose other) (hk : DkAt w' h d) (hl : LgAt w' L h g) (o : Off LTs B wr w') : PlSt B w w' h lim (k + 1) L sv lv ov d g sure loose other :=
  ⟨s.pl.mono, hk, hl, s.hL, s.of_.trans o, by have := s.sz; omega, by have := s.l1; omega, s.l2, s.l3, o.kc.buf s.sb nl_rec, o.kc.buf s.lb nl_rec, s.ob.keep fun _ _ hh => o.kc.buf hh nl_rec⟩
theorem PlSt.append_down (s : PlSt B w wr h lim k L sv lv ov d g sure loose other) (hb : g.broken = true) (hE : EnvAt wr) (hB : h.Hi B) (hB4 : 4 ≤ B) (hl : 1 ≤ lim ∧ lim ≤ 9223372036854775807) (hk : k < 25) (D : ∀ r ∈ X, r.2.length ≤ 30) (C : X.length ≤ 4) (hv : Buf wr 34 2 v X.length (frcs X)) :
    Calls Tryz.prog 14 #[.pointer (some ⟨L, 0, none⟩), v] wr fun en w' => en = .returned (.int .i64 9) ∧ PlSt B w w' h lim (k + 1) L sv lv ov d g sure loose other := by
  refine (append_ok wr L h d g B k v X _ _ _ (play_down hb).1 s.kd s.lg hE hB s.hL hB4 s.pl.acc (by omega) (by rw [s.pl.rm]; decide) (SlAt.of_buf hv) (by omega) (fun r hr => Nat.le_trans (D r hr) (by decide)) (by rw [s.pl.lm]; exact hl.1) (by rw [s.pl.lm]; exact hl.2) (by have := s.pl.sg; omega) (by have := s.sz; omega)).mono ?_
  rintro en w' ⟨rfl, k', l', o'⟩
  exact ⟨rfl, s.same k' l' o'⟩
theorem PlSt.append (s : PlSt B w wr h lim k L sv lv ov d g sure loose other) (hb : g.broken = false) (hE : EnvAt wr) (hB : h.Hi B) (hB4 : 4 ≤ B) (hw : B ≤ w.heap.size) (hl : 1 ≤ lim ∧ lim ≤ 9223372036854775807) (hk : k < 25) (F : Wal.Few X) (D : ∀ r ∈ X, r.2.length ≤ 30) (C : X.length ≤ 4) (hv : Buf wr 34 2 v X.length (frcs X)) :
    Calls Tryz.prog 14 #[.pointer (some ⟨L, 0, none⟩), v] wr fun en w' => (en = .returned (.int .i64 0) ∧ Off LTs B wr w' ∧ ∀ w'' sv', Below w'.heap.size w' w'' → Buf w'' 34 2 sv' (sure ++ X).length (frcs (sure ++ X)) → ∃ d' g', PlSt B w w'' h lim (k + 1) L sv' lv ov d' g' (sure ++ X) loose other) ∨
      (en = .returned (.int .i64 8) ∧ ∃ d' g', PlSt B w w' h lim (k + 1) L sv v ov d' g' sure X other) := by
  obtain ⟨hX, _⟩ := laid4 D C
  have hs := wAppend_size d g X
  have hz := s.sz
  have con := fun e d' g' (hw : wAppend d g X = (e, d', g')) => append_ok wr L h d g B k v X e d' g' hw s.kd s.lg hE hB s.hL hB4 s.pl.acc (by omega) (by rw [s.pl.rm]; decide) (SlAt.of_buf hv) (by omega) (fun r hr => Nat.le_trans (D r hr) (by decide)) (by rw [s.pl.lm]; exact hl.1) (by rw [s.pl.lm]; exact hl.2) (by have := s.pl.sg; omega) (by omega)
  rcases s.pl.app hb F (by omega) (by omega) with ⟨d', g', e, P⟩ | ⟨d', g', e, P⟩
  · refine (con _ _ _ e).mono ?_
    rw [e] at hs
    replace hs : g'.size ≤ g.size + (laid X).length := hs
    rintro en w' ⟨rfl, k', l', o'⟩
    refine .inl ⟨rfl, o', fun w'' sv' hb' hs' => ⟨d', g', P, k'.below hb', l'.below hb', s.hL, (s.of_.trans o').trans (Off.of_below hb' (Nat.le_trans hw (s.of_.trans o').size)), by omega, ?_, s.l2, s.l3, hs', (o'.kc.buf s.lb nl_rec).below hb', s.ob.keep fun _ _ hh => (o'.kc.buf hh nl_rec).below hb'⟩⟩
    have := s.l1
    rw [List.length_append]; omega
  · refine (con _ _ _ e).mono ?_
    rw [e] at hs
    replace hs : g'.size ≤ g.size + (laid X).length := hs
    rintro en w' ⟨rfl, k', l', o'⟩
    exact .inr ⟨rfl, d', g', P, k', l', s.hL, s.of_.trans o', by omega, by have := s.l1; omega, C, s.l3, o'.kc.buf s.sb nl_rec, o'.kc.buf hv nl_rec, s.ob.keep fun _ _ hh => o'.kc.buf hh nl_rec⟩
theorem PlSt.restart_down (s : PlSt B w wr h lim k L sv lv ov d g sure loose other) (hb : g.broken = true) (hE : EnvAt wr) (hB : h.Hi B) (hB4 : 4 ≤ B) (hk : k < 25) (D : ∀ r ∈ X, r.2.length ≤ 30) (C : X.length ≤ 4) (hv : Buf wr 34 2 v X.length (frcs X)) :
    Calls Tryz.prog 27 #[.pointer (some ⟨L, 0, none⟩), v] wr fun en w' => en = .returned (.int .i64 9) ∧ PlSt B w w' h lim (k + 1) L sv lv ov d g sure loose other := by
  refine (restart_ok wr L h d g B k v X _ _ _ (play_down hb).2 s.kd s.lg hE hB s.hL hB4 s.pl.acc (by omega) (by rw [s.pl.rm]; decide) (SlAt.of_buf hv) (by omega) (fun r hr => Nat.le_trans (D r hr) (by decide)) (by have := s.pl.sg; omega)).mono ?_
  rintro en w' ⟨rfl, k', l', o'⟩
  exact ⟨rfl, s.same k' l' o'⟩
theorem PlSt.restart (s : PlSt B w wr h lim k L sv lv ov d g sure loose other) (hb : g.broken = false) (hE : EnvAt wr) (hB : h.Hi B) (hB4 : 4 ≤ B) (hw : B ≤ w.heap.size) (hk : k < 25) (F : Wal.Few X) (D : ∀ r ∈ X, r.2.length ≤ 30) (C : X.length ≤ 4) (hv : Buf wr 34 2 v X.length (frcs X)) :
    Calls Tryz.prog 27 #[.pointer (some ⟨L, 0, none⟩), v] wr fun en w' => (en = .returned (.int .i64 0) ∧ ∃ d' g', PlSt B w w' h lim (k + 1) L v lv ov d' g' X loose other) ∨
      (en = .returned (.int .i64 8) ∧ Off LTs B wr w' ∧ ∀ w'' ov', Below w'.heap.size w' w'' → OtAt w'' (some X) ov' → ∃ d' g', PlSt B w w'' h lim (k + 1) L sv lv ov' d' g' sure loose (some X)) := by
  obtain ⟨_, hX⟩ := laid4 D C
  have hs := wRestart_size d g X
  have hz := s.sz
  have con := fun e d' g' (hw : wRestart d g X = (e, d', g')) => restart_ok wr L h d g B k v X e d' g' hw s.kd s.lg hE hB s.hL hB4 s.pl.acc (by omega) (by rw [s.pl.rm]; decide) (SlAt.of_buf hv) (by omega) (fun r hr => Nat.le_trans (D r hr) (by decide)) (by have := s.pl.sg; omega)
  rcases s.pl.rst hb F (by omega) (by omega) with ⟨d', g', e, P⟩ | ⟨d', g', e, P⟩
  · refine (con _ _ _ e).mono ?_
    rw [e] at hs
    replace hs : g'.size ≤ g.size + (laid (reset X)).length := hs
    rintro en w' ⟨rfl, k', l', o'⟩
    exact .inl ⟨rfl, d', g', P, k', l', s.hL, s.of_.trans o', by omega, by omega, s.l2, s.l3, o'.kc.buf hv nl_rec, o'.kc.buf s.lb nl_rec, s.ob.keep fun _ _ hh => o'.kc.buf hh nl_rec⟩
  · refine (con _ _ _ e).mono ?_
    rw [e] at hs
    replace hs : g'.size ≤ g.size + (laid (reset X)).length := hs
    rintro en w' ⟨rfl, k', l', o'⟩
    exact .inr ⟨rfl, o', fun w'' ov' hb' ho' => ⟨d', g', P, k'.below hb', l'.below hb', s.hL, (s.of_.trans o').trans (Off.of_below hb' (Nat.le_trans hw (s.of_.trans o').size)), by omega, by have := s.l1; omega, s.l2, fun o e => (Option.some.inj e) ▸ C, (o'.kc.buf s.sb nl_rec).below hb', (o'.kc.buf s.lb nl_rec).below hb', ho'⟩⟩
theorem PlSt.open_ (s : PlSt B w wr h lim k L sv lv ov d g sure loose other) {limit : Int} (hlim : lim = max limit 1) (hw : B ≤ w.heap.size) {d2 : Ds} {w2 : World} (hd : (∃ cs, d2 = d.crash cs) ∨ d2 = { d with fz := Fz.none_ }) (k2 : DkAt w2 h d2) (o2 : Off LTs B wr w2) (hE : EnvAt w2) (hB : h.Hi B) (hB4 : 4 ≤ B) (hk : k < 25) :
    Calls Tryz.prog 12 #[.pointer (some ⟨h.D, 0, none⟩), .int .i64 limit] w2 fun en w' => ∃ L' A c got, en = .returned (.tuple #[.pointer (some ⟨L', 0, none⟩), .slice A got.length c, .int .i64 0]) ∧ Wal.Found got sure loose other ∧ got.length ≤ 4 * k + 4 ∧ Off LTs B w2 w' ∧ Buf w' 34 2 (.slice A got.length c) got.length (frcs got) ∧ ∀ w'', Below w'.heap.size w' w'' → ∃ d' g', PlSt B w w'' h lim (k + 1) L' (.slice A got.length c) (.slice none 0 0) (.slice none 0 0) d' g' got [] none := by
  obtain ⟨got, d', g', e, hf, P⟩ := s.pl.open_ hd hlim
  have ha : Wal.Acc k d2 ∧ d2.room ≤ 10000000 := by
    rcases hd with ⟨cs, rfl⟩ | rfl
    · exact ⟨s.pl.acc.crash cs, by have := s.pl.rm; show d.room ≤ _; omega⟩
    · exact ⟨s.pl.acc.fuse (Nat.zero_le _), by have := s.pl.rm; show d.room ≤ _; omega⟩
  have hg : got.length ≤ 4 * k + 4 := by
    have h1 := s.l1
    have h2 := s.l2
    rcases hf with ⟨j, rfl⟩ | ho
    · rw [List.length_append, List.length_take]; omega
    · have := s.l3 _ ho; omega
  have hnb := wOpen_nb d2 limit
  rw [e] at hnb
  have hsz : (g'.size : Int) ≤ 1000 * (k + 1 : Nat) := by
    obtain ⟨ns, A, hg, _⟩ := P.ok hnb
    exact Int.le_trans (hg.size_le P.acc) P.us
  refine (open_ok w2 h d2 B k limit d' g' got e k2 hE hB hB4 ha.1 (by omega) ha.2).mono ?_
  rintro en w' ⟨L', A, c, rfl, k', l', hL, o', hb⟩
  exact ⟨L', A, c, got, rfl, hf, hg, o', hb, fun w'' hb' => ⟨d', g', P, k'.below hb', l'.below hb', hL, ((s.of_.trans o2).trans o').trans (Off.of_below hb' (Nat.le_trans hw ((s.of_.trans o2).trans o').size)), by omega, by omega, Nat.zero_le _, fun o e => (by cases e), hb.below hb', Buf.nil _ _ _, rfl⟩⟩
theorem PlSt.arm (s : PlSt B w wr h lim k L sv lv ov d g sure loose other) {n : Int} {b : Bool} {w' : World} (hk : DkAt w' h { d with fz := (d.fz.arm n b).2 }) (o : Off DTs B wr w') : PlSt B w w' h lim (k + 1) L sv lv ov { d with fz := (d.fz.arm n b).2 } g sure loose other := by
  have o' := o.wide dlt
  exact ⟨(s.pl.fuse (arm_q _ _ _ s.pl.acc.fq)).mono, hk, s.lg.off o, s.hL, s.of_.trans o', by have := s.sz; omega, by have := s.l1; omega, s.l2, s.l3, o'.kc.buf s.sb nl_rec, o'.kc.buf s.lb nl_rec, s.ob.keep fun _ _ hh => o'.kc.buf hh nl_rec⟩
end
end Go.Proofs.YtcopknopifbebaaGreatDoor

namespace Go.Proofs.YtcopknopifbebaaGreatDoor
open Go.RowKit Go.Bar Go.Bar.Wal Go.Bar.Leb Go.Bar.Frm Go.Conc Go.ChangeShapes Go.WideShapes Go.ChangeAt Go.Deep
attribute [local go_sem] Oper.semAt_some

set_option maxHeartbeats 16000000 in
set_option maxRecDepth 10000 in
theorem walPlays_walk0 (limit : Int) (hwf : (Lit.int .i64 limit).wf = true) (v : Value) (as_ : List ActV) (w : World) (h0 : ActsAt w v as_) (hE : EnvAt w) :
    Calls Tryz.prog 7 #[.int .i64 limit, v] w (RetBelow w (.bool true)) := by
  have hlim := bounds_i64 hwf
  clear hwf
  obtain ⟨h1, hok⟩ := h0
  obtain ⟨A0, c0, rfl, hlc, hcm⟩ := h1.shape
  unfold maxLen at hcm
  have hB4 := hE.four
  obtain ⟨B, hBe⟩ : ∃ B, B = w.heap.size := ⟨_, rfl⟩
  rw [← hBe] at hB4
  have hE0 := Lib.hid hE
  have hEx : ∀ wx, Below B w wx → EnvAt wx := fun wx hb => hE.bel hb hB4
  have HEX := Lib.hid hEx
  have hbs : ∀ wx, Off LTs B w wx → B ≤ wx.heap.size := fun wx o => by rw [hBe]; exact o.size
  have HBS := Lib.hid hbs
  have hbw : ∀ wx, Off LTs B w wx → Below w.heap.size w wx := fun wx o => by have := o.bel; rwa [hBe] at this
  have HBW := Lib.hid hbw
  have H1 := Lib.hid h1
  have HOK := Lib.hid hok
  obtain ⟨lim, hl⟩ : ∃ lim, lim = max limit 1 := ⟨_, rfl⟩
  have hl1 : 1 ≤ lim ∧ lim ≤ 9223372036854775807 := by omega
  have HL := Lib.hid hl
  have ho := open_new 1048576 limit
  have hnew := Lib.hid (new_any w 1048576)
  rw [← hBe] at hnew
  have cO1 := Lib.hid (fun wx h (kx : DkAt wx h (Ds.new 1048576)) hx (hB : h.Hi B) => open_ok wx h _ B 0 limit _ _ _ ho.1 kx hx hB hB4 (Acc.new _) (by decide) (by decide))
  have hPl : PlayI lim 0 [] [] none (Ds.new 1048576) ⟨max limit 1, 1, 0, false⟩ := ⟨hl.symm, Acc.new _, rfl, Int.le_refl _, Nat.le_refl _, Few.nil, Few.nil, fun o e => (by cases e), fun _ => ⟨[], _, ho.2, rfl⟩, fun hb => (by cases hb)⟩
  have HPL := Lib.hid hPl
  have al : ∀ wx (o : Obj), Below wx.heap.size wx (wx.alloc o) := fun wx o => (Below.refl _ _).alloc (Nat.le_refl _) o
  have AL := Lib.hid al
  clear hEx hbs hbw hE h1 hok hl ho hPl hlim al
  go_enter Tryz.func7, Tryz.ntmps7
  go_wp2_with (first
    | (go_at_call 17; refine (awake11_any w3 (HEX.out _ O3.out.bel)).mono ?_; rintro e w4 ⟨rfl, hb4⟩)
    | (go_at_call 11; refine hnew.out.mono ?_; rintro e w2 ⟨h, rfl, k2, hB, hb2⟩)
    | (go_at_call 12; refine (cO1.out w2 h k2 (HEX.out _ hb2) hB).mono ?_; rintro e w3 ⟨L, A, cp, rfl, k3, l3, hL, o3, _⟩; have O3 := Lib.hid ((show Off LTs B w w2 from ⟨Kc.of_below (by have := hb2; rwa [hBe] at this), hb2⟩).trans o3)))
  have O4 := Lib.hid (O3.out.trans (Off.of_below hb4 (HBS.out _ O3.out)))
  have hba : Below w4.heap.size w4 ((w4.alloc (.cells #[] 34)).alloc (.cells #[] 34)) := ((Below.refl _ w4).alloc (Nat.le_refl _) _).alloc (by simp) _
  have q0 := (Buf.lit w4 34 2 0 [] rfl (Nat.zero_le _)).below (AL.out _ (.cells #[] 34))
  have q1 := Buf.lit (w4.alloc (.cells #[] 34)) 34 2 0 [] rfl (Nat.zero_le _)
  rw [show (w4.alloc (.cells #[] 34)).heap.size = w4.heap.size + 1 by simp] at q1
  have hs5 : Hid (PlSt B w ((w4.alloc (.cells #[] 34)).alloc (.cells #[] 34)) h lim 0 L (.slice (some ⟨w4.heap.size, 0, none⟩) 0 0) (.slice (some ⟨w4.heap.size + 1, 0, none⟩) 0 0) (.slice none 0 0) (Ds.new 1048576) ⟨max limit 1, 1, 0, false⟩ [] [] none) :=
    ⟨HPL.out, (k3.below hb4).below hba, (l3.below hb4).below hba, hL, O4.out.trans (Off.of_below hba (HBS.out _ O4.out)), Nat.zero_le _, Nat.zero_le _, Nat.zero_le _, fun o e => (by cases e), q0, q1, rfl⟩
  clear hba q0 q1 k3 l3 o3 hb4 O3 O4 hnew cO1 k2 hb2
  go_loopw [6, 9, 10, 11, 12] (fun p sv lv ov i wr => ∃ (k L : Nat) (d : Ds) (g : Lg) (sure loose : List Rc) (other : Option (List Rc)), i = .int .i64 k ∧ p = .pointer (some ⟨L, 0, none⟩) ∧ k ≤ as_.length ∧ k ≤ 25 ∧ Hid (PlSt B w wr h lim k L sv lv ov d g sure loose other)) (fun _ _ _ _ i _ => 25 - (intOf i).toNat)
  case atStart => exact ⟨0, L, _, _, _, _, _, rfl, rfl, Nat.zero_le _, by omega, hs5⟩
  case round =>
    obtain ⟨k, L, d, g, sure, loose, other, rfl, rfl, hk, hk25, hS⟩ := hrel
    by_cases hgo : k < as_.length ∧ k < 25
    · obtain ⟨hk1, hk2⟩ := hgo
      obtain ⟨⟨kd, n, fv, fl, dn, cv, ch⟩, hki⟩ : ∃ r, as_[k]? = some r := ⟨_, List.getElem?_eq_getElem hk1⟩
      have hbl := HBW.out _ hS.out.of_
      obtain ⟨b, o, rfl, hlt, c0, c1, c2, c3, c4⟩ := ActsAt.at_ (SlAt.below H1.out hbl) hki
      obtain ⟨hf1, hf2, hc1, hc2⟩ := HOK.out _ (List.mem_of_getElem? hki)
      simp only at c0 c1 c2 c3 c4 hf1 hf2 hc1 hc2
      obtain ⟨fA, fc, rfl, hfc1, hfc2⟩ := hf1.shape
      obtain ⟨cA, cc, rfl, hcc1, hcc2⟩ := hc1.shape
      unfold maxLen at hfc2 hcc2
      have hci : (0 : Int) ≤ (k : Int) := by omega
      have hci2 : (k : Int) < as_.length := by omega
      clear hki
      go_upto_region 11 with fail
      have hba : Below wr.heap.size wr (wr.alloc (.cells #[.int .i64 kd, .int .i64 n, .slice fA fl.length fc, .bool dn, .slice cA ch.length cc] 62)) := (Below.refl _ _).alloc (Nat.le_refl _) _
      have BR := Blk.new wr #[.int .i64 kd, .int .i64 n, .slice fA fl.length fc, .bool dn, .slice cA ch.length cc] 62
      obtain ⟨wa, hwa⟩ : ∃ wa, wa = wr.alloc (.cells #[.int .i64 kd, .int .i64 n, .slice fA fl.length fc, .bool dn, .slice cA ch.length cc] 62) := ⟨_, rfl⟩
      rw [← hwa] at hba BR ⊢
      obtain ⟨sA, sc, rfl, hsc1, hsc2⟩ := (SlAt.of_buf hS.out.sb).shape
      obtain ⟨lA, lc, rfl, hlc1, hlc2⟩ := (SlAt.of_buf hS.out.lb).shape
      have sA0 := hS.out.below hba (HBS.out _ hS.out.of_)
      have hbl2 := below_trans hbl hba
      have hsl1 : sure.length ≤ 100 := by have := hS.out.l1; omega
      have hsl2 : loose.length ≤ 4 := hS.out.l2
      obtain ⟨e0, e1, e2, e3, e4⟩ := Blk.c5 BR
      obtain ⟨F, D, C⟩ := few4_few fl
      have hfew := Lib.hid (few11_any _ fl wa (hf1.below hbl2) hf2)
      obtain ⟨X, hX⟩ : ∃ X, X = few4 fl := ⟨_, rfl⟩
      rw [← hX] at F D C hfew
      have HCH := Lib.hid hc1
      have HLT := Lib.hid hsc2
      obtain ⟨br, hbr⟩ : ∃ br, br = g.broken := ⟨_, rfl⟩
      have cB := Lib.hid (fun wx (lx : LgAt wx L h g) => brk_any wx L h g lx)
      rw [← hbr] at cB
      have HBR := Lib.hid hbr
      have SA := Lib.hid sA0
      clear hwa hba sA0 hbl hbl2 hX hc1 hf1 hf2 hc2 c0 c1 c2 c3 c4 hlt hS hbr hsc2 hlc2
      have BRA := Lib.hid BR
      clear BR
      go_upto_region 13 with (first
        | (go_at_call 16; refine hfew.out.mono ?_; rintro e w1 ⟨v1, rfl, q1, hb1⟩; have S1 := Lib.hid (SA.out.below hb1 (HBS.out _ SA.out.of_)))
        | (go_at_call 29; refine (cB.out w1 S1.out.lg).mono ?_; rintro e w2 ⟨rfl, hb2⟩))
      have S2 := Lib.hid (S1.out.below hb2 (HBS.out _ S1.out.of_))
      have Q2 := Lib.hid (q1.below hb2)
      have BR2 := (BRA.out.below hb1).below hb2
      clear e0 e1 e2 e3 e4 hb1 hb2 q1 S1 SA hfew cB BRA
      obtain ⟨e0, e1, e2, e3, e4⟩ := Blk.c5 BR2
      obtain ⟨v1A, v1c, rfl, _, _⟩ := (SlAt.of_buf Q2.out).shape
      clear BR2
      have hw : B ≤ w.heap.size := Nat.le_of_eq hBe
      go_upto_region 14 with fail
      have E2 := Lib.hid (HEX.out _ S2.out.of_.bel)
      by_cases k1 : kd = 1
      · subst k1
        rcases br with _ | _
        · have cAp := Lib.hid (S2.out.append HBR.out.symm E2.out hB hB4 hw hl1 hk2 F D C Q2.out)
          go_wp2_with fail
          refine cAp.out.mono ?_
          rintro e w3 (⟨rfl, o3, K3⟩ | ⟨rfl, d3, g3, S3⟩)
          · have hz := Lib.hid (NBuf.lit0 (Below.refl _ w3) 34 2)
            have al3 := AL.out w3 (.cells #[] 34)
            have hs2 := Lib.hid (((SlAt.of_buf (o3.kc.buf S2.out.sb nl_rec)).below al3).src (P := Tryz.prog) (by decide) (t := 23) Tryz.underlying23 (frcs_one sure))
            have Q3 := Lib.hid (o3.kc.buf Q2.out nl_rec)
            have K3' := Lib.hid K3
            have hX4 := C
            clear K3 o3 e0 e1 e2 e3 e4 al3
            go_wp2_with (first
              | (at_builtin; refine wpList_append_el rfl (.tmp 73) (.tmp 74) 23 23 rfl rec_ty rfl hz.out.buf rfl hs2.out (by simp only [maxLen]; omega) (by omega) ?_; intro v5 w5 hb5 ha5 hg5; have hn5 := Lib.hid (hz.out.step hb5 ha5 hg5); clear hb5 ha5 hg5)
              | (at_builtin; refine wpList_append_el rfl (.tmp 75) (.tmp 76) 23 23 rfl rec_ty rfl hn5.out.buf rfl (((SlAt.of_buf Q3.out).below hn5.out.below).src (P := Tryz.prog) (by decide) (t := 23) Tryz.underlying23 (frcs_one X)) (by simp only [maxLen]; omega) (by omega) ?_; intro v6 w6 hb6 ha6 hg6; have hn6 := Lib.hid (hn5.out.step hb6 ha6 hg6); clear hb6 ha6 hg6))
            obtain ⟨d6, g6, S6⟩ := K3'.out _ v6 hn6.out.below (by have := hn6.out.buf; rw [List.nil_append, Nat.zero_add, ← frcs_append, ← List.length_append] at this; exact this)
            go_roundw
            case rel => exact ⟨k + 1, L, d6, g6, _, _, _, by go_num, rfl, by omega, by omega, Lib.hid S6⟩
            case measure => simp [intOf]; omega
          · have HS3 := Lib.hid S3
            clear S3 e0 e1 e2 e3 e4
            go_wp2_with fail
            go_roundw
            case rel => exact ⟨k + 1, L, d3, g3, _, _, _, by go_num, rfl, by omega, by omega, HS3⟩
            case measure => simp [intOf]; omega
        · have cAp := Lib.hid (S2.out.append_down HBR.out.symm E2.out hB hB4 hl1 hk2 D C Q2.out)
          go_wp2_with fail
          refine cAp.out.mono ?_
          rintro e w3 ⟨rfl, S3⟩
          have HS3 := Lib.hid S3
          clear S3 e0 e1 e2 e3 e4
          go_wp2_with fail
          go_roundw
          case rel => exact ⟨k + 1, L, d, g, _, _, _, by go_num, rfl, by omega, by omega, HS3⟩
          case measure => simp [intOf]; omega
      by_cases k2 : kd = 2
      · subst k2
        clear k1
        rcases br with _ | _
        · have cAp := Lib.hid (S2.out.restart HBR.out.symm E2.out hB hB4 hw hk2 F D C Q2.out)
          go_wp2_with fail
          refine cAp.out.mono ?_
          rintro e w3 (⟨rfl, d3, g3, S3⟩ | ⟨rfl, o3, K3⟩)
          · have HS3 := Lib.hid S3
            clear S3 e0 e1 e2 e3 e4
            go_wp2_with fail
            go_roundw
            case rel => exact ⟨k + 1, L, d3, g3, _, _, _, by go_num, rfl, by omega, by omega, HS3⟩
            case measure => simp [intOf]; omega
          · have al3 := AL.out w3 (.cells #[.int .u8 255, .string ByteArray.empty] 34)
            have hz := Lib.hid (NBuf.lit_ w3 34 2 1 [.int .u8 255, .string ByteArray.empty] rfl (by decide))
            have hs2 := Lib.hid (((SlAt.of_buf (o3.kc.buf Q2.out nl_rec)).below al3).src (P := Tryz.prog) (by decide) (t := 23) Tryz.underlying23 (frcs_one X))
            have K3' := Lib.hid K3
            have hX4 := C
            clear K3 o3 e0 e1 e2 e3 e4 al3
            go_wp2_with (at_builtin; refine wpList_append_el rfl (.tmp 98) (.tmp 99) 23 23 rfl rec_ty rfl hz.out.buf rfl hs2.out (by simp only [maxLen]; omega) (by omega) ?_; intro v5 w5 hb5 ha5 hg5; have hn5 := Lib.hid (hz.out.step hb5 ha5 hg5); clear hb5 ha5 hg5)
            obtain ⟨d6, g6, S6⟩ := K3'.out _ v5 hn5.out.below (by
              have hb := hn5.out.buf
              rw [Nat.add_comm] at hb
              obtain ⟨A5, c5, rfl, hle5⟩ := hb.shape
              obtain ⟨b5, o5, rfl, _⟩ := Buf.some_at hb (by omega)
              exact ⟨_, _, rfl, hb⟩)
            go_roundw
            case rel => exact ⟨k + 1, L, d6, g6, _, _, _, by go_num, rfl, by omega, by omega, Lib.hid S6⟩
            case measure => simp [intOf]; omega
        · have cAp := Lib.hid (S2.out.restart_down HBR.out.symm E2.out hB hB4 hk2 D C Q2.out)
          go_wp2_with fail
          refine cAp.out.mono ?_
          rintro e w3 ⟨rfl, S3⟩
          have HS3 := Lib.hid S3
          clear S3 e0 e1 e2 e3 e4
          go_wp2_with fail
          go_roundw
          case rel => exact ⟨k + 1, L, d, g, _, _, _, by go_num, rfl, by omega, by omega, HS3⟩
          case measure => simp [intOf]; omega
      by_cases k3 : kd = 3 ∨ kd = 5
      · have hlimH := HL.out
        -- what it finds
        have cOp := Lib.hid (fun d2 w3 (hd : (∃ cs, d2 = d.crash cs) ∨ d2 = { d with fz := Fz.none_ }) (k3 : DkAt w3 h d2) (o3 : Off LTs B w2 w3) (hE3 : EnvAt w3) => S2.out.open_ hlimH hw hd k3 o3 hE3 hB hB4 hk2)
        have cCr := Lib.hid (crash_any w2 h d B k S2.out.kd hB S2.out.pl.acc (by omega) (by rw [S2.out.pl.rm]; decide) cA cc ch (by omega) (fun w' hb => SlAt.below HCH.out (by have := S2.out.of_.bel.trans hb; rwa [hBe] at this)))
        have hD : ∃ d2, ((∃ cs, d2 = d.crash cs) ∨ d2 = { d with fz := Fz.none_ }) ∧ (kd = 3 → d2 = d.crash ch) ∧ (kd = 5 → d2 = { d with fz := Fz.none_ }) := by
          rcases k3 with rfl | rfl
          · exact ⟨_, .inl ⟨ch, rfl⟩, fun _ => rfl, fun e => absurd e (by decide)⟩
          · exact ⟨_, .inr rfl, fun e => absurd e (by decide), fun _ => rfl⟩
        obtain ⟨d2, hd2, hd3, hd5⟩ := hD
        have HD2 := Lib.hid hd2
        clear hd2
        have HB2 := Lib.hid (show B ≤ w2.heap.size from HBS.out _ S2.out.of_)
        have cOp2 : Hid (∀ w3, DkAt w3 h d2 → Off LTs B w2 w3 → EnvAt w3 → _) := fun w3 k3 o3 hE3 => cOp.out d2 w3 HD2.out k3 o3 hE3
        have hU : ∀ wx dx, DkAt wx h dx → wx.cell? ⟨h.D, 0, none⟩ = some (.pointer (some ⟨h.U, 0, none⟩)) := fun wx dx kx => (d_cells kx).1
        have HU := Lib.hid hU
        clear hU cOp
        have hst : ∃ dd, Hid ({ dd with fz := Fz.none_ } = d2) ∧ (kd = 3 → dd = d.crash ch) ∧ (kd = 5 → dd = d) := by
          rcases k3 with rfl | rfl
          · refine ⟨d.crash ch, ?_, fun _ => rfl, fun e => absurd e (by decide)⟩
            have := hd3 rfl
            subst this
            exact Lib.hid rfl
          · refine ⟨d, ?_, fun e => absurd e (by decide), fun _ => rfl⟩
            have := hd5 rfl
            subst this
            exact Lib.hid rfl
        obtain ⟨dd, hdd, hd3', hd5'⟩ := hst
        have HDD := Lib.hid hd3'
        have HDE := Lib.hid hd5'
        have cCl := Lib.hid (fun w3 (kx : DkAt w3 h dd) => clear_any w3 h dd B kx hB)
        rw [hdd.out] at cCl
        have HBE := Lib.hid hBe
        clear hBe hd3 hd5 hd3' hd5' hlimH HD2 k1 k2
        have hfin : ∀ w4, DkAt w4 h d2 → Off LTs B w2 w4 → Hid (DkAt w4 h d2 ∧ Off LTs B w2 w4) := fun w4 a b => ⟨a, b⟩
        have HFIN := Lib.hid hfin
        clear hfin
        rcases k3 with rfl | rfl
        · have hdc := HDD.out rfl
          subst hdc
          go_wp2_with fail
          refine cCr.out.mono ?_
          rintro e w3 ⟨rfl, kx3, ox3⟩
          have x0 := HU.out _ _ kx3
          clear e0 e1 e2 e3 e4
          go_wp2_with fail
          refine (cCl.out w3 kx3).mono ?_
          rintro e w4 ⟨rfl, kx4, ox4⟩
          have KO := HFIN.out w4 kx4 ((ox3.wide dlt).trans ((ox4.wide dt0).wide dlt))
          clear x0 kx3 ox3 kx4 ox4
          have E4 := Lib.hid (HEX.out _ (S2.out.of_.trans KO.out.2).bel)
          go_wp2_with fail
          refine (cOp2.out w4 KO.out.1 KO.out.2 E4.out).mono ?_
          rintro e w5 ⟨L5, A5, c5, got, rfl, hF, hgl, o5, hgot, K5⟩
          have O5 := KO.out.2.trans o5
          have SB5 := Lib.hid (O5.kc.buf S2.out.sb nl_rec)
          have LB5 := Lib.hid (O5.kc.buf S2.out.lb nl_rec)
          have OB5 := S2.out.ob.keep fun _ _ hh => O5.kc.buf hh nl_rec
          have G5 := Lib.hid hgot
          have K5' := Lib.hid K5
          have cP := Lib.hid (prefix_any _ _ _ got sure loose w5 (SlAt.of_buf G5.out) (SlAt.of_buf SB5.out) (SlAt.of_buf LB5.out) (by omega) (by omega))
          by_cases hp : prefixB got sure loose = true
          · rw [hp] at cP
            clear hp hF o5 O5 OB5 hgot K5
            go_wp2_with (go_at_call 20; refine cP.out.mono ?_; rintro e w6 ⟨rfl, hb6⟩)
            obtain ⟨d6, g6, S6⟩ := K5'.out _ hb6
            go_roundw
            case rel => exact ⟨k + 1, L5, d6, g6, got, [], none, by go_num, rfl, by omega, by omega, Lib.hid S6⟩
            case measure => simp [intOf]; omega
          · have hot : other = some got := hF.resolve_left fun ⟨j, e⟩ => hp (by rw [e]; exact prefix_yes j)
            subst hot
            obtain ⟨oA, oc, rfl, hob⟩ := OB5
            replace hp := Bool.eq_false_iff.2 hp
            rw [hp] at cP
            obtain ⟨ie, hie1, hie2, hie3⟩ := rec_ty.info
            have hoc : got.length + 1 ≤ oc := by obtain ⟨_, _, e, h1, _⟩ := (SlAt.of_buf hob).shape; injection e with _ _ e; omega
            have hnil := fun W => Lib.run_eql_slice_some_nil (P := Tryz.prog) W (t := 23) oA (got.length + 1) oc Tryz.underlying23
            have hrs : RecsAt w5 (.slice (some oA) ((255, []) :: got : List Rc).length oc) ((255, []) :: got) := SlAt.of_buf hob
            have hfr := RecsAt.from_ hrs (k := 1) (by rw [List.length_cons]; omega)
            obtain ⟨oD, hoD⟩ : ∃ D, D = dropA (some oA) oc 1 2 := ⟨_, rfl⟩
            have hsl : ∀ W, (Instr.slice 23 (.slice (some oA) (got.length + 1) oc) (some (.int .i64 1)) none none).run Tryz.prog W = .ok (.slice oD got.length (oc - 1)) W := fun W => by rw [hoD]; exact run_slice_f (a := some oA) (n := got.length + 1) (c := oc) Tryz.underlying23 hie1 hie3.1 1 (by omega) hoc W
            replace hfr : Hid (RecsAt w5 (.slice oD got.length (oc - 1)) got) := by rw [hoD]; exact hfr
            have cS := Lib.hid (fun w6 (hb : Below w5.heap.size w5 w6) => same11_any _ _ got got w6 (SlAt.of_buf (G5.out.below hb)) (RecsAt.below hfr.out hb))
            rw [show sameR got got = 0 from if_pos rfl] at cS
            have HOC := Lib.hid hoc
            clear hp hF o5 O5 hgot K5 hoD hrs hob hie1 hie2 hie3 hoc
            go_wp2_with (first
              | (go_at_call 20; refine cP.out.mono ?_; rintro e w6 ⟨rfl, hb6⟩)
              | (go_at_call 15; refine (cS.out w6 hb6).mono ?_; rintro e w7 ⟨rfl, n7, rfl⟩))
            obtain ⟨d6, g6, S6⟩ := K5'.out _ (below_trans hb6 (below_draws w6 n7))
            go_roundw
            case rel => exact ⟨k + 1, L5, d6, g6, got, [], none, by go_num, rfl, by omega, by omega, Lib.hid S6⟩
            case measure => simp [intOf]; omega
        · have hdc := HDE.out rfl
          subst hdc
          have x0 := HU.out _ _ S2.out.kd
          go_wp2_with fail
          refine (cCl.out w2 S2.out.kd).mono ?_
          rintro e w4 ⟨rfl, kx4, ox4⟩
          have KO := HFIN.out w4 kx4 ((ox4.wide dt0).wide dlt)
          clear x0 kx4 ox4 e0 e1 e2 e3 e4
          have E4 := Lib.hid (HEX.out _ (S2.out.of_.trans KO.out.2).bel)
          go_wp2_with fail
          refine (cOp2.out w4 KO.out.1 KO.out.2 E4.out).mono ?_
          rintro e w5 ⟨L5, A5, c5, got, rfl, hF, hgl, o5, hgot, K5⟩
          have O5 := KO.out.2.trans o5
          have SB5 := Lib.hid (O5.kc.buf S2.out.sb nl_rec)
          have LB5 := Lib.hid (O5.kc.buf S2.out.lb nl_rec)
          have OB5 := S2.out.ob.keep fun _ _ hh => O5.kc.buf hh nl_rec
          have G5 := Lib.hid hgot
          have K5' := Lib.hid K5
          have cP := Lib.hid (prefix_any _ _ _ got sure loose w5 (SlAt.of_buf G5.out) (SlAt.of_buf SB5.out) (SlAt.of_buf LB5.out) (by omega) (by omega))
          by_cases hp : prefixB got sure loose = true
          · rw [hp] at cP
            clear hp hF o5 O5 OB5 hgot K5
            go_wp2_with (go_at_call 20; refine cP.out.mono ?_; rintro e w6 ⟨rfl, hb6⟩)
            obtain ⟨d6, g6, S6⟩ := K5'.out _ hb6
            go_roundw
            case rel => exact ⟨k + 1, L5, d6, g6, got, [], none, by go_num, rfl, by omega, by omega, Lib.hid S6⟩
            case measure => simp [intOf]; omega
          · have hot : other = some got := hF.resolve_left fun ⟨j, e⟩ => hp (by rw [e]; exact prefix_yes j)
            subst hot
            obtain ⟨oA, oc, rfl, hob⟩ := OB5
            replace hp := Bool.eq_false_iff.2 hp
            rw [hp] at cP
            obtain ⟨ie, hie1, hie2, hie3⟩ := rec_ty.info
            have hoc : got.length + 1 ≤ oc := by obtain ⟨_, _, e, h1, _⟩ := (SlAt.of_buf hob).shape; injection e with _ _ e; omega
            have hnil := fun W => Lib.run_eql_slice_some_nil (P := Tryz.prog) W (t := 23) oA (got.length + 1) oc Tryz.underlying23
            have hrs : RecsAt w5 (.slice (some oA) ((255, []) :: got : List Rc).length oc) ((255, []) :: got) := SlAt.of_buf hob
            have hfr := RecsAt.from_ hrs (k := 1) (by rw [List.length_cons]; omega)
            obtain ⟨oD, hoD⟩ : ∃ D, D = dropA (some oA) oc 1 2 := ⟨_, rfl⟩
            have hsl : ∀ W, (Instr.slice 23 (.slice (some oA) (got.length + 1) oc) (some (.int .i64 1)) none none).run Tryz.prog W = .ok (.slice oD got.length (oc - 1)) W := fun W => by rw [hoD]; exact run_slice_f (a := some oA) (n := got.length + 1) (c := oc) Tryz.underlying23 hie1 hie3.1 1 (by omega) hoc W
            replace hfr : Hid (RecsAt w5 (.slice oD got.length (oc - 1)) got) := by rw [hoD]; exact hfr
            have cS := Lib.hid (fun w6 (hb : Below w5.heap.size w5 w6) => same11_any _ _ got got w6 (SlAt.of_buf (G5.out.below hb)) (RecsAt.below hfr.out hb))
            rw [show sameR got got = 0 from if_pos rfl] at cS
            have HOC := Lib.hid hoc
            clear hp hF o5 O5 hgot K5 hoD hrs hob hie1 hie2 hie3 hoc
            go_wp2_with (first
              | (go_at_call 20; refine cP.out.mono ?_; rintro e w6 ⟨rfl, hb6⟩)
              | (go_at_call 15; refine (cS.out w6 hb6).mono ?_; rintro e w7 ⟨rfl, n7, rfl⟩))
            obtain ⟨d6, g6, S6⟩ := K5'.out _ (below_trans hb6 (below_draws w6 n7))
            go_roundw
            case rel => exact ⟨k + 1, L5, d6, g6, got, [], none, by go_num, rfl, by omega, by omega, Lib.hid S6⟩
            case measure => simp [intOf]; omega
      have k3' : ¬ kd = 3 := fun e => k3 (.inl e)
      have k5' : ¬ kd = 5 := fun e => k3 (.inr e)
      clear k3
      by_cases k4 : kd = 4
      · subst k4
        clear k1 k2 k3' k5'
        have harm := Lib.hid (fun wx (kx : DkAt wx h d) => arm_any wx h d B (bits .and .i64 n 7) dn kx hB (and7_11 n))
        have HB2 := Lib.hid (show B ≤ w2.heap.size from HBS.out _ S2.out.of_)
        have hkk := Lib.hid S2.out.kd
        have HE1 := Lib.hid e1
        have HE3 := Lib.hid e3
        have hlt2 : wr.heap.size < w2.heap.size := World.block_lt_of_cell? _ _ e1
        have HLT2 := Lib.hid hlt2
        clear hlt2
        have HBE := Lib.hid hBe
        clear e0 e1 e2 e3 e4 hBe
        go_upto_region 47 with fail
        have hstT : ∀ k v w w', Below w.heap.size w w' → Dv.factOf ([(3, ((fun v => v = (.pointer (some ⟨h.U, 0, none⟩))), noFact, 3)), (5, ((fun v => v = (.int .i64 n)), noFact, 5)), (8, ((fun v => v = (.bool dn)), noFact, 8)), (9, ((fun v => v = .int .i64 ((d.fz.arm (bits .and .i64 n 7) dn).1 : Nat)), noFact, 9))] : List (Nat × Dv.Kp)) k v w → Dv.factOf ([(3, ((fun v => v = (.pointer (some ⟨h.U, 0, none⟩))), noFact, 3)), (5, ((fun v => v = (.int .i64 n)), noFact, 5)), (8, ((fun v => v = (.bool dn)), noFact, 8)), (9, ((fun v => v = .int .i64 ((d.fz.arm (bits .and .i64 n 7) dn).1 : Nat)), noFact, 9))] : List (Nat × Dv.Kp)) k v w' := Dv.fact_st (by
          simp only [List.forall_mem_cons, List.not_mem_nil, false_imp_iff, implies_true, and_true]
          refine ⟨?_, ?_, ?_, ?_⟩
          · exact fun _ _ _ _ _ => trivial
          · exact fun _ _ _ _ _ => trivial
          · exact fun _ _ _ _ _ => trivial
          · exact fun _ _ _ _ _ => trivial)
        have htrT : ∀ x ∈ ([(3, ((fun v => v = (.pointer (some ⟨h.U, 0, none⟩))), noFact, 3)), (5, ((fun v => v = (.int .i64 n)), noFact, 5)), (8, ((fun v => v = (.bool dn)), noFact, 8)), (9, ((fun v => v = .int .i64 ((d.fz.arm (bits .and .i64 n 7) dn).1 : Nat)), noFact, 9))] : List (Nat × Dv.Kp)), (([(3, ((fun v => v = (.pointer (some ⟨h.U, 0, none⟩))), noFact, 3)), (5, ((fun v => v = (.int .i64 n)), noFact, 5)), (8, ((fun v => v = (.bool dn)), noFact, 8)), (9, ((fun v => v = .int .i64 ((d.fz.arm (bits .and .i64 n 7) dn).1 : Nat)), noFact, 9))] : List (Nat × Dv.Kp)).lookup x.2.2.2).isSome = true := by
          simp only [List.forall_mem_cons, List.not_mem_nil, false_imp_iff, implies_true, and_true]
          exact ⟨by kernel_rfl, by kernel_rfl, by kernel_rfl, by kernel_rfl⟩
        refine Dv.wp_region_two (L := ([(3, ((fun v => v = (.pointer (some ⟨h.U, 0, none⟩))), noFact, 3)), (5, ((fun v => v = (.int .i64 n)), noFact, 5)), (8, ((fun v => v = (.bool dn)), noFact, 8)), (9, ((fun v => v = .int .i64 ((d.fz.arm (bits .and .i64 n 7) dn).1 : Nat)), noFact, 9))] : List (Nat × Dv.Kp))) (m := 9) (Fin := (FinDk B w2 h { d with fz := (d.fz.arm (bits .and .i64 n 7) dn).2 })) (by kernel_rfl) 161 (by kernel_rfl) rfl (by kernel_rfl) ?_ ?_ ?_
        · simp only [List.forall_mem_cons, List.not_mem_nil, false_imp_iff, implies_true, and_true]
          exact ⟨⟨_, rfl⟩, ⟨_, rfl⟩, ⟨_, rfl⟩, ⟨_, rfl⟩⟩
        · exact (fun vs vs' w' _ hf => hf)
        repeat (first
          | (refine Dv.Chain.step (v := ?_) (a' := ?_) rfl rfl rfl ?_ ?_ ?_; rotate_left 2; (focus (intro w; go_simp; try with_reducible rfl)); focus (simp only [Act.put, pqA, pqS, pqZ]; try rfl))
          | (refine Dv.XT.call (i := 3) (a' := ?_) _ _ rfl (by decide) hstT rfl rfl (fun wx hw hF => ?_) htrT ?_ ?_; rotate_left 1; (focus (have x0 := (d_cells (hkk.out.below hw)).1); (go_simp); (first | exact ⟨rfl, rB⟩ | exact rB)); focus (simp only [Act.put, pqA, pqS, pqZ]; try rfl))
          | (refine Dv.XT.call (i := 5) (a' := ?_) _ _ rfl (by decide) hstT rfl rfl (fun wx hw hF => ?_) htrT ?_ ?_; rotate_left 1; (focus (have x1 : wx.cell? ⟨wr.heap.size, 1, none⟩ = some (.int .i64 n) := (hw.cell (p := ⟨wr.heap.size, 1, none⟩) HLT2.out).trans HE1.out); (go_simp); (first | exact ⟨rfl, rB⟩ | exact rB)); focus (simp only [Act.put, pqA, pqS, pqZ]; try rfl))
          | (refine Dv.XT.call (i := 8) (a' := ?_) _ _ rfl (by decide) hstT rfl rfl (fun wx hw hF => ?_) htrT ?_ ?_; rotate_left 1; (focus (have x3 : wx.cell? ⟨wr.heap.size, 3, none⟩ = some (.bool dn) := (hw.cell (p := ⟨wr.heap.size, 3, none⟩) HLT2.out).trans HE3.out); (go_simp); (first | exact ⟨rfl, rB⟩ | exact rB)); focus (simp only [Act.put, pqA, pqS, pqZ]; try rfl))
          | (refine Dv.XT.last (i := 9) _ _ _ rfl rfl (by kernel_rfl) rfl rfl (fun vs wx hw hF => ?_) (fun v9 hv9 a' ha => ?_); (focus (go_simp); (with_reducible refine (harm.out wx (hkk.out.below hw)).mono ?_); (rintro e w' ⟨rfl, hd, ho⟩); (exact ⟨rfl, hd, (Off.of_below hw HB2.out).trans (ho.wide dt0)⟩)); obtain rfl := hv9; simp only [Act.put, pqA, pqS, pqZ] at ha; subst ha)
          | (refine Dv.Chain.skip' (a' := ?_) rfl rfl rfl ?_ ?_; rotate_left 1; focus (simp only [Act.put, pqA, pqS, pqZ]; try rfl)))
        refine Dv.XT.end_ (by decide) (fun vs w12 hv hfin => ?_)
        obtain ⟨k12, o12⟩ := hfin
        have S3 := Lib.hid (S2.out.arm k12 o12)
        clear hv k12 o12
        go_wp2_with fail
        go_roundw
        case rel => exact ⟨k + 1, L, _, g, _, _, _, by go_num, rfl, by omega, by omega, S3⟩
        case measure => simp [intOf]; omega
      · have S3 := Lib.hid (S2.out.same S2.out.kd S2.out.lg (Off.refl _ _ _))
        go_wp2_with fail
        go_roundw
        case rel => exact ⟨k + 1, L, d, g, _, _, _, by go_num, rfl, by omega, by omega, S3⟩
        case measure => simp [intOf]; omega
    · have hend : as_.length ≤ k ∨ k < as_.length ∧ 25 ≤ k := by omega
      have hbl := HBW.out _ hS.out.of_
      clear hgo
      rcases hend with hend | ⟨hend1, hend2⟩
      all_goals
        go_wp2_with fail
        go_ret
        exact ⟨rfl, hbl⟩

end Go.Proofs.YtcopknopifbebaaGreatDoor

namespace Go.Proofs.YtcopknopifbebaaGreatDoor
open Go.RowKit Go.Bar Go.Bar.Wal Go.Bar.Leb Go.Bar.Frm Go.Conc Go.ChangeShapes Go.WideShapes Go.ChangeAt Go.Deep

set_option maxHeartbeats 8000000 in
set_option maxRecDepth 100000 in
theorem walPlays_lifted (os : Os) (started : os.Started) (H : Type) (enc : TypeId × Value → H) :
    ReturnsInHanded {} Tryz.checked os 7 .any (fun w args => (Rows.walPlaysSpec.pre enc Tryz.prog Tryz.f7 [] false w args ∧ laidMetH Tryz.prog [("math/bits.deBruijn32tab", Rows.laid_math_bits_deBruijn32tab), ("math/bits.deBruijn64tab", Rows.laid_math_bits_deBruijn64tab), ("internal/strconv.uint64pow10", Rows.laid_internal_strconv_uint64pow10), ("strconv.ErrRange", Rows.laid_strconv_ErrRange), ("strconv.ErrSyntax", Rows.laid_strconv_ErrSyntax)] w) ∧ sizedMet enc Tryz.prog Tryz.f7 (OpenSpec.ofChange Rows.walPlaysSpec) false w args)
      (Rows.walPlaysSpec.post enc Tryz.prog Tryz.f7 false true false false) := by
  refine returnsInHanded_of_change_and (C := Tryz.checked) (X := fun w _ => laidMetH Tryz.prog [("math/bits.deBruijn32tab", Rows.laid_math_bits_deBruijn32tab), ("math/bits.deBruijn64tab", Rows.laid_math_bits_deBruijn64tab), ("internal/strconv.uint64pow10", Rows.laid_internal_strconv_uint64pow10), ("strconv.ErrRange", Rows.laid_strconv_ErrRange), ("strconv.ErrSyntax", Rows.laid_strconv_ErrSyntax)] w) (fun _ _ _ hh h => h.of_heap hh) law_own started (by kernel_rfl) Tryz.func7
    (ChangeSpec.witness_shaped (enc := enc) (C := Tryz.checked) (os := os) (X := fun w _ => laidMetH Tryz.prog [("math/bits.deBruijn32tab", Rows.laid_math_bits_deBruijn32tab), ("math/bits.deBruijn64tab", Rows.laid_math_bits_deBruijn64tab), ("internal/strconv.uint64pow10", Rows.laid_internal_strconv_uint64pow10), ("strconv.ErrRange", Rows.laid_strconv_ErrRange), ("strconv.ErrSyntax", Rows.laid_strconv_ErrSyntax)] w) false (World.laidAll Tryz.prog os [("math/bits.deBruijn32tab", Rows.laid_math_bits_deBruijn32tab), ("math/bits.deBruijn64tab", Rows.laid_math_bits_deBruijn64tab), ("internal/strconv.uint64pow10", Rows.laid_internal_strconv_uint64pow10), ("strconv.ErrRange", Rows.laid_strconv_ErrRange), ("strconv.ErrSyntax", Rows.laid_strconv_ErrSyntax)]) #[.int .i64 0, .slice none 0 0] 8 (World.laidAll_os _ _ _)
      (World.shaped_of_ZipB (by kernel_rfl) (by kernel_rfl)) (by kernel_rfl) (by kernel_rfl) (by kernel_rfl) (door_met os _)) ?_
  intro W base args ds gs before hval0 hW _ _ hL _
  have hval : ∀ (j : Nat) t v, Tryz.f7.params[j]? = some t → args[j]? = some v → Value.okWide Tryz.prog W .any base t v := hval0
  have hW' := hW
  obtain ⟨p, q, hA0, hV, rfl, _, _⟩ := hW
  have hA : DataW.TrodAll enc Tryz.prog W 0 (fun _ => true) true Tryz.f7.params.toList args.toList ds p := hA0
  rw [Tryz.params7] at hA hval
  obtain ⟨v0, vs0, d0, ds0, p0, q0, hargs, rfl, rfl, h0, r0⟩ := trodAll_cons hA
  obtain ⟨v1, vs1, d1, ds1, p1, q1, rfl, rfl, rfl, h1, r1⟩ := trodAll_cons r0
  obtain ⟨rfl, rfl, rfl⟩ := trodAll_nil r1
  obtain rfl : args = #[v0, v1] := by cases args; simp_all
  obtain ⟨rfl, rfl⟩ := trodVars_none hV
  obtain ⟨a0, rfl, rfl, rfl, w0⟩ := open_int Tryz.underlying3 (hval 0 3 v0 rfl rfl) h0
  obtain ⟨ts1, hts1⟩ := open_acts (hval 1 60 v1 rfl rfl) h1
  refine (walPlays_walk0 a0 w0 v1 ts1 W hts1 (of_laid hL)).mono fun e W' ⟨he, hb⟩ => ?_
  subst he
  exact ⟨_, rfl, law_post law_laid (by intro t ht; rw [Tryz.params7] at ht; simp only [List.mem_cons, List.not_mem_nil, or_false] at ht; rcases ht with rfl | rfl <;> exact ⟨by kernel_rfl, of_decide_eq_true (by kernel_rfl)⟩) rfl Tryz.underlying4 rfl rfl hW' hb⟩

theorem walPlays_holds : Rows.WalPlaysSaid :=
  OpenClaim.holds_of_wide 7 Tryz.f7 rfl rfl rfl rfl rfl rfl rfl ⟨rfl, rfl, rfl, rfl, rfl⟩ rfl rfl rfl rfl rfl (by kernel_rfl) Tryz.func7 (by kernel_rfl)
    (of_decide_eq_true (by kernel_rfl)) (by unfold Func.isWrapper; first | (rw [if_pos (by decide +kernel)]; kernel_rfl) | (rw [if_neg (by decide +kernel)]; exact ⟨rfl, rfl⟩))
    (fun os started H enc _ => walPlays_lifted os started H enc)

theorem walPlays_card : Rows.WalPlaysCardSaid :=
  Claim7.holds_tied_plain_at .later [] [.data, .data, .data, .sentinel, .sentinel] true (true, "35d3756c6aaeeb34e9de177c5e9e73e9b2e83cd5c1c91c172043f2b2604cd02a") true
    walPlays_holds (fun _ h => by cases h) (by kernel_rfl) (fun _ h => by cases h) walPlays_row_tie rfl ⟨rfl, rfl⟩ (by kernel_rfl) rfl
    (fun f fn hf hfn => by
      obtain rfl : f = 7 := Option.some.inj ((show Tryz.prog.funcNamed "barograph/barographlaw11.WalPlays" = some 7 by kernel_rfl).symm.trans hf) |>.symm
      obtain rfl : fn = Tryz.f7 := (Option.some.inj (Tryz.func7.symm.trans hfn)).symm
      exact ⟨by kernel_rfl, fun j t ht => by
        rw [Tryz.params7] at ht
        rcases j with _ | j
        · obtain rfl : t = 3 := by simpa using ht.symm
          exact (show Tryz.prog.wantsStandIn 3 = false by kernel_rfl)
        rcases j with _ | j
        · obtain rfl : t = 60 := by simpa using ht.symm
          exact (show Tryz.prog.wantsStandIn 60 = false by kernel_rfl)
        simp at ht⟩)
    (by kernel_rfl)

end Go.Proofs.YtcopknopifbebaaGreatDoor
