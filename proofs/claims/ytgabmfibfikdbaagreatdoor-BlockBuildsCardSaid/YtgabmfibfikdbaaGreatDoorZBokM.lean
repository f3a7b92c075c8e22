/-
 Layer 16 (blocks): plain mathematics of entries and of chunks: no program in sight; no condition.
-/
import Derived.Test.YtgabmfibfikdbaaGreatDoorZMrgS
import Derived.Test.YtgabmfibfikdbaaGreatDoorZXorM
import Derived.BigQuiet
import Derived.Deep.QuietTactic
import Derived.Test.YtgabmfibfikdbaaGreatDoorZLib1
import Derived.Lib.Strings

namespace Go.Bar.Bok
open Go.RowKit Go.Bar Go.Bar.Leb Go.Bar.Frm Go.Bar.Lab Go.Bar.Xor Go.Bar.Mrg Go.Bar.Met

structure En where
 ls : List Pr
 fr : Int
 n : Int
 mn : Int
 mx : Int
def En.z : En := ⟨[], 0, 0, 0, 0⟩
def enT (x : En) : List UInt8 := u (w64 x.fr) ++ (u (w64 x.n) ++ (u (w64 x.mn) ++ u (w64 x.mx)))
def enB (x : En) : List UInt8 := key x.ls ++ enT x
def idxD (l : List En) : List UInt8 := u l.length ++ l.flatMap enB
def idxB (l : List En) : List UInt8 := Frm.rec (5, idxD l)

def tN : List Int -> List UInt8 -> List Nat × List UInt8 × Nat
 | [], s => ([], s, 0)
 | m :: ms, s => if (takeMost s m).2.2 ≠ 0 then ([], [], (takeMost s m).2.2) else
   if (tN ms (takeMost s m).2.1).2.2 ≠ 0 then ([], [], (tN ms (takeMost s m).2.1).2.2) else ((takeMost s m).1 :: (tN ms (takeMost s m).2.1).1, (tN ms (takeMost s m).2.1).2.1, 0)
def mosts : List Int := [1048576, 1048576, 1099511627776, 1099511627776]
def glue (l : List Nat) (R : List Nat × List UInt8 × Nat) : List Nat × List UInt8 × Nat := if R.2.2 ≠ 0 then ([], [], R.2.2) else (l ++ R.1, R.2.1, 0)
theorem tN_err : ∀ (ms : List Int) (s : List UInt8), (tN ms s).2.2 ≠ 0 -> (tN ms s) = ([], [], (tN ms s).2.2)
 | [], s => fun h => absurd rfl h
 | m :: ms, s => fun h => by
  unfold tN at h ⊢
  by_cases h1 : (takeMost s m).2.2 ≠ 0
  ·rw [if_pos h1]
  ·rw [if_neg h1] at h ⊢
   by_cases h2 : (tN ms (takeMost s m).2.1).2.2 ≠ 0
   ·rw [if_pos h2]
   ·rw [if_neg h2] at h
    exact absurd rfl h
theorem glue_nil (ms : List Int) (s : List UInt8) : glue [] (tN ms s) = tN ms s := by
 unfold glue
 by_cases h : (tN ms s).2.2 ≠ 0
 ·rw [if_pos h]; exact (tN_err ms s h).symm
 ·rw [if_neg h, List.nil_append]
  have h : (tN ms s).2.2 = 0 := Decidable.not_not.1 h
  rw [<- h]
theorem glue_bad {l : List Nat} {m : Int} {ms : List Int} {s : List UInt8} (h : (takeMost s m).2.2 ≠ 0) : glue l (tN (m :: ms) s) = ([], [], (takeMost s m).2.2) := by
 unfold glue tN
 rw [if_pos h]
 simp only
 rw [if_pos h]
theorem glue_step {l : List Nat} {m : Int} {ms : List Int} {s : List UInt8} (h : (takeMost s m).2.2 = 0) : glue l (tN (m :: ms) s) = glue (l ++ [(takeMost s m).1]) (tN ms (takeMost s m).2.1) := by
 have e : tN (m :: ms) s = if (tN ms (takeMost s m).2.1).2.2 ≠ 0 then ([], [], (tN ms (takeMost s m).2.1).2.2) else ((takeMost s m).1 :: (tN ms (takeMost s m).2.1).1, (tN ms (takeMost s m).2.1).2.1, 0) := by
  rw [tN, if_neg (fun hh => hh h)]
 by_cases h2 : (tN ms (takeMost s m).2.1).2.2 ≠ 0
 ·rw [if_pos h2] at e
  unfold glue
  rw [e, if_pos h2, if_pos h2]
 ·rw [if_neg h2] at e
  unfold glue
  rw [e, if_neg h2, if_neg (fun hh => hh rfl), List.append_assoc]
  rfl
theorem tN_four {a b c d : Nat} (r : List UInt8) (ha : a <= 1048576) (hb : b <= 1048576) (hc : c <= 1099511627776) (hd : d <= 1099511627776) : tN mosts (u a ++ (u b ++ (u c ++ u d)) ++ r) = ([a, b, c, d], r, 0) := by
 unfold mosts
 rw [List.append_assoc, List.append_assoc, List.append_assoc]
 unfold tN
 rw [takeMost_u a _ _ (by omega) (by omega)]
 unfold tN
 simp only
 rw [takeMost_u b _ _ (by omega) (by omega)]
 unfold tN
 simp only
 rw [takeMost_u c _ _ (by omega) (by omega)]
 unfold tN
 simp only
 rw [takeMost_u d _ _ (by omega) (by omega)]
 rfl

def tEn (s : List UInt8) : En × List UInt8 × Nat :=
 if (Lab.take s).2.2 ≠ 0 then (En.z, [], (Lab.take s).2.2)
 else if (tN mosts (Lab.take s).2.1).2.2 ≠ 0 then (En.z, [], (tN mosts (Lab.take s).2.1).2.2)
 else if (tN mosts (Lab.take s).2.1).1.getD 1 0 = 0 \/ (tN mosts (Lab.take s).2.1).1.getD 3 0 < (tN mosts (Lab.take s).2.1).1.getD 2 0 then (En.z, [], 3)
 else (⟨(Lab.take s).1, (tN mosts (Lab.take s).2.1).1.getD 0 0, (tN mosts (Lab.take s).2.1).1.getD 1 0, (tN mosts (Lab.take s).2.1).1.getD 2 0, (tN mosts (Lab.take s).2.1).1.getD 3 0⟩, (tN mosts (Lab.take s).2.1).2.1, 0)
structure EnOk (x : En) : Prop where
 lab : Lab.Ok x.ls
 fr : 0 <= x.fr /\ x.fr <= 1048576
 n : 1 <= x.n /\ x.n <= 1048576
 mn : 0 <= x.mn
 mm : x.mn <= x.mx
 mx : x.mx <= 1099511627776
theorem tEn_of {x : En} (h : EnOk x) (r : List UInt8) : tEn (enB x ++ r) = (x, r, 0) := by
 obtain ⟨h1, h2, h3, h4, h5, h6⟩ := h
 have e := take_key h1 (enT x ++ r)
 have e2 : tN mosts (enT x ++ r) = ([w64 x.fr, w64 x.n, w64 x.mn, w64 x.mx], r, 0) := tN_four r (by unfold w64; omega) (by unfold w64; omega) (by unfold w64; omega) (by unfold w64; omega)
 unfold tEn enB
 rw [List.append_assoc, e]
 simp only
 rw [if_neg (by omega), e2]
 simp only
 rw [if_neg (by omega)]
 show (if w64 x.n = 0 \/ w64 x.mx < w64 x.mn then _ else ((⟨x.ls, (w64 x.fr : Nat), (w64 x.n : Nat), (w64 x.mn : Nat), (w64 x.mx : Nat)⟩ : En), r, 0)) = _
 rw [if_neg (by unfold w64; omega), w64_of _ h2.1 (by omega), w64_of _ (by omega) (by omega), w64_of _ h4 (by omega), w64_of _ (by omega) (by omega)]
def early (out : List En) (x : En) : Prop := ∃ p, out.getLast? = some p /\ 0 <= cmpL p.ls x.ls
instance (out : List En) (x : En) : Decidable (early out x) := by
 unfold early
 rcases out.getLast? with _ | p
 ·exact isFalse (by simp)
 ·exact decidable_of_iff (0 <= cmpL p.ls x.ls) (by simp)
def tEns : Nat -> List UInt8 -> List En -> List En × List UInt8 × Nat
 | 0, s, out => (out, s, 0)
 | n + 1, s, out => if (tEn s).2.2 ≠ 0 then ([], [], (tEn s).2.2) else if early out (tEn s).1 then ([], [], 3) else tEns n (tEn s).2.1 (out ++ [(tEn s).1])
def ensD (d : List UInt8) : List En × Nat :=
 if (takeMost d 10000).2.2 ≠ 0 then ([], (takeMost d 10000).2.2)
 else if (tEns (takeMost d 10000).1 (takeMost d 10000).2.1 []).2.2 ≠ 0 then ([], (tEns (takeMost d 10000).1 (takeMost d 10000).2.1 []).2.2)
 else if (tEns (takeMost d 10000).1 (takeMost d 10000).2.1 []).2.1 ≠ [] then ([], 3) else ((tEns (takeMost d 10000).1 (takeMost d 10000).2.1 []).1, 0)
def entriesR (s : List UInt8) : List En × Nat := if (only s 5).2 ≠ 0 then ([], (only s 5).2) else ensD (only s 5).1
theorem tEns_of : ∀ (l out : List En) (r : List UInt8), (∀ x ∈ l, EnOk x) -> (out ++ l).Pairwise (fun a b => cmpL a.ls b.ls < 0) -> tEns l.length (l.flatMap enB ++ r) out = (out ++ l, r, 0)
 | [], out, r, _, _ => by rw [List.append_nil]; rfl
 | x :: l, out, r, h, hp => by
  have hx := tEn_of (h x (List.mem_cons_self ..)) (l.flatMap enB ++ r)
  rw [List.flatMap_cons, List.append_assoc, List.length_cons, tEns, hx]
  simp only
  rw [if_neg (by omega), if_neg (by
   rintro ⟨p, hp1, hp2⟩
   have hm := List.mem_of_getLast? hp1
   have := (List.pairwise_append.1 hp).2.2 p hm x (List.mem_cons_self ..)
   omega)]
  have ih := tEns_of l (out ++ [x]) r (fun y hy => h y (List.mem_cons_of_mem _ hy)) (by rw [List.append_assoc]; exact hp)
  rw [ih, List.append_assoc]
  rfl
theorem entriesR_of {l : List En} (h : ∀ x ∈ l, EnOk x) (hp : l.Pairwise (fun a b => cmpL a.ls b.ls < 0)) (hn : l.length <= 10000) (hd : (idxD l).length <= 1048576) : entriesR (idxB l) = (l, 0) := by
 unfold entriesR idxB
 rw [only_rec 5 _ hd]
 simp only
 rw [if_neg (by omega)]
 unfold ensD idxD
 rw [takeMost_u _ _ 10000 (by omega) (by omega)]
 simp only
 have ht := tEns_of l [] [] h hp
 rw [List.append_nil, List.nil_append] at ht
 rw [if_neg (by omega), ht]
 simp

def late (out some : List Sm) : Prop := ∃ a b, out.getLast? = Option.some a /\ some.head? = Option.some b /\ b.1 <= a.1
instance (out l : List Sm) : Decidable (late out l) := by
 unfold late
 rcases out.getLast? with _ | a
 ·exact isFalse (by simp)
 ·rcases l.head? with _ | b
  ·exact isFalse (by simp)
  ·exact decidable_of_iff (b.1 <= a.1) (by simp)
def tSm : List Rc -> List Sm -> Option (List Sm)
 | [], out => some out
 | r :: rs, out => if (samplesR r.2).2 ≠ 0 \/ r.1 ≠ 4 \/ (samplesR r.2).1 = [] \/ late out (samplesR r.2).1 then none else tSm rs (out ++ (samplesR r.2).1)
def smpsR (s : List UInt8) : List Sm × Nat := if left s ≠ [] then ([], 4) else match tSm (recs s) [] with | none => ([], 3) | some l => (l, 0)
theorem samplesR_len (w : List UInt8) : (samplesR w).1.length <= 120 := by
 rcases samplesR_prop w with ⟨_, h2, _, h4⟩ | ⟨h, _⟩
 ·have h5 := ofS_ok (samplesR w).1 St.zero St.zero_ok h4
  have h6 := h5.n
  have h7 := (ofS_more (samplesR w).1 St.zero (ofS St.zero (samplesR w).1).1 (by rw [<- h2])).2
  have h8 : St.zero.n = 0 := rfl
  omega
 ·rw [h]; exact Nat.zero_le _
theorem tSm_len : ∀ (rs : List Rc) (out l : List Sm), tSm rs out = some l -> l.length <= out.length + 120 * rs.length
 | [], out, l, h => by injection h with h; rw [h]; simp
 | r :: rs, out, l, h => by
  unfold tSm at h
  split at h
  ·cases h
  ·have := tSm_len rs _ l h
   have h2 := samplesR_len r.2
   rw [List.length_append] at this
   rw [List.length_cons]
   omega

def part (L : List Sm) (j : Nat) : List Sm := (L.drop (120 * j)).take 120
def ckT (L : List Sm) (j : Nat) : List UInt8 := Xor.text (ofS St.zero (part L j)).1
def nP (L : List Sm) : Nat := (L.length + 119) / 120
def ckR (L : List Sm) (m : Nat) : List Rc := (List.range m).map (fun j => (4, ckT L j))
def chB (L : List Sm) : List UInt8 := laid (ckR L (nP L))
theorem ckR_succ (L : List Sm) (m : Nat) : ckR L (m + 1) = ckR L m ++ [(4, ckT L m)] := by unfold ckR; rw [List.range_succ, List.map_append]; rfl
structure SmOk (L : List Sm) : Prop where
 ris : Ris L
 tm : ∀ x ∈ L, 0 <= x.1 /\ x.1 <= 1099511627776
 v : ∀ x ∈ L, x.2 < 18446744073709551616
theorem put_n (s : St) (x : Sm) : (s.put x).n = s.n + 1 /\ (s.put x).t = x.1 := by
 unfold St.put
 split
 ·rename_i h; exact ⟨by simp [h], rfl⟩
 ·exact ⟨rfl, rfl⟩
theorem ofS_rises : ∀ (l : List Sm) (s : St), l.Pairwise (fun a b => a.1 < b.1) -> (∀ x ∈ l, 0 <= x.1 /\ x.1 <= 1099511627776) -> s.n + l.length <= 120 -> (0 < s.n -> ∀ x ∈ l, s.t < x.1) -> (ofS s l).2 = 0
 | [], _, _, _, _, _ => rfl
 | x :: l, s, h, hb, hn, ht => by
  rw [List.length_cons] at hn
  obtain ⟨b1, b2⟩ := hb x (by simp)
  have he : err s x = 0 := by
   unfold err
   rw [if_neg (by omega), if_neg (by rintro ⟨h1, h2⟩; have := ht h1 x (by simp); omega), if_neg (by omega)]
  rw [ofS, if_pos he]
  obtain ⟨p1, p2⟩ := put_n s x
  have hp := List.pairwise_cons.1 h
  exact ofS_rises l (s.put x) hp.2 (fun y hy => hb y (by simp [hy])) (by omega) (fun _ y hy => by rw [p2]; exact hp.1 y hy)
theorem part_sub (L : List Sm) (j : Nat) : (part L j).Sublist L := (List.take_sublist _ _).trans (List.drop_sublist _ _)
theorem part_len (L : List Sm) (j : Nat) : (part L j).length <= 120 := by unfold part; rw [List.length_take]; omega
theorem part_of {L : List Sm} (h : SmOk L) (j : Nat) : (ofS St.zero (part L j)).2 = 0 :=
 ofS_rises _ _ (h.ris.sublist (part_sub L j)) (fun x hx => h.tm x ((part_sub L j).mem hx)) (by have := part_len L j; show 0 + _ <= _; omega) (fun h => absurd h (by decide))
theorem part_v {L : List Sm} (h : SmOk L) (j : Nat) : ∀ x ∈ part L j, x.2 < 18446744073709551616 := fun x hx => h.v x ((part_sub L j).mem hx)
theorem part_ne {L : List Sm} {j : Nat} (h : j < nP L) : part L j ≠ [] := by
 intro he
 have h1 : (part L j).length = 0 := by rw [he]; rfl
 unfold part at h1
 unfold nP at h
 rw [List.length_take, List.length_drop] at h1
 omega
theorem ckT_samples {L : List Sm} (h : SmOk L) (j : Nat) : samplesR (ckT L j) = (part L j, 0) := samplesR_of (Prod.ext rfl (part_of h j)) (part_v h j)
theorem ckT_len {L : List Sm} (h : SmOk L) (j : Nat) : (ckT L j).length <= 2300 := by
 have hok := ofS_ok (part L j) St.zero St.zero_ok (part_v h j)
 have h1 := hok.n
 have h2 := hok.len
 have u1 := u_len (ofS St.zero (part L j)).1.n (by omega)
 have u2 := u_len (ofS St.zero (part L j)).1.bits.length (by omega)
 show (Xor.text _).length <= _
 unfold Xor.text
 rw [List.length_append, List.length_append, Bit.pack_length]
 omega
theorem take_part (L : List Sm) (m : Nat) : L.take (120 * (m + 1)) = L.take (120 * m) ++ part L m := by
 rw [show 120 * (m + 1) = 120 * m + 120 by omega, List.take_add]
 rfl
theorem tSm_append : ∀ (rs rs' : List Rc) (out l : List Sm), tSm rs out = some l -> tSm (rs ++ rs') out = tSm rs' l
 | [], rs', out, l, h => by injection h with h; rw [h]; rfl
 | r :: rs, rs', out, l, h => by
  rw [List.cons_append, tSm]
  rw [tSm] at h
  split at h
  ·cases h
  ·rename_i hc
   rw [if_neg hc]
   exact tSm_append rs rs' _ l h
theorem tSm_ck {L : List Sm} (h : SmOk L) : ∀ m, m <= nP L -> tSm (ckR L m) [] = some (L.take (120 * m))
 | 0, _ => by simp [ckR, tSm]
 | m + 1, hm => by
  have ih := tSm_ck h m (by omega)
  rw [ckR_succ, tSm_append _ _ _ _ ih]
  unfold tSm
  simp only [ckT_samples h m]
  rw [if_neg, take_part]
  ·rfl
  ·rintro (h1 | h1 | h1 | ⟨a, b, h1, h2, h3⟩)
   ·exact h1 rfl
   ·exact h1 rfl
   ·exact part_ne (by omega) h1
   ·have hr := h.ris
    unfold Ris at hr
    rw [<- List.take_append_drop (120 * m) L] at hr
    have hb : b ∈ L.drop (120 * m) := (List.take_sublist 120 _).mem (List.mem_of_mem_head? h2)
    have := (List.pairwise_append.1 hr).2.2 a (List.mem_of_getLast? h1) b hb
    omega
theorem smpsR_of {L : List Sm} (h : SmOk L) : smpsR (chB L) = (L, 0) := by
 have hr := recs_laid (ckR L (nP L)) [] (fun r hr => by
  unfold ckR at hr
  obtain ⟨j, _, rfl⟩ := List.mem_map.1 hr
  have := ckT_len h j
  show (ckT L j).length <= _
  omega) next_nil
 rw [List.append_nil] at hr
 unfold smpsR chB
 rw [hr.2, hr.1, if_neg (by simp), tSm_ck h _ (Nat.le_refl _)]
 have : L.take (120 * nP L) = L := List.take_of_length_le (by unfold nP; omega)
 rw [this]
theorem chB_len {L : List Sm} (h : SmOk L) : (chB L).length <= 2400 * nP L := by
 have hh : ∀ m, (laid (ckR L m)).length <= 2400 * m := by
  intro m
  induction m with
  | zero => exact Nat.le_refl _
  | succ m ih =>
   rw [ckR_succ, laid_snoc, List.length_append, rec_len]
   have h1 := ckT_len h m
   have h2 := u_len (ckT L m).length (by omega)
   show _ + (5 + (u (ckT L m).length).length + (ckT L m).length) <= _
   omega
 exact hh _
end Go.Bar.Bok

namespace Go.Bar.Mrg
open Go.RowKit Go.Bar Go.Bar.Xor Go.Bar.Lab

def val (R : List Row) (L : List Pr) (t : Int) : Option Sm := (rk R L).bind (fun s => lk s t)
structure Tb (R : List Row) : Prop where
 rls : Rls R
 ris : ∀ r ∈ R, Ris r.2
 ne : ∀ r ∈ R, r.2 ≠ []
theorem Tb.nil : Tb [] := ⟨List.Pairwise.nil, fun _ h => (by cases h), fun _ h => (by cases h)⟩
theorem val_nil (L : List Pr) (t : Int) : val [] L t = none := rfl
theorem val_cons (r : Row) (R : List Row) (L : List Pr) (t : Int) : val (r :: R) L t = if r.1 = L then lk r.2 t else val R L t := by
 unfold val
 rw [rk_cons]
 by_cases h : r.1 = L
 ·rw [if_pos h, if_pos h]; rfl
 ·rw [if_neg h, if_neg h]
theorem val_none {R : List Row} {L : List Pr} (h : ∀ r ∈ R, r.1 ≠ L) (t : Int) : val R L t = none := by
 unfold val
 rw [rk_none.2 h]; rfl

def addG (L : List Pr) (s : Sm) : Bool -> List Row -> List Row
 | true, [] => []
 | false, [] => [(L, [s])]
 | true, r :: t => (if cmpL L r.1 = 0 then (r.1, putS r.2 s) else r) :: addG L s true t
 | false, r :: t => if cmpL L r.1 = 0 then (r.1, putS r.2 s) :: addG L s true t else if cmpL L r.1 < 0 then (L, [s]) :: r :: addG L s true t else r :: addG L s false t
def addR (l : List Row) (L : List Pr) (s : Sm) : List Row := addG L s false l
theorem addG_true {L : List Pr} {s : Sm} : ∀ {l : List Row}, (∀ r ∈ l, L ≠ r.1) -> addG L s true l = l
 | [], _ => rfl
 | r :: l, h => by
  show (if cmpL L r.1 = 0 then (r.1, putS r.2 s) else r) :: addG L s true l = _
  rw [if_neg (fun e => h r (List.mem_cons_self ..) (cmpL_zero.1 e)), addG_true fun x hx => h x (List.mem_cons_of_mem _ hx)]
theorem addG_len (L : List Pr) (s : Sm) : ∀ (b : Bool) (l : List Row), (addG L s b l).length <= l.length + 1
 | true, [] => Nat.zero_le _
 | false, [] => Nat.le_refl _
 | true, r :: l => Nat.succ_le_succ (addG_len L s true l)
 | false, r :: l => by
  show (if cmpL L r.1 = 0 then _ else if cmpL L r.1 < 0 then _ else _ : List Row).length <= _
  have h1 : ∀ l, (addG L s true l).length = l.length := fun l => by
   induction l with
   | nil => rfl
   | cons x l ih => exact congrArg (· + 1) ih
  split
  ·rw [List.length_cons, h1]; simp
  ·split
   ·rw [List.length_cons, List.length_cons, h1]; simp
   ·exact Nat.succ_le_succ (addG_len L s false l)
theorem putS_ne (l : List Sm) (s : Sm) : putS l s ≠ [] := by
 cases l with
 | nil => simp [putS]
 | cons x r => unfold putS; split <;> (try split) <;> simp
theorem addR_spec {L : List Pr} {s : Sm} : ∀ {l : List Row}, Tb l -> Tb (addR l L s) /\ (∀ r ∈ addR l L s, r.1 = L \/ ∃ x ∈ l, x.1 = r.1) /\ ∀ L' t, val (addR l L s) L' t = if L = L' then (val l L t).or (lk [s] t) else val l L' t
 | [], _ => ⟨⟨List.pairwise_singleton _ _, fun r hr => by obtain rfl := List.mem_singleton.1 hr; exact List.pairwise_singleton _ _, fun r hr => by obtain rfl := List.mem_singleton.1 hr; simp⟩,
   fun r hr => by obtain rfl := List.mem_singleton.1 hr; exact .inl rfl, fun L' t => by
    show val [(L, [s])] L' t = _
    rw [val_cons, val_nil, val_nil, Option.none_or]⟩
 | r :: l, h => by
  obtain ⟨h1, h2⟩ := List.pairwise_cons.1 h.rls
  have hl : Tb l := ⟨h2, fun x hx => h.ris x (List.mem_cons_of_mem _ hx), fun x hx => h.ne x (List.mem_cons_of_mem _ hx)⟩
  have hr := h.ris r (List.mem_cons_self ..)
  have hn := h.ne r (List.mem_cons_self ..)
  by_cases e : cmpL L r.1 = 0
  ·have e2 := cmpL_zero.1 e
   subst e2
   have hne : ∀ x ∈ l, r.1 ≠ x.1 := fun x hx he => by have := h1 x hx; rw [he, cmpL_self] at this; omega
   have ea : addR (r :: l) r.1 s = (r.1, putS r.2 s) :: l := by
    show (if cmpL r.1 r.1 = 0 then _ else _ : List Row) = _
    rw [if_pos e, addG_true hne]
   rw [ea]
   refine ⟨⟨List.pairwise_cons.2 ⟨h1, h2⟩, fun x hx => ?_, fun x hx => ?_⟩, fun x hx => ?_, fun L' t => ?_⟩
   ·rcases List.mem_cons.1 hx with rfl | hx
    ·exact hr.put s
    ·exact hl.ris x hx
   ·rcases List.mem_cons.1 hx with rfl | hx
    ·exact putS_ne _ _
    ·exact hl.ne x hx
   ·rcases List.mem_cons.1 hx with rfl | hx
    ·exact .inl rfl
    ·exact .inr ⟨x, List.mem_cons_of_mem _ hx, rfl⟩
   ·rw [val_cons, val_cons, val_cons]
    by_cases e3 : r.1 = L'
    ·rw [if_pos e3, if_pos e3, if_pos rfl, lk_put hr]
    ·rw [if_neg e3, if_neg e3, if_neg e3]
  ·by_cases e2 : cmpL L r.1 < 0
   ·have hlt : ∀ x ∈ r :: l, cmpL L x.1 < 0 := fun x hx => by
     rcases List.mem_cons.1 hx with rfl | hx
     ·exact e2
     ·exact cmpL_lt_trans e2 (h1 x hx)
    have hne : ∀ x ∈ r :: l, L ≠ x.1 := fun x hx he => by have := hlt x hx; rw [he, cmpL_self] at this; omega
    have ea : addR (r :: l) L s = (L, [s]) :: r :: l := by
     show (if cmpL L r.1 = 0 then _ else if cmpL L r.1 < 0 then _ else _ : List Row) = _
     rw [if_neg e, if_pos e2, addG_true fun x hx => hne x (List.mem_cons_of_mem _ hx)]
    rw [ea]
    refine ⟨⟨List.pairwise_cons.2 ⟨hlt, h.rls⟩, fun x hx => ?_, fun x hx => ?_⟩, fun x hx => ?_, fun L' t => ?_⟩
    ·rcases List.mem_cons.1 hx with rfl | hx
     ·exact List.pairwise_singleton _ _
     ·exact h.ris x hx
    ·rcases List.mem_cons.1 hx with rfl | hx
     ·simp
     ·exact h.ne x hx
    ·rcases List.mem_cons.1 hx with rfl | hx
     ·exact .inl rfl
     ·exact .inr ⟨x, hx, rfl⟩
    ·rw [val_cons]
     show (if L = L' then _ else _) = _
     by_cases e3 : L = L'
     ·rw [if_pos e3, if_pos e3, val_none (fun x hx he => hne x hx he.symm), Option.none_or]
     ·rw [if_neg e3, if_neg e3]
   ·have ea : addR (r :: l) L s = r :: addR l L s := by
     show (if cmpL L r.1 = 0 then _ else if cmpL L r.1 < 0 then _ else _ : List Row) = _
     rw [if_neg e, if_neg e2]; rfl
    obtain ⟨i1, i2, i3⟩ := addR_spec (L := L) (s := s) hl
    have hgt : cmpL r.1 L < 0 := by have := cmpL_neg r.1 L; omega
    rw [ea]
    refine ⟨⟨List.pairwise_cons.2 ⟨fun x hx => ?_, i1.rls⟩, fun x hx => ?_, fun x hx => ?_⟩, fun x hx => ?_, fun L' t => ?_⟩
    ·rcases i2 x hx with he | ⟨y, hy, he⟩
     ·rw [he]; exact hgt
     ·rw [<- he]; exact h1 y hy
    ·rcases List.mem_cons.1 hx with rfl | hx
     ·exact hr
     ·exact i1.ris x hx
    ·rcases List.mem_cons.1 hx with rfl | hx
     ·exact hn
     ·exact i1.ne x hx
    ·rcases List.mem_cons.1 hx with rfl | hx
     ·exact .inr ⟨x, List.mem_cons_self .., rfl⟩
     ·rcases i2 x hx with he | ⟨y, hy, he⟩
      ·exact .inl he
      ·exact .inr ⟨y, List.mem_cons_of_mem _ hy, he⟩
    ·have hrL : r.1 ≠ L := fun he => e (cmpL_zero.2 he.symm)
     rw [val_cons, i3, val_cons, val_cons, if_neg hrL]
     by_cases e3 : r.1 = L'
     ·rw [if_pos e3, if_pos e3, if_neg (fun e4 => hrL (e3.trans e4.symm))]
     ·rw [if_neg e3, if_neg e3]

abbrev Pt := List Pr × Sm
def addAll (l : List Row) (xs : List Pt) : List Row := xs.foldl (fun l x => addR l x.1 x.2) l
def ptv (xs : List Pt) (L : List Pr) (t : Int) : Option Sm := xs.findSome? (fun x => if x.1 = L then lk [x.2] t else none)
theorem ptv_nil (L : List Pr) (t : Int) : ptv [] L t = none := rfl
theorem ptv_cons (x : Pt) (xs : List Pt) (L : List Pr) (t : Int) : ptv (x :: xs) L t = (if x.1 = L then lk [x.2] t else none).or (ptv xs L t) := by
 unfold ptv
 rw [List.findSome?_cons]
 split <;> simp_all
theorem addAll_spec : ∀ {l : List Row} (xs : List Pt), Tb l -> Tb (addAll l xs) /\ ∀ L t, val (addAll l xs) L t = (val l L t).or (ptv xs L t) := by
 intro l xs
 induction xs generalizing l with
 | nil => exact fun h => ⟨h, fun L t => by rw [ptv_nil, Option.or_none]; rfl⟩
 | cons x xs ih =>
  intro h
  obtain ⟨h1, h2, h3⟩ := addR_spec (L := x.1) (s := x.2) h
  obtain ⟨i1, i2⟩ := ih h1
  refine ⟨i1, fun L t => ?_⟩
  show val (addAll (addR l x.1 x.2) xs) L t = _
  rw [i2, h3, ptv_cons]
  by_cases e : x.1 = L
  ·rw [if_pos e, if_pos e, Option.or_assoc, e]
  ·rw [if_neg e, if_neg e, Option.none_or]
theorem addAll_append (l : List Row) (xs ys : List Pt) : addAll l (xs ++ ys) = addAll (addAll l xs) ys := List.foldl_append
theorem addAll_len (xs : List Pt) : ∀ l, (addAll l xs).length <= l.length + xs.length := by
 induction xs with
 | nil => exact fun l => Nat.le_refl _
 | cons x xs ih =>
  intro l
  have h1 := ih (addR l x.1 x.2)
  have h2 := addG_len x.1 x.2 false l
  show (addAll (addR l x.1 x.2) xs).length <= _
  unfold addR at h1 ⊢
  rw [List.length_cons]
  omega



end Go.Bar.Mrg

namespace Go.Bar.Mrg
open Go.RowKit Go.Bar Go.Bar.Xor Go.Bar.Lab

def cntR (R : List Row) : Nat := (R.map (fun r => r.2.length)).sum
theorem cntR_snoc (R : List Row) (r : Row) : cntR (R ++ [r]) = cntR R + r.2.length := by unfold cntR; rw [List.map_append, List.sum_append]; simp
theorem cntR_take (R : List Row) (k : Nat) : cntR (R.take k) ≤ cntR R := by
  conv => rhs; rw [← List.take_append_drop k R]
  unfold cntR
  rw [List.map_append, List.sum_append]
  omega
def GoodP (R : List Row) : Prop := Rls R ∧ ∀ r ∈ R, Ris r.2
open Classical in
noncomputable def goodB (R : List Row) : Bool := decide (GoodP R)
theorem goodB_true {R : List Row} (h : GoodP R) : goodB R = true := by unfold goodB; simp [h]
theorem goodB_false {R : List Row} (h : ¬ GoodP R) : goodB R = false := by unfold goodB; simp [h]
theorem Tb.good {R : List Row} (h : Tb R) : GoodP R := ⟨h.rls, h.ris⟩
section
variable {α : Type} {lt : α → α → Prop} {l : List α} {k : Nat} {x y : α}
theorem pw_step (htr : ∀ a b c, lt a b → lt b c → lt a c) (h : (l.take (k + 1)).Pairwise lt) (hx : l[k]? = some x) (hy : l[k + 1]? = some y) (hxy : lt x y) : (l.take (k + 2)).Pairwise lt := by
  rw [List.take_add_one, hy]
  refine List.pairwise_append.2 ⟨h, List.pairwise_singleton _ _, fun a ha b hb => ?_⟩
  obtain rfl := List.mem_singleton.1 hb
  rw [List.take_add_one, hx] at h ha
  rcases List.mem_append.1 ha with h1 | h1
  · exact htr a x b ((List.pairwise_append.1 h).2.2 a h1 x (by simp)) hxy
  · obtain rfl : a = x := by simpa using h1
    exact hxy
theorem pw_at (h : l.Pairwise lt) (hx : l[k]? = some x) (hy : l[k + 1]? = some y) : lt x y := by
  obtain ⟨h1, rfl⟩ := List.getElem?_eq_some_iff.1 hx
  obtain ⟨h2, rfl⟩ := List.getElem?_eq_some_iff.1 hy
  exact (List.pairwise_iff_getElem.1 h) k (k + 1) h1 h2 (Nat.lt_succ_self _)
end
theorem good_zero : GoodP ([] : List Row) := ⟨List.Pairwise.nil, fun _ h => (by cases h)⟩
theorem good_first {R : List Row} {r : Row} (h0 : R[0]? = some r) (hr : Ris r.2) : GoodP (R.take (0 + 1)) := by
  rw [List.take_add_one, h0]
  exact ⟨List.pairwise_singleton _ _, fun x hx => by obtain rfl : x = r := by simpa using hx
                                                     exact hr⟩
theorem good_step {R : List Row} {k : Nat} {p r : Row} (h : GoodP (R.take (k + 1))) (hp : R[k]? = some p) (hr : R[k + 1]? = some r) (hlt : cmpL p.1 r.1 < 0) (hi : Ris r.2) : GoodP (R.take (k + 1 + 1)) := by
  refine ⟨pw_step (fun a b c => cmpL_lt_trans) h.1 hp hr hlt, fun x hx => ?_⟩
  rw [List.take_add_one, hr] at hx
  rcases List.mem_append.1 hx with h1 | h1
  · exact h.2 x h1
  · obtain rfl : x = r := by simpa using h1
    exact hi
theorem ris_step {l : List Sm} {k : Nat} {x y : Sm} (h : Ris (l.take (k + 1))) (hx : l[k]? = some x) (hy : l[k + 1]? = some y) (hxy : x.1 < y.1) : Ris (l.take (k + 2)) :=
  pw_step (fun _ _ _ => Int.lt_trans) h hx hy hxy
theorem ris_one (l : List Sm) : Ris (l.take (0 + 1)) := by
  rcases l with _ | ⟨x, l⟩
  · exact List.Pairwise.nil
  · exact List.pairwise_singleton _ _
theorem bad_labels {R : List Row} {k : Nat} {p r : Row} (hp : R[k]? = some p) (hr : R[k + 1]? = some r) (hlt : ¬ cmpL p.1 r.1 < 0) : ¬ GoodP R := fun h => hlt (pw_at (lt := fun a b : Row => cmpL a.1 b.1 < 0) h.1 hp hr)
theorem bad_times {R : List Row} {k j : Nat} {r : Row} {x y : Sm} (hr : R[k]? = some r) (hx : r.2[j]? = some x) (hy : r.2[j + 1]? = some y) (hlt : ¬ x.1 < y.1) : ¬ GoodP R := fun h => hlt (pw_at (lt := fun a b : Sm => a.1 < b.1) (h.2 r (List.mem_of_getElem? hr)) hx hy)
end Go.Bar.Mrg

namespace Go.Bar.Bok
open Go.RowKit Go.Bar Go.Bar.Leb Go.Bar.Frm Go.Bar.Lab Go.Bar.Xor Go.Bar.Mrg Go.Bar.Met

def first (L : List Sm) : Int := (L.headD (0, 0)).1
def last (L : List Sm) : Int := (L.getLastD (0, 0)).1
structure RowOk (a b : Int) (r : Row) : Prop where
 ne : r.2 ≠ []
 lab : Lab.Ok r.1
 fr : a <= first r.2
 to : last r.2 < b
 tm : ∀ x ∈ r.2, 0 <= x.1 /\ x.1 <= 1099511627776
def rEn (r : Row) (at_ : Nat) : En := ⟨r.1, at_, (chB r.2).length, first r.2, last r.2⟩
def bEn : List Row -> Nat -> List En
 | [], _ => []
 | r :: R, a => rEn r a :: bEn R (a + (chB r.2).length)
def bCh (R : List Row) : List UInt8 := R.flatMap fun r => chB r.2
def bMt (id : List UInt8) (a b lv : Int) (ss : List (List UInt8)) (R : List Row) : Mt :=
 ⟨id, a, b, lv, R.length, cntR R, [⟨chunksN, (bCh R).length, Frm.sum (bCh R)⟩, ⟨indexN, (idxB (bEn R 0)).length, Frm.sum (idxB (bEn R 0))⟩], ss⟩
structure BdOk (id : List UInt8) (a b lv : Int) (ss : List (List UInt8)) (R : List Row) : Prop where
 good : GoodP R
 rows : ∀ r ∈ R, RowOk a b r
 meta_ : Met.Ok (bMt id a b lv ss R)
theorem bEn_append : ∀ (A B : List Row) (a : Nat), bEn (A ++ B) a = bEn A a ++ bEn B (a + (bCh A).length)
 | [], B, a => by simp [bEn, bCh]
 | r :: A, B, a => by
  rw [List.cons_append, bEn, bEn, bEn_append A B, List.cons_append]
  unfold bCh
  rw [List.flatMap_cons, List.length_append, Nat.add_assoc]
theorem bEn_len : ∀ (R : List Row) (a : Nat), (bEn R a).length = R.length
 | [], _ => rfl
 | r :: R, a => by rw [bEn, List.length_cons, List.length_cons, bEn_len R]
theorem bCh_append (A B : List Row) : bCh (A ++ B) = bCh A ++ bCh B := List.flatMap_append
theorem bEn_snoc (A : List Row) (r : Row) : bEn (A ++ [r]) 0 = bEn A 0 ++ [rEn r (bCh A).length] := by
 rw [bEn_append, Nat.zero_add]; rfl
theorem bCh_snoc (A : List Row) (r : Row) : bCh (A ++ [r]) = bCh A ++ chB r.2 := by
 rw [bCh_append]; unfold bCh; simp
theorem bEn_at : ∀ {R : List Row} {i : Nat} {r : Row} (a : Nat), R[i]? = some r -> (bEn R a)[i]? = some (rEn r (a + (bCh (R.take i)).length))
 | [], i, r, a, h => by simp at h
 | x :: R, 0, r, a, h => by
  injection h with h
  subst h
  simp [bEn, bCh]
 | x :: R, i + 1, r, a, h => by
  rw [bEn, List.getElem?_cons_succ, bEn_at (a + (chB x.2).length) (by simpa using h), List.take_succ_cons]
  unfold bCh
  rw [List.flatMap_cons, List.length_append, Nat.add_assoc]
theorem bEn_rls : ∀ (R : List Row) (a : Nat), Rls R -> (bEn R a).Pairwise (fun x y => cmpL x.ls y.ls < 0)
 | [], _, _ => List.Pairwise.nil
 | r :: R, a, h => by
  obtain ⟨h1, h2⟩ := List.pairwise_cons.1 h
  rw [bEn]
  refine List.pairwise_cons.2 ⟨fun y hy => ?_, bEn_rls R _ h2⟩
  obtain ⟨i, hi⟩ := List.mem_iff_getElem?.1 hy
  have hlt := (List.getElem?_eq_some_iff.1 hi).1
  rw [bEn_len] at hlt
  have hr : R[i]? = some R[i] := List.getElem?_eq_getElem hlt
  rw [bEn_at _ hr] at hi
  injection hi with hi
  rw [<- hi]
  exact h1 _ (List.getElem_mem hlt)
theorem bCh_take {R : List Row} {i : Nat} {r : Row} (h : R[i]? = some r) : ∃ t, bCh R = bCh (R.take i) ++ (chB r.2 ++ t) := by
 obtain ⟨hlt, rfl⟩ := List.getElem?_eq_some_iff.1 h
 refine ⟨bCh (R.drop (i + 1)), ?_⟩
 conv => lhs; rw [<- List.take_append_drop i R, bCh_append, List.drop_eq_getElem_cons hlt]
 rfl
theorem first_mem {L : List Sm} (h : L ≠ []) : ∃ x ∈ L, first L = x.1 := by
 cases L with
 | nil => exact absurd rfl h
 | cons x r => exact ⟨x, List.mem_cons_self .., rfl⟩
theorem last_mem {L : List Sm} (h : L ≠ []) : ∃ x ∈ L, last L = x.1 := by
 unfold last
 cases L with
 | nil => exact absurd rfl h
 | cons x r =>
  refine ⟨(x :: r).getLastD (0, 0), ?_, rfl⟩
  rw [List.getLastD_cons]
  cases r with
  | nil => simp
  | cons y s =>
   rw [List.getLastD_eq_getLast?, List.getLast?_eq_some_getLast (by simp)]
   exact List.mem_cons_of_mem _ (List.getLast_mem _)
theorem first_le_last {L : List Sm} (h : Ris L) : first L <= last L := by
 cases L with
 | nil => exact Int.le_refl _
 | cons x r =>
  obtain ⟨y, hy, he⟩ := last_mem (L := x :: r) (by simp)
  rw [he]
  show x.1 <= y.1
  rcases List.mem_cons.1 hy with rfl | hy
  ·exact Int.le_refl _
  ·exact Int.le_of_lt ((List.pairwise_cons.1 h).1 y hy)
theorem ckR_ne {L : List Sm} (h : L ≠ []) : 1 <= (chB L).length := by
 unfold chB ckR
 have : 0 < nP L := by unfold nP; have := List.length_pos_iff.2 h; omega
 obtain ⟨m, hm⟩ : ∃ m, nP L = m + 1 := ⟨nP L - 1, by omega⟩
 rw [hm, List.range_succ_eq_map, List.map_cons, laid_cons, List.length_append, rec_len]
 omega
theorem rEn_ok {a b : Int} {r : Row} {at_ : Nat} (h : RowOk a b r) (hr : Ris r.2) (h1 : at_ <= 1048576) (h2 : (chB r.2).length <= 1048576) : EnOk (rEn r at_) := by
 obtain ⟨x, hx, e1⟩ := first_mem h.ne
 obtain ⟨y, hy, e2⟩ := last_mem h.ne
 have h3 := ckR_ne h.ne
 have h4 := first_le_last hr
 have t1 := h.tm x hx
 have t2 := h.tm y hy
 exact ⟨h.lab, ⟨by show (0 : Int) <= (at_ : Nat); omega, by show ((at_ : Nat) : Int) <= _; omega⟩, ⟨by show (1 : Int) <= ((chB r.2).length : Nat); omega, by show (((chB r.2).length : Nat) : Int) <= _; omega⟩, by show 0 <= first r.2; omega, h4, by show last r.2 <= _; omega⟩
theorem bEn_ok {a b : Int} {R : List Row} (h : ∀ r ∈ R, RowOk a b r) (hg : GoodP R) (hl : (bCh R).length <= 1048576) : ∀ x ∈ bEn R 0, EnOk x := by
 intro x hx
 obtain ⟨i, hi⟩ := List.mem_iff_getElem?.1 hx
 have hlt := (List.getElem?_eq_some_iff.1 hi).1
 rw [bEn_len] at hlt
 have hr : R[i]? = some R[i] := List.getElem?_eq_getElem hlt
 rw [bEn_at _ hr] at hi
 injection hi with hi
 obtain ⟨t, ht⟩ := bCh_take hr
 rw [ht, List.length_append, List.length_append] at hl
 rw [<- hi]
 have hm := List.getElem_mem hlt
 exact rEn_ok (h _ hm) (hg.2 _ hm) (by omega) (by omega)

def holdsB (f : Fl) (s : List UInt8) : Bool := f.size == s.length && f.sum == Frm.sum s
def tRows (mn mx : Int) (C : List UInt8) : List En -> Nat -> List Row -> List Row × Nat × Nat
 | [], a, out => (out, a, 0)
 | x :: l, a, out =>
  if x.fr ≠ a \/ (C.length : Int) - a < x.n then ([], 0, 3)
  else if (smpsR ((C.drop a).take x.n.toNat)).2 ≠ 0 then ([], 0, (smpsR ((C.drop a).take x.n.toNat)).2)
  else if (smpsR ((C.drop a).take x.n.toNat)).1 = [] \/ first (smpsR ((C.drop a).take x.n.toNat)).1 ≠ x.mn \/ last (smpsR ((C.drop a).take x.n.toNat)).1 ≠ x.mx \/ x.mn < mn \/ mx <= x.mx then ([], 0, 3)
  else tRows mn mx C l (a + x.n.toNat) (out ++ [(x.ls, (smpsR ((C.drop a).take x.n.toNat)).1)])
def tableR (m : Mt) (C I : List UInt8) : List Row × Nat :=
 if (holdsB (m.fs.getD 0 ⟨[], 0, 0⟩) C && holdsB (m.fs.getD 1 ⟨[], 0, 0⟩) I) = false then ([], 4)
 else if (entriesR I).2 ≠ 0 then ([], (entriesR I).2)
 else if (tRows m.mn m.mx C (entriesR I).1 0 []).2.2 ≠ 0 then ([], (tRows m.mn m.mx C (entriesR I).1 0 []).2.2)
 else if ((tRows m.mn m.mx C (entriesR I).1 0 []).2.1 : Int) ≠ C.length \/ ((tRows m.mn m.mx C (entriesR I).1 0 []).1.length : Int) ≠ m.sr \/ (cntR (tRows m.mn m.mx C (entriesR I).1 0 []).1 : Int) ≠ m.sm then ([], 3)
 else ((tRows m.mn m.mx C (entriesR I).1 0 []).1, 0)
theorem row_sm {a b : Int} {R : List Row} {r : Row} (h : ∀ r ∈ R, RowOk a b r) (hg : GoodP R) (hv : ∀ r ∈ R, ∀ x ∈ r.2, x.2 < 18446744073709551616) (hr : r ∈ R) : SmOk r.2 := ⟨hg.2 r hr, (h r hr).tm, hv r hr⟩
theorem tRows_of {a b : Int} {R : List Row} (h : ∀ r ∈ R, RowOk a b r) (hg : GoodP R) (hv : ∀ r ∈ R, ∀ x ∈ r.2, x.2 < 18446744073709551616) : ∀ (B A : List Row), A ++ B = R -> tRows a b (bCh R) (bEn B (bCh A).length) (bCh A).length A = (R, (bCh R).length, 0)
 | [], A, e => by
  rw [List.append_nil] at e
  rw [e]; rfl
 | r :: B, A, e => by
  have hm : r ∈ R := by rw [<- e]; exact List.mem_append_right _ (List.mem_cons_self ..)
  have hs := smpsR_of (row_sm h hg hv hm)
  have hC : bCh R = bCh A ++ (chB r.2 ++ bCh B) := by rw [<- e, bCh_append]; rfl
  have hd : ((bCh R).drop (bCh A).length).take (rEn r (bCh A).length).n.toNat = chB r.2 := by
   rw [hC, List.drop_left]
   show (chB r.2 ++ bCh B).take (((chB r.2).length : Nat) : Int).toNat = _
   rw [Int.toNat_natCast, List.take_left]
  rw [bEn, tRows, hd, hs]
  simp only
  rw [if_neg (by
   rintro (h1 | h1)
   ·exact h1 rfl
   ·rw [hC, List.length_append, List.length_append] at h1
    have h1 : ((((bCh A).length + ((chB r.2).length + (bCh B).length) : Nat) : Int)) - ((bCh A).length : Nat) < (((chB r.2).length : Nat) : Int) := h1
    omega), if_neg (by omega), if_neg (by
   have hro := h r hm
   rintro (h1 | h1 | h1 | h1 | h1)
   ·exact hro.ne h1
   ·exact h1 rfl
   ·exact h1 rfl
   ·have h2 := hro.fr
    have h1 : first r.2 < a := h1
    omega
   ·have h2 := hro.to
    have h1 : b <= last r.2 := h1
    omega)]
  have e2 : (bCh A).length + (rEn r (bCh A).length).n.toNat = (bCh (A ++ [r])).length := by
   rw [bCh_snoc, List.length_append]
   show _ + ((((chB r.2).length : Nat) : Int)).toNat = _
   rw [Int.toNat_natCast]
  have e3 : (bCh A).length + (chB r.2).length = (bCh (A ++ [r])).length := by rw [bCh_snoc, List.length_append]
  rw [e2, e3]
  exact tRows_of h hg hv B (A ++ [r]) (by rw [List.append_assoc]; exact e)
theorem tableR_of {id : List UInt8} {a b lv : Int} {ss : List (List UInt8)} {R : List Row} (h : BdOk id a b lv ss R) (hv : ∀ r ∈ R, ∀ x ∈ r.2, x.2 < 18446744073709551616) (hn : R.length <= 10000) (hd : (idxD (bEn R 0)).length <= 1048576) (hl : (bCh R).length <= 1048576) :
  tableR (bMt id a b lv ss R) (bCh R) (idxB (bEn R 0)) = (R, 0) := by
 have he := entriesR_of (bEn_ok h.rows h.good hl) (bEn_rls R 0 h.good.1) (by rw [bEn_len]; exact hn) hd
 have ht := tRows_of h.rows h.good hv R [] rfl
 have ht : tRows a b (bCh R) (bEn R 0) 0 [] = (R, (bCh R).length, 0) := ht
 unfold tableR
 rw [if_neg (by simp [bMt, holdsB]), he]
 simp only
 rw [if_neg (by omega)]
 show (if (tRows a b (bCh R) (bEn R 0) 0 []).2.2 ≠ 0 then _ else _) = _
 simp [bMt, ht]
theorem enB_len {x : En} (h : EnOk x) : (enB x).length <= 800 := by
 obtain ⟨h1, _, _, _, _, _⟩ := h
 have u1 := u_len (w64 x.fr) (w64_lt _)
 have u2 := u_len (w64 x.n) (w64_lt _)
 have u3 := u_len (w64 x.mn) (w64_lt _)
 have u4 := u_len (w64 x.mx) (w64_lt _)
 have u5 := u_len x.ls.length (by have := h1.2.1; omega)
 have hh : ∀ l : List Pr, (∀ p ∈ l, p.1.length <= 40 /\ p.2.length <= 40) -> (l.flatMap fun p => tx p.1 ++ tx p.2).length <= 90 * l.length := by
  intro l hl
  induction l with
  | nil => exact Nat.le_refl _
  | cons p r ih =>
   have ih := ih (fun q hq => hl q (List.mem_cons_of_mem _ hq))
   have hp := hl p (List.mem_cons_self ..)
   have v1 := u_len_le 0 p.1.length (by omega)
   have v2 := u_len_le 0 p.2.length (by omega)
   have e : (tx p.1 ++ tx p.2).length <= 90 := by
    unfold tx
    rw [List.length_append, List.length_append, List.length_append]
    omega
   rw [List.flatMap_cons, List.length_append, List.length_cons]
   omega
 have hk := hh x.ls (fun p hp => ⟨(okP_len (h1.2.2.1 p hp)).1, (okP_len (h1.2.2.1 p hp)).2.1⟩)
 have h8 := h1.2.1
 unfold enB enT key
 rw [List.length_append, List.length_append, List.length_append, List.length_append, List.length_append]
 omega
end Go.Bar.Bok

set_option maxHeartbeats 32000000
set_option maxRecDepth 10000
namespace Go.Proofs.YtgabmfibfikdbaaGreatDoor
open Go.RowKit Go.Bar Go.Bar.Leb

theorem takeUint_any (s : ByteArray) (w : World) (hs : s.size <= maxLen) :
  Calls Tryz.prog 75 #[.string s] w (Quiet w (.tuple #[.int .u64 (takeU s.data.toList).1, .string (bs (takeU s.data.toList).2.1), .int .i64 (takeU s.data.toList).2.2])) := by
 unfold maxLen at hs
 go_enter Tryz.func75, Tryz.ntmps75
 go_wp2
 go_loopw [5, 10] (fun v i wr => ∃ k acc : Nat, k <= s.size /\ k <= 9 /\ acc < 128 ^ k /\ v = .int .u64 acc /\ i = .int .i64 k /\ wr = w /\ tk k acc (s.data.toList.drop k) = takeU s.data.toList)
  (fun _ i _ => s.size - (intOf i).toNat)
 case atStart => exact ⟨0, 0, Nat.zero_le _, by omega, by simp, rfl, rfl, rfl, rfl⟩
 case round =>
  obtain ⟨k, acc, hk, hk9, hacc, rfl, rfl, rfl, htk⟩ := hrel
  have HT := Lib.hid htk
  clear htk
  by_cases hlt : k < s.size
  ·rw [drop_cons s k hlt] at HT
   go_wp2
   case roundEnd =>
    have h9 : ¬ (k : Int) = 9 := by assumption
    have h1 : (128 : Int) <= s[k].toNat := by assumption
    refine ⟨⟨k + 1, _, by omega, by omega, acc_lt acc k _ hacc, by rw [acc_step acc k _ hacc hk9 (UInt8.toNat_lt _) (by omega) _ (by simp)], by go_num, trivial, ?_⟩, by simp [intOf]; omega⟩
    rw [<- HT.out, tk_more (by omega) (by omega)]
   all_goals (try (go_quiet (fail); go_wp2))
   all_goals go_ret3
   all_goals first
    | exact Quiet.of (takeU_bad hlt HT (by omega)) ⟨0, rfl⟩
    | exact Quiet.of (takeU_last hlt hk9 hacc HT (by omega) (by omega) (by omega) _ _ _ (by omega) (by first | (simp; done) | (rw [show k = 9 by omega]; rfl)) (by omega)) ⟨_, rfl⟩
  ·go_wp2
   go_ret3
   have e : s.data.toList.drop k = [] := List.drop_eq_nil_of_le (by rw [<- size_eq]; omega)
   rw [<- HT.out, e]
   exact Quiet.same

theorem takeUint_of {v e : Nat} {r : List UInt8} (s : ByteArray) (h : takeU s.data.toList = (v, r, e)) (w : World) (hs : s.size <= maxLen) :
  Calls Tryz.prog 75 #[.string s] w (Quiet w (.tuple #[.int .u64 v, .string (bs r), .int .i64 e])) := by
 have := takeUint_any s w hs
 rw [h] at this
 exact this

theorem bytes_ty : ByteTy Tryz.prog 96 5 :=
 ⟨Tryz.underlying96, Tryz.underlying5, info_parts (show (Tryz.prog.info? 5).map (fun i => (i.zero, i.size, i.bytes)) = some (some (.int .u8 0), 1, 1) by kernel_rfl)⟩

theorem uint_any (V : Value) (xs : List UInt8) (n : Nat) (W : World) (hn : n < 18446744073709551616) (hx : xs.length + 10 <= 140737488355328) (hb : BBuf W 5 V xs) :
  Calls Tryz.prog 48 #[V, .int .u64 n] W (RetB W V 5 xs (u n)) := by
 have hul := u_len n hn
 go_enter Tryz.func48, Tryz.ntmps48
 go_wp2
 go_loopw [0, 1] (fun b m wr => ∃ (k : Nat) (ys : List UInt8), k < 18446744073709551616 /\ m = .int .u64 k /\ BApp W V 5 xs wr b ys /\ ys ++ u k = u n) (fun _ m _ => (intOf m).toNat)
 case atStart => exact ⟨n, [], hn, rfl, BApp.start' hb, rfl⟩
 case round =>
  obtain ⟨k, ys, hk, rfl, happ, hys⟩ := hrel
  have HY := Lib.hid hys
  have hyl : ys.length + (u k).length <= 10 := by rw [<- List.length_append, hys]; exact hul
  have hup := u_pos k
  clear hys
  by_cases hlt : 127 < k
  ·go_wp2_with (at_builtin; refine wpList_append_byte rfl (.tmp 9) (.tmp 13) 96 rfl bytes_ty _ (byte_hi k) rfl happ rfl (by omega) ?_; intro v' w' happ'; clear happ)
   go_roundw
   case rel => exact ⟨k / 128, _, by omega, by go_num, happ', by rw [<- HY.out, u_ge (n := k) (by omega), List.append_assoc]; rfl⟩
   case measure => simp [intOf]; omega
  ·go_wp2_with (at_builtin; refine wpList_append_byte rfl (.tmp 15) (.tmp 18) 96 rfl bytes_ty _ (byte_lo k (by omega)) rfl happ rfl (by omega) ?_; intro v' w' happ'; clear happ)
   go_ret
   exact ⟨v', rfl, by rw [<- HY.out, u_lt (by omega)]; exact happ'⟩

theorem text_any (V : Value) (xs : List UInt8) (s : ByteArray) (W : World) (hs : s.size <= maxLen) (hx : xs.length + 10 + s.size <= 140737488355328) (hb : BBuf W 5 V xs) :
  Calls Tryz.prog 91 #[V, .string s] W (RetB W V 5 xs (u s.size ++ s.data.toList)) := by
 unfold maxLen at hs
 have hul := u_len s.size (by omega)
 go_enter Tryz.func91, Tryz.ntmps91
 go_wp2_with fail
 refine (uint_any V xs s.size _ (by omega) (by omega) hb).mono ?_
 rintro e w' ⟨v', rfl, happ⟩
 go_wp2_with (at_builtin; refine wpList_append_str rfl (.tmp 9) (.tmp 10) 96 9 rfl bytes_ty Tryz.underlying9 s rfl happ rfl (by omega) ?_; intro v2 w2 happ2)
 go_ret
 exact ⟨v2, rfl, happ2⟩

theorem takeMost_any (s : ByteArray) (most : Int) (w : World) (hs : s.size <= maxLen) (h1 : -9223372036854775808 <= most) (h2 : most <= 9223372036854775807) :
  Calls Tryz.prog 36 #[.string s, .int .i64 most] w (Quiet w (.tuple #[.int .i64 (takeMost s.data.toList most).1, .string (bs (takeMost s.data.toList most).2.1), .int .i64 (takeMost s.data.toList most).2.2])) := by
 have hp := takeU_prop s.data.toList
 unfold takeMost
 obtain ⟨v, r, er, ht⟩ : ∃ v r er, takeU s.data.toList = (v, r, er) := ⟨_, _, _, rfl⟩
 have HT := Lib.hid ht
 rw [ht] at hp ⊢
 clear ht
 obtain ⟨hv, _, he⟩ := hp
 simp only [] at hv he ⊢
 rcases he with rfl | ⟨he, rfl, rfl⟩
 ·by_cases hm : (max most 0).toNat < v
  ·rw [if_pos ⟨rfl, hm⟩]
   go_enter Tryz.func36, Tryz.ntmps36
   go_wp2_with fail
   refine (takeUint_of s HT.out _ hs).mono ?_
   rintro e w' ⟨rfl, n, rfl⟩
   go_wp2_with fail
   all_goals go_ret3
   all_goals exact ⟨rfl, _, rfl⟩
  ·rw [if_neg (fun h => hm h.2)]
   have hv2 : v <= 9223372036854775807 := by omega
   go_enter Tryz.func36, Tryz.ntmps36
   go_wp2_with fail
   refine (takeUint_of s HT.out _ hs).mono ?_
   rintro e w' ⟨rfl, n, rfl⟩
   go_wp2_with fail
   all_goals go_ret3
   all_goals exact ⟨rfl, _, rfl⟩
 ·rw [if_neg (fun h => by omega)]
  have hb : ((er : Int) == 0) = false := by rw [beq_eq_false_iff_ne]; omega
  clear he
  go_enter Tryz.func36, Tryz.ntmps36
  go_wp2_with fail
  refine (takeUint_of s HT.out _ hs).mono ?_
  rintro e w' ⟨rfl, n, rfl⟩
  go_wp2_with fail
  all_goals go_ret3
  all_goals exact ⟨rfl, _, rfl⟩

theorem takeMost_of {v e : Nat} {r : List UInt8} (s : ByteArray) (most : Int) (h : takeMost s.data.toList most = (v, r, e)) (w : World) (hs : s.size <= maxLen) (h1 : -9223372036854775808 <= most) (h2 : most <= 9223372036854775807) :
  Calls Tryz.prog 36 #[.string s, .int .i64 most] w (Quiet w (.tuple #[.int .i64 v, .string (bs r), .int .i64 e])) := by
 have := takeMost_any s most w hs h1 h2
 rw [h] at this
 exact this

theorem takeText_any (s : ByteArray) (most : Int) (w : World) (hs : s.size <= maxLen) (h1 : -9223372036854775808 <= most) (h2 : most <= 9223372036854775807) :
  Calls Tryz.prog 100 #[.string s, .int .i64 most] w (Quiet w (.tuple #[.string (bs (takeText s.data.toList most).1), .string (bs (takeText s.data.toList most).2.1), .int .i64 (takeText s.data.toList most).2.2])) := by
 have hp := takeMost_prop s.data.toList most h2
 have hs' : s.data.toList.length <= 9223372036854775807 := hs
 unfold takeText
 obtain ⟨v, r, er, ht⟩ : ∃ v r er, takeMost s.data.toList most = (v, r, er) := ⟨_, _, _, rfl⟩
 have HT := Lib.hid ht
 rw [ht] at hp ⊢
 clear ht
 obtain ⟨hv, hr, he⟩ := hp
 simp only [] at hv he hr ⊢
 have hrs : (bs r).size = r.length := rfl
 have hrl : r.length <= 9223372036854775807 := Nat.le_trans hr hs'
 clear hr hs'
 rcases he with rfl | ⟨he, rfl, rfl⟩
 ·rw [if_neg (by omega)]
  by_cases hm : r.length < v
  ·rw [if_pos hm]
   go_enter Tryz.func100, Tryz.ntmps100
   go_wp2_with fail
   refine (takeMost_of s most HT.out _ hs h1 h2).mono ?_
   rintro e w' ⟨rfl, n, rfl⟩
   go_wp2_with fail
   all_goals go_ret3
   all_goals exact ⟨rfl, _, rfl⟩
  ·rw [if_neg hm]
   have hle : v <= (bs r).size := by rw [bs_size]; omega
   go_enter Tryz.func100, Tryz.ntmps100
   go_wp2_with fail
   refine (takeMost_of s most HT.out _ hs h1 h2).mono ?_
   rintro e w' ⟨rfl, n, rfl⟩
   go_wp2_with fail
   go_quiet (fail)
   go_wp2_with fail
   all_goals go_ret3
   refine ⟨?_, n + nq, by rw [World.drewN_drewN]⟩
   have e1 : (bs r).extract 0 v = bs (r.take v) := bs_extract r 0 v
   have e2 : (bs r).extract v r.length = bs (r.drop v) := by rw [bs_extract, List.take_of_length_le (by rw [List.length_drop]; exact Nat.le_refl _)]
   rw [<- e1, <- e2]
   rfl
 ·rw [if_pos he]
  have hb : ((er : Int) == 0) = false := by rw [beq_eq_false_iff_ne]; omega
  have hb2 : ((er : Int) != 0) = true := by rw [bne_iff_ne]; omega
  clear he
  go_enter Tryz.func100, Tryz.ntmps100
  go_wp2_with fail
  refine (takeMost_of s most HT.out _ hs h1 h2).mono ?_
  rintro e w' ⟨rfl, n, rfl⟩
  go_wp2_with fail
  all_goals go_ret3
  all_goals exact ⟨rfl, _, rfl⟩

theorem takeText_of {e : Nat} {t r : List UInt8} (s : ByteArray) (most : Int) (h : takeText s.data.toList most = (t, r, e)) (w : World) (hs : s.size <= maxLen) (h1 : -9223372036854775808 <= most) (h2 : most <= 9223372036854775807) :
  Calls Tryz.prog 100 #[.string s, .int .i64 most] w (Quiet w (.tuple #[.string (bs t), .string (bs r), .int .i64 e])) := by
 have := takeText_any s most w hs h1 h2
 rw [h] at this
 exact this

theorem takeByte_none (s : ByteArray) (w : World) (h0 : s.data.toList = []) :
  Calls Tryz.prog 73 #[.string s] w (Quiet w (.tuple #[.int .u8 0, .string (bs []), .int .i64 2])) := by
 obtain rfl : s = bs [] := by rw [<- bs_eta s, h0]
 clear h0
 have he : (bs []).toList.isEmpty = true := bs_isEmpty []
 go_enter Tryz.func73, Tryz.ntmps73
 go_wp2_with fail
 all_goals go_ret3
 all_goals exact ⟨rfl, 0, rfl⟩

theorem takeByte_some (s : ByteArray) (w : World) (c : UInt8) (r : List UInt8) (hs : s.size <= maxLen) (h0 : s.data.toList = c :: r) :
  Calls Tryz.prog 73 #[.string s] w (Quiet w (.tuple #[.int .u8 c.toNat, .string (bs r), .int .i64 0])) := by
 obtain rfl : s = bs (c :: r) := by rw [<- bs_eta s, h0]
 unfold maxLen at hs
 clear h0
 have hsz : (bs (c :: r)).size = r.length + 1 := rfl
 have he : (bs (c :: r)).toList.isEmpty = false := bs_isEmpty _
 go_enter Tryz.func73, Tryz.ntmps73
 go_wp2_with fail
 go_quiet (fail)
 go_wp2_with fail
 go_ret3
 refine ⟨?_, _, rfl⟩
 have e2 : (bs (c :: r)).extract 1 (r.length + 1) = bs r := by
  rw [bs_extract]
  simp
 rw [<- e2]
 rfl

end Go.Proofs.YtgabmfibfikdbaaGreatDoor

set_option maxHeartbeats 32000000
set_option maxRecDepth 10000
namespace Go.Proofs.YtgabmfibfikdbaaGreatDoor
open Go.RowKit Go.Bar

theorem cut_any (s : ByteArray) (n : Int) (w : World) (h : 0 <= n) (h2 : n <= 100000) (hs : s.size <= maxLen) :
  Calls Tryz.prog 9 #[.string s, .int .i64 n] w fun e w' => e = .returned (.string (bs (s.data.toList.take n.toNat))) /\ w = w' := by
 unfold maxLen at hs
 have e1 : s.extract 0 n.toNat = bs (s.data.toList.take n.toNat) := bs_extract s.data.toList 0 n.toNat
 by_cases hn : n < s.size
 ·have HE := Lib.hid e1
  clear e1
  go_enter Tryz.func9, Tryz.ntmps9
  go_wp2
  go_ret
  rw [<- HE.out]
  exact ⟨rfl, rfl⟩
 ·have e2 : bs (s.data.toList.take n.toNat) = s := by rw [List.take_of_length_le (by rw [<- size_eq]; omega)]; rfl
  have HE := Lib.hid e2
  clear e1 e2
  go_enter Tryz.func9, Tryz.ntmps9
  go_wp2
  go_ret
  rw [HE.out]
  exact ⟨rfl, rfl⟩

end Go.Proofs.YtgabmfibfikdbaaGreatDoor

set_option maxHeartbeats 32000000
set_option maxRecDepth 10000
namespace Go.Proofs.YtgabmfibfikdbaaGreatDoor
open Go.RowKit Go.Bar Go.Bar.Leb

theorem refUint_any (n : Nat) (W : World) (hn : n < 18446744073709551616) :
  Calls Tryz.prog 51 #[.int .u64 n] W (RetBelow W (.string (bs (u n)))) := by
 have hul := u_len n hn
 go_enter Tryz.func51, Tryz.ntmps51
 go_wp2
 go_loopw [0, 3, 4] (fun v s i wr => ∃ (k c : Nat) (ys : List UInt8), c <= 9 /\ k * 128 ^ c < 18446744073709551616 /\ ys.length = c /\ v = .int .u64 k /\ s = .string (bs ys) /\ i = .int .i64 c /\ ys ++ u k = u n /\ Below W.heap.size W wr) (fun _ _ i _ => 9 - (intOf i).toNat)
 case atStart => exact ⟨n, 0, [], by omega, by simpa using hn, rfl, rfl, rfl, rfl, rfl, Below.refl _ _⟩
 case round =>
  obtain ⟨k, c, ys, hc, hk, hys, rfl, rfl, rfl, hu, hbl⟩ := hrel
  have HU := Lib.hid hu
  have HL := Lib.hid hys
  have hyl : ys.length <= 9 := by omega
  have hk64 : k < 18446744073709551616 := by have := Nat.le_mul_of_pos_right k (show 0 < 128 ^ c from Nat.pow_pos (by omega)); omega
  clear hu hys
  by_cases hlt : c < 9 /\ 127 < k
  ·obtain ⟨hlt1, hlt2⟩ := hlt
   have HK := Lib.hid hk
   clear hk
   obtain ⟨b, hb⟩ : ∃ b, b = UInt8.ofNat (k % 128 + 128) := ⟨_, rfl⟩
   have hbn : b.toNat = k % 128 + 128 := by rw [hb, UInt8.toNat_ofNat']; omega
   have hc1 := fun w => conv_one bytes_ty 9 Tryz.underlying9 w (128 + (k : Int) % 128) b (by omega)
   have HB := Lib.hid hb
   clear hb hbn
   go_wp2
   go_roundw
   case rel =>
    refine ⟨k / 128, c + 1, ys ++ [b], by omega, ?_, by rw [List.length_append, HL.out]; rfl, by go_num, rfl, by go_num, ?_, hbl.alloc hbl.size _⟩
    ·have := HK.out
     rw [Nat.pow_succ, Nat.mul_comm (128 ^ c) 128, <- Nat.mul_assoc]
     have := Nat.mul_le_mul_right (128 ^ c) (show k / 128 * 128 <= k by omega)
     omega
    ·rw [<- HU.out, u_ge (n := k) (by omega), List.append_assoc, HB.out]; rfl
   case measure => simp [intOf]; omega
  ·have hk128 : k <= 127 := by
    rcases (show c = 9 \/ c < 9 by omega) with rfl | h
    ·omega
    ·omega
   obtain ⟨b, hb⟩ : ∃ b, b = UInt8.ofNat k := ⟨_, rfl⟩
   have hbn : b.toNat = k := by rw [hb, UInt8.toNat_ofNat']; omega
   have hc1 := fun w => conv_one bytes_ty 9 Tryz.underlying9 w (k : Int) b (by omega)
   have HB := Lib.hid hb
   clear hk hb hbn
   go_wp2
   all_goals go_ret
   all_goals
    refine ⟨?_, hbl.alloc hbl.size _⟩
    rw [<- HU.out, u_lt (n := k) (by omega), <- HB.out]
    rfl

theorem refFold_any (v : Int) (w : World) (h1 : -9223372036854775808 <= v) (h2 : v <= 9223372036854775807) :
  Calls Tryz.prog 146 #[.int .i64 v] w fun e w' => e = .returned (.int .u64 (fold v)) /\ w = w' := by
 have hf := fold_lt v h1 h2
 by_cases h : v < 0
 ·have e1 : ((fold v : Nat) : Int) = 2 * (-(v + 1)) + 1 := by unfold fold; rw [if_pos h]; omega
  have HE := Lib.hid e1
  clear e1
  go_enter Tryz.func146, Tryz.ntmps146
  go_wp2
  go_ret
  rw [HE.out]
  exact ⟨rfl, rfl⟩
 ·have e1 : ((fold v : Nat) : Int) = 2 * v := by unfold fold; rw [if_neg h]; omega
  have HE := Lib.hid e1
  clear e1
  go_enter Tryz.func146, Tryz.ntmps146
  go_wp2
  go_ret
  rw [HE.out]
  exact ⟨rfl, rfl⟩

theorem refText_any (s : ByteArray) (w : World) (hs : s.size <= 140737488355328) :
  Calls Tryz.prog 92 #[.string s] w (RetBelow w (.string (bs (u s.size ++ s.data.toList)))) := by
 have hul := u_len s.size (by omega)
 have e1 : bs (u s.size) ++ s = bs (u s.size ++ s.data.toList) := bs_append _ _
 have HE := Lib.hid e1
 clear e1
 go_enter Tryz.func92, Tryz.ntmps92
 go_wp2_with fail
 refine (refUint_any s.size _ (by omega)).mono ?_
 rintro e w' ⟨rfl, hb⟩
 go_wp2_with fail
 go_ret
 rw [<- HE.out]
 exact ⟨rfl, hb⟩

end Go.Proofs.YtgabmfibfikdbaaGreatDoor
