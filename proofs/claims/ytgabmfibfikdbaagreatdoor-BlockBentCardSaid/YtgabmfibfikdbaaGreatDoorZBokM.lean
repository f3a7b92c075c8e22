/-
  Layer 16 (blocks): plain mathematics of entries and of chunks: no program in sight; no condition.
-/
import Derived.Test.YtgabmfibfikdbaaGreatDoorZLabM
import Derived.Test.YtgabmfibfikdbaaGreatDoorZXorN
import Derived.Test.YtgabmfibfikdbaaGreatDoorZFrmM

namespace Go.Bar.Bok
open Go.RowKit Go.Bar Go.Bar.Leb Go.Bar.Frm Go.Bar.Lab Go.Bar.Xor Go.Bar.Mrg Go.Bar.Met

/-- an entry: of which labels, where its chunks are, its times -/
structure En where
  ls : List Pr
  fr : Int
  n : Int
  mn : Int
  mx : Int
def En.z : En := ⟨[], 0, 0, 0, 0⟩
def enT (x : En) : List UInt8 := u (w64 x.fr) ++ (u (w64 x.n) ++ (u (w64 x.mn) ++ u (w64 x.mx)))
def enB (x : En) : List UInt8 := key x.ls ++ enT x
def idxD (l : List En) : List UInt8 := u l.length ++ l.flatMap enB
def idxB (l : List En) : List UInt8 := Frm.rec (5, idxD l)

/-- numbers, one behind the other -/
def tN : List Int → List UInt8 → List Nat × List UInt8 × Nat
  | [], s => ([], s, 0)
  | m :: ms, s => if (takeMost s m).2.2 ≠ 0 then ([], [], (takeMost s m).2.2) else
      if (tN ms (takeMost s m).2.1).2.2 ≠ 0 then ([], [], (tN ms (takeMost s m).2.1).2.2) else ((takeMost s m).1 :: (tN ms (takeMost s m).2.1).1, (tN ms (takeMost s m).2.1).2.1, 0)
def mosts : List Int := [1048576, 1048576, 1099511627776, 1099511627776]
/-- what is known of numbers when some have been taken -/
def glue (l : List Nat) (R : List Nat × List UInt8 × Nat) : List Nat × List UInt8 × Nat := if R.2.2 ≠ 0 then ([], [], R.2.2) else (l ++ R.1, R.2.1, 0)
theorem tN_err : ∀ (ms : List Int) (s : List UInt8), (tN ms s).2.2 ≠ 0 → (tN ms s) = ([], [], (tN ms s).2.2)
  | [], s => fun h => absurd rfl h
  | m :: ms, s => fun h => by
    unfold tN at h ⊢
    by_cases h1 : (takeMost s m).2.2 ≠ 0
    · rw [if_pos h1]
    · rw [if_neg h1] at h ⊢
      by_cases h2 : (tN ms (takeMost s m).2.1).2.2 ≠ 0
      · rw [if_pos h2]
      · rw [if_neg h2] at h
        exact absurd rfl h
theorem glue_nil (ms : List Int) (s : List UInt8) : glue [] (tN ms s) = tN ms s := by
  unfold glue
  by_cases h : (tN ms s).2.2 ≠ 0
  · rw [if_pos h]; exact (tN_err ms s h).symm
  · rw [if_neg h, List.nil_append]
    have h : (tN ms s).2.2 = 0 := Decidable.not_not.1 h
    rw [← h]
theorem glue_bad {l : List Nat} {m : Int} {ms : List Int} {s : List UInt8} (h : (takeMost s m).2.2 ≠ 0) : glue l (tN (m :: ms) s) = ([], [], (takeMost s m).2.2) := by
  unfold glue tN
  rw [if_pos h]
  simp only
  rw [if_pos h]
theorem glue_step {l : List Nat} {m : Int} {ms : List Int} {s : List UInt8} (h : (takeMost s m).2.2 = 0) : glue l (tN (m :: ms) s) = glue (l ++ [(takeMost s m).1]) (tN ms (takeMost s m).2.1) := by
  have e : tN (m :: ms) s = if (tN ms (takeMost s m).2.1).2.2 ≠ 0 then ([], [], (tN ms (takeMost s m).2.1).2.2) else ((takeMost s m).1 :: (tN ms (takeMost s m).2.1).1, (tN ms (takeMost s m).2.1).2.1, 0) := by
    rw [tN, if_neg (fun hh => hh h)]
  by_cases h2 : (tN ms (takeMost s m).2.1).2.2 ≠ 0
  · rw [if_pos h2] at e
    unfold glue
    rw [e, if_pos h2, if_pos h2]
  · rw [if_neg h2] at e
    unfold glue
    rw [e, if_neg h2, if_neg (fun hh => hh rfl), List.append_assoc]
    rfl
theorem tN_four {a b c d : Nat} (r : List UInt8) (ha : a ≤ 1048576) (hb : b ≤ 1048576) (hc : c ≤ 1099511627776) (hd : d ≤ 1099511627776) : tN mosts (u a ++ (u b ++ (u c ++ u d)) ++ r) = ([a, b, c, d], r, 0) := by
  unfold mosts
  rw [List.append_assoc, List.append_assoc, List.append_assoc]
  unfold tN
  rw [takeMost_u a _ _ (by omega) (by omega)]
  unfold tN
  simp only
  rw [takeMost_u b _ _ (by omega) (by omega)]
  unfold tN
  simp only
  rw [takeMost_u c _ _ (by omega) (by omega)]
  unfold tN
  simp only
  rw [takeMost_u d _ _ (by omega) (by omega)]
  rfl

/-- the first entry of a text -/
def tEn (s : List UInt8) : En × List UInt8 × Nat :=
  if (Lab.take s).2.2 ≠ 0 then (En.z, [], (Lab.take s).2.2)
  else if (tN mosts (Lab.take s).2.1).2.2 ≠ 0 then (En.z, [], (tN mosts (Lab.take s).2.1).2.2)
  else if (tN mosts (Lab.take s).2.1).1.getD 1 0 = 0 ∨ (tN mosts (Lab.take s).2.1).1.getD 3 0 < (tN mosts (Lab.take s).2.1).1.getD 2 0 then (En.z, [], 3)
  else (⟨(Lab.take s).1, (tN mosts (Lab.take s).2.1).1.getD 0 0, (tN mosts (Lab.take s).2.1).1.getD 1 0, (tN mosts (Lab.take s).2.1).1.getD 2 0, (tN mosts (Lab.take s).2.1).1.getD 3 0⟩, (tN mosts (Lab.take s).2.1).2.1, 0)
/-- an entry that may be said -/
structure EnOk (x : En) : Prop where
  lab : Lab.Ok x.ls
  fr : 0 ≤ x.fr ∧ x.fr ≤ 1048576
  n : 1 ≤ x.n ∧ x.n ≤ 1048576
  mn : 0 ≤ x.mn
  mm : x.mn ≤ x.mx
  mx : x.mx ≤ 1099511627776
theorem tEn_of {x : En} (h : EnOk x) (r : List UInt8) : tEn (enB x ++ r) = (x, r, 0) := by
  obtain ⟨h1, h2, h3, h4, h5, h6⟩ := h
  have e := take_key h1 (enT x ++ r)
  have e2 : tN mosts (enT x ++ r) = ([w64 x.fr, w64 x.n, w64 x.mn, w64 x.mx], r, 0) := tN_four r (by unfold w64; omega) (by unfold w64; omega) (by unfold w64; omega) (by unfold w64; omega)
  unfold tEn enB
  rw [List.append_assoc, e]
  simp only
  rw [if_neg (by omega), e2]
  simp only
  rw [if_neg (by omega)]
  show (if w64 x.n = 0 ∨ w64 x.mx < w64 x.mn then _ else ((⟨x.ls, (w64 x.fr : Nat), (w64 x.n : Nat), (w64 x.mn : Nat), (w64 x.mx : Nat)⟩ : En), r, 0)) = _
  rw [if_neg (by unfold w64; omega), w64_of _ h2.1 (by omega), w64_of _ (by omega) (by omega), w64_of _ h4 (by omega), w64_of _ (by omega) (by omega)]
/-- entries: does one come too early? -/
def early (out : List En) (x : En) : Prop := ∃ p, out.getLast? = some p ∧ 0 ≤ cmpL p.ls x.ls
instance (out : List En) (x : En) : Decidable (early out x) := by
  unfold early
  rcases out.getLast? with _ | p
  · exact isFalse (by simp)
  · exact decidable_of_iff (0 ≤ cmpL p.ls x.ls) (by simp)
def tEns : Nat → List UInt8 → List En → List En × List UInt8 × Nat
  | 0, s, out => (out, s, 0)
  | n + 1, s, out => if (tEn s).2.2 ≠ 0 then ([], [], (tEn s).2.2) else if early out (tEn s).1 then ([], [], 3) else tEns n (tEn s).2.1 (out ++ [(tEn s).1])
/-- the entries of a record's text -/
def ensD (d : List UInt8) : List En × Nat :=
  if (takeMost d 10000).2.2 ≠ 0 then ([], (takeMost d 10000).2.2)
  else if (tEns (takeMost d 10000).1 (takeMost d 10000).2.1 []).2.2 ≠ 0 then ([], (tEns (takeMost d 10000).1 (takeMost d 10000).2.1 []).2.2)
  else if (tEns (takeMost d 10000).1 (takeMost d 10000).2.1 []).2.1 ≠ [] then ([], 3) else ((tEns (takeMost d 10000).1 (takeMost d 10000).2.1 []).1, 0)
def entriesR (s : List UInt8) : List En × Nat := if (only s 5).2 ≠ 0 then ([], (only s 5).2) else ensD (only s 5).1
theorem tEns_of : ∀ (l out : List En) (r : List UInt8), (∀ x ∈ l, EnOk x) → (out ++ l).Pairwise (fun a b => cmpL a.ls b.ls < 0) → tEns l.length (l.flatMap enB ++ r) out = (out ++ l, r, 0)
  | [], out, r, _, _ => by rw [List.append_nil]; rfl
  | x :: l, out, r, h, hp => by
    have hx := tEn_of (h x (List.mem_cons_self ..)) (l.flatMap enB ++ r)
    rw [List.flatMap_cons, List.append_assoc, List.length_cons, tEns, hx]
    simp only
    rw [if_neg (by omega), if_neg (by
      rintro ⟨p, hp1, hp2⟩
      have hm := List.mem_of_getLast? hp1
      have := (List.pairwise_append.1 hp).2.2 p hm x (List.mem_cons_self ..)
      omega)]
    have ih := tEns_of l (out ++ [x]) r (fun y hy => h y (List.mem_cons_of_mem _ hy)) (by rw [List.append_assoc]; exact hp)
    rw [ih, List.append_assoc]
    rfl
/-- WHAT AN INDEX SAYS -/
theorem entriesR_of {l : List En} (h : ∀ x ∈ l, EnOk x) (hp : l.Pairwise (fun a b => cmpL a.ls b.ls < 0)) (hn : l.length ≤ 10000) (hd : (idxD l).length ≤ 1048576) : entriesR (idxB l) = (l, 0) := by
  unfold entriesR idxB
  rw [only_rec 5 _ hd]
  simp only
  rw [if_neg (by omega)]
  unfold ensD idxD
  rw [takeMost_u _ _ 10000 (by omega) (by omega)]
  simp only
  have ht := tEns_of l [] [] h hp
  rw [List.append_nil, List.nil_append] at ht
  rw [if_neg (by omega), ht]
  simp

/-- samples' records: does one come too early? -/
def late (out some : List Sm) : Prop := ∃ a b, out.getLast? = Option.some a ∧ some.head? = Option.some b ∧ b.1 ≤ a.1
instance (out l : List Sm) : Decidable (late out l) := by
  unfold late
  rcases out.getLast? with _ | a
  · exact isFalse (by simp)
  · rcases l.head? with _ | b
    · exact isFalse (by simp)
    · exact decidable_of_iff (b.1 ≤ a.1) (by simp)
def tSm : List Rc → List Sm → Option (List Sm)
  | [], out => some out
  | r :: rs, out => if (samplesR r.2).2 ≠ 0 ∨ r.1 ≠ 4 ∨ (samplesR r.2).1 = [] ∨ late out (samplesR r.2).1 then none else tSm rs (out ++ (samplesR r.2).1)
/-- the samples of chunks -/
def smpsR (s : List UInt8) : List Sm × Nat := if left s ≠ [] then ([], 4) else match tSm (recs s) [] with | none => ([], 3) | some l => (l, 0)
theorem samplesR_len (w : List UInt8) : (samplesR w).1.length ≤ 120 := by
  rcases samplesR_prop w with ⟨_, h2, _, h4⟩ | ⟨h, _⟩
  · have h5 := ofS_ok (samplesR w).1 St.zero St.zero_ok h4
    have h6 := h5.n
    have h7 := (ofS_more (samplesR w).1 St.zero (ofS St.zero (samplesR w).1).1 (by rw [← h2])).2
    have h8 : St.zero.n = 0 := rfl
    omega
  · rw [h]; exact Nat.zero_le _
theorem tSm_len : ∀ (rs : List Rc) (out l : List Sm), tSm rs out = some l → l.length ≤ out.length + 120 * rs.length
  | [], out, l, h => by injection h with h; rw [h]; simp
  | r :: rs, out, l, h => by
    unfold tSm at h
    split at h
    · cases h
    · have := tSm_len rs _ l h
      have h2 := samplesR_len r.2
      rw [List.length_append] at this
      rw [List.length_cons]
      omega

/-- the parts of samples that are one chunk each -/
def part (L : List Sm) (j : Nat) : List Sm := (L.drop (120 * j)).take 120
def ckT (L : List Sm) (j : Nat) : List UInt8 := Xor.text (ofS St.zero (part L j)).1
def nP (L : List Sm) : Nat := (L.length + 119) / 120
def ckR (L : List Sm) (m : Nat) : List Rc := (List.range m).map (fun j => (4, ckT L j))
/-- samples as chunks -/
def chB (L : List Sm) : List UInt8 := laid (ckR L (nP L))
theorem ckR_succ (L : List Sm) (m : Nat) : ckR L (m + 1) = ckR L m ++ [(4, ckT L m)] := by unfold ckR; rw [List.range_succ, List.map_append]; rfl
/-- samples that may be written -/
structure SmOk (L : List Sm) : Prop where
  ris : Ris L
  tm : ∀ x ∈ L, 0 ≤ x.1 ∧ x.1 ≤ 1099511627776
  v : ∀ x ∈ L, x.2 < 18446744073709551616
theorem put_n (s : St) (x : Sm) : (s.put x).n = s.n + 1 ∧ (s.put x).t = x.1 := by
  unfold St.put
  split
  · rename_i h; exact ⟨by simp [h], rfl⟩
  · exact ⟨rfl, rfl⟩
theorem ofS_rises : ∀ (l : List Sm) (s : St), l.Pairwise (fun a b => a.1 < b.1) → (∀ x ∈ l, 0 ≤ x.1 ∧ x.1 ≤ 1099511627776) → s.n + l.length ≤ 120 → (0 < s.n → ∀ x ∈ l, s.t < x.1) → (ofS s l).2 = 0
  | [], _, _, _, _, _ => rfl
  | x :: l, s, h, hb, hn, ht => by
    rw [List.length_cons] at hn
    obtain ⟨b1, b2⟩ := hb x (by simp)
    have he : err s x = 0 := by
      unfold err
      rw [if_neg (by omega), if_neg (by rintro ⟨h1, h2⟩; have := ht h1 x (by simp); omega), if_neg (by omega)]
    rw [ofS, if_pos he]
    obtain ⟨p1, p2⟩ := put_n s x
    have hp := List.pairwise_cons.1 h
    exact ofS_rises l (s.put x) hp.2 (fun y hy => hb y (by simp [hy])) (by omega) (fun _ y hy => by rw [p2]; exact hp.1 y hy)
theorem part_sub (L : List Sm) (j : Nat) : (part L j).Sublist L := (List.take_sublist _ _).trans (List.drop_sublist _ _)
theorem part_len (L : List Sm) (j : Nat) : (part L j).length ≤ 120 := by unfold part; rw [List.length_take]; omega
theorem part_of {L : List Sm} (h : SmOk L) (j : Nat) : (ofS St.zero (part L j)).2 = 0 :=
  ofS_rises _ _ (h.ris.sublist (part_sub L j)) (fun x hx => h.tm x ((part_sub L j).mem hx)) (by have := part_len L j; show 0 + _ ≤ _; omega) (fun h => absurd h (by decide))
theorem part_v {L : List Sm} (h : SmOk L) (j : Nat) : ∀ x ∈ part L j, x.2 < 18446744073709551616 := fun x hx => h.v x ((part_sub L j).mem hx)
theorem part_ne {L : List Sm} {j : Nat} (h : j < nP L) : part L j ≠ [] := by
  intro he
  have h1 : (part L j).length = 0 := by rw [he]; rfl
  unfold part at h1
  unfold nP at h
  rw [List.length_take, List.length_drop] at h1
  omega
theorem ckT_samples {L : List Sm} (h : SmOk L) (j : Nat) : samplesR (ckT L j) = (part L j, 0) := samplesR_of (Prod.ext rfl (part_of h j)) (part_v h j)
theorem ckT_len {L : List Sm} (h : SmOk L) (j : Nat) : (ckT L j).length ≤ 2300 := by
  have hok := ofS_ok (part L j) St.zero St.zero_ok (part_v h j)
  have h1 := hok.n
  have h2 := hok.len
  have u1 := u_len (ofS St.zero (part L j)).1.n (by omega)
  have u2 := u_len (ofS St.zero (part L j)).1.bits.length (by omega)
  show (Xor.text _).length ≤ _
  unfold Xor.text
  rw [List.length_append, List.length_append, Bit.pack_length]
  omega
theorem take_part (L : List Sm) (m : Nat) : L.take (120 * (m + 1)) = L.take (120 * m) ++ part L m := by
  rw [show 120 * (m + 1) = 120 * m + 120 by omega, List.take_add]
  rfl
theorem tSm_append : ∀ (rs rs' : List Rc) (out l : List Sm), tSm rs out = some l → tSm (rs ++ rs') out = tSm rs' l
  | [], rs', out, l, h => by injection h with h; rw [h]; rfl
  | r :: rs, rs', out, l, h => by
    rw [List.cons_append, tSm]
    rw [tSm] at h
    split at h
    · cases h
    · rename_i hc
      rw [if_neg hc]
      exact tSm_append rs rs' _ l h
theorem tSm_ck {L : List Sm} (h : SmOk L) : ∀ m, m ≤ nP L → tSm (ckR L m) [] = some (L.take (120 * m))
  | 0, _ => by simp [ckR, tSm]
  | m + 1, hm => by
    have ih := tSm_ck h m (by omega)
    rw [ckR_succ, tSm_append _ _ _ _ ih]
    unfold tSm
    simp only [ckT_samples h m]
    rw [if_neg, take_part]
    · rfl
    · rintro (h1 | h1 | h1 | ⟨a, b, h1, h2, h3⟩)
      · exact h1 rfl
      · exact h1 rfl
      · exact part_ne (by omega) h1
      · have hr := h.ris
        unfold Ris at hr
        rw [← List.take_append_drop (120 * m) L] at hr
        have hb : b ∈ L.drop (120 * m) := (List.take_sublist 120 _).mem (List.mem_of_mem_head? h2)
        have := (List.pairwise_append.1 hr).2.2 a (List.mem_of_getLast? h1) b hb
        omega
/-- WHAT CHUNKS SAY -/
theorem smpsR_of {L : List Sm} (h : SmOk L) : smpsR (chB L) = (L, 0) := by
  have hr := recs_laid (ckR L (nP L)) [] (fun r hr => by
    unfold ckR at hr
    obtain ⟨j, _, rfl⟩ := List.mem_map.1 hr
    have := ckT_len h j
    show (ckT L j).length ≤ _
    omega) next_nil
  rw [List.append_nil] at hr
  unfold smpsR chB
  rw [hr.2, hr.1, if_neg (by simp), tSm_ck h _ (Nat.le_refl _)]
  have : L.take (120 * nP L) = L := List.take_of_length_le (by unfold nP; omega)
  rw [this]
theorem chB_len {L : List Sm} (h : SmOk L) : (chB L).length ≤ 2400 * nP L := by
  have hh : ∀ m, (laid (ckR L m)).length ≤ 2400 * m := by
    intro m
    induction m with
    | zero => exact Nat.le_refl _
    | succ m ih =>
      rw [ckR_succ, laid_snoc, List.length_append, rec_len]
      have h1 := ckT_len h m
      have h2 := u_len (ckT L m).length (by omega)
      show _ + (5 + (u (ckT L m).length).length + (ckT L m).length) ≤ _
      omega
  exact hh _
end Go.Bar.Bok

/-
  Layer 14: plain: tables said by their values (a sample of labels and a time); the reference's Add and Between.
-/
namespace Go.Bar.Mrg
open Go.RowKit Go.Bar Go.Bar.Xor Go.Bar.Lab

/-- a table's sample of labels and a time -/
def val (R : List Row) (L : List Pr) (t : Int) : Option Sm := (rk R L).bind (fun s => lk s t)
/-- a table whose rows rise, rise in themselves, and have samples -/
structure Tb (R : List Row) : Prop where
  rls : Rls R
  ris : ∀ r ∈ R, Ris r.2
  ne : ∀ r ∈ R, r.2 ≠ []
theorem Tb.nil : Tb [] := ⟨List.Pairwise.nil, fun _ h => (by cases h), fun _ h => (by cases h)⟩
theorem val_nil (L : List Pr) (t : Int) : val [] L t = none := rfl
theorem val_cons (r : Row) (R : List Row) (L : List Pr) (t : Int) : val (r :: R) L t = if r.1 = L then lk r.2 t else val R L t := by
  unfold val
  rw [rk_cons]
  by_cases h : r.1 = L
  · rw [if_pos h, if_pos h]; rfl
  · rw [if_neg h, if_neg h]
theorem val_none {R : List Row} {L : List Pr} (h : ∀ r ∈ R, r.1 ≠ L) (t : Int) : val R L t = none := by
  unfold val
  rw [rk_none.2 h]; rfl

/-! ### the reference's Add -/
def addG (L : List Pr) (s : Sm) : Bool → List Row → List Row
  | true, [] => []
  | false, [] => [(L, [s])]
  | true, r :: t => (if cmpL L r.1 = 0 then (r.1, putS r.2 s) else r) :: addG L s true t
  | false, r :: t => if cmpL L r.1 = 0 then (r.1, putS r.2 s) :: addG L s true t else if cmpL L r.1 < 0 then (L, [s]) :: r :: addG L s true t else r :: addG L s false t
def addR (l : List Row) (L : List Pr) (s : Sm) : List Row := addG L s false l
theorem addG_true {L : List Pr} {s : Sm} : ∀ {l : List Row}, (∀ r ∈ l, L ≠ r.1) → addG L s true l = l
  | [], _ => rfl
  | r :: l, h => by
    show (if cmpL L r.1 = 0 then (r.1, putS r.2 s) else r) :: addG L s true l = _
    rw [if_neg (fun e => h r (List.mem_cons_self ..) (cmpL_zero.1 e)), addG_true fun x hx => h x (List.mem_cons_of_mem _ hx)]
theorem addG_len (L : List Pr) (s : Sm) : ∀ (b : Bool) (l : List Row), (addG L s b l).length ≤ l.length + 1
  | true, [] => Nat.zero_le _
  | false, [] => Nat.le_refl _
  | true, r :: l => Nat.succ_le_succ (addG_len L s true l)
  | false, r :: l => by
    show (if cmpL L r.1 = 0 then _ else if cmpL L r.1 < 0 then _ else _ : List Row).length ≤ _
    have h1 : ∀ l, (addG L s true l).length = l.length := fun l => by
      induction l with
      | nil => rfl
      | cons x l ih => exact congrArg (· + 1) ih
    split
    · rw [List.length_cons, h1]; simp
    · split
      · rw [List.length_cons, List.length_cons, h1]; simp
      · exact Nat.succ_le_succ (addG_len L s false l)
theorem putS_ne (l : List Sm) (s : Sm) : putS l s ≠ [] := by
  cases l with
  | nil => simp [putS]
  | cons x r => unfold putS; split <;> (try split) <;> simp
theorem addR_spec {L : List Pr} {s : Sm} : ∀ {l : List Row}, Tb l → Tb (addR l L s) ∧ (∀ r ∈ addR l L s, r.1 = L ∨ ∃ x ∈ l, x.1 = r.1) ∧ ∀ L' t, val (addR l L s) L' t = if L = L' then (val l L t).or (lk [s] t) else val l L' t
  | [], _ => ⟨⟨List.pairwise_singleton _ _, fun r hr => by obtain rfl := List.mem_singleton.1 hr; exact List.pairwise_singleton _ _, fun r hr => by obtain rfl := List.mem_singleton.1 hr; simp⟩,
      fun r hr => by obtain rfl := List.mem_singleton.1 hr; exact .inl rfl, fun L' t => by
        show val [(L, [s])] L' t = _
        rw [val_cons, val_nil, val_nil, Option.none_or]⟩
  | r :: l, h => by
    obtain ⟨h1, h2⟩ := List.pairwise_cons.1 h.rls
    have hl : Tb l := ⟨h2, fun x hx => h.ris x (List.mem_cons_of_mem _ hx), fun x hx => h.ne x (List.mem_cons_of_mem _ hx)⟩
    have hr := h.ris r (List.mem_cons_self ..)
    have hn := h.ne r (List.mem_cons_self ..)
    by_cases e : cmpL L r.1 = 0
    · have e2 := cmpL_zero.1 e
      subst e2
      have hne : ∀ x ∈ l, r.1 ≠ x.1 := fun x hx he => by have := h1 x hx; rw [he, cmpL_self] at this; omega
      have ea : addR (r :: l) r.1 s = (r.1, putS r.2 s) :: l := by
        show (if cmpL r.1 r.1 = 0 then _ else _ : List Row) = _
        rw [if_pos e, addG_true hne]
      rw [ea]
      refine ⟨⟨List.pairwise_cons.2 ⟨h1, h2⟩, fun x hx => ?_, fun x hx => ?_⟩, fun x hx => ?_, fun L' t => ?_⟩
      · rcases List.mem_cons.1 hx with rfl | hx
        · exact hr.put s
        · exact hl.ris x hx
      · rcases List.mem_cons.1 hx with rfl | hx
        · exact putS_ne _ _
        · exact hl.ne x hx
      · rcases List.mem_cons.1 hx with rfl | hx
        · exact .inl rfl
        · exact .inr ⟨x, List.mem_cons_of_mem _ hx, rfl⟩
      · rw [val_cons, val_cons, val_cons]
        by_cases e3 : r.1 = L'
        · rw [if_pos e3, if_pos e3, if_pos rfl, lk_put hr]
        · rw [if_neg e3, if_neg e3, if_neg e3]
    · by_cases e2 : cmpL L r.1 < 0
      · have hlt : ∀ x ∈ r :: l, cmpL L x.1 < 0 := fun x hx => by
          rcases List.mem_cons.1 hx with rfl | hx
          · exact e2
          · exact cmpL_lt_trans e2 (h1 x hx)
        have hne : ∀ x ∈ r :: l, L ≠ x.1 := fun x hx he => by have := hlt x hx; rw [he, cmpL_self] at this; omega
        have ea : addR (r :: l) L s = (L, [s]) :: r :: l := by
          show (if cmpL L r.1 = 0 then _ else if cmpL L r.1 < 0 then _ else _ : List Row) = _
          rw [if_neg e, if_pos e2, addG_true fun x hx => hne x (List.mem_cons_of_mem _ hx)]
        rw [ea]
        refine ⟨⟨List.pairwise_cons.2 ⟨hlt, h.rls⟩, fun x hx => ?_, fun x hx => ?_⟩, fun x hx => ?_, fun L' t => ?_⟩
        · rcases List.mem_cons.1 hx with rfl | hx
          · exact List.pairwise_singleton _ _
          · exact h.ris x hx
        · rcases List.mem_cons.1 hx with rfl | hx
          · simp
          · exact h.ne x hx
        · rcases List.mem_cons.1 hx with rfl | hx
          · exact .inl rfl
          · exact .inr ⟨x, hx, rfl⟩
        · rw [val_cons]
          show (if L = L' then _ else _) = _
          by_cases e3 : L = L'
          · rw [if_pos e3, if_pos e3, val_none (fun x hx he => hne x hx he.symm), Option.none_or]
          · rw [if_neg e3, if_neg e3]
      · have ea : addR (r :: l) L s = r :: addR l L s := by
          show (if cmpL L r.1 = 0 then _ else if cmpL L r.1 < 0 then _ else _ : List Row) = _
          rw [if_neg e, if_neg e2]; rfl
        obtain ⟨i1, i2, i3⟩ := addR_spec (L := L) (s := s) hl
        have hgt : cmpL r.1 L < 0 := by have := cmpL_neg r.1 L; omega
        rw [ea]
        refine ⟨⟨List.pairwise_cons.2 ⟨fun x hx => ?_, i1.rls⟩, fun x hx => ?_, fun x hx => ?_⟩, fun x hx => ?_, fun L' t => ?_⟩
        · rcases i2 x hx with he | ⟨y, hy, he⟩
          · rw [he]; exact hgt
          · rw [← he]; exact h1 y hy
        · rcases List.mem_cons.1 hx with rfl | hx
          · exact hr
          · exact i1.ris x hx
        · rcases List.mem_cons.1 hx with rfl | hx
          · exact hn
          · exact i1.ne x hx
        · rcases List.mem_cons.1 hx with rfl | hx
          · exact .inr ⟨x, List.mem_cons_self .., rfl⟩
          · rcases i2 x hx with he | ⟨y, hy, he⟩
            · exact .inl he
            · exact .inr ⟨y, List.mem_cons_of_mem _ hy, he⟩
        · have hrL : r.1 ≠ L := fun he => e (cmpL_zero.2 he.symm)
          rw [val_cons, i3, val_cons, val_cons, if_neg hrL]
          by_cases e3 : r.1 = L'
          · rw [if_pos e3, if_pos e3, if_neg (fun e4 => hrL (e3.trans e4.symm))]
          · rw [if_neg e3, if_neg e3]

/-- a table with samples of labels, one by one -/
abbrev Pt := List Pr × Sm
def addAll (l : List Row) (xs : List Pt) : List Row := xs.foldl (fun l x => addR l x.1 x.2) l
/-- the first sample of labels and a time -/
def ptv (xs : List Pt) (L : List Pr) (t : Int) : Option Sm := xs.findSome? (fun x => if x.1 = L then lk [x.2] t else none)
theorem ptv_nil (L : List Pr) (t : Int) : ptv [] L t = none := rfl
theorem ptv_cons (x : Pt) (xs : List Pt) (L : List Pr) (t : Int) : ptv (x :: xs) L t = (if x.1 = L then lk [x.2] t else none).or (ptv xs L t) := by
  unfold ptv
  rw [List.findSome?_cons]
  split <;> simp_all
theorem addAll_spec : ∀ {l : List Row} (xs : List Pt), Tb l → Tb (addAll l xs) ∧ ∀ L t, val (addAll l xs) L t = (val l L t).or (ptv xs L t) := by
  intro l xs
  induction xs generalizing l with
  | nil => exact fun h => ⟨h, fun L t => by rw [ptv_nil, Option.or_none]; rfl⟩
  | cons x xs ih =>
    intro h
    obtain ⟨h1, h2, h3⟩ := addR_spec (L := x.1) (s := x.2) h
    obtain ⟨i1, i2⟩ := ih h1
    refine ⟨i1, fun L t => ?_⟩
    show val (addAll (addR l x.1 x.2) xs) L t = _
    rw [i2, h3, ptv_cons]
    by_cases e : x.1 = L
    · rw [if_pos e, if_pos e, Option.or_assoc, e]
    · rw [if_neg e, if_neg e, Option.none_or]
theorem addAll_append (l : List Row) (xs ys : List Pt) : addAll l (xs ++ ys) = addAll (addAll l xs) ys := List.foldl_append
theorem addAll_len (xs : List Pt) : ∀ l, (addAll l xs).length ≤ l.length + xs.length := by
  induction xs with
  | nil => exact fun l => Nat.le_refl _
  | cons x xs ih =>
    intro l
    have h1 := ih (addR l x.1 x.2)
    have h2 := addG_len x.1 x.2 false l
    show (addAll (addR l x.1 x.2) xs).length ≤ _
    unfold addR at h1 ⊢
    rw [List.length_cons]
    omega

/-! ### several tables as one -/

/-! ### what is between two times -/

/-! ### the laws -/
end Go.Bar.Mrg

/-
  Layer 14: plain: how many samples rows have; are rows a table? No condition.
-/
namespace Go.Bar.Mrg
open Go.RowKit Go.Bar Go.Bar.Xor Go.Bar.Lab

/-- how many samples -/
def cntR (R : List Row) : Nat := (R.map (fun r => r.2.length)).sum
theorem cntR_snoc (R : List Row) (r : Row) : cntR (R ++ [r]) = cntR R + r.2.length := by unfold cntR; rw [List.map_append, List.sum_append]; simp
theorem cntR_take (R : List Row) (k : Nat) : cntR (R.take k) ≤ cntR R := by
  conv => rhs; rw [← List.take_append_drop k R]
  unfold cntR
  rw [List.map_append, List.sum_append]
  omega
/-- is it a table? -/
def GoodP (R : List Row) : Prop := Rls R ∧ ∀ r ∈ R, Ris r.2
open Classical in
noncomputable def goodB (R : List Row) : Bool := decide (GoodP R)
theorem goodB_true {R : List Row} (h : GoodP R) : goodB R = true := by unfold goodB; simp [h]
theorem goodB_false {R : List Row} (h : ¬ GoodP R) : goodB R = false := by unfold goodB; simp [h]
theorem Tb.good {R : List Row} (h : Tb R) : GoodP R := ⟨h.rls, h.ris⟩
section
variable {α : Type} {lt : α → α → Prop} {l : List α} {k : Nat} {x y : α}
theorem pw_step (htr : ∀ a b c, lt a b → lt b c → lt a c) (h : (l.take (k + 1)).Pairwise lt) (hx : l[k]? = some x) (hy : l[k + 1]? = some y) (hxy : lt x y) : (l.take (k + 2)).Pairwise lt := by
  rw [List.take_add_one, hy]
  refine List.pairwise_append.2 ⟨h, List.pairwise_singleton _ _, fun a ha b hb => ?_⟩
  obtain rfl := List.mem_singleton.1 hb
  rw [List.take_add_one, hx] at h ha
  rcases List.mem_append.1 ha with h1 | h1
  · exact htr a x b ((List.pairwise_append.1 h).2.2 a h1 x (by simp)) hxy
  · obtain rfl : a = x := by simpa using h1
    exact hxy
theorem pw_at (h : l.Pairwise lt) (hx : l[k]? = some x) (hy : l[k + 1]? = some y) : lt x y := by
  obtain ⟨h1, rfl⟩ := List.getElem?_eq_some_iff.1 hx
  obtain ⟨h2, rfl⟩ := List.getElem?_eq_some_iff.1 hy
  exact (List.pairwise_iff_getElem.1 h) k (k + 1) h1 h2 (Nat.lt_succ_self _)
end
theorem good_zero : GoodP ([] : List Row) := ⟨List.Pairwise.nil, fun _ h => (by cases h)⟩
theorem good_first {R : List Row} {r : Row} (h0 : R[0]? = some r) (hr : Ris r.2) : GoodP (R.take (0 + 1)) := by
  rw [List.take_add_one, h0]
  exact ⟨List.pairwise_singleton _ _, fun x hx => by obtain rfl : x = r := by simpa using hx
                                                     exact hr⟩
theorem good_step {R : List Row} {k : Nat} {p r : Row} (h : GoodP (R.take (k + 1))) (hp : R[k]? = some p) (hr : R[k + 1]? = some r) (hlt : cmpL p.1 r.1 < 0) (hi : Ris r.2) : GoodP (R.take (k + 1 + 1)) := by
  refine ⟨pw_step (fun a b c => cmpL_lt_trans) h.1 hp hr hlt, fun x hx => ?_⟩
  rw [List.take_add_one, hr] at hx
  rcases List.mem_append.1 hx with h1 | h1
  · exact h.2 x h1
  · obtain rfl : x = r := by simpa using h1
    exact hi
theorem ris_step {l : List Sm} {k : Nat} {x y : Sm} (h : Ris (l.take (k + 1))) (hx : l[k]? = some x) (hy : l[k + 1]? = some y) (hxy : x.1 < y.1) : Ris (l.take (k + 2)) :=
  pw_step (fun _ _ _ => Int.lt_trans) h hx hy hxy
theorem ris_one (l : List Sm) : Ris (l.take (0 + 1)) := by
  rcases l with _ | ⟨x, l⟩
  · exact List.Pairwise.nil
  · exact List.pairwise_singleton _ _
theorem bad_labels {R : List Row} {k : Nat} {p r : Row} (hp : R[k]? = some p) (hr : R[k + 1]? = some r) (hlt : ¬ cmpL p.1 r.1 < 0) : ¬ GoodP R := fun h => hlt (pw_at (lt := fun a b : Row => cmpL a.1 b.1 < 0) h.1 hp hr)
theorem bad_times {R : List Row} {k j : Nat} {r : Row} {x y : Sm} (hr : R[k]? = some r) (hx : r.2[j]? = some x) (hy : r.2[j + 1]? = some y) (hlt : ¬ x.1 < y.1) : ¬ GoodP R := fun h => hlt (pw_at (lt := fun a b : Sm => a.1 < b.1) (h.2 r (List.mem_of_getElem? hr)) hx hy)
end Go.Bar.Mrg
