/-
  A region that draws its order, walked once in the order of the text: each operation yields one value whatever the order (a pure one),
  or a value of which a fact holds that later steps keep (a call, a load). Plain lemmas over any program; no condition.
-/
import Derived.Test.YtgabmfibfikdbaaGreatDoorZLib3

namespace Go.Bar
open Go.RowKit

section
variable {P : Program} {ops : Array Oper}

def preB (ops : Array Oper) (i j : Nat) : Bool := ((Region.before ops).getD i 0).testBit j

theorem foldl_bits (acc : Array Nat) (j : Nat) : ∀ (l : List Edge) (s : Nat), (l.foldl (fun s e => if Region.binds .any e then s ||| 2 ^ e.on ||| acc.getD e.on 0 else s) s).testBit j = true →
    s.testBit j = true ∨ ∃ e ∈ l, Region.binds .any e = true ∧ (e.on = j ∨ (acc.getD e.on 0).testBit j = true)
  | [], s, h => .inl h
  | e :: l, s, h => by
    rw [List.foldl_cons] at h
    rcases foldl_bits acc j l _ h with h1 | ⟨e', he, h2⟩
    · by_cases hb : Region.binds .any e = true
      · rw [if_pos hb, Nat.testBit_or, Nat.testBit_or, Bool.or_eq_true, Bool.or_eq_true] at h1
        rcases h1 with (h1 | h1) | h1
        · exact .inl h1
        · rw [Nat.testBit_two_pow] at h1
          exact .inr ⟨e, by simp, hb, .inl (by simpa using h1)⟩
        · exact .inr ⟨e, by simp, hb, .inr h1⟩
      · rw [if_neg hb] at h1
        exact .inl h1
    · exact .inr ⟨e', by simp [he], h2⟩

def preF (acc : Array Nat) (o : Oper) : Nat := o.after.foldl (fun s e => if Region.binds .any e then s ||| 2 ^ e.on ||| acc.getD e.on 0 else s) 0
theorem before_list : ∀ (l : List Oper) (acc : Array Nat), (l.foldl (fun acc o => acc.push (preF acc o)) acc).size = acc.size + l.length ∧
    (∀ k, k < acc.size → (l.foldl (fun acc o => acc.push (preF acc o)) acc).getD k 0 = acc.getD k 0) ∧
    ∀ k o, l[k]? = some o → ∃ acc', (l.foldl (fun acc o => acc.push (preF acc o)) acc).getD (acc.size + k) 0 = preF acc' o ∧ ∀ m, acc'.getD m 0 = 0 ∨ acc'.getD m 0 = (l.foldl (fun acc o => acc.push (preF acc o)) acc).getD m 0
  | [], acc => by simp
  | o :: l, acc => by
    obtain ⟨h1, h2, h3⟩ := before_list l (acc.push (preF acc o))
    simp only [List.foldl_cons]
    refine ⟨by rw [h1]; simp; omega, fun k hk => ?_, fun k o' hk => ?_⟩
    · rw [h2 k (by simp; omega)]
      simp [Array.getElem?_push, Nat.ne_of_lt hk]
    · match k, hk with
      | 0, hk =>
        simp at hk; subst hk
        refine ⟨acc, ?_, fun m => ?_⟩
        · rw [Nat.add_zero, h2 acc.size (by simp)]
          simp
        · rcases Nat.lt_or_ge m acc.size with hm | hm
          · right
            rw [h2 m (by simp; omega)]
            simp [Array.getElem?_push, Nat.ne_of_lt hm]
          · left
            simp [Array.getElem?_eq_none hm]
      | k + 1, hk =>
        obtain ⟨acc', g1, g2⟩ := h3 k o' (by simpa using hk)
        refine ⟨acc', ?_, g2⟩
        rw [← g1]
        congr 1
        simp
        omega
theorem pre_step {i j : Nat} {o : Oper} (ho : ops[i]? = some o) (h : preB ops i j = true) : ∃ e ∈ o.after, Region.binds .any e = true ∧ (e.on = j ∨ preB ops e.on j = true) := by
  obtain ⟨h1, h2, h3⟩ := before_list ops.toList #[]
  have hb : Region.before ops = ops.toList.foldl (fun acc o => acc.push (preF acc o)) #[] := by
    unfold Region.before
    rw [← Array.foldl_toList]
    rfl
  unfold preB at h ⊢
  rw [hb] at h ⊢
  obtain ⟨acc', g1, g2⟩ := h3 i o (by simpa using ho)
  rw [show (#[] : Array Nat).size + i = i by simp] at g1
  rw [g1] at h
  unfold preF at h
  rw [← Array.foldl_toList] at h
  rcases foldl_bits acc' j _ _ h with h4 | ⟨e, he, hbd, h4⟩
  · simp at h4
  · refine ⟨e, by simpa using he, hbd, ?_⟩
    rcases h4 with h4 | h4
    · exact .inl h4
    · rcases g2 e.on with h5 | h5
      · rw [h5] at h4; simp at h4
      · rw [h5] at h4; exact .inr h4

def regionFits (ops : Array Oper) (n : Nat) : Bool :=
  Region.noSelect ops && (List.range ops.size).all fun i => match ops[i]? with
    | none => true
    | some oi => (match oi.dst with | some d => decide (d < n) | none => true) && oi.after.all (fun e => !Region.binds .any e || decide (e.on < i)) && (List.range ops.size).all fun j => match ops[j]? with
      | none => true
      | some oj => match oj.dst with
        | none => true
        | some t => i == j || !((oi.looksAt ops).contains t || oi.dst == some t) || (if j < i then preB ops i j else preB ops j i)
theorem fits_dst {n i d : Nat} {o : Oper} (h : regionFits ops n = true) (ho : ops[i]? = some o) (hd : o.dst = some d) : d < n := by
  have hi : i < ops.size := (Array.getElem?_eq_some_iff.1 ho).1
  simp only [regionFits, Bool.and_eq_true, List.all_eq_true, List.mem_range] at h
  have := h.2 i hi
  rw [ho] at this
  simp only [hd, Bool.and_eq_true, decide_eq_true_eq] at this
  exact this.1.1
theorem fits_edge {n i : Nat} {o : Oper} (h : regionFits ops n = true) (ho : ops[i]? = some o) {e : Edge} (he : e ∈ o.after) (hb : Region.binds .any e = true) : e.on < i := by
  have hi : i < ops.size := (Array.getElem?_eq_some_iff.1 ho).1
  simp only [regionFits, Bool.and_eq_true, List.all_eq_true, List.mem_range] at h
  have := h.2 i hi
  rw [ho] at this
  simp only [Bool.and_eq_true] at this
  have h2 := Array.all_eq_true_iff_forall_mem.1 this.1.2 e he
  simpa [hb] using h2
theorem fits_pre {n i j t : Nat} {oi oj : Oper} (h : regionFits ops n = true) (hoi : ops[i]? = some oi) (hoj : ops[j]? = some oj) (hd : oj.dst = some t) (ht : t ∈ oi.looksAt ops ∨ oi.dst = some t) (hne : i ≠ j) :
    (j < i → preB ops i j = true) ∧ (i < j → preB ops j i = true) := by
  have hi : i < ops.size := (Array.getElem?_eq_some_iff.1 hoi).1
  have hj : j < ops.size := (Array.getElem?_eq_some_iff.1 hoj).1
  simp only [regionFits, Bool.and_eq_true, List.all_eq_true, List.mem_range] at h
  have := h.2 i hi
  rw [hoi] at this
  simp only [Bool.and_eq_true, List.all_eq_true, List.mem_range] at this
  have := this.2 j hj
  rw [hoj] at this
  simp only [hd, Bool.or_eq_true, beq_iff_eq, hne, false_or, Bool.not_eq_true', Bool.or_eq_false_iff] at this
  rcases this with ⟨h1, h2⟩ | h1
  · rcases ht with ht | ht
    · rw [← Bool.not_eq_true, List.contains_iff_mem] at h1
      exact absurd ht h1
    · simp [ht] at h2
  · constructor
    · intro hlt; rwa [if_pos hlt] at h1
    · intro hlt; rwa [if_neg (by omega)] at h1
theorem fits_select {n : Nat} (h : regionFits ops n = true) (j : Nat) (o : Oper) (cs : Array SelectCase) (b : Bool) (ho : ops[j]? = some o) : o.op ≠ .select cs b := by
  simp only [regionFits, Bool.and_eq_true] at h
  exact Region.noSelect_spec h.1 j o cs b ho

def fr (ops : Array Oper) (a : Act) (vs : Nat → Value) : Nat → Act
  | 0 => a
  | k + 1 => (fr ops a vs k).put ((ops[k]?).bind (·.dst)) (vs k)
theorem fr_succ (a : Act) (vs : Nat → Value) (k : Nat) : fr ops a vs (k + 1) = (fr ops a vs k).put ((ops[k]?).bind (·.dst)) (vs k) := rfl
def slotAt (ops : Array Oper) (a : Act) (vs : Nat → Value) (S : Nat → Bool) (t : Nat) : Nat → Value
  | 0 => a.tmps.getD t undef
  | k + 1 => if S k = true ∧ (ops[k]?).bind (·.dst) = some t then vs k else slotAt ops a vs S t k

theorem fr_size (a : Act) (vs : Nat → Value) : ∀ k, (fr ops a vs k).tmps.size = a.tmps.size ∧ (fr ops a vs k).defers = a.defers
  | 0 => ⟨rfl, rfl⟩
  | k + 1 => by
    obtain ⟨h1, h2⟩ := fr_size a vs k
    unfold fr Act.put
    split <;> simp [h1, h2]
theorem put_getD (a : Act) (d t : Nat) (v : Value) (h : d < a.tmps.size) : (a.put (some d) v).tmps.getD t undef = if d = t then v else a.tmps.getD t undef := by
  unfold Act.put
  by_cases hd : d = t
  · subst hd
    simp [h]
  · simp [hd]
theorem fr_slot {a : Act} {n : Nat} (hf : regionFits ops n = true) (hn : a.tmps.size = n) (vs : Nat → Value) (t : Nat) : ∀ k, (fr ops a vs k).tmps.getD t undef = slotAt ops a vs (fun _ => true) t k
  | 0 => rfl
  | k + 1 => by
    have ih := fr_slot hf hn vs t k
    unfold fr slotAt
    cases ho : (ops[k]?) with
    | none => simpa [Act.put] using ih
    | some o =>
      cases hd : o.dst with
      | none => simpa [Act.put, hd] using ih
      | some d =>
        have hlt := fits_dst hf ho hd
        simp only [Option.bind_some, hd]
        rw [put_getD _ _ _ _ (by rw [(fr_size a vs k).1, hn]; exact hlt), ih]
        simp
theorem slot_congr (a : Act) (vs vs' : Nat → Value) (S S' : Nat → Bool) (t : Nat) : ∀ k, (∀ j, j < k → (ops[j]?).bind (·.dst) = some t → S j = S' j ∧ (S j = true → vs j = vs' j)) → slotAt ops a vs S t k = slotAt ops a vs' S' t k
  | 0, _ => rfl
  | k + 1, h => by
    have ih := slot_congr a vs vs' S S' t k (fun j hj => h j (by omega))
    unfold slotAt
    rw [ih]
    by_cases hd : (ops[k]?).bind (·.dst) = some t
    · obtain ⟨h1, h2⟩ := h k (by omega) hd
      by_cases hs : S k = true
      · rw [if_pos ⟨hs, hd⟩, if_pos ⟨h1 ▸ hs, hd⟩, h2 hs]
      · rw [if_neg (fun h => hs h.1), if_neg (fun h => hs (h1 ▸ h.1))]
    · rw [if_neg (fun h => hd h.2), if_neg (fun h => hd h.2)]
theorem slot_cut (a : Act) (vs : Nat → Value) (S : Nat → Bool) (t i : Nat) : ∀ k, i ≤ k → (∀ j, i ≤ j → j < k → (ops[j]?).bind (·.dst) = some t → S j = false) → slotAt ops a vs S t k = slotAt ops a vs S t i
  | 0, h, _ => by obtain rfl : i = 0 := by omega
                  rfl
  | k + 1, h, hS => by
    rcases Nat.lt_or_ge k i with h1 | h1
    · obtain rfl : i = k + 1 := by omega
      rfl
    · have ih := slot_cut a vs S t i k h1 (fun j h2 h3 => hS j h2 (by omega))
      rw [slotAt, ih]
      by_cases hd : (ops[k]?).bind (·.dst) = some t
      · rw [if_neg (fun h => by rw [hS k h1 (by omega) hd] at h; cases h.1)]
      · rw [if_neg (fun h => hd h.2)]

def Chain (P : Program) (ops : Array Oper) (G : Nat → Option ((Value → Prop) × (Value → World → Prop))) (R : World → World → Prop) (X : World → Prop) (Qn : Act → World → Prop) : Nat → List Oper → Act → (Nat → World → Prop) → Prop
  | _, [], a, F => ∀ w, X w → (∀ j, F j w) → Qn a w
  | i, o :: rest, a, F =>
    match G i with
    | none => ∃ v, Yields P ops o v a ∧ Chain P ops G R X Qn (i + 1) rest (a.put o.dst v) F
    | some g => Region.wanted o (yielded ops a.tmps) = true ∧
      (∀ w, X w → (∀ j, preB ops i j = true → F j w) → o.wp P a w (fun a' w' => ∃ v, a' = a.put o.dst v ∧ R w w' ∧ X w' ∧ g.1 v ∧ g.2 v w') (fun _ _ _ => False)) ∧
      ∀ v, g.1 v → Chain P ops G R X Qn (i + 1) rest (a.put o.dst v) (fun j w => if j = i then g.2 v w else F j w)

variable {G : Nat → Option ((Value → Prop) × (Value → World → Prop))} {R : World → World → Prop} {X : World → Prop} {Qn : Act → World → Prop}

theorem Chain.pure {i : Nat} {o : Oper} {rest : List Oper} {a : Act} {F : Nat → World → Prop} (hG : G i = none) (v : Value) (hy : Yields P ops o v a) (hc : Chain P ops G R X Qn (i + 1) rest (a.put o.dst v) F) : Chain P ops G R X Qn i (o :: rest) a F := by
  unfold Chain
  rw [hG]
  exact ⟨v, hy, hc⟩
theorem Chain.fact {i : Nat} {o : Oper} {rest : List Oper} {a : Act} {F : Nat → World → Prop} (C : Value → Prop) (g : Value → World → Prop) (hG : G i = some (C, g)) (hw : Region.wanted o (yielded ops a.tmps) = true)
    (hp : ∀ w, X w → (∀ j, preB ops i j = true → F j w) → o.wp P a w (fun a' w' => ∃ v, a' = a.put o.dst v ∧ R w w' ∧ X w' ∧ C v ∧ g v w') (fun _ _ _ => False))
    (hc : ∀ v, C v → Chain P ops G R X Qn (i + 1) rest (a.put o.dst v) (fun j w => if j = i then g v w else F j w)) : Chain P ops G R X Qn i (o :: rest) a F := by
  unfold Chain
  rw [hG]
  exact ⟨hw, hp, hc⟩
theorem Chain.step {i : Nat} {o : Oper} {rest : List Oper} {a a' : Act} {F : Nat → World → Prop} {v : Value} {i' : Nat} (hG : G i = none) (hw : Region.wanted o (yielded ops a.tmps) = true) (hi : i + 1 = i') (hy : ∀ w, (execOp a.eval o).run P w = .ok (.value v) w) (ha : a.put o.dst v = a')
    (hc : Chain P ops G R X Qn i' rest a' F) : Chain P ops G R X Qn i (o :: rest) a F := by
  subst ha; subst hi
  exact Chain.pure hG v (.inl ⟨hw, hy⟩) hc
theorem Chain.skip {i : Nat} {o : Oper} {rest : List Oper} {a a' : Act} {F : Nat → World → Prop} {i' : Nat} (hG : G i = none) (hw : Region.wanted o (yielded ops a.tmps) = false) (hi : i + 1 = i') (ha : a.put o.dst undef = a')
    (hc : Chain P ops G R X Qn i' rest a' F) : Chain P ops G R X Qn i (o :: rest) a F := by
  subst ha; subst hi
  exact Chain.pure hG undef (.inr ⟨hw, rfl⟩) hc
theorem Chain.end_ {i : Nat} {a : Act} {F : Nat → World → Prop} (h : ∀ w, X w → (∀ j, F j w) → Qn a w) : Chain P ops G R X Qn i [] a F := h
def isV (c : Value) : Value → Prop := fun v => v = c
def noFact : Value → World → Prop := fun _ _ => True
theorem Chain.exact {i : Nat} {o : Oper} {rest : List Oper} {a : Act} {F : Nat → World → Prop} (c : Value) (g : Value → World → Prop) (hG : G i = some (isV c, g)) (hw : Region.wanted o (yielded ops a.tmps) = true)
    (hp : ∀ w, X w → (∀ j, preB ops i j = true → F j w) → o.wp P a w (fun a' w' => a' = a.put o.dst c ∧ R w w' ∧ X w' ∧ g c w') (fun _ _ _ => False))
    (hc : Chain P ops G R X Qn (i + 1) rest (a.put o.dst c) (fun j w => if j = i then g c w else F j w)) : Chain P ops G R X Qn i (o :: rest) a F :=
  Chain.fact (isV c) g hG hw (fun w hx hF => Oper.wp_mono (fun _ _ ⟨h1, h2, h3, h4⟩ => ⟨c, h1, h2, h3, rfl, h4⟩) (hp w hx hF)) (fun v hv => by rw [show v = c from hv]; exact hc)

theorem Chain.weaken : ∀ {l : List Oper} {i : Nat} {a : Act} {F F' : Nat → World → Prop}, (∀ j w, F' j w → F j w) → Chain P ops G R X Qn i l a F → Chain P ops G R X Qn i l a F'
  | [], _, _, _, _, h, hc => fun w hx hF => hc w hx (fun j => h j w (hF j))
  | o :: l, i, a, F, F', h, hc => by
    unfold Chain at hc ⊢
    cases hg : G i with
    | none =>
      rw [hg] at hc
      obtain ⟨v, hy, h2⟩ := hc
      exact ⟨v, hy, h2.weaken h⟩
    | some g =>
      rw [hg] at hc
      obtain ⟨hw, hp, h2⟩ := hc
      exact ⟨hw, fun w hx hF => hp w hx (fun j hj => h j w (hF j hj)), fun v hv => (h2 v hv).weaken (fun j w hj => by by_cases e : j = i <;> simp only [e, if_true, if_false] at hj ⊢ <;> first | exact hj | exact h j w hj)⟩

theorem Yields.unique {o : Oper} {v v' : Value} {a : Act} (w : World) (h : Yields P ops o v a) (h' : Yields P ops o v' a) : v = v' := by
  rcases h with ⟨h1, h2⟩ | ⟨h1, h2⟩ <;> rcases h' with ⟨g1, g2⟩ | ⟨g1, g2⟩
  · have := (h2 w).symm.trans (g2 w)
    simpa using this
  · rw [h1] at g1; cases g1
  · rw [h1] at g1; cases g1
  · rw [h2, g2]

theorem eval_agree {o : Oper} (hs : ∀ cs b, o.op ≠ .select cs b) {a a' : Act} (h : ∀ t ∈ o.looksAt ops, a.tmps.getD t undef = a'.tmps.getD t undef) : execOp a.eval o = execOp a'.eval o :=
  execOp_congr o hs fun x hx => by
    cases x with
    | tmp t => exact h t (List.mem_append_left _ (List.mem_filterMap.2 ⟨.tmp t, by simpa using hx, rfl⟩))
    | _ => rfl
theorem wanted_agree {o : Oper} {a a' : Act} (h : ∀ t ∈ o.looksAt ops, a.tmps.getD t undef = a'.tmps.getD t undef) : Region.wanted o (yielded ops a.tmps) = Region.wanted o (yielded ops a'.tmps) := by
  unfold Region.wanted
  cases hg : o.guard with
  | none => rfl
  | some gw =>
    obtain ⟨g, want⟩ := gw
    have hy : yielded ops a.tmps g = yielded ops a'.tmps g := by
      unfold yielded
      cases ht : (ops[g]?).bind (·.dst) with
      | none => rfl
      | some t =>
        have := h t (by simp [Oper.looksAt, hg, ht])
        simp only [Array.getD_eq_getD_getElem?] at this
        simp only [Option.bind_some]
        cases h1 : a.tmps[t]? <;> cases h2 : a'.tmps[t]? <;> rw [h1, h2] at this <;> simp only [Option.getD_none, Option.getD_some] at this
        · subst this; rfl
        · subst this; rfl
        · subst this; rfl
    simp only [hy]

end

structure RInv (P : Program) (ops : Array Oper) (G : Nat → Option ((Value → Prop) × (Value → World → Prop))) (X : World → Prop) (a0 : Act) (listed : Array Bool) (a : Act) (w : World) (vs : Nat → Value) : Prop where
  x : X w
  size : a.tmps.size = a0.tmps.size
  defers : a.defers = a0.defers
  slot : ∀ t, a.tmps.getD t undef = slotAt ops a0 vs (fun k => listed.getD k false) t ops.size
  closed : ∀ i j, listed.getD i false = true → preB ops i j = true → listed.getD j false = true
  pure_ : ∀ k o, ops[k]? = some o → listed.getD k false = true → G k = none → Yields P ops o (vs k) (fr ops a0 vs k)
  fact : ∀ k g, k < ops.size → listed.getD k false = true → G k = some g → g.1 (vs k) ∧ g.2 (vs k) w

section
variable {P : Program} {ops : Array Oper} {G : Nat → Option ((Value → Prop) × (Value → World → Prop))} {R : World → World → Prop} {X : World → Prop} {Qn : Act → World → Prop} {n : Nat} {a0 : Act}

theorem fr_congr (vs vs' : Nat → Value) : ∀ i, (∀ k, k < i → vs k = vs' k) → fr ops a0 vs i = fr ops a0 vs' i
  | 0, _ => rfl
  | i + 1, h => by
    unfold fr
    rw [fr_congr vs vs' i (fun k hk => h k (by omega)), h i (by omega)]

theorem descend (hne : ∀ k g, G k = some g → ∃ v, g.1 v) (hf : regionFits ops n = true) (hn : a0.tmps.size = n) (hc : Chain P ops G R X Qn 0 ops.toList a0 (fun _ _ => True)) {listed : Array Bool} {a : Act} {w : World} {vs : Nat → Value} (hI : RInv P ops G X a0 listed a w vs) :
    ∀ i, i ≤ ops.size → ∃ vs' F, (∀ k, listed.getD k false = true → vs' k = vs k) ∧ Chain P ops G R X Qn i (ops.toList.drop i) (fr ops a0 vs' i) F ∧ (∀ j w', (j < i → ∀ g, G j = some g → g.2 (vs' j) w') → F j w')
  | 0, _ => ⟨vs, fun _ _ => True, fun _ _ => rfl, hc, fun _ _ _ => trivial⟩
  | i + 1, h => by
    obtain ⟨vs', F, h1, h2, h3⟩ := descend hne hf hn hc hI i (by omega)
    have hil : i < ops.toList.length := by simp; omega
    rw [List.drop_eq_getElem_cons hil] at h2
    obtain ⟨o, ho⟩ : ∃ o, ops[i]? = some o := ⟨_, Array.getElem?_eq_getElem (by omega)⟩
    have hoe : ops.toList[i] = o := by
      have := ho
      rw [Array.getElem?_eq_getElem (by omega)] at this
      simpa using this
    rw [hoe] at h2
    unfold Chain at h2
    cases hg : G i with
    | none =>
      rw [hg] at h2
      obtain ⟨v, hy, h4⟩ := h2
      refine ⟨fun k => if k = i then v else vs' k, F, fun k hk => ?_, ?_, fun j w' hj => ?_⟩
      · by_cases hki : k = i
        · subst hki
          simp only [if_true]
          have hy2 := hI.pure_ k o ho hk hg
          refine Yields.unique w hy (hy2.of_same ?_ ?_)
          all_goals
            have hag : ∀ t ∈ o.looksAt ops, (fr ops a0 vs' k).tmps.getD t undef = (fr ops a0 vs k).tmps.getD t undef := fun t ht => by
              rw [fr_slot hf hn, fr_slot hf hn]
              refine slot_congr _ _ _ _ _ _ _ (fun j hj hd => ⟨rfl, fun _ => h1 j ?_⟩)
              obtain ⟨oj, hoj, hdj⟩ := Option.bind_eq_some_iff.1 hd
              exact hI.closed k j hk ((fits_pre hf ho hoj hdj (.inl ht) (by omega)).1 hj)
            first
              | exact eval_agree (fun cs b => fits_select hf k o cs b ho) hag
              | exact wanted_agree hag
        · simp only [if_neg hki]
          exact h1 k hk
      · rw [show fr ops a0 (fun k => if k = i then v else vs' k) (i + 1) = (fr ops a0 vs' i).put o.dst v by
          rw [fr_succ, fr_congr _ vs' i (fun k hk => by simp only [if_neg (Nat.ne_of_lt hk)]), ho]
          simp]
        exact h4
      · refine h3 j w' (fun hlt g hgj => ?_)
        have := hj (by omega) g hgj
        simpa only [if_neg (Nat.ne_of_lt hlt)] using this
    | some g =>
      rw [hg] at h2
      obtain ⟨_, _, h4⟩ := h2
      obtain ⟨v, hv, hvl⟩ : ∃ v, g.1 v ∧ (listed.getD i false = true → v = vs i) := by
        rcases hl : listed.getD i false with _ | _
        · obtain ⟨v, hv⟩ := hne i g hg
          exact ⟨v, hv, fun h => by cases h⟩
        · exact ⟨vs i, (hI.fact i g (by omega) hl hg).1, fun _ => rfl⟩
      refine ⟨fun k => if k = i then v else vs' k, fun j w => if j = i then g.2 v w else F j w, fun k hk => ?_, ?_, fun j w' hj => ?_⟩
      · by_cases hki : k = i
        · subst hki; simp only [if_true]; exact hvl hk
        · simp only [if_neg hki]; exact h1 k hk
      · rw [show fr ops a0 (fun k => if k = i then v else vs' k) (i + 1) = (fr ops a0 vs' i).put o.dst v by
          rw [fr_succ, fr_congr _ vs' i (fun k hk => by simp only [if_neg (Nat.ne_of_lt hk)]), ho]
          simp]
        exact h4 v hv
      · by_cases hji : j = i
        · subst hji
          simp only [if_true]
          have := hj (by omega) g hg
          simpa only [if_true] using this
        · simp only [if_neg hji]
          refine h3 j w' (fun hlt g' hg' => ?_)
          have := hj (by omega) g' hg'
          simpa only [if_neg hji] using this

theorem setD {listed : Array Bool} {i k : Nat} (hi : i < listed.size) : (listed.setIfInBounds i true).getD k false = if k = i then true else listed.getD k false := by
  by_cases h : k = i
  · subst h; simp [hi]
  · rw [if_neg h, getD_set_ne false (fun e => h e.symm)]

theorem RInv.step (hf : regionFits ops n = true) (hn : a0.tmps.size = n) {listed : Array Bool} (hsz : listed.size = ops.size) {a : Act} {w w' : World} {vs vs' : Nat → Value} {i : Nat} {o : Oper} {v : Value} (hI : RInv P ops G X a0 listed a w vs)
    (ho : ops[i]? = some o) (hun : listed.getD i true = false) (hpre : ∀ j, preB ops i j = true → listed.getD j false = true) (hvs : ∀ k, listed.getD k false = true → vs' k = vs k)
    (hx : X w') (hkeep : ∀ k g, k < ops.size → listed.getD k false = true → G k = some g → g.2 (vs k) w → g.2 (vs k) w') (hy : G i = none → Yields P ops o v (fr ops a0 vs' i)) (hg : ∀ g, G i = some g → g.1 v ∧ g.2 v w') :
    RInv P ops G X a0 (listed.setIfInBounds i true) (a.put o.dst v) w' (fun k => if k = i then v else vs' k) := by
  have hi : i < ops.size := (Array.getElem?_eq_some_iff.1 ho).1
  have hi' : i < listed.size := by omega
  have hunf : listed.getD i false = false := by simpa [hi'] using hun
  have hag : ∀ k ok, ops[k]? = some ok → listed.getD k false = true → ∀ t ∈ ok.looksAt ops, (fr ops a0 (fun k => if k = i then v else vs' k) k).tmps.getD t undef = (fr ops a0 vs k).tmps.getD t undef := fun k ok hok hk t ht => by
    rw [fr_slot hf hn, fr_slot hf hn]
    refine slot_congr _ _ _ _ _ _ _ (fun j hj hd => ⟨rfl, fun _ => ?_⟩)
    obtain ⟨oj, hoj, hdj⟩ := Option.bind_eq_some_iff.1 hd
    have hjl := hI.closed k j hk ((fits_pre hf hok hoj hdj (.inl ht) (by omega)).1 hj)
    have hne : j ≠ i := fun e => by rw [e, hunf] at hjl; cases hjl
    simp only [if_neg hne]
    exact hvs j hjl
  refine ⟨hx, ?_, ?_, fun t => ?_, fun k j hk hj => ?_, fun k ok hok hk hgk => ?_, fun k g hk hl hgk => ?_⟩
  · rw [← hI.size]; unfold Act.put; split <;> simp
  · rw [← hI.defers]; unfold Act.put; split <;> rfl
  · -- the slots
    have hS : ∀ j, j ≠ i → (listed.setIfInBounds i true).getD j false = listed.getD j false := fun j hj => by rw [setD hi', if_neg hj]
    by_cases hd : o.dst = some t
    · have hlt := fits_dst hf ho hd
      rw [hd, put_getD _ _ _ _ (by rw [hI.size, hn]; exact hlt), if_pos rfl]
      rw [slot_cut _ _ _ t (i + 1) ops.size (by omega) (fun j hj1 hj2 hdj => ?_)]
      · unfold slotAt
        rw [if_pos ⟨by rw [setD hi', if_pos rfl], by rw [ho]; exact hd⟩, if_pos rfl]
      · obtain ⟨oj, hoj, hdj⟩ := Option.bind_eq_some_iff.1 hdj
        rw [hS j (by omega)]
        rcases hb : listed.getD j false with _ | _
        · rfl
        · have := hI.closed j i hb ((fits_pre hf ho hoj hdj (.inr hd) (by omega)).2 (by omega))
          rw [hunf] at this; cases this
    · have e1 : (a.put o.dst v).tmps.getD t undef = a.tmps.getD t undef := by
        cases hdd : o.dst with
        | none => rfl
        | some d =>
          have hlt := fits_dst hf ho hdd
          rw [put_getD _ _ _ _ (by rw [hI.size, hn]; exact hlt), if_neg (fun e => hd (by rw [hdd, e]))]
      rw [e1, hI.slot t]
      refine slot_congr _ _ _ _ _ _ _ (fun j hj hdj => ?_)
      have hne : j ≠ i := fun e => by
        rw [e, ho] at hdj
        exact hd hdj
      rw [hS j hne]
      refine ⟨rfl, fun hl => ?_⟩
      simp only [if_neg hne]
      exact (hvs j hl).symm
  · rw [setD hi'] at hk ⊢
    by_cases hji : j = i
    · rw [if_pos hji]
    · rw [if_neg hji]
      by_cases hki : k = i
      · subst hki; exact hpre j hj
      · rw [if_neg hki] at hk
        exact hI.closed k j hk hj
  · rw [setD hi'] at hk
    by_cases hki : k = i
    · subst hki
      rw [ho] at hok; injection hok with hok; subst hok
      simp only [if_true]
      have := hy hgk
      rw [fr_congr (fun j => if j = k then v else vs' j) vs' k (fun j hj => by simp only [if_neg (Nat.ne_of_lt hj)])]
      exact this
    · rw [if_neg hki] at hk
      simp only [if_neg hki]
      rw [hvs k hk]
      have hy2 := hI.pure_ k ok hok hk hgk
      exact hy2.of_same (eval_agree (fun cs b => fits_select hf k ok cs b hok) (hag k ok hok hk)) (wanted_agree (hag k ok hok hk))
  · rw [setD hi'] at hl
    by_cases hki : k = i
    · subst hki
      simp only [if_true]
      exact hg g hgk
    · rw [if_neg hki] at hl
      simp only [if_neg hki]
      rw [hvs k hl]
      exact ⟨(hI.fact k g hk hl hgk).1, hkeep k g hk hl hgk (hI.fact k g hk hl hgk).2⟩

def toCome (listed : Array Bool) : Nat := listed.count false
theorem toCome_set {listed : Array Bool} {i : Nat} (hi : i < listed.size) (h : listed.getD i true = false) : toCome (listed.setIfInBounds i true) + 1 = toCome listed := by
  have hb : listed[i] = false := by simpa [hi] using h
  unfold toCome
  rw [Array.setIfInBounds, dif_pos hi, Array.count_set]
  simp only [hb]
  have : 0 < listed.count false := Array.count_pos_iff.2 (hb ▸ Array.getElem_mem hi)
  simp
  omega
theorem toCome_zero {listed : Array Bool} (h : toCome listed = 0) (k : Nat) (hk : k < listed.size) : listed.getD k false = true := by
  have := Array.count_eq_zero.1 h
  rcases hb : listed[k] with _ | _
  · exact absurd (hb ▸ Array.getElem_mem hk) this
  · simp [hk, hb]

theorem RInv.done (hne : ∀ k g, G k = some g → ∃ v, g.1 v) (hf : regionFits ops n = true) (hn : a0.tmps.size = n) (hc : Chain P ops G R X Qn 0 ops.toList a0 (fun _ _ => True)) {listed : Array Bool} {a : Act} {w : World} {vs : Nat → Value} (hI : RInv P ops G X a0 listed a w vs) (hall : ∀ k, k < ops.size → listed.getD k false = true) : Qn a w := by
  obtain ⟨vs', F, h1, h2, h3⟩ := descend hne hf hn hc hI ops.size (Nat.le_refl _)
  rw [List.drop_of_length_le (by simp)] at h2
  unfold Chain at h2
  have ha : a = fr ops a0 vs' ops.size := by
    have hs := fr_size (ops := ops) a0 vs' ops.size
    have ht : a.tmps = (fr ops a0 vs' ops.size).tmps := by
      apply Array.ext
      · rw [hI.size, hs.1]
      · intro t h4 h5
        have e1 := hI.slot t
        have e2 := fr_slot hf hn vs' t ops.size
        have e3 : slotAt ops a0 vs (fun k => listed.getD k false) t ops.size = slotAt ops a0 vs' (fun _ => true) t ops.size :=
          slot_congr _ _ _ _ _ _ _ (fun j hj _ => ⟨hall j hj, fun _ => (h1 j (hall j hj)).symm⟩)
        rw [e3, ← e2] at e1
        simpa [h4, h5] using e1
    have hd : a.defers = (fr ops a0 vs' ops.size).defers := by rw [hI.defers, hs.2]
    cases a
    cases hfr : fr ops a0 vs' ops.size
    rw [hfr] at ht hd
    simp only at ht hd
    rw [ht, hd]
  rw [ha]
  refine h2 w hI.x (fun j => h3 j w (fun hlt g hg => ?_))
  rw [h1 j (hall j hlt)]
  exact (hI.fact j g hlt (hall j hlt) hg).2

theorem put_same {a1 a2 : Act} {dst : Option Tmp} {v v' : Value} (hs : a2.tmps.size = a1.tmps.size) (h : a1.put dst v = a1.put dst v') : a2.put dst v = a2.put dst v' := by
  cases dst with
  | none => rfl
  | some d =>
    by_cases hd : d < a1.tmps.size
    · have := congrArg (fun x : Act => x.tmps.getD d undef) h
      rw [put_getD _ _ _ _ hd, put_getD _ _ _ _ hd, if_pos rfl, if_pos rfl] at this
      rw [this]
    · have hd2 : ¬ d < a2.tmps.size := by rw [hs]; exact hd
      unfold Act.put
      simp only [Array.setIfInBounds, dif_neg hd2]
theorem put_defers_eq (a : Act) (dst : Option Tmp) (v : Value) : (a.put dst v).defers = a.defers := by cases dst <;> rfl
theorem upon_move {o : Oper} {a1 a2 : Act} {S : Value → World → Prop} {K : Act → World → Prop} {Q : Exit → Act → World → Prop} {r : Result Next} (hs : a2.tmps.size = a1.tmps.size)
    (h : o.upon P a1 (fun a' w' => ∃ v, a' = a1.put o.dst v ∧ S v w') (fun _ _ _ => False) r) (hK : ∀ v w', S v w' → K (a2.put o.dst v) w') : o.upon P a2 K Q r := by
  cases r with
  | ok x w' =>
    cases x with
    | value v =>
      obtain ⟨v', he, hS⟩ := h
      show K (a2.put o.dst v) w'
      rw [put_same hs he]
      exact hK v' w' hS
    | skip =>
      obtain ⟨v', he, hS⟩ := h
      show K (a2.put o.dst undef) w'
      rw [put_same hs he]
      exact hK v' w' hS
    | defer d =>
      obtain ⟨v', he, hS⟩ := h
      have := congrArg (fun x : Act => x.defers.length) he
      simp [put_defers_eq] at this
    | enter f args =>
      refine Calls.mono h (fun e w'' he => ?_)
      cases e with
      | returned v =>
        obtain ⟨v', he, hS⟩ := he
        show K (a2.put o.dst v) w''
        rw [put_same hs he]
        exact hK v' w'' hS
      | panicked c => exact he.elim
      | outgrown =>
        obtain ⟨_, _, hf⟩ := he
        exact hf.elim
    | row row args =>
      refine Rows.mono h (fun v w'' he => ?_)
      obtain ⟨v', he, hS⟩ := he
      show K (a2.put o.dst v) w''
      rw [put_same hs he]
      exact hK v' w'' hS
    | _ => exact (h : False).elim
  | halt x w' =>
    cases x with
    | panic v => exact (h : False).elim
    | _ => exact (h : False).elim

theorem wpAny_chain {Q : Exit → Act → World → Prop} (hne : ∀ k g, G k = some g → ∃ v, g.1 v) (hf : regionFits ops n = true) (hn : a0.tmps.size = n) (hst : ∀ k g, G k = some g → ∀ v w w', R w w' → g.2 v w → g.2 v w') (hc : Chain P ops G R X (Q .normal) 0 ops.toList a0 (fun _ _ => True)) :
    ∀ (fuel : Nat) (listed : Array Bool) (a : Act) (w : World) (vs : Nat → Value), listed.size = ops.size → toCome listed ≤ fuel → RInv P ops G X a0 listed a w vs → wpAny P .any ops Q fuel listed a w := by
  intro fuel
  induction fuel with
  | zero =>
    intro listed a w vs hsz hle hI
    have hall : ∀ k, k < ops.size → listed.getD k false = true := fun k hk => toCome_zero (by omega) k (by omega)
    refine wpAny_done ?_ (hI.done hne hf hn hc hall) 0
    refine List.eq_nil_iff_forall_not_mem.2 (fun i hi => ?_)
    obtain ⟨h1, o, ho, _⟩ := mem_ready.1 hi
    have hlt := (Array.getElem?_eq_some_iff.1 ho).1
    have := hall i hlt
    have hlt2 : i < listed.size := by omega
    simp [hlt2] at h1 this
    rw [h1] at this; cases this
  | succ fuel ih =>
    intro listed a w vs hsz hle hI
    refine ⟨fun hr => ?_, fun i hi => ?_⟩
    · refine hI.done hne hf hn hc (fun k hk => ?_)
      suffices h : ∀ m k, k ≤ m → k < ops.size → listed.getD k false = true from h k k (Nat.le_refl _) hk
      intro m
      induction m with
      | zero =>
        intro k hk0 hk
        obtain rfl : k = 0 := by omega
        rcases hb : listed.getD 0 false with _ | _
        · exfalso
          have hlt2 : 0 < listed.size := by omega
          have hmem : 0 ∈ Region.ready .any ops listed := mem_ready.2 ⟨by simpa [hlt2] using hb, _, Array.getElem?_eq_getElem hk, fun e he hbd => absurd (fits_edge hf (Array.getElem?_eq_getElem hk) he hbd) (by omega)⟩
          rw [hr] at hmem; cases hmem
        · rfl
      | succ m ihm =>
        intro k hkm hk
        rcases Nat.lt_or_ge k (m + 1) with h | h
        · exact ihm k (by omega) hk
        · obtain rfl : k = m + 1 := by omega
          rcases hb : listed.getD (m + 1) false with _ | _
          · exfalso
            have hlt2 : m + 1 < listed.size := by omega
            have hmem : m + 1 ∈ Region.ready .any ops listed := mem_ready.2 ⟨by simpa [hlt2] using hb, _, Array.getElem?_eq_getElem hk, fun e he hbd => by
              have := fits_edge hf (Array.getElem?_eq_getElem hk) he hbd
              exact ihm e.on (by omega) (by omega)⟩
            rw [hr] at hmem; cases hmem
          · rfl
    · obtain ⟨hun, o, ho, hall⟩ := mem_ready.1 hi
      have hlt := (Array.getElem?_eq_some_iff.1 ho).1
      have hlt2 : i < listed.size := by omega
      have hunf : listed.getD i false = false := by simpa [hlt2] using hun
      have hpre : ∀ j, preB ops i j = true → listed.getD j false = true := fun j hj => by
        obtain ⟨e, he, hb, h⟩ := pre_step ho hj
        rcases h with h | h
        · rw [← h]; exact hall e he hb
        · exact hI.closed e.on j (hall e he hb) h
      obtain ⟨vs', F, h1, h2, h3⟩ := descend hne hf hn hc hI i (by omega)
      have hil : i < ops.toList.length := by simp; omega
      rw [List.drop_eq_getElem_cons hil] at h2
      have hoe : ops.toList[i] = o := by
        have := ho
        rw [Array.getElem?_eq_getElem (by omega)] at this
        simpa using this
      rw [hoe] at h2
      have hag : ∀ t ∈ o.looksAt ops, a.tmps.getD t undef = (fr ops a0 vs' i).tmps.getD t undef := fun t ht => by
        rw [hI.slot t, fr_slot hf hn]
        rw [slot_cut _ _ _ t i ops.size (by omega) (fun j hj1 hj2 hdj => ?_)]
        · refine slot_congr _ _ _ _ _ _ _ (fun j hj hdj => ?_)
          obtain ⟨oj, hoj, hd⟩ := Option.bind_eq_some_iff.1 hdj
          have hjl := hpre j ((fits_pre hf ho hoj hd (.inl ht) (by omega)).1 hj)
          exact ⟨hjl, fun _ => (h1 j hjl).symm⟩
        · rcases Nat.lt_or_ge i j with h | h
          · obtain ⟨oj, hoj, hd⟩ := Option.bind_eq_some_iff.1 hdj
            rcases hb : listed.getD j false with _ | _
            · rfl
            · have := hI.closed j i hb ((fits_pre hf ho hoj hd (.inl ht) (by omega)).2 h)
              rw [hunf] at this; cases this
          · obtain rfl : j = i := by omega
            exact hunf
      have he := eval_agree (fun cs b => fits_select hf i o cs b ho) hag
      have hw := wanted_agree hag
      have hsz2 : a.tmps.size = (fr ops a0 vs' i).tmps.size := by rw [hI.size, (fr_size a0 vs' i).1]
      have hcount : toCome (listed.setIfInBounds i true) ≤ fuel := by have := toCome_set hlt2 hun; omega
      unfold Chain at h2
      cases hg : G i with
      | none =>
        rw [hg] at h2
        obtain ⟨v, hy, _⟩ := h2
        have hya : Yields P ops o v a := hy.of_same he hw
        refine hya.wpOp ho ?_
        refine ih _ _ _ (fun k => if k = i then v else vs' k) (by simp [hsz]) hcount ?_
        exact hI.step hf hn hsz ho hun hpre h1 hI.x (fun _ _ _ _ _ h => h) (fun _ => hy) (fun g h => by rw [hg] at h; cases h)
      | some g =>
        rw [hg] at h2
        obtain ⟨hwant, hp, _⟩ := h2
        have hp2 := hp w hI.x (fun j hj => h3 j w (fun hlt' g' hg' => by
          have hjl := hpre j hj
          rw [h1 j hjl]
          exact (hI.fact j g' (by omega) hjl hg').2))
        unfold wpOp
        simp only [ho, hw, hwant, if_true]
        left
        unfold Oper.wp at hp2 ⊢
        rw [he]
        refine upon_move hsz2 hp2 (fun v w' hS => ?_)
        obtain ⟨hR, hX, hcv, hgv⟩ := hS
        refine ih _ _ _ (fun k => if k = i then v else vs' k) (by simp [hsz]) hcount ?_
        exact hI.step hf hn hsz ho hun hpre h1 hX (fun k g' hk hl hgk h => hst k g' hgk _ _ _ hR h) (fun h => by rw [hg] at h; cases h) (fun g' h => by rw [hg] at h; injection h with h; subst h; exact ⟨hcv, hgv⟩)

theorem wp_region_chain {id : Nat} {Q : Exit → Act → World → Prop} {w0 : World} (G : Nat → Option ((Value → Prop) × (Value → World → Prop))) (R : World → World → Prop) (X : World → Prop) (hm : P.follows .mixedOrders = true) (n : Nat) (hf : regionFits ops n = true) (hn : a0.tmps.size = n)
    (hne : ∀ k g, G k = some g → ∃ v, g.1 v) (hst : ∀ k g, G k = some g → ∀ v w w', R w w' → g.2 v w → g.2 v w') (hx : X w0.drew) (hc : Chain P ops G R X (Q .normal) 0 ops.toList a0 (fun _ _ => True)) : (Code.region id ops true).wp P Q a0 w0 :=
  wp_region_any hm (by
    have hsz : (Array.replicate ops.size false).size = ops.size := by simp
    have hrep : ∀ k, (Array.replicate ops.size false).getD k false = false := fun k => by
      simp only [Array.getD_eq_getD_getElem?, Array.getElem?_replicate]
      split <;> rfl
    refine wpAny_chain hne hf hn hst hc ops.size _ a0 _ (fun _ => undef) hsz ?_ ⟨hx, rfl, rfl, fun t => ?_, fun i j h => ?_, fun k o _ h => ?_, fun k g hk h => ?_⟩
    · unfold toCome; rw [Array.count_replicate]; simp
    · have : ∀ k, slotAt ops a0 (fun _ => undef) (fun k => (Array.replicate ops.size false).getD k false) t k = a0.tmps.getD t undef := by
        intro k
        induction k with
        | zero => rfl
        | succ k ih =>
          unfold slotAt
          rw [if_neg (fun h => ?_), ih]
          have := h.1
          rw [hrep] at this
          cases this
      rw [this]
    · rw [hrep] at h; cases h
    · rw [hrep] at h; cases h
    · rw [hrep] at h; cases h)

def known (L : List (Nat × Value)) (k : Nat) : Option ((Value → Prop) × (Value → World → Prop)) := (L.lookup k).map fun c => (isV c, noFact)
theorem wp_region_known {id : Nat} {Q : Exit → Act → World → Prop} {w0 : World} (L : List (Nat × Value)) (hm : P.follows .mixedOrders = true) (n : Nat) (hf : regionFits ops n = true) (hn : a0.tmps.size = n)
    (hc : Chain P ops (known L) (fun w w' => Below w.heap.size w w') (fun w => Below w0.heap.size w0 w) (Q .normal) 0 ops.toList a0 (fun _ _ => True)) : (Code.region id ops true).wp P Q a0 w0 :=
  wp_region_chain (known L) _ _ hm n hf hn
    (fun k g h => by
      unfold known at h
      cases hl : L.lookup k with
      | none => rw [hl] at h; cases h
      | some c => rw [hl] at h; injection h with h; subst h; exact ⟨c, rfl⟩)
    (fun k g h v w w' _ hv => by
      unfold known at h
      cases hl : L.lookup k with
      | none => rw [hl] at h; cases h
      | some c => rw [hl] at h; injection h with h; subst h; trivial)
    (Below.refl _ _).drew hc
theorem Chain.call {L : List (Nat × Value)} {w0 : World} {i : Nat} {o : Oper} {rest : List Oper} {a a' : Act} {i' : Nat} (c : Value) (hG : L.lookup i = some c) (hw : Region.wanted o (yielded ops a.tmps) = true) (hi : i + 1 = i')
    (hp : ∀ w, Below w0.heap.size w0 w → o.wp P a w (fun a' w' => a' = a.put o.dst c ∧ Below w.heap.size w w') (fun _ _ _ => False))
    (ha : a.put o.dst c = a') (hc : Chain P ops (known L) (fun w w' => Below w.heap.size w w') (fun w => Below w0.heap.size w0 w) Qn i' rest a' (fun _ _ => True)) : Chain P ops (known L) (fun w w' => Below w.heap.size w w') (fun w => Below w0.heap.size w0 w) Qn i (o :: rest) a (fun _ _ => True) := by
  subst ha; subst hi
  refine Chain.exact c noFact (by unfold known; rw [hG]; rfl) hw (fun w hx _ => Oper.wp_mono (fun _ w' ⟨h1, h2⟩ => ⟨h1, h2, below_trans hx h2, trivial⟩) (hp w hx)) ?_
  exact Chain.weaken (F := fun _ _ => True) (fun _ _ _ => trivial) hc

def atF (M : List (Nat × (World → Prop))) : Nat → World → Prop := fun j w => match M.lookup j with
  | some p => p w
  | none => True
theorem wp_region_facts {id : Nat} {Q : Exit → Act → World → Prop} {w0 : World} (L : List (Nat × ((Value → Prop) × (Value → World → Prop)))) (hm : P.follows .mixedOrders = true) (n : Nat) (hf : regionFits ops n = true) (hn : a0.tmps.size = n)
    (hne : ∀ k g, L.lookup k = some g → ∃ v, g.1 v) (hst : ∀ k g, L.lookup k = some g → ∀ v w w', Below w.heap.size w w' → g.2 v w → g.2 v w')
    (hc : Chain P ops (fun k => L.lookup k) (fun w w' => Below w.heap.size w w') (fun w => Below w0.heap.size w0 w) (Q .normal) 0 ops.toList a0 (atF [])) : (Code.region id ops true).wp P Q a0 w0 :=
  wp_region_chain (fun k => L.lookup k) _ _ hm n hf hn hne hst (Below.refl _ _).drew (Chain.weaken (fun _ _ _ => trivial) hc)
theorem Chain.call' {L : List (Nat × ((Value → Prop) × (Value → World → Prop)))} {M : List (Nat × (World → Prop))} {w0 : World} {i : Nat} {o : Oper} {rest : List Oper} {a a' : Act} {i' : Nat} (c : Value) (hG : L.lookup i = some (isV c, noFact)) (hM : M.lookup i = none) (hw : Region.wanted o (yielded ops a.tmps) = true) (hi : i + 1 = i')
    (hp : ∀ w, Below w0.heap.size w0 w → (∀ j, preB ops i j = true → atF M j w) → o.wp P a w (fun a' w' => a' = a.put o.dst c ∧ Below w.heap.size w w') (fun _ _ _ => False))
    (ha : a.put o.dst c = a') (hc : Chain P ops (fun k => L.lookup k) (fun w w' => Below w.heap.size w w') (fun w => Below w0.heap.size w0 w) Qn i' rest a' (atF M)) : Chain P ops (fun k => L.lookup k) (fun w w' => Below w.heap.size w w') (fun w => Below w0.heap.size w0 w) Qn i (o :: rest) a (atF M) := by
  subst ha; subst hi
  refine Chain.exact c noFact hG hw (fun w hx hF => Oper.wp_mono (fun _ w' ⟨h1, h2⟩ => ⟨h1, h2, below_trans hx h2, trivial⟩) (hp w hx hF)) ?_
  refine Chain.weaken (fun j w h => ?_) hc
  by_cases hj : j = i
  · subst hj; unfold atF; rw [hM]; trivial
  · rw [if_neg hj] at h; exact h
theorem Chain.make {L : List (Nat × ((Value → Prop) × (Value → World → Prop)))} {M : List (Nat × (World → Prop))} {w0 : World} {i : Nat} {o : Oper} {rest : List Oper} {a : Act} {i' : Nat} (C : Value → Prop) (g : Value → World → Prop) (hG : L.lookup i = some (C, g)) (hw : Region.wanted o (yielded ops a.tmps) = true) (hi : i + 1 = i')
    (hp : ∀ w, Below w0.heap.size w0 w → (∀ j, preB ops i j = true → atF M j w) → o.wp P a w (fun a' w' => ∃ v, a' = a.put o.dst v ∧ Below w.heap.size w w' ∧ C v ∧ g v w') (fun _ _ _ => False))
    (hc : ∀ v, C v → ∀ a', a.put o.dst v = a' → Chain P ops (fun k => L.lookup k) (fun w w' => Below w.heap.size w w') (fun w => Below w0.heap.size w0 w) Qn i' rest a' (atF ((i, g v) :: M))) : Chain P ops (fun k => L.lookup k) (fun w w' => Below w.heap.size w w') (fun w => Below w0.heap.size w0 w) Qn i (o :: rest) a (atF M) := by
  subst hi
  refine Chain.fact C g hG hw (fun w hx hF => Oper.wp_mono (fun _ w' ⟨v, h1, h2, h3, h4⟩ => ⟨v, h1, h2, below_trans hx h2, h3, h4⟩) (hp w hx hF)) (fun v hv => ?_)
  refine Chain.weaken (fun j w h => ?_) (hc v hv _ rfl)
  by_cases hj : j = i
  · subst hj; rw [if_pos rfl] at h; unfold atF; simpa using h
  · rw [if_neg hj] at h
    unfold atF at h ⊢
    have : (j == i) = false := by simpa using hj
    rw [List.lookup_cons, this]
    exact h
theorem lookup_ne {L : List (Nat × ((Value → Prop) × (Value → World → Prop)))} (h : ∀ x ∈ L, ∃ v, x.2.1 v) : ∀ k g, L.lookup k = some g → ∃ v, g.1 v := by
  intro k g hk
  induction L with
  | nil => cases hk
  | cons x L ih =>
    obtain ⟨k', g'⟩ := x
    rw [List.lookup_cons] at hk
    split at hk
    · injection hk with hk; subst hk; exact h (k', g') (by simp)
    · exact ih (fun x hx => h x (by simp [hx])) hk
theorem lookup_st {L : List (Nat × ((Value → Prop) × (Value → World → Prop)))} (h : ∀ x ∈ L, ∀ v w w', Below w.heap.size w w' → x.2.2 v w → x.2.2 v w') : ∀ k g, L.lookup k = some g → ∀ v w w', Below w.heap.size w w' → g.2 v w → g.2 v w' := by
  intro k g hk
  induction L with
  | nil => cases hk
  | cons x L ih =>
    obtain ⟨k', g'⟩ := x
    rw [List.lookup_cons] at hk
    split at hk
    · injection hk with hk; subst hk; exact h (k', g') (by simp)
    · exact ih (fun x hx => h x (by simp [hx])) hk
def isSl (n : Nat) : Value → Prop := fun v => ∃ A c, v = .slice A n c ∧ n ≤ c
theorem isSl_some (n : Nat) : ∃ v, isSl n v := ⟨.slice none n n, none, n, rfl, Nat.le_refl _⟩
end
end Go.Bar
