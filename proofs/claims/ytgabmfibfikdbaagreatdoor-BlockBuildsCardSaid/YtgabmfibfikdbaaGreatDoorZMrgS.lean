/-
 Layer 14: the plain theory of a stable sort by merging in place: rows as functions, exchanges, rotations; no program in sight; no condition.
-/
import Derived.Test.YtgabmfibfikdbaaGreatDoorZLib1
import Derived.Test.YtgabmfibfikdbaaGreatDoorZLib4
import Derived.Lib.Strings

namespace Go.Bar.Mrg
open Go.RowKit Go.Bar

section
variable {α : Type}
def row (n : Nat) (f : Nat -> α) : List α := (List.range n).map f

def PermOn (a b : Nat) (f g : Nat -> α) : Prop := ∃ s t : Nat -> Nat, (∀ k, s (t k) = k /\ t (s k) = k) /\ (∀ k, ¬ (a <= k /\ k < b) -> s k = k) /\ g = fun k => f (s k)
theorem PermOn.refl (a b : Nat) (f : Nat -> α) : PermOn a b f f := ⟨id, id, fun _ => ⟨rfl, rfl⟩, fun _ _ => rfl, rfl⟩
theorem PermOn.trans {a b : Nat} {f g h : Nat -> α} (h1 : PermOn a b f g) (h2 : PermOn a b g h) : PermOn a b f h := by
 obtain ⟨s, t, p, q, rfl⟩ := h1
 obtain ⟨s', t', p', q', rfl⟩ := h2
 refine ⟨fun k => s (s' k), fun k => t' (t k), fun k => ⟨by show s (s' (t' (t k))) = k; rw [(p' _).1, (p _).1], by show t' (t (s (s' k))) = k; rw [(p _).2, (p' _).2]⟩, fun k hk => by show s (s' k) = k; rw [q' k hk, q k hk], rfl⟩
theorem PermOn.mono {a b a' b' : Nat} {f g : Nat -> α} (h : PermOn a b f g) (h1 : a' <= a) (h2 : b <= b') : PermOn a' b' f g := by
 obtain ⟨s, t, p, q, e⟩ := h
 exact ⟨s, t, p, fun k hk => q k (by omega), e⟩
theorem PermOn.out {a b : Nat} {f g : Nat -> α} (h : PermOn a b f g) {k : Nat} (hk : ¬ (a <= k /\ k < b)) : g k = f k := by
 obtain ⟨s, t, p, q, rfl⟩ := h
 show f (s k) = f k
 rw [q k hk]
theorem perm_in {a b : Nat} {s t : Nat -> Nat} (p : ∀ k, s (t k) = k /\ t (s k) = k) (q : ∀ k, ¬ (a <= k /\ k < b) -> s k = k) {k : Nat} (hk : a <= k /\ k < b) : a <= s k /\ s k < b := by
 by_cases h : a <= s k /\ s k < b
 ·exact h
 ·have h1 := q (s k) h
  have h2 := congrArg t h1
  rw [(p _).2, (p _).2] at h2
  rw [h2] at h
  exact absurd hk h
theorem PermOn.all {a b : Nat} {f g : Nat -> α} (h : PermOn a b f g) {P : α -> Prop} (hP : ∀ k, a <= k -> k < b -> P (f k)) : ∀ k, a <= k -> k < b -> P (g k) := by
 obtain ⟨s, t, p, q, rfl⟩ := h
 intro k h1 h2
 have := perm_in p q ⟨h1, h2⟩
 exact hP _ this.1 this.2
def rs (a m b k : Nat) : Nat := if a <= k /\ k < b then (if k < a + (b - m) then k - a + m else k - (b - m)) else k
def rt (a m b k : Nat) : Nat := if a <= k /\ k < b then (if k < m then k + (b - m) else k - m + a) else k

variable {lt : α -> α -> Prop}
def Sor (lt : α -> α -> Prop) (a b : Nat) (f : Nat -> α) : Prop := ∀ i j, a <= i -> i < j -> j < b -> lt (f i) (f j)
theorem Sor.mono {a b a' b' : Nat} {f : Nat -> α} (h : Sor lt a b f) (h1 : a <= a') (h2 : b' <= b) : Sor lt a' b' f := fun i j hi hij hj => h i j (by omega) hij (by omega)
theorem Sor.congr {a b : Nat} {f g : Nat -> α} (h : Sor lt a b f) (he : ∀ k, a <= k -> k < b -> g k = f k) : Sor lt a b g := fun i j hi hij hj => by
 rw [he i hi (by omega), he j (by omega) hj]
 exact h i j hi hij hj
end
end Go.Bar.Mrg

namespace Go.Bar.Xor
abbrev Sm := Int × Nat
end Go.Bar.Xor
namespace Go.Proofs.YtgabmfibfikdbaaGreatDoor
open Go.RowKit Go.Bar Go.Bar.Xor

def smc (l : List Sm) : List Value := l.flatMap fun x => [.int .i64 x.1, .int .u64 (x.2 : Nat)]
def SmsAt (w : World) (v : Value) (l : List Sm) : Prop := SlAt w 2 v l.length (smc l)
theorem SmsAt.below {w w' : World} {v : Value} {l : List Sm} (h : SmsAt w v l) (hb : Below w.heap.size w w') : SmsAt w' v l := SlAt.below h hb
theorem SmsAt.shape {w : World} {v : Value} {l : List Sm} (h : SmsAt w v l) : ∃ A c, v = .slice A l.length c /\ l.length <= c /\ c <= maxLen := SlAt.shape h
theorem SmsAt.at_ {w : World} {A : Option Addr} {n c i : Nat} {l : List Sm} {x : Sm} (h : SmsAt w (.slice A n c) l) (hi : l[i]? = some x) : ∃ b o, A = some ⟨b, o, none⟩ /\ b < w.heap.size /\ w.cell? ⟨b, o + i * 2, none⟩ = some (.int .i64 x.1) /\ w.cell? ⟨b, o + i * 2 + 1, none⟩ = some (.int .u64 (x.2 : Nat)) := by
 have hlt : i < l.length := (List.getElem?_eq_some_iff.1 hi).1
 obtain ⟨A', c', he, _⟩ := h.shape
 injection he with h1 h2 h3
 subst h1; subst h2; subst h3
 obtain ⟨b, o, rfl, hb, hc⟩ := SlAt.cells h (by omega)
 obtain ⟨g1, g2⟩ := flat2 (fun x : Sm => Value.int .i64 x.1) (fun x : Sm => Value.int .u64 (x.2 : Nat)) l i x hi
 exact ⟨b, o, rfl, hb, hc _ _ g1, hc _ _ g2⟩
theorem sm_ty : ElemTy Tryz.prog 32 41 (.agg #[.int .i64 0, .int .u64 0]) 2 16 :=
 ⟨Tryz.underlying32, info_parts (show (Tryz.prog.info? 41).map (fun i => (i.zero, i.size, i.bytes)) = some (some (.agg #[.int .i64 0, .int .u64 0]), 2, 16) by kernel_rfl), rfl⟩
theorem smc_append (l m : List Sm) : smc (l ++ m) = smc l ++ smc m := List.flatMap_append
theorem smc1 (l : List Sm) : ∀ u ∈ smc l, u.oneCell' = true := by
 intro u hu
 unfold smc at hu
 obtain ⟨x, _, hx⟩ := List.mem_flatMap.1 hu
 simp only [List.mem_cons, List.not_mem_nil, or_false] at hx
 rcases hx with rfl | rfl <;> rfl
theorem smc_snoc (l : List Sm) (x : Sm) : smc (l ++ [x]) = smc l ++ [.int .i64 x.1, .int .u64 (x.2 : Nat)] := by simp [smc]

theorem smc_len (l : List Sm) : (smc l).length = l.length * 2 := flat2_length _ _ l
theorem smc_take (l : List Sm) (k : Nat) : (smc l).take (k * 2) = smc (l.take k) := flat2_take _ _ l k
theorem smc_app (l m : List Sm) : smc (l ++ m) = smc l ++ smc m := List.flatMap_append
theorem smc_drop (l : List Sm) (k : Nat) : (smc l).drop (k * 2) = smc (l.drop k) := by
 have h : smc l = smc (l.take k) ++ smc (l.drop k) := by rw [<- smc_app, List.take_append_drop]
 by_cases hk : k <= l.length
 ·rw [h, List.drop_append_of_le_length (by rw [smc_len, List.length_take]; omega), List.drop_of_length_le (by rw [smc_len, List.length_take]; omega), List.nil_append]
 ·rw [List.drop_of_length_le (by rw [smc_len]; omega), List.drop_of_length_le (by omega)]; rfl
theorem smc_one (l : List Sm) : ∀ u ∈ smc l, u.oneCell' = true := by
 intro u hu
 unfold smc at hu
 obtain ⟨x, _, hx⟩ := List.mem_flatMap.1 hu
 simp only [List.mem_cons, List.not_mem_nil, or_false] at hx
 rcases hx with rfl | rfl <;> rfl
end Go.Proofs.YtgabmfibfikdbaaGreatDoor

namespace Go.Bar.Mrg
open Go.RowKit Go.Bar Go.Bar.Xor

abbrev Tg := Sm × Nat
def lt2 (x y : Tg) : Prop := x.1.1 < y.1.1 \/ (x.1.1 = y.1.1 /\ x.2 < y.2)
theorem lt2_le {x y : Tg} (h : lt2 x y) : x.1.1 <= y.1.1 := by unfold lt2 at *; omega
theorem Sor.le {a b : Nat} {F : Nat -> Tg} (h : Sor lt2 a b F) {i j : Nat} (hi : a <= i) (hij : i <= j) (hj : j < b) : (F i).1.1 <= (F j).1.1 := by
 rcases Nat.lt_or_ge i j with h1 | h1
 ·exact lt2_le (h i j hi h1 hj)
 ·obtain rfl : i = j := by omega
  exact Int.le_refl _

section
variable {α : Type} {x s m e y k : Nat} {F : Nat -> Tg}
variable (hs : x <= s) (hsm : s <= m) (hm : m <= e) (hy : e <= y) (h1 : Sor lt2 x m F) (h2 : Sor lt2 m y F)
include hs hsm hm hy h1 h2
end

structure Cut (x m y nn lo hi s r : Nat) (F : Nat -> Tg) : Prop where
 cl : lo <= s
 sr : s <= r
 ch : r <= hi
 a : ∀ k, lo <= k -> k < s -> ¬ (F (nn - 1 - k)).1.1 < (F k).1.1
 b : ∀ k, r <= k -> k < hi -> (F (nn - 1 - k)).1.1 < (F k).1.1
structure Bnd (x m y md lo hi : Nat) : Prop where
 lohi : lo <= hi
 xlo : x <= lo
 him : hi <= m
 a : ∀ k, lo <= k -> k < hi -> m <= md + m - 1 - k /\ md + m - 1 - k < y
 top : hi = md \/ hi = m
 bot : lo = md + m - y /\ y <= md + m \/ lo = x /\ m <= md
section
variable {x m y md lo hi s r : Nat} {F : Nat -> Tg}
theorem Cut.step (B : Bnd x m y md lo hi) (h1 : Sor lt2 x m F) (h2 : Sor lt2 m y F) (h : Cut x m y (md + m) lo hi s r F) (_hsr : s < r) {c : Nat} (hc : s <= c) (hcr : c < r) :
  (¬ (F (md + m - 1 - c)).1.1 < (F c).1.1 -> Cut x m y (md + m) lo hi (c + 1) r F) /\ ((F (md + m - 1 - c)).1.1 < (F c).1.1 -> Cut x m y (md + m) lo hi s c F) := by
 have g1 := h.cl; have g2 := h.ch; have g3 := B.xlo; have g4 := B.him
 have hcc := B.a c (by omega) (by omega)
 constructor
 ·intro hn
  refine ⟨by omega, by omega, h.ch, fun k k1 k2 => ?_, h.b⟩
  have hk := B.a k k1 (by omega)
  have l1 := h1.le (i := k) (j := c) (by omega) (by omega) (by omega)
  have l2 := h2.le (i := md + m - 1 - c) (j := md + m - 1 - k) hcc.1 (by omega) hk.2
  omega
 ·intro hp
  refine ⟨h.cl, hc, by omega, h.a, fun k k1 k2 => ?_⟩
  have hk := B.a k (by omega) k2
  have l1 := h1.le (i := c) (j := k) (by omega) k1 (by omega)
  have l2 := h2.le (i := md + m - 1 - k) (j := md + m - 1 - c) hk.1 (by omega) hcc.2
  omega
theorem Cut.start (B : Bnd x m y md lo hi) : Cut x m y (md + m) lo hi lo hi F := ⟨Nat.le_refl _, B.lohi, Nat.le_refl _, fun _ _ _ => by omega, fun _ _ _ => by omega⟩
end

end Go.Bar.Mrg

namespace Go.Bar.Mrg
open Go.RowKit Go.Bar Go.Bar.Xor

def Ris (l : List Sm) : Prop := l.Pairwise (fun a b => a.1 < b.1)
def lk (l : List Sm) (t : Int) : Option Sm := l.find? (fun z => z.1 == t)
theorem lk_nil (t : Int) : lk [] t = none := rfl
theorem lk_cons (x : Sm) (l : List Sm) (t : Int) : lk (x :: l) t = if x.1 = t then some x else lk l t := by
 unfold lk
 rw [List.find?_cons]
 by_cases h : x.1 = t
 ·rw [if_pos h, show (x.1 == t) = true from beq_iff_eq.2 h]
 ·rw [if_neg h, show (x.1 == t) = false from beq_eq_false_iff_ne.2 h]
theorem lk_some {l : List Sm} {t : Int} {x : Sm} (h : lk l t = some x) : x ∈ l /\ x.1 = t := by
 unfold lk at h
 exact ⟨List.mem_of_find?_eq_some h, by have := List.find?_some h; simpa using this⟩
theorem lk_none {l : List Sm} {t : Int} : lk l t = none ↔ ∀ x ∈ l, x.1 ≠ t := by
 unfold lk
 rw [List.find?_eq_none]
 simp
theorem Ris.mem {l : List Sm} (h : Ris l) {x : Sm} (hx : x ∈ l) : lk l x.1 = some x := by
 induction l with
 | nil => simp at hx
 | cons y l ih =>
  obtain ⟨h1, h2⟩ := List.pairwise_cons.1 h
  rw [lk_cons]
  rcases List.mem_cons.1 hx with rfl | hx
  ·rw [if_pos rfl]
  ·rw [if_neg (by have := h1 x hx; omega), ih h2 hx]
theorem ris_ext {a b : List Sm} (ha : Ris a) (hb : Ris b) (h : ∀ t, lk a t = lk b t) : a = b := by
 induction a generalizing b with
 | nil =>
  cases b with
  | nil => rfl
  | cons y b => have := h y.1; rw [lk_nil, lk_cons, if_pos rfl] at this; cases this
 | cons x a ih =>
  cases b with
  | nil => have := h x.1; rw [lk_nil, lk_cons, if_pos rfl] at this; cases this
  | cons y b =>
   obtain ⟨a1, a2⟩ := List.pairwise_cons.1 ha
   obtain ⟨b1, b2⟩ := List.pairwise_cons.1 hb
   have hx := h x.1
   have hy := h y.1
   rw [lk_cons, if_pos rfl, lk_cons] at hx
   rw [lk_cons, lk_cons, if_pos rfl] at hy
   have hxy : x = y := by
    by_cases e : y.1 = x.1
    ·rw [if_pos e] at hx; injection hx
    ·rw [if_neg e] at hx
     rw [if_neg (fun e' => e e'.symm)] at hy
     have m1 := b1 x (lk_some hx.symm).1
     have m2 := a1 y (lk_some hy).1
     omega
   subst hxy
   rw [ih a2 b2 fun t => ?_]
   have ht := h t
   rw [lk_cons, lk_cons] at ht
   by_cases e : x.1 = t
   ·rw [lk_none.2 fun z hz => by have := a1 z hz; omega, lk_none.2 fun z hz => by have := b1 z hz; omega]
   ·rwa [if_neg e, if_neg e] at ht

def putS : List Sm -> Sm -> List Sm
 | [], s => [s]
 | x :: r, s => if x.1 = s.1 then x :: r else if s.1 < x.1 then s :: x :: r else x :: putS r s
theorem putS_mem {l : List Sm} {s x : Sm} (h : x ∈ putS l s) : x ∈ l \/ x = s := by
 induction l with
 | nil => exact .inr (List.mem_singleton.1 h)
 | cons y r ih =>
  unfold putS at h
  split at h
  ·exact .inl h
  ·split at h
   ·rcases List.mem_cons.1 h with h | h
    ·exact .inr h
    ·exact .inl h
   ·rcases List.mem_cons.1 h with h | h
    ·exact .inl (h ▸ List.mem_cons_self)
    ·rcases ih h with h | h
     ·exact .inl (List.mem_cons_of_mem _ h)
     ·exact .inr h
theorem Ris.put {l : List Sm} (h : Ris l) (s : Sm) : Ris (putS l s) := by
 induction l with
 | nil => exact List.pairwise_singleton _ _
 | cons x r ih =>
  obtain ⟨h1, h2⟩ := List.pairwise_cons.1 h
  unfold putS
  split
  ·exact h
  ·split
   ·rename_i hlt
    refine List.pairwise_cons.2 ⟨fun z hz => ?_, h⟩
    rcases List.mem_cons.1 hz with rfl | hz
    ·exact hlt
    ·have := h1 z hz; omega
   ·refine List.pairwise_cons.2 ⟨fun z hz => ?_, ih h2⟩
    rcases putS_mem hz with hz | rfl
    ·exact h1 z hz
    ·omega
theorem lk_put {l : List Sm} (h : Ris l) (s : Sm) (t : Int) : lk (putS l s) t = (lk l t).or (lk [s] t) := by
 induction l with
 | nil => rw [lk_nil, Option.none_or]; rfl
 | cons x r ih =>
  obtain ⟨h1, h2⟩ := List.pairwise_cons.1 h
  unfold putS
  split
  ·rename_i he
   rw [lk_cons, lk_cons, lk_nil]
   by_cases e : x.1 = t
   ·rw [if_pos e]; rfl
   ·rw [if_neg e, if_neg (by omega), Option.or_none]
  ·split
   ·rename_i hlt
    rw [lk_cons, lk_cons (l := []), lk_nil]
    by_cases e : s.1 = t
    ·rw [if_pos e, lk_none.2 fun z hz => ?_, Option.none_or, if_pos e]
     rcases List.mem_cons.1 hz with rfl | hz
     ·omega
     ·have := h1 z hz; omega
    ·rw [if_neg e, if_neg e, Option.or_none]
   ·rw [lk_cons, ih h2, lk_cons (x := x)]
    by_cases e : x.1 = t
    ·rw [if_pos e, if_pos e]; rfl
    ·rw [if_neg e, if_neg e]
def putAll (l xs : List Sm) : List Sm := xs.foldl putS l


def smp (ls : List (List Sm)) : List Sm := putAll [] ls.flatten
end Go.Bar.Mrg

namespace Go.Bar.Leb
open Go.RowKit Go.Bar

def u (n : Nat) : List UInt8 := if n < 128 then [UInt8.ofNat n] else UInt8.ofNat (n % 128 + 128) :: u (n / 128)
 termination_by n
 decreasing_by omega

theorem u_lt {n : Nat} (h : n < 128) : u n = [UInt8.ofNat n] := by rw [u, if_pos h]
theorem u_ge {n : Nat} (h : 128 <= n) : u n = UInt8.ofNat (n % 128 + 128) :: u (n / 128) := by rw [u, if_neg (by omega)]

theorem u_len_le : ∀ (k n : Nat), n < 128 ^ (k + 1) -> (u n).length <= k + 1
 | 0, n, h => by rw [u_lt (by simpa using h)]; simp
 | k + 1, n, h => by
  by_cases hn : n < 128
  ·rw [u_lt hn]; simp
  ·rw [u_ge (by omega), List.length_cons]
   have := u_len_le k (n / 128) (by rw [Nat.pow_succ] at h; omega)
   omega
theorem u_len (n : Nat) (h : n < 18446744073709551616) : (u n).length <= 10 := u_len_le 9 n (by omega)
theorem u_pos (n : Nat) : 0 < (u n).length := by
 by_cases hn : n < 128
 ·rw [u_lt hn]; simp
 ·rw [u_ge (by omega)]; simp

def tk : Nat -> Nat -> List UInt8 -> Nat × List UInt8 × Nat
 | _, _, [] => (0, [], 2)
 | i, acc, c :: r =>
  if i = 9 /\ 1 < c.toNat then (0, [], 3)
  else if c.toNat = 0 /\ 0 < i then (0, [], 3)
  else if c.toNat < 128 then (acc + c.toNat % 128 * 128 ^ i, r, 0)
  else tk (i + 1) (acc + c.toNat % 128 * 128 ^ i) r

def takeU (l : List UInt8) : Nat × List UInt8 × Nat := tk 0 0 l

theorem acc_step (acc k c : Nat) (hacc : acc < 128 ^ k) (hk : k <= 9) (hc : c < 256) (h9 : k = 9 -> c <= 1) (p : Int) (hp : p = ((2 ^ (7 * k) : Nat) : Int)) :
  bits .or .u64 (acc : Int) (IntKind.u64.wrap (IntKind.u64.wrap (bits .and .u8 (c : Int) 127) * p)) = ((acc + c % 128 * 128 ^ k : Nat) : Int) := by
 have e1 : (2 : Nat) ^ (7 * k) = 128 ^ k := by rw [Nat.pow_mul]
 have hp128 : 128 ^ k <= 128 ^ 9 := Nat.pow_le_pow_right (by omega) hk
 have hb : c % 128 * 128 ^ k < 18446744073709551616 := by
  by_cases h : k = 9
  ·subst h
   have := h9 rfl
   have h2 : c % 128 <= 1 := by omega
   have := Nat.mul_le_mul_right (128 ^ 9) h2
   omega
  ·have hp' : 128 ^ k <= 128 ^ 8 := Nat.pow_le_pow_right (by omega) (by omega)
   have := Nat.mul_le_mul (show c % 128 <= 127 by omega) hp'
   omega
 have hm : bits .and .u8 (c : Int) 127 = ((c % 128 : Nat) : Int) := by
  have := u8_and_nat c 127 hc (by omega)
  rw [nat_mask7] at this
  exact this
 rw [hm, hp, e1]
 have e2 : IntKind.u64.wrap ((c % 128 : Nat) : Int) = ((c % 128 : Nat) : Int) := by rw [IntKind.wrap_u64]; omega
 rw [e2, <- Int.natCast_mul]
 have e3 : IntKind.u64.wrap ((c % 128 * 128 ^ k : Nat) : Int) = ((c % 128 * 128 ^ k : Nat) : Int) := by rw [IntKind.wrap_u64]; omega
 rw [e3, u64_or_nat _ _ (by omega) hb]
 congr 1
 have := nat_join (7 * k) (c % 128 * 128 ^ k) acc (by rw [e1]; exact Nat.mul_mod_left _ _) (by rw [e1]; exact hacc)
 rw [Nat.or_comm, this, Nat.add_comm]
theorem acc_lt (acc k c : Nat) (hacc : acc < 128 ^ k) : acc + c % 128 * 128 ^ k < 128 ^ (k + 1) := by
 rw [Nat.pow_succ]
 have := Nat.mul_le_mul_right (128 ^ k) (show c % 128 <= 127 by omega)
 omega
theorem drop_str (s : ByteArray) (k : Nat) : s.extract k s.size = bs (s.data.toList.drop k) := by
 have e : (s.extract k s.size).data.toList = s.data.toList.drop k := by
  rw [Lib.extract_data]
  exact List.take_of_length_le (by rw [List.length_drop]; exact Nat.le_of_eq (by rw [size_eq]))
 rw [<- e]; rfl
theorem drop_cons (s : ByteArray) (k : Nat) (hk : k < s.size) : s.data.toList.drop k = s[k] :: s.data.toList.drop (k + 1) := by
 rw [List.drop_eq_getElem_cons hk]; rfl

theorem tk_end {i acc : Nat} : tk i acc [] = (0, [], 2) := rfl
theorem tk_big {i acc : Nat} {c : UInt8} {r : List UInt8} (h : i = 9) (hc : 1 < c.toNat) : tk i acc (c :: r) = (0, [], 3) := by rw [tk, if_pos ⟨h, hc⟩]
theorem tk_zero {i acc : Nat} {c : UInt8} {r : List UInt8} (h : 0 < i) (hc : c.toNat = 0) : tk i acc (c :: r) = (0, [], 3) := by
 rw [tk, if_neg (by omega), if_pos ⟨hc, h⟩]
theorem tk_last {i acc : Nat} {c : UInt8} {r : List UInt8} (h : i = 9 -> c.toNat <= 1) (h0 : c.toNat = 0 -> i = 0) (hc : c.toNat < 128) : tk i acc (c :: r) = (acc + c.toNat % 128 * 128 ^ i, r, 0) := by
 rw [tk, if_neg (by omega), if_neg (by omega), if_pos hc]
theorem tk_more {i acc : Nat} {c : UInt8} {r : List UInt8} (h : i ≠ 9) (hc : 128 <= c.toNat) : tk i acc (c :: r) = tk (i + 1) (acc + c.toNat % 128 * 128 ^ i) r := by
 rw [tk, if_neg (by omega), if_neg (by omega), if_neg (by omega)]
theorem Quiet.of {w w' : World} {v v' : Value} (h : v = v') (hw : ∃ n, w' = w.drewN n) : Quiet w v (.returned v') w' := ⟨by rw [h], hw⟩
theorem takeU_last {s : ByteArray} {k acc : Nat} (hk : k < s.size) (hk9 : k <= 9) (hacc : acc < 128 ^ k) (HT : Hid (tk k acc (s[k] :: s.data.toList.drop (k + 1)) = takeU s.data.toList))
  (h : k = 9 -> s[k].toNat <= 1) (h0 : s[k].toNat = 0 -> k = 0) (hc : s[k].toNat < 128) (z p : Int) (q : Nat) (hz : z = (s[k].toNat : Int)) (hp : p = ((2 ^ (7 * k) : Nat) : Int)) (hq : q = k + 1) :
  Value.tuple #[.int .u64 (takeU s.data.toList).1, .string (bs (takeU s.data.toList).2.1), .int .i64 (takeU s.data.toList).2.2] =
   Value.tuple #[.int .u64 (bits .or .u64 (acc : Int) (IntKind.u64.wrap (IntKind.u64.wrap (bits .and .u8 z 127) * p))), .string (s.extract q s.size), .int .i64 0] := by
 rw [<- HT.out, tk_last h h0 hc, hz, hq, acc_step acc k _ hacc hk9 (UInt8.toNat_lt _) h p hp, drop_str s (k + 1)]
 rfl
theorem takeU_bad {s : ByteArray} {k acc : Nat} (hk : k < s.size) (HT : Hid (tk k acc (s[k] :: s.data.toList.drop (k + 1)) = takeU s.data.toList)) (h : k = 9 /\ 1 < s[k].toNat \/ 0 < k /\ s[k].toNat = 0) :
  Value.tuple #[.int .u64 (takeU s.data.toList).1, .string (bs (takeU s.data.toList).2.1), .int .i64 (takeU s.data.toList).2.2] = Value.tuple #[.int .u64 0, .string { data := #[] }, .int .i64 3] := by
 rcases h with ⟨h1, h2⟩ | ⟨h1, h2⟩
 ·rw [<- HT.out, tk_big h1 h2]; rfl
 ·rw [<- HT.out, tk_zero h1 h2]; rfl

theorem byte_hi (k : Nat) : bits .or .u8 ((k : Int) % 256) 128 = ((UInt8.ofNat (k % 128 + 128)).toNat : Int) := by
 have e : ((k : Int) % 256) = ((k % 256 : Nat) : Int) := by omega
 have := u8_or_nat (k % 256) 128 (by omega) (by omega)
 rw [e]
 refine this.trans ?_
 rw [UInt8.toNat_ofNat']
 congr 1
 have h1 : k % 256 = k % 128 + k / 128 % 2 * 128 := by omega
 have h2 : (k % 256) ||| 128 = k % 128 + 128 := by
  rcases (show k / 128 % 2 = 0 \/ k / 128 % 2 = 1 by omega) with h | h
  ·rw [show k % 256 = k % 128 by omega, Nat.or_comm, nat_join 7 128 (k % 128) (by omega) (by omega), Nat.add_comm]
  ·rw [show k % 256 = 128 + k % 128 by omega, <- nat_join 7 128 (k % 128) (by omega) (by omega), Nat.or_comm 128 (k % 128), Nat.or_assoc, Nat.or_self, Nat.or_comm, nat_join 7 128 (k % 128) (by omega) (by omega), Nat.add_comm]
 rw [h2]
 exact (Nat.mod_eq_of_lt (by omega)).symm
theorem byte_lo (k : Nat) (h : k < 128) : (k : Int) = ((UInt8.ofNat k).toNat : Int) := by
 rw [UInt8.toNat_ofNat']
 congr 1
 exact (Nat.mod_eq_of_lt (by omega)).symm

def fold (v : Int) : Nat := if v < 0 then 2 * (-(v + 1)).toNat + 1 else 2 * v.toNat
def unfold (n : Nat) : Int := if n % 2 = 1 then -((n / 2 : Nat) : Int) - 1 else ((n / 2 : Nat) : Int)
theorem unfold_fold (v : Int) : unfold (fold v) = v := by
 unfold unfold fold
 split <;> split <;> omega
theorem fold_lt (v : Int) (h1 : -9223372036854775808 <= v) (h2 : v <= 9223372036854775807) : fold v < 18446744073709551616 := by
 unfold fold; split <;> omega
theorem unfold_rg (n : Nat) (h : n < 18446744073709551616) : -9223372036854775808 <= unfold n /\ unfold n <= 9223372036854775807 := by
 unfold unfold; split <;> omega

def takeMost (l : List UInt8) (most : Int) : Nat × List UInt8 × Nat := if (takeU l).2.2 = 0 /\ (max most 0).toNat < (takeU l).1 then (0, [], 16) else takeU l
def takeText (l : List UInt8) (most : Int) : List UInt8 × List UInt8 × Nat :=
 if (takeMost l most).2.2 ≠ 0 then ([], [], (takeMost l most).2.2)
 else if (takeMost l most).2.1.length < (takeMost l most).1 then ([], [], 2)
 else ((takeMost l most).2.1.take (takeMost l most).1, (takeMost l most).2.1.drop (takeMost l most).1, 0)

theorem tk_prop : ∀ (l : List UInt8) (i acc : Nat), i <= 9 -> acc < 128 ^ i -> (tk i acc l).1 < 18446744073709551616 /\ (tk i acc l).2.1.length <= l.length /\ ((tk i acc l).2.2 = 0 \/ ((tk i acc l).2.2 = 2 \/ (tk i acc l).2.2 = 3) /\ (tk i acc l).1 = 0 /\ (tk i acc l).2.1 = [])
 | [], i, acc, _, _ => by rw [tk_end]; exact ⟨by omega, Nat.le_refl _, .inr ⟨.inl rfl, rfl, rfl⟩⟩
 | c :: r, i, acc, hi, ha => by
  by_cases h1 : i = 9 /\ 1 < c.toNat
  ·rw [tk_big h1.1 h1.2]; exact ⟨by omega, by simp, .inr ⟨.inr rfl, rfl, rfl⟩⟩
  ·by_cases h2 : c.toNat = 0 /\ 0 < i
   ·rw [tk_zero h2.2 h2.1]; exact ⟨by omega, by simp, .inr ⟨.inr rfl, rfl, rfl⟩⟩
   ·by_cases h3 : c.toNat < 128
    ·rw [tk_last (by omega) (by omega) h3]
     refine ⟨?_, by simp, .inl rfl⟩
     have hp : 128 ^ i <= 128 ^ 9 := Nat.pow_le_pow_right (by omega) hi
     by_cases h9 : i = 9
     ·subst h9
      have := Nat.mul_le_mul_right (128 ^ 9) (show c.toNat % 128 <= 1 by omega)
      omega
     ·have hp' : 128 ^ i <= 128 ^ 8 := Nat.pow_le_pow_right (by omega) (by omega)
      have := Nat.mul_le_mul (show c.toNat % 128 <= 127 by omega) hp'
      omega
    ·rw [tk_more (by omega) (by omega)]
     obtain ⟨g1, g2, g3⟩ := tk_prop r (i + 1) _ (by omega) (acc_lt acc i c.toNat ha)
     exact ⟨g1, by rw [List.length_cons]; omega, g3⟩
theorem takeU_prop (l : List UInt8) : (takeU l).1 < 18446744073709551616 /\ (takeU l).2.1.length <= l.length /\ ((takeU l).2.2 = 0 \/ ((takeU l).2.2 = 2 \/ (takeU l).2.2 = 3) /\ (takeU l).1 = 0 /\ (takeU l).2.1 = []) := tk_prop l 0 0 (by omega) (by simp)

theorem tk_u : ∀ (n i acc : Nat) (r : List UInt8), acc < 128 ^ i -> i <= 9 -> (0 < i -> 0 < n) -> acc + n * 128 ^ i < 18446744073709551616 -> tk i acc (u n ++ r) = (acc + n * 128 ^ i, r, 0) := by
 intro n
 induction n using Nat.strongRecOn with
 | _ n ih =>
  intro i acc r ha hi h0 hlt
  have hb : ∀ m, m < 256 -> (UInt8.ofNat m).toNat = m := fun m hm => by rw [UInt8.toNat_ofNat']; omega
  by_cases hn : n < 128
  ·rw [u_lt hn, List.singleton_append, tk_last]
   ·rw [hb n (by omega), Nat.mod_eq_of_lt hn]
   ·intro h9; subst h9
    rw [hb n (by omega)]
    omega
   ·rw [hb n (by omega)]; omega
   ·rw [hb n (by omega)]; exact hn
  ·have h9 : i ≠ 9 := by rintro rfl; omega
   rw [u_ge (by omega), List.cons_append, tk_more h9 (by rw [hb _ (by omega)]; omega), hb _ (by omega)]
   have e1 : (n % 128 + 128) % 128 = n % 128 := by omega
   have e2 : acc + n % 128 * 128 ^ i + n / 128 * 128 ^ (i + 1) = acc + n * 128 ^ i := by
    rw [Nat.pow_succ, Nat.mul_comm (128 ^ i) 128, <- Nat.mul_assoc, Nat.add_assoc, <- Nat.add_mul]
    congr 2
    omega
   rw [e1, ih (n / 128) (by omega) (i + 1) _ r (by have := acc_lt acc i (n % 128) ha; rwa [Nat.mod_mod] at this) (by omega) (by omega) (by rw [e2]; exact hlt), e2]
theorem takeU_u (n : Nat) (r : List UInt8) (h : n < 18446744073709551616) : takeU (u n ++ r) = (n, r, 0) := by
 unfold takeU
 rw [tk_u n 0 0 r (by simp) (by omega) (fun h => absurd h (by omega)) (by simpa using h)]
 simp

theorem tk_one : ∀ (l : List UInt8) (i acc : Nat), i <= 9 -> (tk i acc l).2.2 = 0 -> ∃ n, (0 < i -> 0 < n) /\ (tk i acc l).1 = acc + n * 128 ^ i /\ l = u n ++ (tk i acc l).2.1
 | [], i, acc, _, h => by rw [tk_end] at h; cases h
 | c :: r, i, acc, hi, h => by
  by_cases h1 : i = 9 /\ 1 < c.toNat
  ·rw [tk_big h1.1 h1.2] at h; cases h
  ·by_cases h2 : c.toNat = 0 /\ 0 < i
   ·rw [tk_zero h2.2 h2.1] at h; cases h
   ·by_cases h3 : c.toNat < 128
    ·rw [tk_last (by omega) (by omega) h3]
     refine ⟨c.toNat, by omega, by simp only []; rw [Nat.mod_eq_of_lt h3], ?_⟩
     rw [u_lt h3, List.singleton_append]
     simp
    ·have hm := tk_more (acc := acc) (r := r) (c := c) (i := i) (by omega) (by omega)
     rw [hm] at h ⊢
     obtain ⟨n, hn0, hn, hl⟩ := tk_one r (i + 1) _ (by omega) h
     have hc := UInt8.toNat_lt c
     refine ⟨c.toNat % 128 + n * 128, fun _ => by have := hn0 (by omega); omega, ?_, ?_⟩
     ·rw [hn, Nat.pow_succ, Nat.add_mul, Nat.mul_comm (128 ^ i) 128, <- Nat.mul_assoc, Nat.add_assoc]
     ·have hn1 := hn0 (by omega)
      rw [u_ge (by omega), show (c.toNat % 128 + n * 128) / 128 = n by omega, show (c.toNat % 128 + n * 128) % 128 + 128 = c.toNat by omega, List.cons_append, <- hl]
      simp
theorem takeU_one (l : List UInt8) (h : (takeU l).2.2 = 0) : u (takeU l).1 ++ (takeU l).2.1 = l := by
 obtain ⟨n, _, hn, hl⟩ := tk_one l 0 0 (by omega) h
 unfold takeU
 rw [show (tk 0 0 l).1 = n by rw [hn]; simp]
 exact hl.symm

theorem fold_bits (v : Int) (h1 : -9223372036854775808 <= v) (h2 : v <= 9223372036854775807) :
  bits .xor .u64 (IntKind.u64.wrap (IntKind.u64.wrap v * 2)) (IntKind.u64.wrap (v / 9223372036854775808)) = (fold v : Int) := by
 unfold fold
 split
 ·rename_i h
  have e1 : IntKind.u64.wrap (IntKind.u64.wrap v * 2) = ((18446744073709551616 - 2 * (-v).toNat : Nat) : Int) := by rw [IntKind.wrap_u64, IntKind.wrap_u64]; omega
  have e2 : IntKind.u64.wrap (v / 9223372036854775808) = ((18446744073709551615 : Nat) : Int) := by rw [IntKind.wrap_u64]; omega
  rw [e1, e2, u64_xor_nat _ _ (by omega) (by omega)]
  congr 1
  have hx : ∀ a, a < 18446744073709551616 -> a ^^^ 18446744073709551615 = 18446744073709551615 - a := by
   intro a ha
   have := BitVec.toNat_not (x := BitVec.ofNat 64 a)
   rw [<- BitVec.xor_allOnes, BitVec.toNat_xor, BitVec.toNat_allOnes, BitVec.toNat_ofNat] at this
   rw [Nat.mod_eq_of_lt (show a < 2 ^ 64 by omega)] at this
   simpa using this
  rw [hx _ (by omega)]
  omega
 ·rename_i h
  have e1 : IntKind.u64.wrap (IntKind.u64.wrap v * 2) = ((2 * v.toNat : Nat) : Int) := by rw [IntKind.wrap_u64, IntKind.wrap_u64]; omega
  have e2 : IntKind.u64.wrap (v / 9223372036854775808) = ((0 : Nat) : Int) := by rw [IntKind.wrap_u64]; omega
  rw [e1, e2, u64_xor_nat _ _ (by omega) (by omega), Nat.xor_zero]

theorem unfold_bits (n : Nat) (h : n < 18446744073709551616) (x : Int) (hx : x = (n : Int) / 2) :
  bits .xor .i64 x (wrap64 (-wrap64 (bits .and .u64 (n : Int) 1))) = unfold n := by
 subst hx
 have e0 : bits .and .u64 (n : Int) 1 = ((n % 2 : Nat) : Int) := by
  have := u64_and_nat n 1 h (by omega)
  rw [nat_mask1] at this
  exact this
 rw [e0]
 have eo : (BitVec.ofInt 64 ((n : Int) / 2)).toNat = n / 2 := by
  have : (n : Int) / 2 = ((n / 2 : Nat) : Int) := by omega
  rw [this, BitVec.ofInt_natCast, BitVec.toNat_ofNat]
  exact Nat.mod_eq_of_lt (by omega)
 unfold unfold
 rcases (show n % 2 = 0 \/ n % 2 = 1 by omega) with h2 | h2
 ·rw [h2, if_neg (by omega)]
  have e1 : wrap64 (-wrap64 ((0 : Nat) : Int)) = 0 := by unfold wrap64; decide
  rw [e1]
  show IntKind.i64.wrap ((BitVec.ofInt 64 ((n : Int) / 2) ^^^ BitVec.ofInt 64 0).toNat : Int) = _
  rw [BitVec.toNat_xor, eo]
  have : (BitVec.ofInt 64 0).toNat = 0 := by decide
  rw [this, Nat.xor_zero, IntKind.wrap_i64]
  omega
 ·rw [h2, if_pos rfl]
  have e1 : wrap64 (-wrap64 ((1 : Nat) : Int)) = -1 := by unfold wrap64; decide
  rw [e1]
  show IntKind.i64.wrap ((BitVec.ofInt 64 ((n : Int) / 2) ^^^ BitVec.ofInt 64 (-1)).toNat : Int) = _
  have : BitVec.ofInt 64 (-1) = BitVec.allOnes 64 := by decide
  rw [this, BitVec.xor_allOnes, BitVec.toNat_not, eo, IntKind.wrap_i64]
  omega

theorem takeMost_prop (l : List UInt8) (most : Int) (hm : most <= 9223372036854775807) : (takeMost l most).1 <= 9223372036854775807 /\ (takeMost l most).2.1.length <= l.length /\ ((takeMost l most).2.2 = 0 \/ (takeMost l most).2.2 ≠ 0 /\ (takeMost l most).1 = 0 /\ (takeMost l most).2.1 = []) := by
 have hp := takeU_prop l
 unfold takeMost
 by_cases h : (takeU l).2.2 = 0 /\ (max most 0).toNat < (takeU l).1
 ·rw [if_pos h]; exact ⟨Nat.zero_le _, Nat.zero_le _, .inr ⟨by decide, rfl, rfl⟩⟩
 ·rw [if_neg h]
  obtain ⟨h1, h2, h3⟩ := hp
  rcases h3 with h3 | ⟨h3, h4, h5⟩
  ·exact ⟨by omega, h2, .inl h3⟩
  ·exact ⟨by omega, h2, .inr ⟨by omega, h4, h5⟩⟩

theorem takeMost_u (n : Nat) (r : List UInt8) (most : Int) (h : n < 18446744073709551616) (hm : (n : Int) <= most) : takeMost (u n ++ r) most = (n, r, 0) := by
 unfold takeMost
 rw [takeU_u n r h, if_neg (by simp only []; omega)]
theorem takeText_text (l r : List UInt8) (most : Int) (h : l.length < 18446744073709551616) (hm : (l.length : Int) <= most) : takeText (u l.length ++ l ++ r) most = (l, r, 0) := by
 unfold takeText
 rw [List.append_assoc, takeMost_u l.length (l ++ r) most h hm]
 simp only []
 rw [if_neg (by omega), if_neg (by rw [List.length_append]; omega), List.take_left, List.drop_left]

end Go.Bar.Leb

namespace Go.Bar.Lab
open Go.RowKit Go.Bar Go.Bar.Leb

theorem less_eq : ∀ (x y : List UInt8), Op.bytesLess x y = decide (x < y)
 | [], [] => by simp [Op.bytesLess]
 | _ :: _, [] => by simp [Op.bytesLess]
 | [], _ :: _ => by simp [Op.bytesLess]
 | a :: x, b :: y => by
  rw [Op.bytesLess, less_eq x y]
  simp only [List.cons_lt_cons_iff]
  by_cases h1 : a < b <;> by_cases h2 : a = b <;> by_cases h3 : x < y <;> simp [h1, h2, h3]
theorem b_trans {a b c : List UInt8} (h : a < b) (k : b < c) : a < c := List.lt_trans h k
theorem b_irrefl (a : List UInt8) : ¬ a < a := List.lt_irrefl a
theorem b_asymm {a b : List UInt8} (h : a < b) : ¬ b < a := List.lt_asymm h
theorem b_tri {a b : List UInt8} (h : ¬ a < b) (k : ¬ b < a) : a = b := List.le_antisymm (List.not_lt.1 k) (List.not_lt.1 h)

abbrev Pr := List UInt8 × List UInt8
def letter (c : UInt8) : Bool := decide (97 <= c /\ c <= 122 \/ 65 <= c /\ c <= 90 \/ c = 95)
def digit (c : UInt8) : Bool := decide (48 <= c /\ c <= 57)
def signB (first : Bool) (c : UInt8) : Bool := letter c || (!first && digit c)
def nameB (s : List UInt8) : Bool := !s.isEmpty && signB true (s.headD 0) && s.all (signB false) && decide (s.length <= 40)
def okP (p : Pr) : Bool := nameB p.1 && !p.2.isEmpty && decide (p.2.length <= 40)
def Ok (l : List Pr) : Prop := 0 < l.length /\ l.length <= 8 /\ (∀ p ∈ l, okP p = true) /\ l.Pairwise (fun a b => a.1 < b.1)
instance (l : List Pr) : Decidable (Ok l) := by unfold Ok; infer_instance
def chk (l : List Pr) : Bool := decide (Ok l)
theorem chk_true {l : List Pr} (h : Ok l) : chk l = true := decide_eq_true h
theorem chk_false {l : List Pr} (h : ¬ Ok l) : chk l = false := decide_eq_false h
theorem chk_iff {l : List Pr} : chk l = true ↔ Ok l := decide_eq_true_iff

def good (l : List Pr) (i : Nat) : Prop := okP (l.getD i ([], [])) = true /\ (0 < i -> (l.getD (i - 1) ([], [])).1 < (l.getD i ([], [])).1)

theorem chain_lt {l : List Pr} (h : ∀ i, i < l.length -> good l i) : ∀ (d i : Nat), i + d + 1 < l.length -> (l.getD i ([], [])).1 < (l.getD (i + d + 1) ([], [])).1
 | 0, i, hi => by
  have := (h (i + 1) hi).2 (by omega)
  simpa using this
 | d + 1, i, hi => by
  have h1 := chain_lt h d i (by omega)
  have h2 := (h (i + d + 1 + 1) (by omega)).2 (by omega)
  rw [show i + d + 1 + 1 - 1 = i + d + 1 by omega] at h2
  exact b_trans h1 (by rw [show i + (d + 1) + 1 = i + d + 1 + 1 by omega]; exact h2)
theorem getD_of {α : Type} {l : List α} {i : Nat} (h : i < l.length) (d : α) : l.getD i d = l[i] := by
 rw [List.getD_eq_getElem?_getD, List.getElem?_eq_getElem h]; rfl
theorem ok_iff (l : List Pr) : Ok l ↔ 0 < l.length /\ l.length <= 8 /\ ∀ i, i < l.length -> good l i := by
 constructor
 ·rintro ⟨h1, h2, h3, h4⟩
  refine ⟨h1, h2, fun i hi => ⟨?_, fun h0 => ?_⟩⟩
  ·rw [getD_of hi]; exact h3 _ (List.getElem_mem hi)
  ·rw [getD_of hi, getD_of (by omega)]
   exact List.pairwise_iff_getElem.1 h4 (i - 1) i (by omega) hi (by omega)
 ·rintro ⟨h1, h2, h3⟩
  refine ⟨h1, h2, fun p hp => ?_, ?_⟩
  ·obtain ⟨i, hi, rfl⟩ := List.mem_iff_getElem.1 hp
   have := (h3 i hi).1
   rwa [getD_of hi] at this
  ·refine List.pairwise_iff_getElem.2 fun i j hi hj hij => ?_
   have := chain_lt h3 (j - i - 1) i (by omega)
   rw [show i + (j - i - 1) + 1 = j by omega, getD_of hi, getD_of hj] at this
   exact this

def ins (p : Pr) : List Pr -> List Pr
 | [] => [p]
 | q :: r => if p.1 < q.1 then p :: q :: r else q :: ins p r
def srt : List Pr -> List Pr -> List Pr
 | acc, [] => acc
 | acc, p :: r => srt (ins p acc) r
def sorted (l : List Pr) : List Pr := srt [] l
theorem ins_len (p : Pr) : ∀ l, (ins p l).length = l.length + 1
 | [] => rfl
 | q :: r => by
  unfold ins
  split
  ·rfl
  ·simp [ins_len p r]
theorem srt_len : ∀ (l acc : List Pr), (srt acc l).length = acc.length + l.length
 | [], _ => rfl
 | p :: l, acc => by rw [srt, srt_len l, ins_len, List.length_cons]; omega
theorem ins_perm (p : Pr) : ∀ l, (ins p l).Perm (p :: l)
 | [] => .refl _
 | q :: r => by
  unfold ins
  split
  ·exact .refl _
  ·exact ((ins_perm p r).cons q).trans (.swap p q r)
theorem srt_perm : ∀ (l acc : List Pr), (srt acc l).Perm (acc ++ l)
 | [], acc => by rw [List.append_nil]; exact .refl _
 | p :: l, acc => (srt_perm l _).trans (((ins_perm p acc).append_right l).trans (by
   rw [List.cons_append]
   exact List.perm_middle.symm))
theorem sorted_perm (l : List Pr) : (sorted l).Perm l := srt_perm l []
def Asc (l : List Pr) : Prop := l.Pairwise (fun a b => ¬ b.1 < a.1)
theorem ins_asc (p : Pr) : ∀ l, Asc l -> Asc (ins p l)
 | [], _ => by simp [ins, Asc]
 | q :: r, h => by
  have hq := List.pairwise_cons.1 h
  unfold ins
  split
  ·rename_i hlt
   refine List.pairwise_cons.2 ⟨fun x hx => ?_, h⟩
   rcases List.mem_cons.1 hx with rfl | hx
   ·exact b_asymm hlt
   ·intro hxp
    exact hq.1 x hx (b_trans hxp hlt)
  ·rename_i hlt
   refine List.pairwise_cons.2 ⟨fun x hx => ?_, ins_asc p r hq.2⟩
   rcases List.mem_cons.1 ((ins_perm p r).mem_iff.1 hx) with rfl | hx
   ·exact hlt
   ·exact hq.1 x hx
theorem srt_asc : ∀ (l acc : List Pr), Asc acc -> Asc (srt acc l)
 | [], _, h => h
 | p :: l, acc, h => srt_asc l _ (ins_asc p acc h)
theorem sorted_asc (l : List Pr) : Asc (sorted l) := srt_asc l [] (by simp [Asc])
def Unlike (l : List Pr) : Prop := (l.map Prod.fst).Nodup
instance (l : List Pr) : Decidable (Unlike l) := by unfold Unlike; infer_instance
theorem unlike_perm {l m : List Pr} (h : l.Perm m) : Unlike l ↔ Unlike m := (h.map Prod.fst).nodup_iff
theorem unlike_eq {l : List Pr} (h : Unlike l) {a b : Pr} (ha : a ∈ l) (hb : b ∈ l) (he : a.1 = b.1) : a = b := by
 induction l with
 | nil => cases ha
 | cons x l ih =>
  unfold Unlike at h
  rw [List.map_cons, List.nodup_cons] at h
  rcases List.mem_cons.1 ha with rfl | ha' <;> rcases List.mem_cons.1 hb with rfl | hb'
  ·rfl
  ·exact (h.1 (List.mem_map.2 ⟨_, hb', he.symm⟩)).elim
  ·exact (h.1 (List.mem_map.2 ⟨_, ha', he⟩)).elim
  ·exact ih h.2 ha' hb'
theorem asc_unique {l m : List Pr} (hp : l.Perm m) (hu : Unlike l) (hl : Asc l) (hm : Asc m) : l = m :=
 List.Perm.eq_of_pairwise (fun _ _ ha hb h1 h2 => unlike_eq hu ha (hp.mem_iff.2 hb) (b_tri h2 h1)) hl hm hp
theorem rise_unlike {l : List Pr} (h : l.Pairwise (fun a b => a.1 < b.1)) : Unlike l := by
 unfold Unlike
 rw [List.Nodup, List.pairwise_map]
 refine h.imp ?_
 rintro a b hlt he
 rw [he] at hlt
 exact b_irrefl _ hlt
theorem ok_any {l m : List Pr} (hp : m.Perm l) (hm : Asc m) : Ok m ↔ Ok (sorted l) := by
 have hps := hp.trans (sorted_perm l).symm
 by_cases hu : Unlike m
 ·rw [asc_unique hps hu hm (sorted_asc l)]
 ·have hu2 : ¬ Unlike (sorted l) := fun h => hu ((unlike_perm hps).2 h)
  exact ⟨fun h => absurd (rise_unlike h.2.2.2) hu, fun h => absurd (rise_unlike h.2.2.2) hu2⟩
theorem chk_any {l m : List Pr} (hp : m.Perm l) (hm : Asc m) : chk m = chk (sorted l) := by
 unfold chk; rw [decide_eq_decide]; exact ok_any hp hm
theorem ok_unlike {l : List Pr} (h : Ok (sorted l)) : Unlike l := (unlike_perm (sorted_perm l)).1 (rise_unlike h.2.2.2)
theorem sorted_of {l m : List Pr} (hp : m.Perm l) (hm : Asc m) (hu : Unlike l) : m = sorted l :=
 asc_unique (hp.trans (sorted_perm l).symm) ((unlike_perm hp).2 hu) hm (sorted_asc l)

def tx (l : List UInt8) : List UInt8 := u l.length ++ l
def key (l : List Pr) : List UInt8 := u l.length ++ l.flatMap fun p => tx p.1 ++ tx p.2
def one (p : Pr) : List UInt8 := p.1 ++ 61 :: p.2
def text : List Pr -> List UInt8
 | [] => []
 | p :: r => one p ++ r.flatMap fun q => 44 :: one q

def tp : Nat -> List UInt8 -> List Pr × List UInt8 × Nat
 | 0, s => ([], s, 0)
 | n + 1, s => match takeText s 40 with
  | (a, s1, e1) => if e1 ≠ 0 then ([], [], e1) else match takeText s1 40 with
   | (b, s2, e2) => if e2 ≠ 0 then ([], [], e2) else match tp n s2 with
    | (l, r, e) => if e ≠ 0 then ([], [], e) else ((a, b) :: l, r, 0)
def take (s : List UInt8) : List Pr × List UInt8 × Nat := match takeMost s 8 with
 | (n, r, e) => if e ≠ 0 then ([], [], e) else match tp n r with
  | (l, r, e) => if e ≠ 0 then ([], [], e) else if chk l = true then (l, r, 0) else ([], [], 3)
theorem takeMost_le8 {s r : List UInt8} {n : Nat} (h : takeMost s 8 = (n, r, 0)) : n <= 8 := by
 unfold takeMost at h
 split at h
 ·simp at h
 ·rename_i hc
  have h1 : (takeU s).1 = n := by rw [h]
  have h2 : (takeU s).2.2 = 0 := by rw [h]
  rw [h1, h2] at hc
  simp at hc
  omega
theorem takeText_len {s l r : List UInt8} {most : Int} {e : Nat} (hm : most <= 9223372036854775807) (h : takeText s most = (l, r, e)) : l.length <= s.length /\ r.length <= s.length := by
 have hp := (takeMost_prop s most hm).2.1
 unfold takeText at h
 split at h
 ·simp only [Prod.mk.injEq] at h
  obtain ⟨rfl, rfl, _⟩ := h
  exact ⟨by simp, by simp⟩
 ·split at h
  ·simp only [Prod.mk.injEq] at h
   obtain ⟨rfl, rfl, _⟩ := h
   simp
  ·simp only [Prod.mk.injEq] at h
   obtain ⟨rfl, rfl, _⟩ := h
   rw [List.length_take, List.length_drop]
   omega
theorem takeText_tx (l r : List UInt8) (h : l.length <= 40) : takeText (tx l ++ r) 40 = (l, r, 0) := by
 unfold tx
 exact takeText_text l r 40 (by omega) (by omega)
theorem tp_key : ∀ (l : List Pr) (r : List UInt8), (∀ p ∈ l, p.1.length <= 40 /\ p.2.length <= 40) -> tp l.length (l.flatMap (fun p => tx p.1 ++ tx p.2) ++ r) = (l, r, 0)
 | [], r, _ => rfl
 | p :: l, r, h => by
  have h1 := h p (by simp)
  have ih := tp_key l r (fun q hq => h q (by simp [hq]))
  rw [List.flatMap_cons, List.length_cons, tp, List.append_assoc, List.append_assoc, takeText_tx _ _ h1.1]
  simp only [ne_eq, not_true, if_false]
  rw [takeText_tx _ _ h1.2]
  simp only [not_true, if_false]
  rw [ih]
  simp
theorem okP_len {p : Pr} (h : okP p = true) : p.1.length <= 40 /\ p.2.length <= 40 /\ p.2 ≠ [] /\ nameB p.1 = true := by
 unfold okP at h
 simp only [Bool.and_eq_true, decide_eq_true_eq, Bool.not_eq_true', List.isEmpty_eq_false_iff] at h
 have h1 := h.1.1
 unfold nameB at h1
 simp only [Bool.and_eq_true, decide_eq_true_eq] at h1
 exact ⟨h1.2, h.2, h.1.2, h.1.1⟩
theorem take_key {l : List Pr} (h : Ok l) (r : List UInt8) : take (key l ++ r) = (l, r, 0) := by
 unfold take key
 rw [List.append_assoc, takeMost_u _ _ 8 (by have := h.2.1; omega) (by have := h.2.1; omega)]
 simp only [ne_eq, not_true, if_false]
 rw [tp_key l r (fun p hp => ⟨(okP_len (h.2.2.1 p hp)).1, (okP_len (h.2.2.1 p hp)).2.1⟩)]
 simp [chk_true h]

def cmpB (a b : List UInt8) : Int := if a < b then -1 else if b < a then 1 else 0
def cmpP (p q : Pr) : Int := if cmpB p.1 q.1 ≠ 0 then cmpB p.1 q.1 else cmpB p.2 q.2
def cmpL : List Pr -> List Pr -> Int
 | [], [] => 0
 | [], _ :: _ => -1
 | _ :: _, [] => 1
 | p :: a, q :: b => if cmpP p q ≠ 0 then cmpP p q else cmpL a b
theorem cmpB_zero {a b : List UInt8} : cmpB a b = 0 ↔ a = b := by
 unfold cmpB
 constructor
 ·intro h
  split at h
  ·simp at h
  ·split at h
   ·simp at h
   ·exact b_tri (by assumption) (by assumption)
 ·rintro rfl
  rw [if_neg (b_irrefl _), if_neg (b_irrefl _)]
theorem cmpB_neg (a b : List UInt8) : cmpB b a = - cmpB a b := by
 unfold cmpB
 by_cases h1 : a < b
 ·rw [if_pos h1, if_neg (b_asymm h1), if_pos h1]; rfl
 ·by_cases h2 : b < a
  ·rw [if_pos h2, if_neg h1, if_pos h2]
  ·rw [if_neg h2, if_neg h1, if_neg h1, if_neg h2]; rfl
theorem cmpB_lt {a b : List UInt8} : cmpB a b < 0 ↔ a < b := by
 unfold cmpB
 by_cases h1 : a < b
 ·rw [if_pos h1]; simp [h1]
 ·rw [if_neg h1]
  by_cases h2 : b < a
  ·rw [if_pos h2]; simp [h1]
  ·rw [if_neg h2]; simp [h1]
theorem cmpB_three (a b : List UInt8) : cmpB a b = -1 \/ cmpB a b = 0 \/ cmpB a b = 1 := by
 unfold cmpB
 repeat' split
 all_goals simp
theorem cmpP_zero {p q : Pr} : cmpP p q = 0 ↔ p = q := by
 unfold cmpP
 constructor
 ·intro h
  split at h
  ·contradiction
  ·rename_i h1
   have h1 : cmpB p.1 q.1 = 0 := by omega
   exact Prod.ext (cmpB_zero.1 h1) (cmpB_zero.1 h)
 ·rintro rfl
  rw [if_neg (by rw [cmpB_zero.2 rfl]; simp), cmpB_zero.2 rfl]
theorem cmpP_neg (p q : Pr) : cmpP q p = - cmpP p q := by
 unfold cmpP
 rw [cmpB_neg p.1 q.1, cmpB_neg p.2 q.2]
 split <;> split <;> omega
theorem cmpP_three (a b : Pr) : cmpP a b = -1 \/ cmpP a b = 0 \/ cmpP a b = 1 := by unfold cmpP; split <;> exact cmpB_three _ _
theorem cmpP_trans {p q r : Pr} (h : cmpP p q < 0) (k : cmpP q r < 0) : cmpP p r < 0 := by
 unfold cmpP at *
 by_cases h1 : cmpB p.1 q.1 = 0
 ·rw [if_neg (by omega)] at h
  rw [cmpB_zero.1 h1]
  by_cases h2 : cmpB q.1 r.1 = 0
  ·rw [if_neg (by omega)] at k ⊢
   exact cmpB_lt.2 (b_trans (cmpB_lt.1 h) (cmpB_lt.1 k))
  ·rw [if_pos h2] at k ⊢
   exact k
 ·rw [if_pos h1] at h
  by_cases h2 : cmpB q.1 r.1 = 0
  ·rw [<- cmpB_zero.1 h2, if_pos h1]
   exact h
  ·rw [if_pos h2] at k
   have := cmpB_lt.2 (b_trans (cmpB_lt.1 h) (cmpB_lt.1 k))
   rw [if_pos (by omega)]
   exact this
theorem cmpL_three : ∀ (a b : List Pr), cmpL a b = -1 \/ cmpL a b = 0 \/ cmpL a b = 1
 | [], [] => by simp [cmpL]
 | [], _ :: _ => by simp [cmpL]
 | _ :: _, [] => by simp [cmpL]
 | p :: a, q :: b => by
  unfold cmpL
  split
  ·exact cmpP_three p q
  ·exact cmpL_three a b
theorem cmpL_neg : ∀ (a b : List Pr), cmpL b a = - cmpL a b
 | [], [] => rfl
 | [], _ :: _ => rfl
 | _ :: _, [] => rfl
 | p :: a, q :: b => by
  unfold cmpL
  rw [cmpP_neg p q, cmpL_neg a b]
  split <;> split <;> omega
theorem cmpL_zero : ∀ {a b : List Pr}, cmpL a b = 0 ↔ a = b
 | [], [] => by simp [cmpL]
 | [], _ :: _ => by simp [cmpL]
 | _ :: _, [] => by simp [cmpL]
 | p :: a, q :: b => by
  unfold cmpL
  by_cases h : cmpP p q = 0
  ·rw [if_neg (by omega), cmpL_zero (a := a) (b := b), cmpP_zero.1 h]; simp
  ·rw [if_pos h]
   constructor
   ·intro h2; exact absurd h2 h
   ·intro h2; injection h2 with h2 _; exact absurd (cmpP_zero.2 h2) h
theorem cmpL_trans : ∀ {a b c : List Pr}, cmpL a b <= 0 -> cmpL b c <= 0 -> cmpL a c <= 0
 | [], _, [] => by simp [cmpL]
 | [], _, _ :: _ => by simp [cmpL]
 | _ :: _, [], _ => by simp [cmpL]
 | _ :: _, _ :: _, [] => by simp [cmpL]
 | p :: a, q :: b, r :: c => by
  unfold cmpL
  intro h k
  by_cases h1 : cmpP p q = 0
  ·rw [if_neg (by omega)] at h
   rw [cmpP_zero.1 h1]
   by_cases h2 : cmpP q r = 0
   ·rw [if_neg (by omega)] at k ⊢
    exact cmpL_trans h k
   ·rw [if_pos h2] at k ⊢
    exact k
  ·rw [if_pos h1] at h
   by_cases h2 : cmpP q r = 0
   ·rw [<- cmpP_zero.1 h2, if_pos h1]
    exact h
   ·rw [if_pos h2] at k
    have := cmpP_trans (p := p) (q := q) (r := r) (by omega) (by omega)
    rw [if_pos (by omega)]
    omega


def commas : List UInt8 -> List (List UInt8)
 | [] => [[]]
 | c :: r => if c = 44 then [] :: commas r else match commas r with
  | [] => [[c]]
  | h :: t => (c :: h) :: t
def cutEq : List UInt8 -> Option Pr
 | [] => none
 | c :: r => if c = 61 then some ([], r) else (cutEq r).map fun p => (c :: p.1, p.2)
def pairsOf : List (List UInt8) -> Option (List Pr)
 | [] => some []
 | s :: r => match cutEq s with
  | none => none
  | some p => (pairsOf r).map (p :: ·)
def parse (s : List UInt8) : List Pr × Nat := match pairsOf (commas s) with
 | none => ([], 3)
 | some l => if chk (sorted l) = true then (sorted l, 0) else ([], 12)
theorem commas_none : ∀ (s : List UInt8), 44 ∉ s -> commas s = [s]
 | [], _ => rfl
 | c :: r, h => by
  rw [commas, if_neg (fun e => h (by simp [e])), commas_none r (fun hr => h (by simp [hr]))]
theorem commas_at : ∀ (a b : List UInt8), 44 ∉ a -> commas (a ++ 44 :: b) = a :: commas b
 | [], b, _ => by rw [List.nil_append, commas, if_pos rfl]
 | c :: a, b, h => by
  rw [List.cons_append, commas, if_neg (fun e => h (by simp [e])), commas_at a b (fun hr => h (by simp [hr]))]
theorem cutEq_at : ∀ (a b : List UInt8), 61 ∉ a -> cutEq (a ++ 61 :: b) = some (a, b)
 | [], b, _ => by rw [List.nil_append, cutEq, if_pos rfl]
 | c :: a, b, h => by
  rw [List.cons_append, cutEq, if_neg (fun e => h (by simp [e])), cutEq_at a b (fun hr => h (by simp [hr]))]
  rfl
theorem cutEq_none : ∀ (a : List UInt8), 61 ∉ a -> cutEq a = none
 | [], _ => rfl
 | c :: a, h => by
  rw [cutEq, if_neg (fun e => h (by simp [e])), cutEq_none a (fun hr => h (by simp [hr]))]
  rfl

end Go.Bar.Lab

namespace Go.Bar.Mrg
open Go.RowKit Go.Bar Go.Bar.Xor Go.Bar.Lab

abbrev Row := List Pr × List Sm
abbrev Ev := Row × Nat
theorem cmpL_self (a : List Pr) : cmpL a a = 0 := cmpL_zero.2 rfl
theorem cmpL_lt_trans {a b c : List Pr} (h : cmpL a b < 0) (k : cmpL b c < 0) : cmpL a c < 0 := by
 have h1 := cmpL_trans (a := a) (b := b) (c := c) (by omega) (by omega)
 by_cases e : cmpL a c = 0
 ·have e2 := cmpL_zero.1 e
  subst e2
  have := cmpL_neg a b
  omega
 ·omega
structure Grp where
 done : List Row
 cur : Option (List Pr × List (List Sm))
def Grp.add (g : Grp) (r : Row) : Grp := match g.cur with
 | none => ⟨g.done, some (r.1, [r.2])⟩
 | some (L, ps) => if L = r.1 then ⟨g.done, some (L, ps ++ [r.2])⟩ else ⟨g.done ++ [(L, smp ps)], some (r.1, [r.2])⟩

def Rls (l : List Row) : Prop := l.Pairwise (fun a b => cmpL a.1 b.1 < 0)
def rk (l : List Row) (L : List Pr) : Option (List Sm) := (l.find? (fun r => decide (r.1 = L))).map (·.2)
theorem rk_cons (r : Row) (l : List Row) (L : List Pr) : rk (r :: l) L = if r.1 = L then some r.2 else rk l L := by
 unfold rk
 rw [List.find?_cons]
 by_cases h : r.1 = L
 ·rw [if_pos h, decide_eq_true h]; rfl
 ·rw [if_neg h, decide_eq_false h]
theorem rk_none {l : List Row} {L : List Pr} : rk l L = none ↔ ∀ r ∈ l, r.1 ≠ L := by
 unfold rk
 rw [Option.map_eq_none_iff, List.find?_eq_none]
 simp

def partsOf (S : List Ev) (L : List Pr) : List (List Sm) := (S.filter (fun x => decide (x.1.1 = L))).map (·.1.2)
theorem partsOf_snoc (S : List Ev) (x : Ev) (L : List Pr) : partsOf (S ++ [x]) L = partsOf S L ++ (if x.1.1 = L then [x.1.2] else []) := by
 unfold partsOf
 rw [List.filter_append, List.map_append]
 congr 1
 by_cases h : x.1.1 = L
 ·rw [if_pos h]; simp [h]
 ·rw [if_neg h]; simp [h]
structure GInv (S : List Ev) (g : Grp) : Prop where
 cur : ∀ L ps, g.cur = some (L, ps) -> ps = partsOf S L /\ ps ≠ [] /\ (∀ r ∈ g.done, cmpL r.1 L < 0) /\ ∀ x ∈ S, cmpL x.1.1 L <= 0
 none_ : g.cur = none -> S = [] /\ g.done = []
 rls : Rls g.done
 say : ∀ r ∈ g.done, r.2 = smp (partsOf S r.1) /\ partsOf S r.1 ≠ []
 all : ∀ x ∈ S, (∃ r ∈ g.done, r.1 = x.1.1) \/ ∃ ps, g.cur = some (x.1.1, ps)
theorem GInv.start : GInv [] ⟨[], none⟩ := ⟨fun _ _ h => (by cases h), fun _ => ⟨rfl, rfl⟩, List.Pairwise.nil, fun _ h => (by simp at h), fun _ h => (by simp at h)⟩
theorem GInv.step {S : List Ev} {g : Grp} {x : Ev} (h : GInv S g) (hx : ∀ y ∈ S, cmpL y.1.1 x.1.1 <= 0) : GInv (S ++ [x]) (g.add x.1) := by
 obtain ⟨done, cur⟩ := g
 rcases cur with _ | ⟨L, ps⟩
 ·obtain ⟨rfl, hd⟩ := h.none_ rfl
  have hd : done = [] := hd
  subst hd
  refine ⟨fun L ps he => ?_, fun he => (by cases he), List.Pairwise.nil, fun r hr => (by simp [Grp.add] at hr), fun y hy => .inr ?_⟩
  ·have he : some (x.1.1, [x.1.2]) = some (L, ps) := he
   injection he with he
   injection he with h1 h2
   subst h1; subst h2
   refine ⟨by rw [partsOf_snoc, if_pos rfl]; rfl, by simp, fun r hr => (by simp [Grp.add] at hr), fun y hy => ?_⟩
   rcases List.mem_append.1 hy with hy | hy
   ·exact hx y hy
   ·obtain rfl := List.mem_singleton.1 hy
    rw [cmpL_self]; omega
  ·obtain rfl : y = x := by simpa using hy
   exact ⟨_, rfl⟩
 ·obtain ⟨c1, c2, c3, c4⟩ := h.cur L ps rfl
  by_cases e : L = x.1.1
  ·have ha : (Grp.mk done (some (L, ps))).add x.1 = ⟨done, some (L, ps ++ [x.1.2])⟩ := if_pos e
   rw [ha]
   have hds : ∀ r ∈ done, r.1 ≠ x.1.1 := fun r hr he => by
    have := c3 r hr
    rw [he, e, cmpL_self] at this
    omega
   refine ⟨fun L' ps' he => ?_, fun he => (by cases he), h.rls, fun r hr => ?_, fun y hy => ?_⟩
   ·injection he with he
    injection he with h1 h2
    subst h1; subst h2
    refine ⟨by rw [partsOf_snoc, if_pos e.symm, <- c1], by simp, c3, fun y hy => ?_⟩
    rcases List.mem_append.1 hy with hy | hy
    ·exact c4 y hy
    ·obtain rfl := List.mem_singleton.1 hy
     rw [e, cmpL_self]; omega
   ·rw [partsOf_snoc, if_neg (fun h => hds r hr h.symm), List.append_nil]
    exact h.say r hr
   ·rcases List.mem_append.1 hy with hy | hy
    ·rcases h.all y hy with h1 | ⟨ps', h1⟩
     ·exact .inl h1
     ·right
      injection h1 with h1
      injection h1 with h1 _
      exact ⟨_, by rw [h1]⟩
    ·obtain rfl := List.mem_singleton.1 hy
     exact .inr ⟨_, by rw [e]⟩
  ·have ha : (Grp.mk done (some (L, ps))).add x.1 = ⟨done ++ [(L, smp ps)], some (x.1.1, [x.1.2])⟩ := if_neg e
   rw [ha]
   have hmem : ∃ y ∈ S, y.1.1 = L := by
    rcases hp : S.filter (fun y => decide (y.1.1 = L)) with _ | ⟨y, r⟩
    ·exact absurd (by rw [c1]; unfold partsOf; rw [hp]; rfl) c2
    ·have : y ∈ S.filter (fun y => decide (y.1.1 = L)) := by rw [hp]; simp
     exact ⟨y, (List.mem_filter.1 this).1, of_decide_eq_true (List.mem_filter.1 this).2⟩
   have hlt : cmpL L x.1.1 < 0 := by
    obtain ⟨y, hy, rfl⟩ := hmem
    have h1 := hx y hy
    by_cases h0 : cmpL y.1.1 x.1.1 = 0
    ·exact absurd (cmpL_zero.1 h0) e
    ·omega
   have hnew : ∀ y ∈ S, y.1.1 ≠ x.1.1 := fun y hy he => by
    have := c4 y hy
    rw [he] at this
    have := cmpL_neg L x.1.1
    omega
   have hpx : partsOf S x.1.1 = [] := by
    unfold partsOf
    rw [List.filter_eq_nil_iff.2 fun y hy => by simpa using hnew y hy]; rfl
   refine ⟨fun L' ps' he => ?_, fun he => (by cases he), ?_, fun r hr => ?_, fun y hy => ?_⟩
   ·injection he with he
    injection he with h1 h2
    subst h1; subst h2
    refine ⟨by rw [partsOf_snoc, if_pos rfl, hpx]; rfl, by simp, fun r hr => ?_, fun y hy => ?_⟩
    ·rcases List.mem_append.1 hr with hr | hr
     ·exact cmpL_lt_trans (c3 r hr) hlt
     ·obtain rfl := List.mem_singleton.1 hr
      exact hlt
    ·rcases List.mem_append.1 hy with hy | hy
     ·exact hx y hy
     ·obtain rfl := List.mem_singleton.1 hy
      rw [cmpL_self]; omega
   ·refine List.pairwise_append.2 ⟨h.rls, List.pairwise_singleton _ _, fun a ha b hb => ?_⟩
    obtain rfl := List.mem_singleton.1 hb
    exact c3 a ha
   ·have hne : r.1 ≠ x.1.1 := fun he => by
     rcases List.mem_append.1 hr with hr | hr
     ·have := cmpL_lt_trans (c3 r hr) hlt
      rw [he, cmpL_self] at this; omega
     ·obtain rfl := List.mem_singleton.1 hr
      exact e he
    rw [partsOf_snoc, if_neg (fun h => hne h.symm), List.append_nil]
    rcases List.mem_append.1 hr with hr | hr
    ·exact h.say r hr
    ·obtain rfl := List.mem_singleton.1 hr
     exact ⟨by show smp ps = _; rw [c1], by rw [<- c1]; exact c2⟩
   ·rcases List.mem_append.1 hy with hy | hy
    ·left
     rcases h.all y hy with ⟨r, hr, h1⟩ | ⟨ps', h1⟩
     ·exact ⟨r, List.mem_append_left _ hr, h1⟩
     ·injection h1 with h1
      injection h1 with h1 _
      exact ⟨(L, smp ps), by simp, h1⟩
    ·obtain rfl := List.mem_singleton.1 hy
     exact .inr ⟨_, rfl⟩

end Go.Bar.Mrg
