/-
  Layer 9: the walks of meta's small functions.
-/
import Derived.Test.YtdmhjejjgcfplaaMetM
import Derived.Test.YtdmhjejjgcfplaaIdtA
import Derived.Test.YtdmhjejjgcfplaaFrmN
import Derived.Test.YtdmhjejjgcfplaaLebA
import Derived.Test.YtdmhjejjgcfplaaLib4
namespace Go.Proofs.Ytdmhjejjgcfplaa
open Go.RowKit Go.Bar Go.Bar.Leb Go.Bar.Frm Go.Bar.Idt Go.Bar.Met

theorem idOk_some {l : List UInt8} {t s : Nat} (h : parse l = some (t, s)) : idOk l = true := by unfold idOk; rw [h]; rfl
theorem idOk_none {l : List UInt8} (h : parse l = none) : idOk l = false := by unfold idOk; rw [h]; rfl

set_option maxHeartbeats 1000000 in
set_option maxRecDepth 10000 in
theorem isID_any (l : List UInt8) (w : World) (hl : l.length ≤ 1000000000000) :
    Calls Try.prog 29 #[.string (bs l)] w fun e w' => e = .returned (.bool (idOk l)) ∧ w = w' := by
  have hp := parse_any l
  obtain ⟨u, hu⟩ : ∃ u, parse l = u := ⟨_, rfl⟩
  rw [hu] at hp
  rcases u with _ | ⟨t, s⟩
  · rw [idOk_none hu]
    simp only [parseV] at hp
    have HP := Lib.hid hp
    clear hp hu
    go_enter Try.func29, Try.ntmps29
    go_wp2_with fail
    refine (HP.out _ hl).mono ?_
    rintro e w' ⟨rfl, rfl⟩
    go_wp2_with fail
    go_ret
    exact ⟨rfl, rfl⟩
  · rw [idOk_some hu]
    simp only [parseV] at hp
    have HP := Lib.hid hp
    clear hp hu
    go_enter Try.func29, Try.ntmps29
    go_wp2_with fail
    refine (HP.out _ hl).mono ?_
    rintro e w' ⟨rfl, rfl⟩
    go_wp2_with fail
    go_ret
    exact ⟨rfl, rfl⟩

/-- sources as cells -/
def scs (ss : List (List UInt8)) : List Value := ss.map fun s => .string (bs s)
theorem scs_length (ss : List (List UInt8)) : (scs ss).length = ss.length := List.length_map _
theorem scs_append (l m : List (List UInt8)) : scs (l ++ m) = scs l ++ scs m := List.map_append
/-- files as cells -/
def fcs (fs : List Fl) : List Value := fs.flatMap fun f => [.string (bs f.name), .int .i64 f.size, .int .u32 f.sum]
theorem fcs_append (l m : List Fl) : fcs (l ++ m) = fcs l ++ fcs m := List.flatMap_append
theorem fcs_length : ∀ (fs : List Fl), (fcs fs).length = fs.length * 3
  | [] => rfl
  | f :: fs => by
    have := fcs_length fs
    unfold fcs at this ⊢
    simp only [List.flatMap_cons, List.length_append, List.length_cons, List.length_nil, this]; omega
theorem fcs_at : ∀ (fs : List Fl) (i : Nat) (f : Fl), fs[i]? = some f → (fcs fs)[i * 3]? = some (.string (bs f.name)) ∧ (fcs fs)[i * 3 + 1]? = some (.int .i64 f.size) ∧ (fcs fs)[i * 3 + 2]? = some (.int .u32 f.sum)
  | [], i, x, h => by simp at h
  | y :: l, 0, x, h => by simp at h; subst h; simp [fcs]
  | y :: l, i + 1, x, h => by
    obtain ⟨h1, h2, h3⟩ := fcs_at l i x (by simpa using h)
    unfold fcs at h1 h2 h3 ⊢
    simp only [List.flatMap_cons, List.cons_append, List.nil_append]
    rw [show (i + 1) * 3 = i * 3 + 1 + 1 + 1 by omega]
    exact ⟨by simpa using h1, by simpa using h2, by simpa using h3⟩
theorem fcs_take : ∀ (l : List Fl) (k : Nat), (fcs l).take (k * 3) = fcs (l.take k)
  | [], k => by simp [fcs]
  | y :: l, 0 => by simp [fcs]
  | y :: l, k + 1 => by
    have := fcs_take l k
    unfold fcs at this ⊢
    simp only [List.flatMap_cons, List.take_succ_cons, List.cons_append, List.nil_append]
    rw [show (k + 1) * 3 = k * 3 + 1 + 1 + 1 by omega, List.take_succ_cons, List.take_succ_cons, List.take_succ_cons, this]

/-- a slice of files, of texts -/
def FlsAt (w : World) (v : Value) (fs : List Fl) : Prop := SlAt w 3 v fs.length (fcs fs)
def SrcAt (w : World) (v : Value) (ss : List (List UInt8)) : Prop := SlAt w 1 v ss.length (scs ss)
theorem FlsAt.below {w w' : World} {v : Value} {fs : List Fl} (h : FlsAt w v fs) (hb : Below w.heap.size w w') : FlsAt w' v fs := SlAt.below h hb
theorem SrcAt.below {w w' : World} {v : Value} {ss : List (List UInt8)} (h : SrcAt w v ss) (hb : Below w.heap.size w w') : SrcAt w' v ss := SlAt.below h hb
theorem FlsAt.shape {w : World} {v : Value} {fs : List Fl} (h : FlsAt w v fs) : ∃ A c, v = .slice A fs.length c ∧ fs.length ≤ c ∧ c ≤ maxLen := SlAt.shape h
theorem SrcAt.shape {w : World} {v : Value} {ss : List (List UInt8)} (h : SrcAt w v ss) : ∃ A c, v = .slice A ss.length c ∧ ss.length ≤ c ∧ c ≤ maxLen := SlAt.shape h
theorem SrcAt.at_ {w : World} {A : Option Addr} {n c i : Nat} {ss : List (List UInt8)} {s : List UInt8} (h : SrcAt w (.slice A n c) ss) (hi : ss[i]? = some s) : ∃ b o, A = some ⟨b, o, none⟩ ∧ b < w.heap.size ∧ w.cell? ⟨b, o + i, none⟩ = some (.string (bs s)) := by
  have hlt : i < ss.length := (List.getElem?_eq_some_iff.1 hi).1
  obtain ⟨A', c', he, _⟩ := h.shape
  injection he with h1 h2 h3
  subst h1; subst h2; subst h3
  obtain ⟨b, o, rfl, hb, hc⟩ := SlAt.cells h (by omega)
  exact ⟨b, o, rfl, hb, hc i _ (by unfold scs; rw [List.getElem?_map, hi]; rfl)⟩
theorem FlsAt.at_ {w : World} {A : Option Addr} {n c i : Nat} {fs : List Fl} {f : Fl} (h : FlsAt w (.slice A n c) fs) (hi : fs[i]? = some f) : ∃ b o, A = some ⟨b, o, none⟩ ∧ b < w.heap.size ∧ w.cell? ⟨b, o + i * 3, none⟩ = some (.string (bs f.name)) ∧ w.cell? ⟨b, o + i * 3 + 1, none⟩ = some (.int .i64 f.size) ∧ w.cell? ⟨b, o + i * 3 + 2, none⟩ = some (.int .u32 f.sum) := by
  have hlt : i < fs.length := (List.getElem?_eq_some_iff.1 hi).1
  obtain ⟨A', c', he, _⟩ := h.shape
  injection he with h1 h2 h3
  subst h1; subst h2; subst h3
  obtain ⟨b, o, rfl, hb, hc⟩ := SlAt.cells h (by omega)
  obtain ⟨g1, g2, g3⟩ := fcs_at fs i _ hi
  exact ⟨b, o, rfl, hb, hc _ _ g1, hc _ _ g2, hc _ _ g3⟩

set_option maxHeartbeats 1000000 in
set_option maxRecDepth 10000 in
theorem of_any (n d : List UInt8) (w : World) (hd : d.length ≤ 1000000000000) :
    Calls Try.prog 20 #[.string (bs n), .string (bs d)] w (RetBelow w (.agg #[.string (bs n), .int .i64 d.length, .int .u32 (sum d)])) := by
  have hs : ∀ w, Calls Try.prog 36 #[.string (bs d)] w fun e w' => e = .returned (.int .u32 (sum d)) ∧ w = w' := fun w => by
    have := sum_any (bs d) w (by rw [bs_size]; unfold maxLen; omega)
    rwa [bs_data] at this
  have HS := Lib.hid hs
  clear hs
  go_enter Try.func20, Try.ntmps20
  go_wp2_with fail
  refine (HS.out _).mono ?_
  rintro e w' ⟨rfl, rfl⟩
  go_wp2_with fail
  refine bodyPost_ret (v := .agg #[.string (bs n), .int .i64 d.length, .int .u32 (sum d)]) (by simp [results, Try.results20, go_sem]) rfl ⟨rfl, ?_⟩
  repeat (refine Below.setCell ?_ (Nat.le_refl _) _)
  exact (Below.refl _ _).alloc (Nat.le_refl _) _

set_option maxHeartbeats 1000000 in
set_option maxRecDepth 10000 in
theorem holds_any (n d : List UInt8) (size : Int) (sm : Nat) (w : World) (hd : d.length ≤ 1000000000000) :
    Calls Try.prog 22 #[.agg #[.string (bs n), .int .i64 size, .int .u32 sm], .string (bs d)] w (RetBelow w (.bool (size == d.length && sm == sum d))) := by
  have hs : ∀ w, Calls Try.prog 36 #[.string (bs d)] w fun e w' => e = .returned (.int .u32 (sum d)) ∧ w = w' := fun w => by
    have := sum_any (bs d) w (by rw [bs_size]; unfold maxLen; omega)
    rwa [bs_data] at this
  have HS := Lib.hid hs
  clear hs
  by_cases h : (size == (d.length : Int)) = true
  · rw [h, Bool.true_and]
    obtain ⟨b, hb⟩ : ∃ b, (((sm : Nat) : Int) == ((sum d : Nat) : Int)) = b := ⟨_, rfl⟩
    have hb' : (sm == sum d) = b := by
      rw [← hb, Bool.eq_iff_iff, beq_iff_eq, beq_iff_eq]; omega
    rw [hb']
    have HB := Lib.hid hb'
    clear hb'
    go_enter Try.func22, Try.ntmps22
    go_wp2_with fail
    have hs2 : ∀ w, Calls Try.prog 36 #[.string (bs d)] w fun e w' => e = .returned (.int .u32 (sum d)) ∧ ∃ n, w' = w.drewN n := fun w => (HS.out w).mono (fun e w' ⟨h1, h2⟩ => ⟨h1, 0, h2.symm⟩)
    have HT := Lib.hid hs2
    clear hs2 HS
    go_quiet (first | (go_at_call 36; refine Calls.quiet_of (HT.out _)))
    go_wp2_with fail
    go_ret
    exact ⟨rfl, below_drewN ((Below.refl _ _).alloc (Nat.le_refl _) _) _⟩
  · have h : (size == (d.length : Int)) = false := by simpa using h
    rw [h, Bool.false_and]
    go_enter Try.func22, Try.ntmps22
    go_wp2_with fail
    go_quiet (fail)
    go_wp2_with fail
    go_ret
    exact ⟨rfl, below_drewN ((Below.refl _ _).alloc (Nat.le_refl _) _) _⟩

/-- a place, or -1 -/
def SomeIdx (ss : List (List UInt8)) (x : List UInt8) (w : World) (e : Ending) (w' : World) : Prop := ∃ z : Int, e = .returned (.int .i64 z) ∧ decide (0 ≤ z) = ss.contains x ∧ w = w'

set_option maxHeartbeats 1000000 in
set_option maxRecDepth 10000 in
theorem strIndex_any (v : Value) (ss : List (List UInt8)) (x : List UInt8) (w : World) (h : SrcAt w v ss) :
    Calls Try.prog 49 #[v, .string (bs x)] w (SomeIdx ss x w) := by
  obtain ⟨A, c, rfl, hlc, hcm⟩ := h.shape
  unfold maxLen at hcm
  go_enter Try.func49, Try.ntmps49
  go_wp2_with fail
  go_loop [8] (fun i => ∃ k : Nat, k ≤ ss.length ∧ i = .int .i64 k ∧ Hid (x ∉ ss.take k)) (fun i => ss.length - (intOf i).toNat)
  case atStart => exact ⟨0, Nat.zero_le _, rfl, Lib.hid (by simp)⟩
  case round =>
    obtain ⟨k, hk, rfl, hx⟩ := hrel
    by_cases hgo : k < ss.length
    · obtain ⟨y, hy⟩ : ∃ y, ss[k]? = some y := ⟨_, List.getElem?_eq_getElem hgo⟩
      obtain ⟨b, o, rfl, hb, hc⟩ := h.at_ hy
      have hci : (0 : Int) ≤ (k : Int) := by omega
      have hci2 : (k : Int) < ss.length := by omega
      have HY := Lib.hid hy
      clear hy
      by_cases he : (x == y) = true
      · go_wp2_with fail
        go_ret
        refine ⟨_, rfl, ?_, rfl⟩
        have : x ∈ ss := by
          rw [beq_iff_eq] at he
          subst he
          exact List.mem_of_getElem? HY.out
        simp [this]
      · have he : (x == y) = false := by simpa using he
        go_wp2_with fail
        go_round
        case rel =>
          refine ⟨k + 1, by omega, by go_num, ?_⟩
          refine Lib.hid ?_
          rw [List.take_add_one, HY.out, List.mem_append]
          rintro (h1 | h1)
          · exact hx.out h1
          · simp at h1
            subst h1
            simp at he
        case measure => simp [intOf]; omega
    · go_wp2_with fail
      go_ret
      refine ⟨_, rfl, ?_, rfl⟩
      have h0 := hx.out
      rw [List.take_of_length_le (by omega)] at h0
      simp [h0]

set_option maxHeartbeats 1000000 in
set_option maxRecDepth 10000 in
theorem strContains_any (v : Value) (ss : List (List UInt8)) (x : List UInt8) (w : World) (h : SrcAt w v ss) :
    Calls Try.prog 37 #[v, .string (bs x)] w (fun e w' => e = .returned (.bool (ss.contains x)) ∧ w = w') := by
  have h1 := strIndex_any v ss x w h
  have H1 := Lib.hid h1
  clear h1
  obtain ⟨A, c, rfl, hlc, hcm⟩ := h.shape
  go_enter Try.func37, Try.ntmps37
  go_wp2_with fail
  refine H1.out.mono ?_
  rintro e w' ⟨z, rfl, hz, rfl⟩
  have HZ := Lib.hid hz
  clear hz
  go_wp2_with fail
  go_ret
  exact ⟨by rw [← HZ.out]; rfl, rfl⟩

set_option maxHeartbeats 1000000 in
set_option maxRecDepth 10000 in
theorem lists_any (m : Mt) (fv sv : Value) (x : List UInt8) (w : World) (h : SrcAt w sv m.ss) :
    Calls Try.prog 21 #[.agg #[.string (bs m.id), .int .i64 m.mn, .int .i64 m.mx, .int .i64 m.lv, .int .i64 m.sr, .int .i64 m.sm, fv, sv], .string (bs x)] w (RetBelow w (.bool (m.ss.contains x))) := by
  obtain ⟨A, c, rfl, hlc, hcm⟩ := h.shape
  have hcc := strContains_any _ m.ss x _ (h.below ((Below.refl _ _).alloc (Nat.le_refl _) (.cells #[.string (bs m.id), .int .i64 m.mn, .int .i64 m.mx, .int .i64 m.lv, .int .i64 m.sr, .int .i64 m.sm, fv, .slice A m.ss.length c] 25)))
  obtain ⟨bb, hbb⟩ : ∃ bb, m.ss.contains x = bb := ⟨_, rfl⟩
  rw [hbb] at hcc ⊢
  have HC := Lib.hid hcc
  clear hbb hcc
  go_enter Try.func21, Try.ntmps21
  go_wp2_with fail
  refine HC.out.mono ?_
  rintro e w' ⟨rfl, rfl⟩
  go_wp2_with fail
  go_ret
  exact ⟨rfl, (Below.refl _ _).alloc (Nat.le_refl _) _⟩

set_option maxHeartbeats 1000000 in
set_option maxRecDepth 10000 in
theorem meets_any (m : Mt) (fv sv : Value) (a b : Int) (w : World) :
    Calls Try.prog 10 #[.agg #[.string (bs m.id), .int .i64 m.mn, .int .i64 m.mx, .int .i64 m.lv, .int .i64 m.sr, .int .i64 m.sm, fv, sv], .int .i64 a, .int .i64 b] w (RetBelow w (.bool (decide (m.mn < b) && decide (a < m.mx)))) := by
  by_cases h1 : m.mn < b
  · by_cases h2 : a < m.mx
    · go_enter Try.func10, Try.ntmps10
      go_wp2_with fail
      go_ret
      exact ⟨by rw [decide_eq_true h1, decide_eq_true h2]; rfl, (Below.refl _ _).alloc (Nat.le_refl _) _⟩
    · have h3 : decide (a < m.mx) = false := decide_eq_false h2
      go_enter Try.func10, Try.ntmps10
      go_wp2_with fail
      go_ret
      exact ⟨rfl, (Below.refl _ _).alloc (Nat.le_refl _) _⟩
  · have h3 : decide (m.mn < b) = false := decide_eq_false h1
    go_enter Try.func10, Try.ntmps10
    go_wp2_with fail
    go_ret
    exact ⟨rfl, (Below.refl _ _).alloc (Nat.le_refl _) _⟩

set_option maxHeartbeats 1000000 in
set_option maxRecDepth 10000 in
theorem only_any (l : List UInt8) (k : UInt8) (w : World) (hl : l.length ≤ 1000000000000) :
    Calls Try.prog 38 #[.string (bs l), .int .u8 k.toNat] w (RetBelow w (.tuple #[.string (bs (only l k).1), .int .i64 (only l k).2])) := by
  obtain ⟨kd, d, r, er, hn⟩ : ∃ k d r e, next l = ((k, d), r, e) := ⟨_, _, _, _, rfl⟩
  have hc := next_of hn
  have HC := Lib.hid hc
  unfold only
  rw [hn]
  simp only
  clear hc hn
  by_cases h0 : er = 0
  · subst h0
    by_cases h1 : r = []
    · subst h1
      by_cases h2 : kd = k
      · subst h2
        have hb : (((kd.toNat : Nat) : Int) != ((kd.toNat : Nat) : Int)) = false := by simp
        rw [if_neg (by simp)]
        go_enter Try.func38, Try.ntmps38
        go_wp2_with fail
        refine (HC.out _ (by omega)).mono ?_
        rintro e w1 ⟨rfl, hb1⟩
        go_wp2_with fail
        go_ret2
        exact ⟨rfl, hb1.alloc hb1.size _⟩
      · have hne : kd.toNat ≠ k.toNat := fun h => h2 (UInt8.toNat_inj.1 h)
        have hb : (((kd.toNat : Nat) : Int) != ((k.toNat : Nat) : Int)) = true := by rw [bne_iff_ne]; omega
        rw [if_pos ⟨rfl, .inr h2⟩]
        clear hne h2
        go_enter Try.func38, Try.ntmps38
        go_wp2_with fail
        refine (HC.out _ (by omega)).mono ?_
        rintro e w1 ⟨rfl, hb1⟩
        go_wp2_with fail
        go_ret2
        exact ⟨rfl, hb1.alloc hb1.size _⟩
    · rw [if_pos ⟨rfl, .inl h1⟩]
      have hb : r.isEmpty = false := by cases r; exact absurd rfl h1; rfl
      have hb2 : (r != []) = true := by rw [bne_iff_ne]; exact h1
      clear h1
      go_enter Try.func38, Try.ntmps38
      go_wp2_with fail
      refine (HC.out _ (by omega)).mono ?_
      rintro e w1 ⟨rfl, hb1⟩
      go_wp2_with fail
      go_ret2
      exact ⟨rfl, hb1.alloc hb1.size _⟩
  · rw [if_neg (fun h => h0 h.1)]
    have hb : ((er : Int) == 0) = false := by rw [beq_eq_false_iff_ne]; omega
    clear h0
    go_enter Try.func38, Try.ntmps38
    go_wp2_with fail
    refine (HC.out _ (by omega)).mono ?_
    rintro e w1 ⟨rfl, hb1⟩
    go_wp2_with fail
    go_ret2
    exact ⟨rfl, hb1.alloc hb1.size _⟩

end Go.Proofs.Ytdmhjejjgcfplaa
