/-
  Layer 6: the walk of the reference's Sorted.
-/
import Derived.Test.YtpjicajifdandaaDoorLabU
namespace Go.Proofs.YtpjicajifdandaaDoor
open Go.RowKit Go.Bar Go.Bar.Leb Go.Bar.Lab

/-- how a pair is brought in: so much of the list is through -/
def InsS (p : Pr) (acc : List Pr) (j : Nat) (dn : Bool) (ys : List Pr) : Prop :=
  match dn with
  | true => ys = ins p (acc.take j) ∧ ∃ q ∈ acc.take j, p.1 < q.1
  | false => ys = acc.take j ∧ ∀ q ∈ acc.take j, ¬ p.1 < q.1
section
variable {p q : Pr} {acc ys : List Pr} {j : Nat}
theorem InsS.start : InsS p acc 0 false [] := ⟨by simp, by simp⟩
theorem take_snoc' (hq : acc[j]? = some q) : acc.take (j + 1) = acc.take j ++ [q] := by rw [List.take_add_one, hq]; rfl
theorem InsS.hit (h : InsS p acc j false ys) (hq : acc[j]? = some q) (hlt : p.1 < q.1) : InsS p acc (j + 1) true (ys ++ [p] ++ [q]) := by
  obtain ⟨rfl, h2⟩ := h
  refine ⟨?_, q, by rw [take_snoc' hq]; simp, hlt⟩
  rw [take_snoc' hq, ins_skip p _ _ h2]
  simp [ins, hlt]
theorem InsS.miss (h : InsS p acc j false ys) (hq : acc[j]? = some q) (hlt : ¬ p.1 < q.1) : InsS p acc (j + 1) false (ys ++ [q]) := by
  obtain ⟨rfl, h2⟩ := h
  refine ⟨(take_snoc' hq).symm, fun x hx => ?_⟩
  rw [take_snoc' hq, List.mem_append, List.mem_singleton] at hx
  rcases hx with hx | rfl
  · exact h2 x hx
  · exact hlt
theorem InsS.on (h : InsS p acc j true ys) (hq : acc[j]? = some q) : InsS p acc (j + 1) true (ys ++ [q]) := by
  obtain ⟨rfl, x, hx, hlt⟩ := h
  refine ⟨?_, x, by rw [take_snoc' hq]; exact List.mem_append_left _ hx, hlt⟩
  rw [take_snoc' hq, ins_done p _ _ ⟨x, hx, hlt⟩]
theorem InsS.endT (h : InsS p acc acc.length true ys) : ys = ins p acc := by have := h.1; rwa [List.take_length] at this
theorem InsS.endF (h : InsS p acc acc.length false ys) : ys ++ [p] = ins p acc := by
  obtain ⟨rfl, h2⟩ := h
  rw [List.take_length] at *
  have := ins_skip p acc [] h2
  rw [List.append_nil] at this
  rw [this]; rfl
end
theorem sorted_take {l : List Pr} {k : Nat} {p : Pr} (h : l[k]? = some p) : sorted (l.take (k + 1)) = ins p (sorted (l.take k)) := by
  rw [List.take_add_one, h]
  exact sorted_snoc _ _
/-- an append leaves a block that is not the buffer's -/
theorem blk_keep_ap {w w' : World} {M : Nat} {T : TypeId} {cur : Array Value} (h : Blk w M T cur) {sz : Nat} {v : Value} (ha : Ap w w' sz v) (hne : v.ownBlock ≠ some M) : Blk w' M T cur :=
  (ha.grownBy.block M h.lt (fun e => hne e.symm)).trans h

set_option maxHeartbeats 8000000 in
set_option maxRecDepth 10000 in
theorem rsorted_any (v : Value) (l : List Pr) (w : World) (h : PsAt w v l) (hl : l.length ≤ 1000000) :
    Calls Tryd.prog 12 #[v] w (RetRN w (sorted l)) := by
  obtain ⟨A, c, rfl, hlc, hcm⟩ := h.shape
  unfold maxLen at hcm
  have HN0 := Lib.hid (NBuf.lit0 (Below.refl w.heap.size w) 61 2)
  go_enter Tryd.func12, Tryd.ntmps12
  go_wp2_with fail
  go_loopw [13, 3] (fun i d wr => ∃ k : Nat, k ≤ l.length ∧ i = .int .i64 k ∧ Hid (NBuf w wr 61 2 d k (pcs (sorted (l.take k))))) (fun i _ _ => l.length - (intOf i).toNat)
  case atStart => exact ⟨0, Nat.zero_le _, rfl, HN0⟩
  case round =>
    obtain ⟨k, hk, rfl, hnb⟩ := hrel
    obtain ⟨oA, oc, rfl, hoc⟩ := hnb.out.buf.shape
    by_cases hgo : k < l.length
    · obtain ⟨p, hpk⟩ : ∃ p, l[k]? = some p := ⟨_, List.getElem?_eq_getElem hgo⟩
      obtain ⟨b, o, rfl, hbb, g1, g2⟩ := (h.below hnb.out.below).at_ hpk
      have HST := Lib.hid (sorted_take hpk)
      obtain ⟨acc, hacc⟩ : ∃ acc, acc = sorted (l.take k) := ⟨_, rfl⟩
      have hal : acc.length = k := by rw [hacc, sorted_len, List.length_take]; omega
      rw [← hacc] at hnb HST
      clear hacc hpk
      obtain ⟨wI, hwI⟩ : ∃ wI, wI = wr.alloc (.cells #[.string (bs p.1), .string (bs p.2)] 61) := ⟨_, rfl⟩
      obtain ⟨PB, hPB⟩ : ∃ PB, PB = wr.heap.size := ⟨_, rfl⟩
      have HPB := Lib.hid (show Blk wI PB 61 #[.string (bs p.1), .string (bs p.2)] by rw [hwI, hPB]; exact Blk.new _ _ _)
      have HWI := Lib.hid (show Below w.heap.size w wI by rw [hwI]; exact below_trans hnb.out.below (below_alloc1 _ _))
      have HOUT := Lib.hid (show PsAt wI (.slice oA k oc) acc by rw [hwI]; have := (hnb.out.alloc (.cells #[.string (bs p.1), .string (bs p.2)] 61)).slice; unfold PsAt; rw [hal]; exact this)
      have HNI := Lib.hid (NBuf.lit0 (Below.refl wI.heap.size wI) 61 2)
      have hsz : wI.heap.size = PB + 1 := by rw [hwI, hPB]; simp [World.alloc_eq]
      rw [hsz] at HNI
      have hsz2 : (wI.alloc (.cells #[] 61)).heap.size = PB + 1 + 1 := by simp [World.alloc_eq, hsz]
      have HSZ2 := Lib.hid hsz2
      clear hsz2
      go_wp2_with fail
      rw [← hwI, ← hPB]
      clear g1 g2 hnb
      clear hwI hPB
      go_loopw [20, 6, 7] (fun i d f wr => ∃ (j n : Nat) (dn : Bool) (ys : List Pr), j ≤ k ∧ i = .int .i64 j ∧ f = .bool dn ∧ n = j + cond dn 1 0 ∧ Hid (ys.length = n) ∧ Hid (NBuf wI wr 61 2 d n (pcs ys)) ∧ Hid (∀ g, d.ownBlock = some g → g < wr.heap.size) ∧ Hid (InsS p acc j dn ys)) (fun i _ _ _ => k - (intOf i).toNat)
      case atStart => exact ⟨0, 0, false, [], Nat.zero_le _, rfl, rfl, rfl, Lib.hid rfl, HNI, Lib.hid (fun g hg => by simp only [Value.ownBlock, Option.some.injEq] at hg; rw [← hg, HSZ2.out]; omega), Lib.hid InsS.start⟩
      case round =>
        clear HNI HSZ2 hsz
        obtain ⟨j, n, dn, ys, hj, rfl, rfl, hn, hyl, hnb, hlt, hins⟩ := hrel
        obtain ⟨fA, fc, rfl, hfc⟩ := hnb.out.buf.shape
        by_cases hgj : j < k
        · obtain ⟨q, hqj⟩ : ∃ q, acc[j]? = some q := ⟨_, List.getElem?_eq_getElem (by omega)⟩
          obtain ⟨b', o', rfl, hbb', y1, y2⟩ := (HOUT.out.below hnb.out.below).at_ hqj
          have hpb := HPB.out.below hnb.out.below
          have hqb := (Blk.new wr #[.string (bs q.1), .string (bs q.2)] 61)
          have HN1 := Lib.hid (hnb.out.alloc (.cells #[.string (bs q.1), .string (bs q.2)] 61))
          have HNE := Lib.hid (show (Value.slice fA n fc).ownBlock ≠ some wr.heap.size from fun e => absurd (hlt.out _ e) (Nat.lt_irrefl _))
          rcases dn with _ | _
          · obtain rfl : n = j := hn
            by_cases hpq : p.1 < q.1
            · have hls := less_t hpq
              have HIN := Lib.hid (hins.out.hit hqj hpq)
              have p0 := (hpb.alloc (.cells #[.string (bs q.1), .string (bs q.2)] 61)).cell (i := 0) rfl
              have p1 := (hpb.alloc (.cells #[.string (bs q.1), .string (bs q.2)] 61)).cell (i := 1) rfl
              clear hqj hpq hins
              go_wp2_with (at_builtin; first | (refine wpList_append_nlit rfl (.tmp 33) (.tmp 35) 29 rfl rpair_ty rfl HN1.out rfl (by simp) rfl (by simp [Value.oneCell']) (by simp only [maxLen]; omega) (by omega) ?_; intro v3 w3 hn3 ha3; have hq3 := blk_keep_ap (hqb.alloc (.cells #[.string (bs p.1), .string (bs p.2)] 61)) ha3 HNE.out; have q0 : w3.cell? ⟨wr.heap.size, 0, none⟩ = some (.string (bs q.1)) := hq3.cell (i := 0) rfl; have q1 : w3.cell? ⟨wr.heap.size, 1, none⟩ = some (.string (bs q.2)) := hq3.cell (i := 1) rfl; obtain ⟨gA, gc, rfl, hgc⟩ := hn3.buf.shape; have HN4 := Lib.hid hn3; clear hn3 ha3 hq3 p0 p1) | (refine wpList_append_nlit rfl (.tmp 37) (.tmp 39) 29 rfl rpair_ty rfl HN4.out rfl (by simp) rfl (by simp [Value.oneCell']) (by simp only [maxLen]; omega) (by omega) ?_; intro v5 w5 hn5 _))
              have HN6 := Lib.hid hn5
              clear hn5
              go_roundw
              case rel => exact ⟨n + 1, n + 1 + 1, true, ys ++ [p] ++ [q], by omega, by go_num, rfl, rfl, Lib.hid (by simp [hyl.out]), by rw [pcs_snoc, pcs_snoc]; exact HN6, Lib.hid (HN6.out.lt (by omega)), HIN⟩
              case measure => simp [intOf]; omega
            · have hls := less_f hpq
              have HIN := Lib.hid (hins.out.miss hqj hpq)
              have p0 := (hpb.alloc (.cells #[.string (bs q.1), .string (bs q.2)] 61)).cell (i := 0) rfl
              clear hqj hpq hins
              go_wp2_with (at_builtin; refine wpList_append_nlit rfl (.tmp 37) (.tmp 39) 29 rfl rpair_ty rfl HN1.out rfl (by simp) rfl (by simp [Value.oneCell']) (by simp only [maxLen]; omega) (by omega) ?_; intro v5 w5 hn5 _)
              have HN6 := Lib.hid hn5
              clear hn5
              go_roundw
              case rel => exact ⟨n + 1, n + 1, false, ys ++ [q], by omega, by go_num, rfl, rfl, Lib.hid (by simp [hyl.out]), by rw [pcs_snoc]; exact HN6, Lib.hid (HN6.out.lt (by omega)), HIN⟩
              case measure => simp [intOf]; omega
          · obtain rfl : n = j + 1 := hn
            have HIN := Lib.hid (hins.out.on hqj)
            clear hqj hins
            go_wp2_with (at_builtin; refine wpList_append_nlit rfl (.tmp 37) (.tmp 39) 29 rfl rpair_ty rfl HN1.out rfl (by simp) rfl (by simp [Value.oneCell']) (by simp only [maxLen]; omega) (by omega) ?_; intro v5 w5 hn5 _)
            have HN6 := Lib.hid hn5
            clear hn5
            go_roundw
            case rel => exact ⟨j + 1, j + 1 + 1, true, ys ++ [q], by omega, by go_num, rfl, rfl, Lib.hid (by simp [hyl.out]), by rw [pcs_snoc]; exact HN6, Lib.hid (HN6.out.lt (by omega)), HIN⟩
            case measure => simp [intOf]; omega
        · obtain rfl : j = k := by omega
          subst hal
          have hpb := HPB.out.below hnb.out.below
          rcases dn with _ | _
          · obtain rfl : n = acc.length := hn
            have p0 := hpb.cell (i := 0) rfl
            have p1 := hpb.cell (i := 1) rfl
            have HIN := Lib.hid hins.out.endF
            clear hins hpb
            go_wp2_with (at_builtin; refine wpList_append_nlit rfl (.tmp 44) (.tmp 46) 29 rfl rpair_ty rfl hnb.out rfl (by simp) rfl (by simp [Value.oneCell']) (by simp only [maxLen]; omega) (by omega) ?_; intro v5 w5 hn5 _)
            have HN6 := Lib.hid hn5
            clear hn5
            go_roundw
            case rel => exact ⟨acc.length + 1, by omega, by go_num, Lib.hid (by rw [HST.out, ← HIN.out, pcs_snoc]; exact HN6.out.after HWI.out)⟩
            case measure => simp [intOf]; omega
          · obtain rfl : n = acc.length + 1 := hn
            have HIN := Lib.hid hins.out.endT
            clear hins hpb
            go_wp2_with fail
            go_roundw
            case rel => exact ⟨acc.length + 1, by omega, by go_num, Lib.hid (by rw [HST.out, ← HIN.out]; exact hnb.out.after HWI.out)⟩
            case measure => simp [intOf]; omega
    · obtain rfl : k = l.length := by omega
      have hn := hnb.out
      rw [List.take_length] at hn
      have HN := Lib.hid (show NBuf w wr 61 2 (.slice oA l.length oc) (sorted l).length (pcs (sorted l)) by rw [sorted_len]; exact hn)
      clear hn hgo
      go_wp2_with fail
      go_ret
      exact ⟨_, rfl, HN.out⟩

end Go.Proofs.YtpjicajifdandaaDoor
