/- The walk of the document's put: a pair in its place. -/
import Derived.Test.YtahapmpohaaigaaTbD
import Derived.Deep.AppendLies
import Derived.BigRegion
namespace Go.Proofs.Ytahapmpohaaigaa
open Go.RowKit
open Go
set_option linter.unusedVariables false
set_option maxRecDepth 100000
abbrev T3 := Int × Int × Int
def c3 (p : T3) : List Value := [.int .i64 p.1, .int .i64 p.2.1, .int .i64 p.2.2]
def cells3 : List T3 → List Value
  | [] => []
  | p :: l => c3 p ++ cells3 l
theorem cells3_len : ∀ l : List T3, (cells3 l).length = l.length * 3
  | [] => rfl
  | p :: l => by
    unfold cells3
    rw [List.length_append, cells3_len l, List.length_cons]
    simp [c3]
    omega
theorem cells3_app : ∀ l m : List T3, cells3 (l ++ m) = cells3 l ++ cells3 m
  | [], m => rfl
  | p :: l, m => by
    show c3 p ++ cells3 (l ++ m) = (c3 p ++ cells3 l) ++ cells3 m
    rw [cells3_app l m, List.append_assoc]
theorem cells3_at : ∀ (l : List T3) (i : Nat) (p : T3), l[i]? = some p → (cells3 l)[3 * i]? = some (.int .i64 p.1) ∧ (cells3 l)[3 * i + 1]? = some (.int .i64 p.2.1) ∧ (cells3 l)[3 * i + 2]? = some (.int .i64 p.2.2)
  | [], i, p, h => by simp at h
  | q :: l, 0, p, h => by
    simp at h
    subst h
    exact ⟨rfl, rfl, rfl⟩
  | q :: l, i + 1, p, h => by
    simp at h
    have e : ∀ j, (cells3 (q :: l))[3 * (i + 1) + j]? = (cells3 l)[3 * i + j]? := fun j => by
      show (c3 q ++ cells3 l)[3 * (i + 1) + j]? = _
      have e3 : (c3 q).length = 3 := rfl
      have e4 : 3 * (i + 1) + j - 3 = 3 * i + j := by omega
      rw [List.getElem?_append_right (by rw [e3]; omega), e3, e4]
    have ih := cells3_at l i p h
    exact ⟨(e 0).trans ih.1, (e 1).trans ih.2.1, (e 2).trans ih.2.2⟩
theorem cells3_one {l : List T3} : ∀ u ∈ cells3 l, u.oneCell' = true := by
  induction l with
  | nil => intro u h; cases h
  | cons p l ih =>
    intro u h
    unfold cells3 at h
    rcases List.mem_append.1 h with h | h
    · simp [c3] at h
      rcases h with rfl | rfl | rfl <;> rfl
    · exact ih u h
/-- A slice of pairs that lies in the block g. -/
def Row3 (w : World) (g : Nat) (L : List T3) : Prop := g < w.heap.size ∧ ∀ j u, (cells3 L)[j]? = some u → w.cell? ⟨g, j, none⟩ = some u
theorem Row3.at_ {w : World} {g : Nat} {L : List T3} (h : Row3 w g L) {i : Nat} (hi : i < L.length) : w.cell? ⟨g, i * 3, none⟩ = some (.int .i64 (L[i]'hi).1) ∧ w.cell? ⟨g, i * 3 + 1, none⟩ = some (.int .i64 (L[i]'hi).2.1) ∧ w.cell? ⟨g, i * 3 + 2, none⟩ = some (.int .i64 (L[i]'hi).2.2) := by
  obtain ⟨h1, h2, h3⟩ := cells3_at L i (L[i]'hi) (List.getElem?_eq_getElem hi)
  rw [Nat.mul_comm i 3]
  exact ⟨h.2 _ _ h1, h.2 _ _ h2, h.2 _ _ h3⟩
theorem Row3.below {w w' : World} {g n : Nat} {L : List T3} (h : Row3 w g L) (hb : Below n w w') (hg : g < n) : Row3 w' g L := ⟨by have := hb.size; have := h.1; omega, fun j u hu => (hb.cell (p := ⟨g, j, none⟩) hg).trans (h.2 j u hu)⟩
theorem Row3.own {w : World} {base : Nat} {v : Value} {L : List T3} {e : TypeId} (h : w.ownsRow base e 3 v L.length (cells3 L)) (hn : 0 < L.length) : ∃ g cap, v = .slice (some ⟨g, 0, none⟩) L.length cap ∧ base ≤ g ∧ L.length ≤ cap ∧ cap ≤ maxLen ∧ Row3 w g L := by
  obtain ⟨g, cap, rfl, h1, h2⟩ := h.form hn
  refine ⟨g, cap, rfl, h1, ?_, ?_, h2, fun j u hu => ?_⟩
  · rcases h.2 with ⟨h3, _⟩ | ⟨g', c', cur, h3, _, _, h4, _⟩
    · cases h3
    · cases h3
      exact h4
  · rcases h.2 with ⟨h3, _⟩ | ⟨g', c', cur, h3, _, _, _, h4, _⟩
    · cases h3
    · cases h3
      exact h4
  · have := h.cells (g := g) rfl j u hu
    have hadd : (⟨g, 0, none⟩ : Addr).add j = ⟨g, j, none⟩ := by unfold Addr.add; split <;> simp_all
    rw [hadd] at this
    exact this
def putL : List T3 → T3 → List T3
  | [], p => [p]
  | q :: l, p => if q.1 < p.1 then q :: putL l p else p :: q :: l
theorem putL_at : ∀ (L : List T3) (p : T3) (k : Nat), k ≤ L.length → (∀ i (h : i < L.length), i < k → (L[i]'h).1 < p.1) → (∀ h : k < L.length, ¬ (L[k]'h).1 < p.1) → putL L p = L.take k ++ p :: L.drop k
  | [], p, k, hk, _, _ => by
    have : k = 0 := by simpa using hk
    subst this
    rfl
  | q :: l, p, 0, _, _, h2 => by
    have : ¬ q.1 < p.1 := h2 (by simp)
    unfold putL
    rw [if_neg this]
    rfl
  | q :: l, p, k + 1, hk, h1, h2 => by
    have h3 : q.1 < p.1 := h1 0 (by simp) (by omega)
    unfold putL
    rw [if_pos h3, putL_at l p k (by simpa using hk) (fun i h hi => h1 (i + 1) (by simpa using h) (by omega)) (fun h => h2 (by simpa using h))]
    rfl
theorem info_pair : (Try.prog.info? 52).map (fun i => (i.zero, i.size, i.bytes)) = some (some (.agg #[.int .i64 0, .int .i64 0, .int .i64 0]), 3, 24) := by kernel_rfl
theorem cells3_cut (L : List T3) (i j : Nat) (hi : i ≤ L.length) : (cells3 (L.drop i))[j]? = (cells3 L)[i * 3 + j]? := by
  have h : cells3 L = cells3 (L.take i) ++ cells3 (L.drop i) := by rw [← cells3_app, List.take_append_drop]
  have e : (cells3 (L.take i)).length = i * 3 := by
    rw [cells3_len, List.length_take]
    congr 1
    omega
  have e2 : i * 3 + j - i * 3 = j := by omega
  rw [h, List.getElem?_append_right (by rw [e]; omega), e, e2]
theorem Row3.grown {w w' : World} {g : Nat} {L : List T3} {row : Option Nat} (h : Row3 w g L) (hg : w.grownBy w' row) (hne : ∀ k, row = some k → g ≠ k) : Row3 w' g L :=
  ⟨by have := hg.size; have := h.1; omega, fun j u hu => (gb_cell hg (a := ⟨g, j, none⟩) h.1 (fun e => hne g e.symm rfl)).trans (h.2 j u hu)⟩
theorem Row3.alloc {w : World} {g : Nat} {L : List T3} (h : Row3 w g L) (o : Obj) : Row3 (w.alloc o) g L := h.below ((Below.refl w.heap.size w).alloc (Nat.le_refl _) o) h.1
theorem Row3.drewN {w : World} {g : Nat} {L : List T3} (h : Row3 w g L) (n : Nat) : Row3 (w.drewN n) g L := h
theorem Row3.news {w : World} {g i : Nat} {L : List T3} (h : Row3 w g L) (hi : i ≤ L.length) (o : Nat) (ho : o = i * 3) : ∀ j u, (cells3 (L.drop i))[j]? = some u → w.cell? ((⟨g, o, none⟩ : Addr).add j) = some u := by
  intro j u hu
  subst ho
  rw [cells3_cut L i j hi] at hu
  have hadd : (⟨g, i * 3, none⟩ : Addr).add j = ⟨g, i * 3 + j, none⟩ := by unfold Addr.add; split <;> simp_all
  rw [hadd]
  exact h.2 _ _ hu
theorem c3_one (p : T3) : ∀ u ∈ c3 p, u.oneCell' = true := by
  intro u hu
  simp [c3] at hu
  rcases hu with rfl | rfl | rfl <;> rfl
def PutPost (M : List T3) (w : World) (e : Ending) (w' : World) : Prop := ∃ v, e = .returned v ∧ w'.ownsRow (w.heap.size + 1) 52 3 v M.length (cells3 M) ∧ Below w.heap.size w w'
set_option maxHeartbeats 1000000 in
theorem put_row (w : World) (L : List T3) (g cap : Nat) (p0 p1 p2 : Int) (hcap : L.length ≤ cap) (hmax : cap ≤ maxLen) (hL : L.length ≤ 1000) (hr : Row3 w g L) (M : List T3) (hM : putL L (p0, p1, p2) = M) : Calls Try.prog 40 #[.slice (some ⟨g, 0, none⟩) L.length cap, .agg #[.int .i64 p0, .int .i64 p1, .int .i64 p2]] w (PutPost M w) := by
  have HM := Lib.hid hM
  clear hM
  obtain ⟨i0, hi, hi0, hi1, hi2⟩ := info_parts info_pair
  have hcapI : (L.length : Int) ≤ (cap : Int) := by omega
  have hmaxI : (cap : Int) ≤ 9223372036854775807 := by unfold maxLen at hmax; omega
  have HR := Lib.hid hr
  have hgl := hr.1
  clear hr
  go_enter Try.func40, Try.ntmps40
  go_wp2_with fail
  go_loopw [5, 6] (fun v k wr => ∃ i : Nat, i ≤ L.length ∧ k = .int .i64 i ∧ wr.ownsRow (w.heap.size + 1) 52 3 v (L.take i).length (cells3 (L.take i)) ∧ (∀ j (h : j < L.length), j < i → (L[j]'h).1 < p0) ∧ Below (w.heap.size + 1) (w.alloc (.cells #[.int .i64 p0, .int .i64 p1, .int .i64 p2] 52)) wr) (fun _ k _ => L.length - (intOf k).toNat)
  case atStart => exact ⟨0, by omega, rfl, World.ownsRow_nil _ _ _ _, fun j _ h => absurd h (by omega), Below.refl _ _⟩
  case round =>
    obtain ⟨i, hi', rfl, hown, hlt, hB⟩ := hrel
    have k0 : wr.cell? ⟨w.heap.size, 0, none⟩ = some (.int .i64 p0) := (hB.cell (p := ⟨w.heap.size, 0, none⟩) (Nat.lt_succ_self _)).trans (by simp)
    have k1 : wr.cell? ⟨w.heap.size, 1, none⟩ = some (.int .i64 p1) := (hB.cell (p := ⟨w.heap.size, 1, none⟩) (Nat.lt_succ_self _)).trans (by simp)
    have k2 : wr.cell? ⟨w.heap.size, 2, none⟩ = some (.int .i64 p2) := (hB.cell (p := ⟨w.heap.size, 2, none⟩) (Nat.lt_succ_self _)).trans (by simp)
    have HO := Lib.hid hown
    have HLT := Lib.hid hlt
    have hgw : Row3 wr g L := (HR.out.below ((Below.refl _ _).alloc (Nat.le_refl _) _) hgl).below hB (by omega)
    have hlen : (L.take i).length = i := by simp; omega
    have HLEN := Lib.hid hlen
    clear hown hlt hlen
    by_cases hlt : i < L.length
    · obtain ⟨r0, r1, r2⟩ := hgw.at_ hlt
      have HW := Lib.hid hgw
      clear hgw
      generalize hq : L[i] = q at *
      obtain ⟨q0, q1, q2⟩ := q
      simp only at r0 r1 r2
      have HQ := Lib.hid hq
      clear hq
      have i1 : (0 : Int) ≤ (i : Int) := by omega
      have i2 : (i : Int) < (L.length : Int) := by omega
      have hzz := hB.size
      rw [World.size_alloc] at hzz
      by_cases hc : q0 < p0
      · have ht : L.take (i + 1) = L.take i ++ [(q0, q1, q2)] := by rw [List.take_succ_eq_append_getElem hlt, HQ.out]
        have HT := Lib.hid ht
        have HC := Lib.hid hc
        clear ht
        go_wp2_with fail
        go_quiet (fail)
        go_wp2_with (at_builtin; refine wpList_append_lies _ rfl (.tmp 21) (.tmp 26) _ rfl (w.heap.size + 1) 52 i0 _ 3 24 Try.underlying49 hi hi0 hi1 hi2 rfl (by omega) _ _ _ (by rfl) (HO.out.alloc _) ⟨wr.heap.size, 0, none⟩ 1 1 (c3 (q0, q1, q2)) (by rfl) rfl (World.news_of_block (heap_alloc_new _ _)) (c3_one _) (by omega) (by rw [HLEN.out]; unfold maxLen; omega) (by rw [HLEN.out]; omega) (by simp; omega) _ rfl ?_; intro g1 cap1 w2 hown2 hgrow2 hat2 hlt2)
        refine ⟨⟨i + 1, by omega, by go_num, ?_, fun j h hj => ?_, ?_⟩, by simp [intOf]; omega⟩
        · rw [HT.out, List.length_append, HLEN.out, cells3_app]
          rw [HLEN.out] at hown2
          exact hown2
        · by_cases e : j = i
          · subst e
            rw [HQ.out]
            exact HC.out
          · exact HLT.out j h (by omega)
        · exact (((show Below (w.heap.size + 1) _ (wr.drewN nq) from ⟨hB.os, hB.tape, hB.output, hB.size, hB.block⟩).alloc (by simpa using hzz) _)).grown hgrow2 (by simp; omega) (fun k hk => (HO.out.lt k hk).1)
      · have HSTOP : Hid (∀ h : i < L.length, ¬ (L[i]'h).1 < p0) := Lib.hid (fun h => by rw [HQ.out]; exact hc)
        clear hzz
        go_wp2_with fail
        go_quiet (fail)
        have HST : Hid (M = L.take i ++ (p0, p1, p2) :: L.drop i) := Lib.hid (HM.out.symm.trans (putL_at L (p0, p1, p2) i (by omega) HLT.out (fun h => by have := HSTOP.out h; simpa using this)))
        have hB0 : Below (w.heap.size + 1) wr wr := Below.refl _ _
        have hzz := hB.size
        rw [World.size_alloc] at hzz
        have hnb := HO.out.lt
        have HNB := Lib.hid hnb
        clear hnb
        have iI : (i : Int) ≤ (cap : Int) := by omega
        go_wp2_with (first | (at_builtin; refine wpList_append_lies _ rfl (.tmp 30) (.tmp 32) _ rfl (w.heap.size + 1) 52 i0 _ 3 24 Try.underlying49 hi hi0 hi1 hi2 rfl (by omega) _ _ _ (by rfl) (HO.out.alloc _) ⟨wr.heap.size, 0, none⟩ 1 1 (c3 (p0, p1, p2)) (by rfl) rfl (World.news_of_block (heap_alloc_new _ _)) (c3_one _) (by omega) (by rw [HLEN.out]; unfold maxLen; omega) (by rw [HLEN.out]; omega) (by simp; omega) _ rfl ?_; intro g1 cap1 w2 hown2 hgrow2 hat2 hlt2; rw [HLEN.out] at hown2; have hrow2 : Row3 w2 g L := ((HW.out.drewN nq).alloc _).grown hgrow2 (fun k hk => by have := (HNB.out k hk).1; omega); have HR2 := Lib.hid hrow2; have HO2 := Lib.hid hown2; have HG2 := Lib.hid hgrow2; have hz2 := hgrow2.size; rw [World.size_alloc] at hz2; clear hrow2 hown2 hgrow2) | (at_builtin; refine wpList_append_own_at _ rfl (.tmp 34) (.tmp 37) _ rfl (w.heap.size + 1) 52 i0 _ 3 24 Try.underlying49 hi hi0 hi1 hi2 rfl (by omega) _ _ _ (by rfl) HO2.out ⟨g, i * 3, none⟩ (L.length - i) (cap - i) (cells3 (L.drop i)) (by rfl) (by rw [cells3_len, List.length_drop]) (HR2.out.news (by omega) _ rfl) cells3_one (by unfold maxLen; omega) (by omega) (by have := hz2; simp at this; omega) ?_; intro v3 w3 hown3 hgrow3 hnil3 hat3))
        go_ret
        refine ⟨v3, rfl, ?_, ?_⟩
        · rw [HST.out]
          have e1 : (L.take i ++ (p0, p1, p2) :: L.drop i).length = i + 1 + (L.length - i) := by
            rw [List.length_append, HLEN.out, List.length_cons, List.length_drop]
            omega
          have e2 : cells3 (L.take i ++ (p0, p1, p2) :: L.drop i) = (cells3 (L.take i) ++ c3 (p0, p1, p2)) ++ cells3 (L.drop i) := by
            rw [cells3_app, List.append_assoc]
            rfl
          rw [e1, e2]
          exact hown3
        · have b1 : Below (w.heap.size + 1) (w.alloc (.cells #[.int .i64 p0, .int .i64 p1, .int .i64 p2] 52)) w2 := (((show Below (w.heap.size + 1) _ (wr.drewN nq) from ⟨hB.os, hB.tape, hB.output, hB.size, hB.block⟩).alloc (by simpa using hzz) _)).grown HG2.out (by simp; omega) (fun k hk => (HNB.out k hk).1)
          have b2 : Below (w.heap.size + 1) (w.alloc (.cells #[.int .i64 p0, .int .i64 p1, .int .i64 p2] 52)) w3 := b1.grown hgrow3 (by have := b1.size; rw [World.size_alloc] at this; exact this) (fun k hk => (HO2.out.lt k hk).1)
          exact (bbox (Below.refl _ _) _).trans (b2.mono (by omega))
        
    · have HSTOP : Hid (∀ h : i < L.length, ¬ (L[i]'h).1 < p0) := Lib.hid (fun h => absurd h hlt)
      have hie : L.length ≤ i := by omega
      have HW := Lib.hid hgw
      clear hgw
      go_wp2_with fail
      go_quiet (fail)
      by_cases hce : cap ≤ i
      · have hce2 : ¬ i < cap := by omega
        have HST : Hid (M = L.take i ++ (p0, p1, p2) :: L.drop i) := Lib.hid (HM.out.symm.trans (putL_at L (p0, p1, p2) i (by omega) HLT.out (fun h => by have := HSTOP.out h; simpa using this)))
        have hB0 : Below (w.heap.size + 1) wr wr := Below.refl _ _
        have hzz := hB.size
        rw [World.size_alloc] at hzz
        have hnb := HO.out.lt
        have HNB := Lib.hid hnb
        clear hnb
        have iI : (i : Int) ≤ (cap : Int) := by omega
        go_wp2_with (first | (at_builtin; refine wpList_append_lies _ rfl (.tmp 30) (.tmp 32) _ rfl (w.heap.size + 1) 52 i0 _ 3 24 Try.underlying49 hi hi0 hi1 hi2 rfl (by omega) _ _ _ (by rfl) (HO.out.alloc _) ⟨wr.heap.size, 0, none⟩ 1 1 (c3 (p0, p1, p2)) (by rfl) rfl (World.news_of_block (heap_alloc_new _ _)) (c3_one _) (by omega) (by rw [HLEN.out]; unfold maxLen; omega) (by rw [HLEN.out]; omega) (by simp; omega) _ rfl ?_; intro g1 cap1 w2 hown2 hgrow2 hat2 hlt2; rw [HLEN.out] at hown2; have hrow2 : Row3 w2 g L := ((HW.out.drewN nq).alloc _).grown hgrow2 (fun k hk => by have := (HNB.out k hk).1; omega); have HR2 := Lib.hid hrow2; have HO2 := Lib.hid hown2; have HG2 := Lib.hid hgrow2; have hz2 := hgrow2.size; rw [World.size_alloc] at hz2; clear hrow2 hown2 hgrow2) | (at_builtin; refine wpList_append_own_at _ rfl (.tmp 34) (.tmp 37) _ rfl (w.heap.size + 1) 52 i0 _ 3 24 Try.underlying49 hi hi0 hi1 hi2 rfl (by omega) _ _ _ (by rfl) HO2.out ⟨g, 0, none⟩ 0 0 [] (by rfl) rfl (fun j u hu => by simp at hu) (fun u hu => by simp at hu) (by unfold maxLen; omega) (by omega) (by have := hz2; simp at this; omega) ?_; intro v3 w3 hown3 hgrow3 hnil3 hat3))
        go_ret
        refine ⟨v3, rfl, ?_, ?_⟩
        · rw [HST.out]
          have e1 : (L.take i ++ (p0, p1, p2) :: L.drop i).length = i + 1 + (L.length - i) := by
            rw [List.length_append, HLEN.out, List.length_cons, List.length_drop]
            omega
          have e2 : cells3 (L.take i ++ (p0, p1, p2) :: L.drop i) = (cells3 (L.take i) ++ c3 (p0, p1, p2)) ++ cells3 (L.drop i) := by
            rw [cells3_app, List.append_assoc]
            rfl
          rw [e1, e2]
          have e3 : L.drop i = [] := List.drop_eq_nil_of_le (by omega)
          have e4 : L.length - i = 0 := by omega
          rw [e3, e4]
          exact hown3
        · have b1 : Below (w.heap.size + 1) (w.alloc (.cells #[.int .i64 p0, .int .i64 p1, .int .i64 p2] 52)) w2 := (((show Below (w.heap.size + 1) _ (wr.drewN nq) from ⟨hB.os, hB.tape, hB.output, hB.size, hB.block⟩).alloc (by simpa using hzz) _)).grown HG2.out (by simp; omega) (fun k hk => (HNB.out k hk).1)
          have b2 : Below (w.heap.size + 1) (w.alloc (.cells #[.int .i64 p0, .int .i64 p1, .int .i64 p2] 52)) w3 := b1.grown hgrow3 (by have := b1.size; rw [World.size_alloc] at this; exact this) (fun k hk => (HO2.out.lt k hk).1)
          exact (bbox (Below.refl _ _) _).trans (b2.mono (by omega))
        
      · have hce2 : i < cap := by omega
        have HST : Hid (M = L.take i ++ (p0, p1, p2) :: L.drop i) := Lib.hid (HM.out.symm.trans (putL_at L (p0, p1, p2) i (by omega) HLT.out (fun h => by have := HSTOP.out h; simpa using this)))
        have hB0 : Below (w.heap.size + 1) wr wr := Below.refl _ _
        have hzz := hB.size
        rw [World.size_alloc] at hzz
        have hnb := HO.out.lt
        have HNB := Lib.hid hnb
        clear hnb
        have iI : (i : Int) ≤ (cap : Int) := by omega
        go_wp2_with (first | (at_builtin; refine wpList_append_lies _ rfl (.tmp 30) (.tmp 32) _ rfl (w.heap.size + 1) 52 i0 _ 3 24 Try.underlying49 hi hi0 hi1 hi2 rfl (by omega) _ _ _ (by rfl) (HO.out.alloc _) ⟨wr.heap.size, 0, none⟩ 1 1 (c3 (p0, p1, p2)) (by rfl) rfl (World.news_of_block (heap_alloc_new _ _)) (c3_one _) (by omega) (by rw [HLEN.out]; unfold maxLen; omega) (by rw [HLEN.out]; omega) (by simp; omega) _ rfl ?_; intro g1 cap1 w2 hown2 hgrow2 hat2 hlt2; rw [HLEN.out] at hown2; have hrow2 : Row3 w2 g L := ((HW.out.drewN nq).alloc _).grown hgrow2 (fun k hk => by have := (HNB.out k hk).1; omega); have HR2 := Lib.hid hrow2; have HO2 := Lib.hid hown2; have HG2 := Lib.hid hgrow2; have hz2 := hgrow2.size; rw [World.size_alloc] at hz2; clear hrow2 hown2 hgrow2) | (at_builtin; refine wpList_append_own_at _ rfl (.tmp 34) (.tmp 37) _ rfl (w.heap.size + 1) 52 i0 _ 3 24 Try.underlying49 hi hi0 hi1 hi2 rfl (by omega) _ _ _ (by rfl) HO2.out ⟨g, i * 3, none⟩ 0 (cap - i) [] (by rfl) rfl (fun j u hu => by simp at hu) (fun u hu => by simp at hu) (by unfold maxLen; omega) (by omega) (by have := hz2; simp at this; omega) ?_; intro v3 w3 hown3 hgrow3 hnil3 hat3))
        go_ret
        refine ⟨v3, rfl, ?_, ?_⟩
        · rw [HST.out]
          have e1 : (L.take i ++ (p0, p1, p2) :: L.drop i).length = i + 1 + (L.length - i) := by
            rw [List.length_append, HLEN.out, List.length_cons, List.length_drop]
            omega
          have e2 : cells3 (L.take i ++ (p0, p1, p2) :: L.drop i) = (cells3 (L.take i) ++ c3 (p0, p1, p2)) ++ cells3 (L.drop i) := by
            rw [cells3_app, List.append_assoc]
            rfl
          rw [e1, e2]
          have e3 : L.drop i = [] := List.drop_eq_nil_of_le (by omega)
          have e4 : L.length - i = 0 := by omega
          rw [e3, e4]
          exact hown3
        · have b1 : Below (w.heap.size + 1) (w.alloc (.cells #[.int .i64 p0, .int .i64 p1, .int .i64 p2] 52)) w2 := (((show Below (w.heap.size + 1) _ (wr.drewN nq) from ⟨hB.os, hB.tape, hB.output, hB.size, hB.block⟩).alloc (by simpa using hzz) _)).grown HG2.out (by simp; omega) (fun k hk => (HNB.out k hk).1)
          have b2 : Below (w.heap.size + 1) (w.alloc (.cells #[.int .i64 p0, .int .i64 p1, .int .i64 p2] 52)) w3 := b1.grown hgrow3 (by have := b1.size; rw [World.size_alloc] at this; exact this) (fun k hk => (HO2.out.lt k hk).1)
          exact (bbox (Below.refl _ _) _).trans (b2.mono (by omega))
        
end Go.Proofs.Ytahapmpohaaigaa
