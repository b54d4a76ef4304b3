/- The document's Runs: a row of rows. -/
import Derived.Test.YtahapmpohaaigaaOrderRunsW
namespace Go.Proofs.Ytahapmpohaaigaa
open Go.RowKit
open Go
set_option linter.unusedVariables false
theorem rn_nil : rnL ([] : List Int) = [] := rfl
theorem rn_take {L : List Int} {i : Nat} {x : Int} (h : L[i]? = some x) : rnL (L.take (i + 1)) = Ordl.snocR Tb.classI (rnL (L.take i)) x := by
  have e : L.take (i + 1) = L.take i ++ [x] := by
    rw [List.take_add_one, h]
    rfl
  rw [e]
  exact Ordl.runs_snoc cls0 x _
theorem rn_new {L : List Int} {i : Nat} {x : Int} (h : L[i]? = some x) (h0 : i = 0 ∨ Tb.classI x = 0) : rnL (L.take (i + 1)) = rnL (L.take i) ++ [[x]] := by
  rw [rn_take h]
  rcases h0 with rfl | h0
  · rfl
  · cases e : rnL (L.take i) with
    | nil => rfl
    | cons r rs => simp only [Ordl.snocR, if_pos h0]
theorem rn_more {L : List Int} {i : Nat} {x : Int} (h : L[i]? = some x) (hi : 0 < i) (h0 : Tb.classI x ≠ 0) : ∃ Rs R, rnL (L.take i) = Rs ++ [R] ∧ rnL (L.take (i + 1)) = Rs ++ [R ++ [x]] := by
  rw [rn_take h]
  cases e : rnL (L.take i) with
  | nil =>
    have h2 := Ordl.runs_join cls0 (L.take i)
    have h3 : rnL (L.take i) = Ordl.runsL Tb.classI (L.take i) := rfl
    rw [← h3, e] at h2
    have h4 := congrArg List.length h2
    have h5 := (List.getElem?_eq_some_iff.1 h).1
    rw [List.length_take] at h4
    simp at h4
    omega
  | cons r rs =>
    refine ⟨(r :: rs).dropLast, (r :: rs).getLast (by simp), (List.dropLast_concat_getLast (by simp)).symm, ?_⟩
    simp only [Ordl.snocR, if_neg h0]
/-- A run lies in one's own rows, and no two of them share a block. -/
def RowsR (W : World) (base : Nat) (vs : List Value) (Rs : List (List Int)) : Prop :=
  vs.length = Rs.length ∧ (∀ (j : Nat) (u : Value) (R : List Int), vs[j]? = some u → Rs[j]? = some R → OwnL W base u R) ∧ (∀ (j k : Nat) (u u' : Value), j ≠ k → vs[j]? = some u → vs[k]? = some u' → Apart u u')
theorem own_off {W W' : World} {base : Nat} {u : Value} {L : List Int} {row : Option Nat} (h : OwnL W base u L) (hg : W.grownBy W' row) (ha : ∀ r, row = some r → u.ownBlock ≠ some r) : OwnL W' base u L := by
  refine ⟨h.1, ?_⟩
  rcases h.2 with h2 | ⟨g', cap', cur, hv, hb, hgg, h3⟩
  · exact Or.inl h2
  · refine Or.inr ⟨g', cap', cur, hv, hb, (hg.block g' (Array.getElem?_eq_some_iff.1 hgg).1 ?_).trans hgg, h3⟩
    intro e
    exact ha g' e.symm (by rw [hv]; rfl)
theorem RowsR.off {W W' : World} {base : Nat} {vs : List Value} {Rs : List (List Int)} {row : Option Nat} (h : RowsR W base vs Rs) (hg : W.grownBy W' row) (ha : ∀ (j : Nat) (u : Value) r, vs[j]? = some u → row = some r → u.ownBlock ≠ some r) : RowsR W' base vs Rs :=
  ⟨h.1, fun j u R h1 h2 => own_off (h.2.1 j u R h1 h2) hg (fun r e => ha j u r h1 e), h.2.2⟩
/-- The outer row's block is none of the runs'. -/
theorem RowsR.outer {W : World} {base : Nat} {vs : List Value} {Rs : List (List Int)} (h : RowsR W base vs Rs) {v : Value} {n : Nat} {xs : List Value} (hv : W.ownsRow base 22 1 v n xs) : ∀ (j : Nat) (u : Value) r, vs[j]? = some u → v.ownBlock = some r → u.ownBlock ≠ some r := fun j u r hj e e2 => by
  obtain ⟨R, hR⟩ : ∃ R, Rs[j]? = some R := ⟨_, List.getElem?_eq_getElem (by rw [← h.1]; exact (List.getElem?_eq_some_iff.1 hj).1)⟩
  obtain ⟨_, c1, f1, h1⟩ := (row_shape (h.2.1 j u R hj hR)).2 r e2
  obtain ⟨_, c2, f2, h2⟩ := (row_shape hv).2 r e
  rw [h1] at h2
  injection h2 with h2
  injection h2 with _ h2 _
  exact absurd h2 (by decide)
theorem RowsR.snoc {W : World} {base : Nat} {vs : List Value} {Rs : List (List Int)} (h : RowsR W base vs Rs) {u : Value} {R : List Int} (hu : OwnL W base u R) (ha : ∀ (j : Nat) (u' : Value), vs[j]? = some u' → Apart u u' ∧ Apart u' u) : RowsR W base (vs ++ [u]) (Rs ++ [R]) := by
  refine ⟨by simp [h.1], fun j y S h1 h2 => ?_, fun j k y z hne h1 h2 => ?_⟩
  · rcases Nat.lt_or_ge j vs.length with hj | hj
    · rw [List.getElem?_append_left hj] at h1
      rw [List.getElem?_append_left (by rw [← h.1]; exact hj)] at h2
      exact h.2.1 j y S h1 h2
    · have hj2 : j = vs.length := by
        have := (List.getElem?_eq_some_iff.1 h1).1
        simp at this
        omega
      subst hj2
      rw [List.getElem?_concat_length] at h1
      rw [h.1, List.getElem?_concat_length] at h2
      cases h1; cases h2
      exact hu
  · have b1 := (List.getElem?_eq_some_iff.1 h1).1
    have b2 := (List.getElem?_eq_some_iff.1 h2).1
    simp at b1 b2
    rcases Nat.lt_or_ge j vs.length with hj | hj
    · rw [List.getElem?_append_left hj] at h1
      rcases Nat.lt_or_ge k vs.length with hk | hk
      · rw [List.getElem?_append_left hk] at h2
        exact h.2.2 j k y z hne h1 h2
      · obtain rfl : k = vs.length := by omega
        rw [List.getElem?_concat_length] at h2
        cases h2
        exact (ha j y h1).2
    · obtain rfl : j = vs.length := by omega
      rw [List.getElem?_concat_length] at h1
      cases h1
      have hk : k < vs.length := by omega
      rw [List.getElem?_append_left hk] at h2
      exact (ha k z h2).1
/-- The outer row after a store. -/
theorem row_set {W : World} {base : Nat} {e : TypeId} {g n cap : Nat} {xs : List Value} (h : W.ownsRow base e 1 (.slice (some ⟨g, 0, none⟩) n cap) n xs) (j : Nat) (y : Value) : (W.setCell ⟨g, j, none⟩ y).ownsRow base e 1 (.slice (some ⟨g, 0, none⟩) n cap) n (xs.set j y) := by
  refine ⟨by rw [List.length_set]; exact h.1, Or.inr ?_⟩
  rcases h.2 with ⟨h3, _⟩ | ⟨g', cap', cur, hv, hb, hg, hle, hmx, hcs, htk⟩
  · cases h3
  · refine ⟨g', cap', cur.setIfInBounds j y, hv, hb, ?_, hle, hmx, by simpa using hcs, ?_⟩
    · injection hv with hp _ _
      injection hp with hp
      injection hp with hp1
      subst hp1
      exact heap_setCell_same _ _ _ _ _ _ hg
    · rw [Array.toList_setIfInBounds, List.take_set, htk]
theorem row_lt {W : World} {base : Nat} {e : TypeId} {v : Value} {n : Nat} {xs : List Value} (h : W.ownsRow base e 1 v n xs) : ∀ r, v.ownBlock = some r → r < W.heap.size := fun r e => by
  obtain ⟨_, cur, fz, h3⟩ := (row_shape h).2 r e
  exact (Array.getElem?_eq_some_iff.1 h3).1
theorem RowsR.lt {W : World} {base : Nat} {vs : List Value} {Rs : List (List Int)} (h : RowsR W base vs Rs) : ∀ (j : Nat) (u : Value), vs[j]? = some u → ∀ r, u.ownBlock = some r → r < W.heap.size := fun j u hj r e => by
  obtain ⟨R, hR⟩ : ∃ R, Rs[j]? = some R := ⟨_, List.getElem?_eq_getElem (by rw [← h.1]; exact (List.getElem?_eq_some_iff.1 hj).1)⟩
  exact row_lt (h.2.1 j u R hj hR) r e
/-- The last run's own row has grown: its place turns over. -/
theorem RowsR.last {W W' : World} {base : Nat} {vs : List Value} {Rs : List (List Int)} {R : List Int} {u u' : Value} (h : RowsR W base vs (Rs ++ [R])) (hu : vs[Rs.length]? = some u) (hg : W.grownBy W' u.ownBlock) (hb : u'.ownBlock = u.ownBlock ∨ u'.ownBlock = some W.heap.size) {R' : List Int} (hu' : OwnL W' base u' R') : RowsR W' base (vs.set Rs.length u') (Rs ++ [R']) := by
  have hl := h.1
  simp at hl
  refine ⟨by simp [hl], fun j y S h1 h2 => ?_, fun j k y z hne h1 h2 => ?_⟩
  · by_cases hj : j = Rs.length
    · subst hj
      rw [List.getElem?_set_self (by omega)] at h1
      rw [List.getElem?_concat_length] at h2
      cases h1; cases h2
      exact hu'
    · rw [List.getElem?_set_ne (fun e => hj e.symm)] at h1
      have hlt : j < Rs.length := by
        have := (List.getElem?_eq_some_iff.1 h1).1
        omega
      rw [List.getElem?_append_left hlt] at h2
      refine own_off (h.2.1 j y S h1 (by rw [List.getElem?_append_left hlt]; exact h2)) hg (fun r e e2 => ?_)
      exact h.2.2 Rs.length j u y (fun e => hj e.symm) hu h1 r e e2
  · have hA : ∀ (i : Nat) (t : Value), i ≠ Rs.length → vs[i]? = some t → Apart u' t ∧ Apart t u' := fun i t hi ht => by
      refine ⟨fun r e e2 => ?_, fun r e2 e => ?_⟩ <;>
      · rcases hb with hb | hb
        · rw [hb] at e
          exact h.2.2 Rs.length i u t (fun e => hi e.symm) hu ht r e e2
        · rw [hb] at e
          injection e with e
          have := h.lt i t ht r e2
          omega
    by_cases hj : j = Rs.length
    · subst hj
      rw [List.getElem?_set_self (by omega)] at h1
      cases h1
      rw [List.getElem?_set_ne hne] at h2
      exact (hA k z (fun e => hne e.symm) h2).1
    · rw [List.getElem?_set_ne (fun e => hj e.symm)] at h1
      by_cases hk : k = Rs.length
      · subst hk
        rw [List.getElem?_set_self (by omega)] at h2
        cases h2
        exact (hA j y hj h1).2
      · rw [List.getElem?_set_ne (fun e => hk e.symm)] at h2
        exact h.2.2 j k y z hne h1 h2
end Go.Proofs.Ytahapmpohaaigaa
