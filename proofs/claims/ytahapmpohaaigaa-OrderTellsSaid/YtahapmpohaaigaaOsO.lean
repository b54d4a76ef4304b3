/- Rows of ints that come in; rows kept by calls. -/
import Derived.Test.YtahapmpohaaigaaOsR
import Derived.OpenShut
import Derived.Deep.Slices
namespace Go.Proofs.Ytahapmpohaaigaa
open Go.ChangeShapes Go.WideShapes Go.RowKit Go.Deep
open Go
set_option linter.unusedVariables false
section
variable {H : Type} {enc : TypeId × Value → H} {W : World} {base : Nat} {spare : Nat → Bool} {held : Bool}
theorem cell_i64 {n : Nat} {c : Value} {y : DataW H × List MemPlace} (h : DataW.trod enc Try.prog W base spare held n 3 [c] = some y) : ∃ k : Int, c = .int .i64 k ∧ Is64 k := by
  obtain ⟨a, e0, _, wa⟩ := DataW.trod_int Try.underlying3 h
  simp at e0
  exact ⟨a, e0, is64_wf wa⟩
theorem list_of {n : Nat} {f : Nat → Int} : ((List.range n).map f).length = n ∧ ∀ j x, ((List.range n).map f)[j]? = some x → j < n ∧ x = f j := by
  refine ⟨by simp, fun j x h => ?_⟩
  have hj := (List.getElem?_eq_some_iff.1 h).1
  simp only [List.length_map, List.length_range] at hj
  rw [List.getElem?_map, List.getElem?_range hj] at h
  exact ⟨hj, (Option.some.inj h).symm⟩
theorem open_ints {r : Reach} {b0 : Nat} {v : Value} {d : DataW H} {p : List MemPlace} (hv : Value.okWide Try.prog W r b0 22 v) (h : DataW.Trod enc Try.prog W base spare held 22 v d p) :
    ∃ (q : Option Addr) (c : Nat) (L : List Int), v = .slice q L.length c ∧ RowP W q c L ∧ All64 L := by
  have hC : Try.prog.cellsOf 3 = 1 := by kernel_rfl
  obtain ⟨a0, len0, cap0, rfl⟩ := okWide_slice Try.underlying22 hv
  obtain ⟨fuel, hf⟩ := h
  rcases open_slice Try.underlying22 hf with ⟨hcs, _⟩ | ⟨a, len, cap, m, n, D, Pl, hcs, _, hl, hm, hmm, _, hi⟩
  · simp [Value.cells] at hcs
    obtain ⟨rfl, rfl, rfl⟩ := hcs
    exact ⟨none, 0, [], rfl, ⟨Nat.le_refl _, Or.inl rfl⟩, fun x hx => by cases hx⟩
  · simp [Value.cells] at hcs
    obtain ⟨rfl, rfl, rfl⟩ := hcs
    have hlm : len0 ≤ m := by rw [hmm]; split <;> omega
    have key : ∀ i, ∃ x : Int, i < len0 → W.cell? (a.add i) = some (.int .i64 x) ∧ Is64 x := by
      intro i
      by_cases hi' : i < len0
      · obtain ⟨cs', hc, ht⟩ := hi i (by omega)
        rw [hC] at hc
        obtain ⟨_, hlen, hat⟩ := World.cells?_some hc
        match cs', hlen with
        | [c0], _ =>
          obtain ⟨x, e0, e1⟩ := cell_i64 (c := c0) ht
          subst e0
          exact ⟨x, fun _ => ⟨by simpa [Addr.add] using hat 0 (by omega), e1⟩⟩
      · exact ⟨0, fun h => absurd h hi'⟩
    obtain ⟨f, hf2⟩ := Classical.skolem.1 key
    obtain ⟨l1, l2⟩ := list_of (n := len0) (f := f)
    refine ⟨some a, cap0, (List.range len0).map f, by rw [l1], ⟨by rw [l1]; exact hl, ?_⟩, fun x hx => ?_⟩
    · by_cases h0 : len0 = 0
      · exact Or.inl (List.length_eq_zero_iff.1 (by rw [l1]; exact h0))
      · obtain ⟨b, off, spot⟩ := a
        have c0 := (hf2 0 (by omega)).1
        have hspot : spot = none := by simpa [Addr.add] using World.cell?_spot c0
        subst hspot
        have hlt := World.block_lt_of_cell? _ _ c0
        refine Or.inr ⟨b, off, rfl, by simpa [Addr.add] using hlt, fun j x hj => ?_⟩
        obtain ⟨hj1, rfl⟩ := l2 j x hj
        have := (hf2 j hj1).1
        rw [add_plain] at this
        exact this
    · obtain ⟨j, hj⟩ := List.getElem?_of_mem hx
      obtain ⟨hj1, rfl⟩ := l2 j x hj
      exact (hf2 j hj1).2
end
theorem RowP.below {W W' : World} {p : Option Addr} {c n : Nat} {L : List Int} (h : RowP W p c L) (hb : Below n W W') (hn : W.heap.size ≤ n) : RowP W' p c L := by
  refine ⟨h.1, ?_⟩
  rcases h.2 with h | ⟨g, o, h1, h2⟩
  · exact Or.inl h
  · exact Or.inr ⟨g, o, h1, h2.kept (hb.block g (Nat.lt_of_lt_of_le h2.1 hn))⟩
theorem RowP.drewN {W : World} {p : Option Addr} {c : Nat} {L : List Int} (h : RowP W p c L) (k : Nat) : RowP (W.drewN k) p c L := h
/-- A row that came out, as one that goes in. -/
theorem OwnL.rowp {W : World} {base : Nat} {v : Value} {L : List Int} (h : OwnL W base v L) : ∃ p c, v = .slice p L.length c ∧ RowP W p c L := by
  rcases h.2 with ⟨rfl, hn⟩ | ⟨g', cap', cur, rfl, hb, hg, hle, _⟩
  · have : L = [] := List.length_eq_zero_iff.1 hn
    subst this
    exact ⟨none, 0, rfl, Nat.le_refl _, Or.inl rfl⟩
  · exact ⟨some ⟨g', 0, none⟩, cap', rfl, OwnL.row (n := L.length) h⟩
theorem out_open {L : List Int} {w : World} {e : Ending} {W' : World} (h : OutPost L w e W') : ∃ p c, e = .returned (.slice p L.length c) ∧ RowP W' p c L ∧ Below w.heap.size w W' := by
  obtain ⟨v, rfl, ho, hb⟩ := h
  obtain ⟨p, c, rfl, hr⟩ := ho.rowp
  exact ⟨p, c, rfl, hr, hb⟩
theorem eq_open {b : Bool} {w : World} {e : Ending} {W' : World} (h : EqPost b w e W') : e = .returned (.bool b) ∧ Below w.heap.size w W' := by
  obtain ⟨rfl, n, rfl⟩ := h
  exact ⟨rfl, below_drewN (Below.refl _ _) _⟩
end Go.Proofs.Ytahapmpohaaigaa
