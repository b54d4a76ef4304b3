/- The walks of the document's Ordered and Sort. -/
import Derived.Test.YtmpoeeioeimmfaaOsL
namespace Go.Proofs.Ytmpoeeioeimmfaa
open Go.RowKit Go.Shelf
open Go
set_option linter.unusedVariables false
set_option maxRecDepth 100000
def SamePost (b : Bool) (w : World) (e : Ending) (w' : World) : Prop := e = .returned (.bool b) ∧ w = w'
theorem OwnL.spot {W : World} {base g n cap : Nat} {L : List Int} (h : OwnL W base (.slice (some ⟨g, 0, none⟩) n cap) L) : (∀ (j : Nat) (x : Int), L[j]? = some x → W.cell? ⟨g, j, none⟩ = some (.int .i64 x) ∧ W.frozen? ⟨g, j, none⟩ = false) ∧ g < W.heap.size ∧ base ≤ g ∧ n = L.length := by
  rcases h.2 with ⟨h3, _⟩ | ⟨g', cap', cur, hv, hb, hg, hle, hmx, hcs, htk⟩
  · cases h3
  · injection hv with hp hn hc
    injection hp with hp
    injection hp with hp1 hp2 hp3
    subst hp1 hc
    rw [Nat.mul_one] at hcs htk
    refine ⟨fun i x hx => ?_, (Array.getElem?_eq_some_iff.1 hg).1, hb, hn⟩
    have h5 := congrArg (fun l : List Value => l[i]?) htk
    have hi : i < L.length := (List.getElem?_eq_some_iff.1 hx).1
    simp only [List.getElem?_map, hx, Option.map_some] at h5
    rw [List.getElem?_take_of_lt hi, Array.getElem?_toList] at h5
    exact ⟨by simp [World.cell?, hg, h5, encI], by simp [World.frozen?, hg]⟩
theorem OwnL.set {W : World} {base g n cap : Nat} {L : List Int} (h : OwnL W base (.slice (some ⟨g, 0, none⟩) n cap) L) (j : Nat) (y : Int) : OwnL (W.setCell ⟨g, j, none⟩ (.int .i64 y)) base (.slice (some ⟨g, 0, none⟩) n cap) (L.set j y) := by
  refine ⟨by simp, Or.inr ?_⟩
  rcases h.2 with ⟨h3, _⟩ | ⟨g', cap', cur, hv, hb, hg, hle, hmx, hcs, htk⟩
  · cases h3
  · refine ⟨g', cap', cur.setIfInBounds j (.int .i64 y), by rw [hv, List.length_set], hb, ?_, by rw [List.length_set]; exact hle, hmx, by simpa using hcs, ?_⟩
    · injection hv with hp _ _
      injection hp with hp
      injection hp with hp1
      subst hp1
      exact heap_setCell_same _ _ _ _ _ _ hg
    · rw [List.length_set, Array.toList_setIfInBounds, List.take_set, htk, List.map_set]
      rfl
theorem OwnL.row {W : World} {base g n cap : Nat} {L : List Int} (h : OwnL W base (.slice (some ⟨g, 0, none⟩) n cap) L) : RowP W (some ⟨g, 0, none⟩) cap L := by
  obtain ⟨h1, h2, _, _⟩ := h.spot
  refine ⟨?_, Or.inr ⟨g, 0, rfl, h2, fun j x hj => by rw [Nat.zero_add]; exact (h1 j x hj).1⟩⟩
  rcases h.2 with ⟨h3, _⟩ | ⟨g', cap', cur, hv, hb, hg, hle, _⟩
  · cases h3
  · injection hv with _ _ hc
    rw [hc]; exact hle
theorem set_two (a : List Int) (x y : Int) (r : List Int) : ((a ++ x :: y :: r).set (a.length + 1) x).set a.length y = a ++ y :: x :: r := by
  rw [List.set_append_right _ _ (by omega), List.set_append_right _ _ (by omega)]
  simp
end Go.Proofs.Ytmpoeeioeimmfaa
