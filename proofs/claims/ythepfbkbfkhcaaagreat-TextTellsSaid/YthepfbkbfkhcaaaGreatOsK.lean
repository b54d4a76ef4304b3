/- The walk of Runs: what is collected. -/
import Derived.Test.YthepfbkbfkhcaaaGreatOsJ
import Derived.Maps.AppendAt
namespace Go.Proofs.YthepfbkbfkhcaaaGreat
open Go.RowKit Go.Shelf
open Go
set_option linter.unusedVariables false
set_option maxRecDepth 100000
attribute [local go_sem] Oper.semAt_some
theorem infoSI : (Tryz.prog.info? 49).map (fun i => (i.zero, i.size, i.bytes)) = some (some (.slice none 0 0), 1, 24) := by kernel_rfl
def encRun (g o : Nat) (L : List Int) (k : Nat) : Value := .slice (some ⟨g, o + posR L k, none⟩) (runR L k).length (runR L k).length
def runVals (g o : Nat) (L : List Int) (k : Nat) : List Value := (List.range k).map (encRun g o L)
theorem runVals_succ (g o : Nat) (L : List Int) (k : Nat) : runVals g o L (k + 1) = runVals g o L k ++ [encRun g o L k] := by
  unfold runVals
  rw [List.range_succ, List.map_append]
  rfl
theorem runVals_len (g o : Nat) (L : List Int) (k : Nat) : (runVals g o L k).length = k := by simp [runVals]
theorem row_shape {W : World} {base : Nat} {e : TypeId} {v : Value} {n : Nat} {xs : List Value} (h : W.ownsRow base e 1 v n xs) : (∃ pv cv, v = .slice pv n cv) ∧ (∀ q, v.ownBlock = some q → base ≤ q ∧ ∃ cur fz, W.heap[q]? = some (.cells cur e fz)) := by
  rcases h.2 with ⟨rfl, hn⟩ | ⟨g', cap', cur, rfl, hb, hg, _⟩
  · exact ⟨⟨none, 0, by rw [hn]⟩, fun q e => by cases e⟩
  · exact ⟨⟨_, _, rfl⟩, fun q e => by cases e; exact ⟨hb, cur, (0, 0), hg⟩⟩
theorem row_kept {W W' : World} {base : Nat} {e : TypeId} {v : Value} {n : Nat} {xs : List Value} {row : Option Nat} (h : W.ownsRow base e 1 v n xs) (hg : W.grownBy W' row) (hne : ∀ r, row = some r → r < base ∨ ∃ o : Obj, W.heap[r]? = some o ∧ o.isCells = false) : W'.ownsRow base e 1 v n xs := by
  obtain ⟨h1, h2⟩ := h
  refine ⟨h1, ?_⟩
  rcases h2 with h2 | ⟨g', cap', cur, hv, hb, hgg, h3⟩
  · exact Or.inl h2
  · refine Or.inr ⟨g', cap', cur, hv, hb, (hg.block g' (Array.getElem?_eq_some_iff.1 hgg).1 ?_).trans hgg, h3⟩
    intro e
    rcases hne g' e.symm with h | ⟨o, ho, hc⟩
    · omega
    · rw [hgg] at ho
      cases ho
      cases hc
theorem row_pos {W : World} {base : Nat} {e : TypeId} {v : Value} {n : Nat} {xs : List Value} (h : W.ownsRow base e 1 v n xs) (hn : 0 < n) : ∃ g cap, v = .slice (some ⟨g, 0, none⟩) n cap ∧ base ≤ g ∧ n ≤ cap ∧ ∃ cur fz, W.heap[g]? = some (.cells cur e fz) := by
  rcases h.2 with ⟨_, h0⟩ | ⟨g', cap', cur, hv, hb, hg, hle, _⟩
  · omega
  · exact ⟨g', cap', hv, hb, hle, cur, (0, 0), hg⟩
def RnI (w : World) (bx g o : Nat) (L : List Int) (k : Nat) (W : World) : Prop := (∃ v, W.cell? ⟨w.heap.size, 0, none⟩ = some v ∧ W.frozen? ⟨w.heap.size, 0, none⟩ = false ∧ W.ownsRow (w.heap.size + 1) 49 1 v k (runVals g o L k)) ∧ Below bx w W ∧ w.heap.size + 1 ≤ W.heap.size
theorem RnI.own {w : World} {bx g o : Nat} {L : List Int} {B : Nat} (hB : w.heap.size + 1 ≤ B) (hbx : bx < w.heap.size) : OwN B (some bx) (RnI w bx g o L) := by
  rintro k W W' row ⟨⟨v, hc, hf, ho⟩, hb, hs⟩ hg hr
  have hne : some w.heap.size ≠ row := fun e => by
    rcases hr _ e.symm with h | ⟨h, _⟩
    · rw [← e] at h; injection h with h; omega
    · omega
  have h1 : w.heap.size < W.heap.size := by omega
  refine ⟨⟨v, (gb_cell hg (a := ⟨w.heap.size, 0, none⟩) h1 hne).trans hc, (gb_frozen hg (a := ⟨w.heap.size, 0, none⟩) h1 hne).trans hf, row_kept ho hg (fun r e => ?_)⟩, hb.grown hg (by omega) (fun r e => ?_), Nat.le_trans hs hg.size⟩
  · rcases hr r e with h | ⟨_, h⟩
    · rw [e] at h; injection h with h; exact Or.inl (by omega)
    · exact Or.inr h
  · rcases hr r e with h | ⟨h, _⟩
    · rw [e] at h; injection h with h; omega
    · omega
def RunsPost (g o : Nat) (L : List Int) (bx : Nat) (w : World) (e : Ending) (W' : World) : Prop := ∃ v, e = .returned v ∧ W'.ownsRow w.heap.size 49 1 v (rnL L).length (runVals g o L (rnL L).length) ∧ Below bx w W'
/-- What Runs hands over: the runs' places. -/
def RnsPost (g o : Nat) (L : List Int) (w : World) (e : Ending) (W' : World) : Prop := ∃ v, e = .returned v ∧ W'.ownsRow w.heap.size 49 1 v (rnL L).length (runVals g o L (rnL L).length) ∧ Below w.heap.size w W'
end Go.Proofs.YthepfbkbfkhcaaaGreat
