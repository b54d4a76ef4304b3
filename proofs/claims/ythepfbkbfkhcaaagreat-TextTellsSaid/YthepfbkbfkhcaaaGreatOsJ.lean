/- The walk of Ordered. -/
import Derived.Test.YthepfbkbfkhcaaaGreatOsI
namespace Go.Proofs.YthepfbkbfkhcaaaGreat
open Go.RowKit Go.Shelf
open Go
set_option linter.unusedVariables false
set_option maxRecDepth 100000
attribute [local go_sem] Oper.semAt_some
def OrdI (w : World) (L : List Int) (k : Nat) (W : World) : Prop := (∀ j, j < k → Ordl.ordB Tb.classI (runR L j) = true) ∧ W.cell? ⟨w.heap.size, 0, none⟩ = some (.bool false) ∧ W.frozen? ⟨w.heap.size, 0, none⟩ = false ∧ Below w.heap.size w W ∧ w.heap.size + 2 ≤ W.heap.size
def OrdX (w : World) (L : List Int) (c : Code) (k : Nat) (W : World) : Prop := c = .ret ∧ Ordl.ordB Tb.classI L = false ∧ W.cell? ⟨w.heap.size, 0, none⟩ = some (.bool false) ∧ Below w.heap.size w W ∧ w.heap.size + 2 ≤ W.heap.size
theorem OrdI.own {w : World} {L : List Int} {B : Nat} (hB : w.heap.size + 2 ≤ B) : OwN B (some (w.heap.size + 1)) (OrdI w L) := by
  rintro k W W' row ⟨ha, hc, hf, hb, hs⟩ hg hr
  have hne : some w.heap.size ≠ row := fun e => by
    rcases hr _ e.symm with h | ⟨h, _⟩
    · rw [← e] at h; injection h with h; omega
    · omega
  have h1 : w.heap.size < W.heap.size := by omega
  refine ⟨ha, (gb_cell hg (a := ⟨w.heap.size, 0, none⟩) h1 hne).trans hc, (gb_frozen hg (a := ⟨w.heap.size, 0, none⟩) h1 hne).trans hf, hb.grown hg (by omega) (fun r e => ?_), Nat.le_trans hs hg.size⟩
  · rcases hr r e with h | ⟨h, _⟩
    · rw [e] at h; injection h with h; omega
    · omega
theorem OrdX.own {w : World} {L : List Int} {B : Nat} (hB : w.heap.size + 2 ≤ B) (c : Code) : OwN B (some (w.heap.size + 1)) (OrdX w L c) := by
  rintro k W W' row ⟨hc0, ha, hc, hb, hs⟩ hg hr
  have hne : some w.heap.size ≠ row := fun e => by
    rcases hr _ e.symm with h | ⟨h, _⟩
    · rw [← e] at h; injection h with h; omega
    · omega
  have h1 : w.heap.size < W.heap.size := by omega
  refine ⟨hc0, ha, (gb_cell hg (a := ⟨w.heap.size, 0, none⟩) h1 hne).trans hc, hb.grown hg (by omega) (fun r e => ?_), Nat.le_trans hs hg.size⟩
  · rcases hr r e with h | ⟨h, _⟩
    · rw [e] at h; injection h with h; omega
    · omega
theorem ord_runs (L : List Int) : Ordl.ordB Tb.classI L = true ↔ ∀ j, j < (rnL L).length → Ordl.ordB Tb.classI (runR L j) = true := by
  rw [← Ordl.runs_ord cls0 L, List.all_eq_true]
  constructor
  · intro h j hj
    exact h _ (List.mem_of_getElem? (run_is L j hj).2)
  · intro h r hr
    obtain ⟨j, hj, e⟩ := List.getElem_of_mem hr
    have h2 := (run_is L j hj).2
    have h3 : (rnL L)[j]? = some (rnL L)[j] := List.getElem?_eq_getElem hj
    rw [h3] at h2
    have h4 := h j hj
    rw [← Option.some.inj h2] at h4
    rw [← e]
    exact h4
theorem ord_tail {x : Int} {t : List Int} (hx : Tb.classI x = 0) : Ordl.ordB Tb.classI t = Ordl.ordB Tb.classI (x :: t) := by
  cases t with
  | nil => rfl
  | cons y t =>
    show Ordl.ordB Tb.classI (y :: t) = (!(decide (0 < Tb.classI y) && decide (Tb.classI y < Tb.classI x)) && Ordl.ordB Tb.classI (y :: t))
    have : ¬ (0 < Tb.classI y ∧ Tb.classI y < Tb.classI x) := by omega
    by_cases p : 0 < Tb.classI y
    · have q : ¬ Tb.classI y < Tb.classI x := fun q => this ⟨p, q⟩
      simp [q]
    · simp [p]
theorem ogb_drewN0 (w : World) (n : Nat) (row : Option Nat) : w.grownBy (w.drewN n) row := ogb_drewN (gb_refl _ _) n
def BoolPost (b : Bool) (w : World) (e : Ending) (w' : World) : Prop := e = .returned (.bool b) ∧ Below w.heap.size w w'
end Go.Proofs.YthepfbkbfkhcaaaGreat
