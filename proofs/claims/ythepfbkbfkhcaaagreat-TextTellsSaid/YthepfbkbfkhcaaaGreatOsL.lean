/- The walks of Same, the program's and the document's. -/
import Derived.Test.YthepfbkbfkhcaaaGreatOsK
namespace Go.Proofs.YthepfbkbfkhcaaaGreat
open Go.RowKit Go.Shelf
open Go
set_option linter.unusedVariables false
set_option maxRecDepth 100000
def EqPost (b : Bool) (w : World) (e : Ending) (w' : World) : Prop := e = .returned (.bool b) ∧ ∃ n, w' = w.drewN n
theorem eqL_no {L M : List Int} {i : Nat} {x y : Int} (hx : L[i]? = some x) (hy : M[i]? = some y) (h : x ≠ y) : decide (L = M) = false := by
  rw [decide_eq_false_iff_not]
  intro e
  rw [e, hy] at hx
  exact h (Option.some.inj hx).symm
theorem eqL_yes {L M : List Int} (hl : L.length = M.length) (h : ∀ (j : Nat) (x y : Int), j < L.length → L[j]? = some x → M[j]? = some y → x = y) : decide (L = M) = true := by
  rw [decide_eq_true_iff]
  apply List.ext_getElem? 
  intro i
  by_cases hi : i < L.length
  · rw [List.getElem?_eq_getElem hi, List.getElem?_eq_getElem (show i < M.length by omega)]
    congr 1
    exact h i _ _ hi (List.getElem?_eq_getElem hi) (List.getElem?_eq_getElem (by omega))
  · rw [List.getElem?_eq_none (by omega), List.getElem?_eq_none (by omega)]
end Go.Proofs.YthepfbkbfkhcaaaGreat
