/- A sorted row's test; the walk of Ordered. -/
import Derived.Test.YthepfbkbfkhcaaaGreatOsH
namespace Ordl
theorem ord_iff_at {cls : Int → Int} : ∀ r : List Int, ordB cls r = true ↔ ∀ (i : Nat) (x y : Int), r[i]? = some x → r[i + 1]? = some y → ¬ (0 < cls y ∧ cls y < cls x)
  | [] => by simp [ordB]
  | [a] => by simp [ordB]
  | a :: b :: l => by
    show (!(decide (0 < cls b) && decide (cls b < cls a)) && ordB cls (b :: l)) = true ↔ _
    rw [Bool.and_eq_true, ord_iff_at (b :: l)]
    constructor
    · rintro ⟨h1, h2⟩ i x y hx hy
      cases i with
      | zero =>
        simp only [List.getElem?_cons_zero, Option.some.injEq] at hx
        simp only [Nat.zero_add, List.getElem?_cons_succ, List.getElem?_cons_zero, Option.some.injEq] at hy
        subst hx hy
        intro h
        simp [h.1, h.2] at h1
      | succ i => exact h2 i x y (by simpa using hx) (by simpa using hy)
    · intro h
      refine ⟨?_, fun i x y hx hy => h (i + 1) x y (by simpa using hx) (by simpa using hy)⟩
      have := h 0 a b rfl rfl
      by_cases p : 0 < cls b
      · have q : ¬ cls b < cls a := fun q => this ⟨p, q⟩
        simp [q]
      · simp [p]
end Ordl
namespace Go.Proofs.YthepfbkbfkhcaaaGreat
open Go.RowKit Go.Shelf
open Go
set_option linter.unusedVariables false
set_option maxRecDepth 100000
attribute [local go_sem] Oper.semAt_some
def IsfPost (r : List Int) (w : World) (e : Ending) (w' : World) : Prop := e = .returned (.bool (Ordl.ordB Tb.classI r)) ∧ ∃ n, w' = w.drewN n
end Go.Proofs.YthepfbkbfkhcaaaGreat
