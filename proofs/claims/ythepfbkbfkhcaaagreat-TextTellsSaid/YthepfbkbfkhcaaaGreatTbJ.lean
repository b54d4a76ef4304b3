/- The walks of the tables' statements without the document's answer: back, and the end. -/
import Derived.Test.YthepfbkbfkhcaaaGreatTbI
namespace Go.Proofs.YthepfbkbfkhcaaaGreat
open Go.RowKit
open Go
set_option linter.unusedVariables false
theorem prs_small : (Tb.prs.all fun p => decide (0 ≤ p.1 ∧ p.1 ≤ 100000 ∧ 0 ≤ p.2.1 ∧ p.2.1 ≤ 100000 ∧ 0 ≤ p.2.2 ∧ p.2.2 ≤ 100000)) = true := by kernel_rfl
theorem made_small {r a b : Int} (h : Tb.madeF r = some (a, b)) : 0 ≤ a ∧ a ≤ 100000 ∧ 0 ≤ b ∧ b ≤ 100000 := by
  unfold Tb.madeF at h
  split at h
  · rename_i hh
    have h1 := (Tb.hang_iff r).1 hh
    split at h
    all_goals
      simp only [Option.some.injEq, Prod.mk.injEq] at h
      omega
  · have := of_decide_eq_true (List.all_eq_true.1 prs_small _ (Tb.look_mem h))
    simp only at this
    omega
theorem whole_small {a b w : Int} (h : Tb.wholeF a b = some w) : 0 ≤ w ∧ w ≤ 100000 := by
  unfold Tb.wholeF at h
  split at h
  · simp only [Option.some.injEq] at h
    omega
  · split at h
    · rename_i h2
      have h3 := (Tb.hang_iff a).1 h2.1
      simp only [Option.some.injEq] at h
      omega
    · have := of_decide_eq_true (List.all_eq_true.1 prs_small _ (Tb.lookP_mem h).1)
      simp only at this
      omega
theorem made_at {r : Int} (hr : Is64 r) {o : Option (Int × Int)} (h : Tb.madeF r = o) (w : World) : Calls Tryz.prog 104 #[.int .i64 r] w fun e w' => e = .returned (madeV o) ∧ Below w.heap.size w w' := by
  rw [← h]
  exact made_any r hr w
theorem whole_at {a b : Int} (ha : Is64 a) (hb : Is64 b) {o : Option Int} (h : Tb.wholeF a b = o) (w : World) : Calls Tryz.prog 65 #[.int .i64 a, .int .i64 b] w fun e w' => e = .returned (wholeV o) ∧ Below w.heap.size w w' := by
  rw [← h]
  exact whole_any a b ha hb w
end Go.Proofs.YthepfbkbfkhcaaaGreat
