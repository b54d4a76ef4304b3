/- The walks of the tables' small functions: classes, marks, syllables; of the program and of the document. -/
import Derived.Test.YtahapmpohaaigaaMap
import Derived.Test.YtahapmpohaaigaaTb
namespace Go.Proofs.Ytahapmpohaaigaa
open Go.RowKit
open Go
set_option linter.unusedVariables false
set_option maxHeartbeats 1000000 in
theorem class_any (r : Int) (w : World) : Calls Try.prog 28 #[.int .i64 r] w fun e w' => e = .returned (.int .i64 (Tb.classI r)) ∧ w = w' := by
  by_cases h1 : r < 768
  · have e : Tb.classI r = 0 := by unfold Tb.classI; rw [if_pos (Or.inl h1)]
    rw [e]
    go_enter Try.func28, Try.ntmps28
    go_wp2
    go_ret
    exact ⟨rfl, rfl⟩
  · by_cases h2 : 837 < r
    · have e : Tb.classI r = 0 := by unfold Tb.classI; rw [if_pos (Or.inr h2)]
      rw [e]
      go_enter Try.func28, Try.ntmps28
      go_wp2
      go_ret
      exact ⟨rfl, rfl⟩
    · go_enter Try.func28, Try.ntmps28
      go_wp2
      all_goals
        go_ret
        refine ⟨ret_int ?_, rfl⟩
        try simp only [beq_iff_eq, beq_eq_false_iff_ne, ne_eq] at *
        unfold Tb.classI
        repeat' split
        all_goals omega
set_option maxHeartbeats 1000000 in
theorem rclass_any (r : Int) (w : World) : Calls Try.prog 13 #[.int .i64 r] w fun e w' => e = .returned (.int .i64 (Tb.classI r)) ∧ w = w' := by
  go_enter Try.func13, Try.ntmps13
  go_wp2
  all_goals
    go_ret
    refine ⟨ret_int ?_, rfl⟩
    try simp only [beq_iff_eq, beq_eq_false_iff_ne, ne_eq] at *
    unfold Tb.classI
    repeat' split
    all_goals omega
theorem hang_any (r : Int) (w : World) : Calls Try.prog 44 #[.int .i64 r] w fun e w' => e = .returned (.bool (Tb.hangB r)) ∧ w = w' := by
  unfold Tb.hangB
  by_cases h1 : 44032 ≤ r
  · by_cases h2 : r < 55204
    all_goals
      go_enter Try.func44, Try.ntmps44
      go_wp2
      go_ret
      exact ⟨ret_bool (by simp [h1, h2]), rfl⟩
  · go_enter Try.func44, Try.ntmps44
    go_wp2
    go_ret
    exact ⟨ret_bool (by simp; omega), rfl⟩
theorem rhang_any (r : Int) (w : World) : Calls Try.prog 32 #[.int .i64 r] w fun e w' => e = .returned (.bool (Tb.hangB r)) ∧ w = w' := by
  unfold Tb.hangB
  by_cases h1 : 44032 ≤ r
  · by_cases h2 : r < 55204
    all_goals
      go_enter Try.func32, Try.ntmps32
      go_wp2
      go_ret
      exact ⟨ret_bool (by simp [h1, h2]), rfl⟩
  · go_enter Try.func32, Try.ntmps32
    go_wp2
    go_ret
    exact ⟨ret_bool (by simp; omega), rfl⟩
def inB (r a n : Int) : Bool := decide (a ≤ r ∧ r < a + n)
end Go.Proofs.Ytahapmpohaaigaa
