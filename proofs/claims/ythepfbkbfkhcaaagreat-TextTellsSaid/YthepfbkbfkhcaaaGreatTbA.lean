/- The walks of the tables' small functions: classes, marks, syllables; of the program and of the document. -/
import Derived.Test.YthepfbkbfkhcaaaGreatMap
import Derived.Test.YthepfbkbfkhcaaaGreatTb
namespace Go.Proofs.YthepfbkbfkhcaaaGreat
open Go.RowKit
open Go
set_option linter.unusedVariables false
set_option maxHeartbeats 1000000 in
theorem class_any (r : Int) (w : World) : Calls Tryz.prog 66 #[.int .i64 r] w fun e w' => e = .returned (.int .i64 (Tb.classI r)) ∧ w = w' := by
  by_cases h1 : r < 768
  · have e : Tb.classI r = 0 := by unfold Tb.classI; rw [if_pos (Or.inl h1)]
    rw [e]
    go_enter Tryz.func66, Tryz.ntmps66
    go_wp2
    go_ret
    exact ⟨rfl, rfl⟩
  · by_cases h2 : 837 < r
    · have e : Tb.classI r = 0 := by unfold Tb.classI; rw [if_pos (Or.inr h2)]
      rw [e]
      go_enter Tryz.func66, Tryz.ntmps66
      go_wp2
      go_ret
      exact ⟨rfl, rfl⟩
    · go_enter Tryz.func66, Tryz.ntmps66
      go_wp2
      all_goals
        go_ret
        refine ⟨ret_int ?_, rfl⟩
        try simp only [beq_iff_eq, beq_eq_false_iff_ne, ne_eq] at *
        unfold Tb.classI
        repeat' split
        all_goals omega
set_option maxHeartbeats 1000000 in
theorem rclass_any (r : Int) (w : World) : Calls Tryz.prog 73 #[.int .i64 r] w fun e w' => e = .returned (.int .i64 (Tb.classI r)) ∧ w = w' := by
  go_enter Tryz.func73, Tryz.ntmps73
  go_wp2
  all_goals
    go_ret
    refine ⟨ret_int ?_, rfl⟩
    try simp only [beq_iff_eq, beq_eq_false_iff_ne, ne_eq] at *
    unfold Tb.classI
    repeat' split
    all_goals omega
theorem hang_any (r : Int) (w : World) : Calls Tryz.prog 84 #[.int .i64 r] w fun e w' => e = .returned (.bool (Tb.hangB r)) ∧ w = w' := by
  unfold Tb.hangB
  by_cases h1 : 44032 ≤ r
  · by_cases h2 : r < 55204
    all_goals
      go_enter Tryz.func84, Tryz.ntmps84
      go_wp2
      go_ret
      exact ⟨ret_bool (by simp [h1, h2]), rfl⟩
  · go_enter Tryz.func84, Tryz.ntmps84
    go_wp2
    go_ret
    exact ⟨ret_bool (by simp; omega), rfl⟩
theorem rhang_any (r : Int) (w : World) : Calls Tryz.prog 90 #[.int .i64 r] w fun e w' => e = .returned (.bool (Tb.hangB r)) ∧ w = w' := by
  unfold Tb.hangB
  by_cases h1 : 44032 ≤ r
  · by_cases h2 : r < 55204
    all_goals
      go_enter Tryz.func90, Tryz.ntmps90
      go_wp2
      go_ret
      exact ⟨ret_bool (by simp [h1, h2]), rfl⟩
  · go_enter Tryz.func90, Tryz.ntmps90
    go_wp2
    go_ret
    exact ⟨ret_bool (by simp; omega), rfl⟩
def inB (r a n : Int) : Bool := decide (a ≤ r ∧ r < a + n)
theorem in_any (r a n : Int) (h0 : 0 ≤ a) (h1 : a ≤ 100000) (h2 : 0 ≤ n) (h3 : n ≤ 100000) (w : World) : Calls Tryz.prog 83 #[.int .i64 r, .int .i64 a, .int .i64 n] w fun e w' => e = .returned (.bool (inB r a n)) ∧ w = w' := by
  unfold inB
  by_cases h4 : a ≤ r
  · by_cases h5 : r < a + n
    all_goals
      go_enter Tryz.func83, Tryz.ntmps83
      go_wp2
      go_ret
      exact ⟨ret_bool (by simp [h4, h5]), rfl⟩
  · go_enter Tryz.func83, Tryz.ntmps83
    go_wp2
    go_ret
    exact ⟨ret_bool (by simp; omega), rfl⟩
end Go.Proofs.YthepfbkbfkhcaaaGreat
