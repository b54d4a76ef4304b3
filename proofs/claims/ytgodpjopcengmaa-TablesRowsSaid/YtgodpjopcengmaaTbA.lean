/- The walks of the tables' small functions: classes, marks, syllables; of the program and of the document. -/
import Derived.Test.YtgodpjopcengmaaMap
import Derived.Test.YtgodpjopcengmaaTb
namespace Go.Proofs.Ytgodpjopcengmaa
open Go.RowKit
open Go
set_option linter.unusedVariables false
set_option maxHeartbeats 1000000 in
theorem class_any (r : Int) (w : World) : Calls Try.prog 14 #[.int .i64 r] w fun e w' => e = .returned (.int .i64 (Tb.classI r)) ∧ w = w' := by
  by_cases h1 : r < 768
  · have e : Tb.classI r = 0 := by unfold Tb.classI; rw [if_pos (Or.inl h1)]
    rw [e]
    go_enter Try.func14, Try.ntmps14
    go_wp2
    go_ret
    exact ⟨rfl, rfl⟩
  · by_cases h2 : 837 < r
    · have e : Tb.classI r = 0 := by unfold Tb.classI; rw [if_pos (Or.inr h2)]
      rw [e]
      go_enter Try.func14, Try.ntmps14
      go_wp2
      go_ret
      exact ⟨rfl, rfl⟩
    · go_enter Try.func14, Try.ntmps14
      go_wp2
      all_goals
        go_ret
        refine ⟨ret_int ?_, rfl⟩
        try simp only [beq_iff_eq, beq_eq_false_iff_ne, ne_eq] at *
        unfold Tb.classI
        repeat' split
        all_goals omega
set_option maxHeartbeats 1000000 in
theorem rclass_any (r : Int) (w : World) : Calls Try.prog 15 #[.int .i64 r] w fun e w' => e = .returned (.int .i64 (Tb.classI r)) ∧ w = w' := by
  go_enter Try.func15, Try.ntmps15
  go_wp2
  all_goals
    go_ret
    refine ⟨ret_int ?_, rfl⟩
    try simp only [beq_iff_eq, beq_eq_false_iff_ne, ne_eq] at *
    unfold Tb.classI
    repeat' split
    all_goals omega
theorem mark_any (r : Int) (w : World) : Calls Try.prog 10 #[.int .i64 r] w fun e w' => e = .returned (.bool (Tb.markB r)) ∧ w = w' := by
  have c := fun w => class_any r w
  unfold Tb.markB
  generalize Tb.classI r = x at *
  go_enter Try.func10, Try.ntmps10
  go_wp2_with fail
  refine (c _).mono ?_
  rintro e w1 ⟨rfl, rfl⟩
  go_wp2
  go_ret
  exact ⟨rfl, rfl⟩
theorem rmark_any (r : Int) (w : World) : Calls Try.prog 16 #[.int .i64 r] w fun e w' => e = .returned (.bool (Tb.markB r)) ∧ w = w' := by
  have c := fun w => rclass_any r w
  have hb := Tb.class_bd r
  unfold Tb.markB
  generalize Tb.classI r = x at *
  go_enter Try.func16, Try.ntmps16
  go_wp2_with fail
  refine (c _).mono ?_
  rintro e w1 ⟨rfl, rfl⟩
  go_wp2
  go_ret
  refine ⟨ret_bool ?_, rfl⟩
  rw [Bool.eq_iff_iff]
  simp
  omega
theorem hang_any (r : Int) (w : World) : Calls Try.prog 9 #[.int .i64 r] w fun e w' => e = .returned (.bool (Tb.hangB r)) ∧ w = w' := by
  unfold Tb.hangB
  by_cases h1 : 44032 ≤ r
  · by_cases h2 : r < 55204
    all_goals
      go_enter Try.func9, Try.ntmps9
      go_wp2
      go_ret
      exact ⟨ret_bool (by simp [h1, h2]), rfl⟩
  · go_enter Try.func9, Try.ntmps9
    go_wp2
    go_ret
    exact ⟨ret_bool (by simp; omega), rfl⟩
theorem rhang_any (r : Int) (w : World) : Calls Try.prog 17 #[.int .i64 r] w fun e w' => e = .returned (.bool (Tb.hangB r)) ∧ w = w' := by
  unfold Tb.hangB
  by_cases h1 : 44032 ≤ r
  · by_cases h2 : r < 55204
    all_goals
      go_enter Try.func17, Try.ntmps17
      go_wp2
      go_ret
      exact ⟨ret_bool (by simp [h1, h2]), rfl⟩
  · go_enter Try.func17, Try.ntmps17
    go_wp2
    go_ret
    exact ⟨ret_bool (by simp; omega), rfl⟩
def inB (r a n : Int) : Bool := decide (a ≤ r ∧ r < a + n)
theorem in_any (r a n : Int) (h0 : 0 ≤ a) (h1 : a ≤ 100000) (h2 : 0 ≤ n) (h3 : n ≤ 100000) (w : World) : Calls Try.prog 22 #[.int .i64 r, .int .i64 a, .int .i64 n] w fun e w' => e = .returned (.bool (inB r a n)) ∧ w = w' := by
  unfold inB
  by_cases h4 : a ≤ r
  · by_cases h5 : r < a + n
    all_goals
      go_enter Try.func22, Try.ntmps22
      go_wp2
      go_ret
      exact ⟨ret_bool (by simp [h4, h5]), rfl⟩
  · go_enter Try.func22, Try.ntmps22
    go_wp2
    go_ret
    exact ⟨ret_bool (by simp; omega), rfl⟩
end Go.Proofs.Ytgodpjopcengmaa
