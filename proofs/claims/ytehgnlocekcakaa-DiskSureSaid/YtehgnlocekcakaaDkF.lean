/- The walks of the disk: new, arm, same, great. -/
import Derived.Test.YtehgnlocekcakaaDkE
namespace Go.Proofs.Ytehgnlocekcakaa
open Go.RowKit
open Go
set_option maxHeartbeats 400000 in
theorem new_any (most : Int) (w : World) : Calls Try.prog 14 #[.int .i64 most] w (DoPost (Dm.newF most) w) := by
  have hz : ((ByteArray.mk #[]).size : Int) = 0 := rfl
  by_cases h : 0 ≤ most ∧ most ≤ 131072
  · have c1 := fun w => check_yes ⟨#[]⟩ 0 ⟨#[]⟩ 0 most (-1) false w ⟨h, ⟨by omega, by omega, by omega⟩, ⟨by omega, by omega, by omega⟩⟩
    have e : Dm.newF most = (⟨⟨#[]⟩, 0, ⟨#[]⟩, 0, most, -1, false⟩, 0) := by unfold Dm.newF; rw [if_pos h]
    rw [e]
    clear e h hz
    go_enter Try.func14, Try.ntmps14
    go_wp2_with fail
    refine (c1 _).mono ?_
    rintro e w1 ⟨rfl, hb1⟩
    have hB : Below w.heap.size w w1 := bn (bbox (bbox (Below.refl _ _) _) _) hb1
    have hD : Seven w1 (w.heap.size + 1) (.string ⟨#[]⟩) (.int .i64 0) (.string ⟨#[]⟩) (.int .i64 0) (.int .i64 most) (.int .i64 (-1)) (.bool false) :=
      Seven.below (W := _) ⟨by go_simp, by go_simp, by go_simp, by go_simp, by go_simp, by go_simp, by go_simp⟩ hb1 (by simp <;> omega)
    have hR : Seven w1 w.heap.size (.string ⟨#[]⟩) (.int .i64 0) (.string ⟨#[]⟩) (.int .i64 0) (.int .i64 0) (.int .i64 0) (.bool false) :=
      Seven.below (W := _) ⟨by go_simp, by go_simp, by go_simp, by go_simp, by go_simp, by go_simp, by go_simp⟩ hb1 (by simp <;> omega)
    have hf : ∀ o, w1.frozen? ⟨w.heap.size, o, none⟩ = false := fun o => (hb1.frozen (p := ⟨w.heap.size, o, none⟩) (by simp <;> omega)).trans (by go_simp)
    obtain ⟨q0, q1, q2, q3, q4, q5, q6⟩ := hD
    obtain ⟨r0, r1, r2, r3, r4, r5, r6⟩ := id hR
    clear hb1 c1
    go_wp2
    refine disk_ret (fn := Try.f14) (p := 2) (u := 3) rfl _ _ _ w.heap.size _ _ _ _ _ _ _ _ rfl rfl ?_ ?_ _ (fun hb => ⟨rfl, hb⟩)
    · with_reducible apply Seven.all
      with_reducible exact hR
    · repeat (refine Below.setCell ?_ (by simp) _)
      exact hB
  · have c1 := fun w => check_no ⟨#[]⟩ 0 ⟨#[]⟩ 0 most (-1) false w (fun k => h k.1)
    have e : Dm.newF most = (Dm.zero, 2) := by unfold Dm.newF; rw [if_neg h]
    rw [e]
    clear e h hz
    go_enter Try.func14, Try.ntmps14
    go_wp2_with fail
    refine (c1 _).mono ?_
    rintro e w1 ⟨rfl, hb1⟩
    have hB : Below w.heap.size w w1 := bn (bbox (bbox (Below.refl _ _) _) _) hb1
    have hR : Seven w1 w.heap.size (.string ⟨#[]⟩) (.int .i64 0) (.string ⟨#[]⟩) (.int .i64 0) (.int .i64 0) (.int .i64 0) (.bool false) :=
      Seven.below (W := _) ⟨by go_simp, by go_simp, by go_simp, by go_simp, by go_simp, by go_simp, by go_simp⟩ hb1 (by simp <;> omega)
    have hf : ∀ o, w1.frozen? ⟨w.heap.size, o, none⟩ = false := fun o => (hb1.frozen (p := ⟨w.heap.size, o, none⟩) (by simp <;> omega)).trans (by go_simp)
    obtain ⟨r0, r1, r2, r3, r4, r5, r6⟩ := id hR
    clear hb1 c1
    go_wp2
    refine disk_ret (fn := Try.f14) (p := 2) (u := 3) rfl _ _ _ w.heap.size _ _ _ _ _ _ _ _ rfl rfl ?_ ?_ _ (fun hb => (show DoPost (Dm.zero, 2) w _ _ from ⟨(show Ending.returned (.tuple #[.agg #[.string ⟨#[]⟩, .int .i64 0, .string ⟨#[]⟩, .int .i64 0, .int .i64 0, .int .i64 0, .bool false], .int .i64 2]) = _ from rfl), hb⟩))
    · with_reducible apply Seven.all
      with_reducible exact hR
    · repeat (refine Below.setCell ?_ (by simp) _)
      exact hB
theorem great_any (d : Dm.Dk) (w : World) : Calls Try.prog 8 #[dv d] w fun e w' => e = .returned (.bool (Dm.greatB d)) ∧ Below w.heap.size w w' := by
  obtain ⟨b0, s0, b1, s1, cap, left, down⟩ := d
  show Calls Try.prog 8 #[.agg #[.string b0, .int .i64 s0, .string b1, .int .i64 s1, .int .i64 cap, .int .i64 left, .bool down]] w _
  go_enter Try.func8, Try.ntmps8
  go_wp2
  all_goals go_ret
  all_goals (refine ⟨ret_bool ?_, bbox (Below.refl _ _) _⟩; unfold Dm.greatB; simp <;> omega)
end Go.Proofs.Ytehgnlocekcakaa
