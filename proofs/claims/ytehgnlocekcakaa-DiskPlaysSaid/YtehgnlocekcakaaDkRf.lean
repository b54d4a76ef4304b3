/- The walks of the document's disk: new, same, arm, crash. -/
import Derived.Test.YtehgnlocekcakaaDkRa
import Derived.BigRegion
namespace Go.Proofs.Ytehgnlocekcakaa
open Go.RowKit
open Go
set_option linter.unusedVariables false
set_option maxHeartbeats 400000 in
theorem rnew_any (most : Int) (w : World) : Calls Try.prog 23 #[.int .i64 most] w (DoPost (Dm.newF most) w) := by
  by_cases h : 0 ≤ most ∧ most ≤ 131072
  · have e : Dm.newF most = (⟨⟨#[]⟩, 0, ⟨#[]⟩, 0, most, -1, false⟩, 0) := by unfold Dm.newF; rw [if_pos h]
    rw [e]
    obtain ⟨h1, h2⟩ := h
    clear e
    go_enter Try.func23, Try.ntmps23
    go_wp2
    exact disk_ret (fn := Try.f23) (p := 2) (u := 3) rfl _ _ w w.heap.size (.string ⟨#[]⟩) (.int .i64 0) (.string ⟨#[]⟩) (.int .i64 0) (.int .i64 most) (.int .i64 (-1)) (.bool false) (.int .i64 0) rfl rfl ⟨by go_simp, by go_simp, by go_simp, by go_simp, by go_simp, by go_simp, by go_simp⟩ (bbox (Below.refl _ _) _) _ (fun hb => ⟨rfl, hb⟩)
  · have e : Dm.newF most = (Dm.zero, 2) := by unfold Dm.newF; rw [if_neg h]
    rw [e]
    clear e
    have hh : most < 0 ∨ (0 ≤ most ∧ 131072 < most) := by omega
    clear h
    rcases hh with h1 | ⟨h1, h2⟩
    · go_enter Try.func23, Try.ntmps23
      go_wp2
      exact disk_ret (fn := Try.f23) (p := 2) (u := 3) rfl _ _ w w.heap.size (.string ⟨#[]⟩) (.int .i64 0) (.string ⟨#[]⟩) (.int .i64 0) (.int .i64 0) (.int .i64 0) (.bool false) (.int .i64 2) rfl rfl ⟨by go_simp, by go_simp, by go_simp, by go_simp, by go_simp, by go_simp, by go_simp⟩ (bbox (Below.refl _ _) _) _ (fun hb => ⟨rfl, hb⟩)
    · go_enter Try.func23, Try.ntmps23
      go_wp2
      exact disk_ret (fn := Try.f23) (p := 2) (u := 3) rfl _ _ w w.heap.size (.string ⟨#[]⟩) (.int .i64 0) (.string ⟨#[]⟩) (.int .i64 0) (.int .i64 0) (.int .i64 0) (.bool false) (.int .i64 2) rfl rfl ⟨by go_simp, by go_simp, by go_simp, by go_simp, by go_simp, by go_simp, by go_simp⟩ (bbox (Below.refl _ _) _) _ (fun hb => ⟨rfl, hb⟩)
theorem eq_zoneT (a b : ByteArray) (s t : Int) (w : World) : (Op.equalIn 10000 23 (.agg #[.string a, .int .i64 s]) (.agg #[.string b, .int .i64 t])).run Try.prog w = .ok (zEq a b s t) w := eq_zone 9998 a b s t w
set_option maxHeartbeats 400000 in
theorem rsame_any (d o : Dm.Dk) (w : World) : Calls Try.prog 13 #[dv d, dv o] w fun e w' => e = .returned (.bool (sameB d o)) ∧ Below w.heap.size w w' := by
  obtain ⟨b0, s0, b1, s1, cap, left, down⟩ := d
  obtain ⟨c0, t0, c1, t1, cap', left', down'⟩ := o
  show Calls Try.prog 13 #[.agg #[.string b0, .int .i64 s0, .string b1, .int .i64 s1, .int .i64 cap, .int .i64 left, .bool down], .agg #[.string c0, .int .i64 t0, .string c1, .int .i64 t1, .int .i64 cap', .int .i64 left', .bool down']] w _
  have he := eq_zoneT b0 c0 s0 t0
  have hf := eq_zoneT b1 c1 s1 t1
  show Calls _ _ _ _ fun e w' => e = .returned (.bool ((zEq b0 c0 s0 t0 && zEq b1 c1 s1 t1) && (cap == cap' && left == left' && down == down'))) ∧ _
  generalize zEq b0 c0 s0 t0 = q at *
  generalize zEq b1 c1 s1 t1 = r at *
  cases q
  · go_enter Try.func13, Try.ntmps13
    go_wp2
    all_goals go_ret
    all_goals (refine ⟨ret_bool ?_, bbox (bbox (Below.refl _ _) _) _⟩; simp_all)
  · cases r
    · go_enter Try.func13, Try.ntmps13
      go_wp2
      all_goals go_ret
      all_goals (refine ⟨ret_bool ?_, bbox (bbox (Below.refl _ _) _) _⟩; simp_all)
    · go_enter Try.func13, Try.ntmps13
      go_wp2
      all_goals go_ret
      all_goals (refine ⟨ret_bool ?_, bbox (bbox (Below.refl _ _) _) _⟩; simp_all)
set_option maxHeartbeats 400000 in
theorem rarm_no (b0 : ByteArray) (s0 : Int) (b1 : ByteArray) (s1 cap left : Int) (down : Bool) (n : Int) (w : World) (h : ¬ dOk b0 s0 b1 s1 cap) :
    Calls Try.prog 21 #[.agg #[.string b0, .int .i64 s0, .string b1, .int .i64 s1, .int .i64 cap, .int .i64 left, .bool down], .int .i64 n] w fun e w' => e = .returned (.tuple #[.agg #[.string ⟨#[]⟩, .int .i64 0, .string ⟨#[]⟩, .int .i64 0, .int .i64 0, .int .i64 0, .bool false], .int .i64 2]) ∧ Below w.heap.size w w' := by
    have c1 := fun w => rcheck_no b0 s0 b1 s1 cap left down w h
    clear h
    go_enter Try.func21, Try.ntmps21
    go_wp2_with fail
    refine (c1 _).mono ?_
    rintro e w1 ⟨rfl, hb1⟩
    have hB : Below w.heap.size w w1 := bn (bbox (bbox (Below.refl _ _) _) _) hb1
    have hD : Seven w1 w.heap.size (.string b0) (.int .i64 s0) (.string b1) (.int .i64 s1) (.int .i64 cap) (.int .i64 left) (.bool down) :=
      Seven.below (W := _) ⟨by go_simp, by go_simp, by go_simp, by go_simp, by go_simp, by go_simp, by go_simp⟩ hb1 (by simp <;> omega)
    have hR : Seven w1 (w.heap.size + 1) (.string ⟨#[]⟩) (.int .i64 0) (.string ⟨#[]⟩) (.int .i64 0) (.int .i64 0) (.int .i64 0) (.bool false) :=
      Seven.below (W := _) ⟨by go_simp, by go_simp, by go_simp, by go_simp, by go_simp, by go_simp, by go_simp⟩ hb1 (by simp <;> omega)
    have hf : ∀ o, w1.frozen? ⟨w.heap.size, o, none⟩ = false := fun o => (hb1.frozen (p := ⟨w.heap.size, o, none⟩) (by simp <;> omega)).trans (by go_simp)
    have hf2 : ∀ o, w1.frozen? ⟨w.heap.size + 1, o, none⟩ = false := fun o => (hb1.frozen (p := ⟨w.heap.size + 1, o, none⟩) (by simp <;> omega)).trans (by go_simp)
    have hz : w.heap.size + 1 < w1.heap.size := by have := hb1.size; simp at this; omega
    obtain ⟨q0, q1, q2, q3, q4, q5, q6⟩ := hD
    obtain ⟨r0, r1, r2, r3, r4, r5, r6⟩ := id hR
    clear hb1 c1
    go_wp2
    refine disk_ret (fn := Try.f21) (p := 4) (u := 5) rfl _ _ _ (w.heap.size + 1) _ _ _ _ _ _ _ _ rfl rfl ?_ ?_ _ (fun hb => ⟨rfl, hb⟩)
    · try with_reducible apply Seven.drew1
      with_reducible apply Seven.all
      repeat (with_reducible apply Seven.far)
      with_reducible first | exact hR | exact hR.drewN _
      all_goals omega
    · try with_reducible refine Below.drew ?_
      repeat (refine Below.setCell ?_ (by simp <;> omega) _)
      with_reducible first | exact hB | exact below_drewN hB _
set_option maxHeartbeats 400000 in
theorem rarm_lo (b0 : ByteArray) (s0 : Int) (b1 : ByteArray) (s1 cap left : Int) (down : Bool) (n : Int) (w : World) (h : dOk b0 s0 b1 s1 cap) (hn : n < -1) :
    Calls Try.prog 21 #[.agg #[.string b0, .int .i64 s0, .string b1, .int .i64 s1, .int .i64 cap, .int .i64 left, .bool down], .int .i64 n] w fun e w' => e = .returned (.tuple #[.agg #[.string b0, .int .i64 s0, .string b1, .int .i64 s1, .int .i64 cap, .int .i64 (-1), .bool down], .int .i64 0]) ∧ Below w.heap.size w w' := by
    have c1 := fun w => rcheck_yes b0 s0 b1 s1 cap left down w h
    clear h
    go_enter Try.func21, Try.ntmps21
    go_wp2_with fail
    refine (c1 _).mono ?_
    rintro e w1 ⟨rfl, hb1⟩
    have hB : Below w.heap.size w w1 := bn (bbox (bbox (Below.refl _ _) _) _) hb1
    have hD : Seven w1 w.heap.size (.string b0) (.int .i64 s0) (.string b1) (.int .i64 s1) (.int .i64 cap) (.int .i64 left) (.bool down) :=
      Seven.below (W := _) ⟨by go_simp, by go_simp, by go_simp, by go_simp, by go_simp, by go_simp, by go_simp⟩ hb1 (by simp <;> omega)
    have hR : Seven w1 (w.heap.size + 1) (.string ⟨#[]⟩) (.int .i64 0) (.string ⟨#[]⟩) (.int .i64 0) (.int .i64 0) (.int .i64 0) (.bool false) :=
      Seven.below (W := _) ⟨by go_simp, by go_simp, by go_simp, by go_simp, by go_simp, by go_simp, by go_simp⟩ hb1 (by simp <;> omega)
    have hf : ∀ o, w1.frozen? ⟨w.heap.size, o, none⟩ = false := fun o => (hb1.frozen (p := ⟨w.heap.size, o, none⟩) (by simp <;> omega)).trans (by go_simp)
    have hf2 : ∀ o, w1.frozen? ⟨w.heap.size + 1, o, none⟩ = false := fun o => (hb1.frozen (p := ⟨w.heap.size + 1, o, none⟩) (by simp <;> omega)).trans (by go_simp)
    have hz : w.heap.size + 1 < w1.heap.size := by have := hb1.size; simp at this; omega
    obtain ⟨q0, q1, q2, q3, q4, q5, q6⟩ := hD
    obtain ⟨r0, r1, r2, r3, r4, r5, r6⟩ := id hR
    clear hb1 c1
    go_wp2
    refine disk_ret (fn := Try.f21) (p := 4) (u := 5) rfl _ _ _ (w.heap.size + 1) _ _ _ _ _ _ _ _ rfl rfl ?_ ?_ _ (fun hb => ⟨rfl, hb⟩)
    · try with_reducible apply Seven.drew1
      with_reducible apply Seven.all
      repeat (with_reducible apply Seven.far)
      with_reducible first | exact hR | exact hR.drewN _
      all_goals omega
    · try with_reducible refine Below.drew ?_
      repeat (refine Below.setCell ?_ (by simp <;> omega) _)
      with_reducible first | exact hB | exact below_drewN hB _
set_option maxHeartbeats 400000 in
theorem rarm_hi (b0 : ByteArray) (s0 : Int) (b1 : ByteArray) (s1 cap left : Int) (down : Bool) (n : Int) (w : World) (h : dOk b0 s0 b1 s1 cap) (hn : -1 ≤ n) :
    Calls Try.prog 21 #[.agg #[.string b0, .int .i64 s0, .string b1, .int .i64 s1, .int .i64 cap, .int .i64 left, .bool down], .int .i64 n] w fun e w' => e = .returned (.tuple #[.agg #[.string b0, .int .i64 s0, .string b1, .int .i64 s1, .int .i64 cap, .int .i64 n, .bool down], .int .i64 0]) ∧ Below w.heap.size w w' := by
    have c1 := fun w => rcheck_yes b0 s0 b1 s1 cap left down w h
    clear h
    go_enter Try.func21, Try.ntmps21
    go_wp2_with fail
    refine (c1 _).mono ?_
    rintro e w1 ⟨rfl, hb1⟩
    have hB : Below w.heap.size w w1 := bn (bbox (bbox (Below.refl _ _) _) _) hb1
    have hD : Seven w1 w.heap.size (.string b0) (.int .i64 s0) (.string b1) (.int .i64 s1) (.int .i64 cap) (.int .i64 left) (.bool down) :=
      Seven.below (W := _) ⟨by go_simp, by go_simp, by go_simp, by go_simp, by go_simp, by go_simp, by go_simp⟩ hb1 (by simp <;> omega)
    have hR : Seven w1 (w.heap.size + 1) (.string ⟨#[]⟩) (.int .i64 0) (.string ⟨#[]⟩) (.int .i64 0) (.int .i64 0) (.int .i64 0) (.bool false) :=
      Seven.below (W := _) ⟨by go_simp, by go_simp, by go_simp, by go_simp, by go_simp, by go_simp, by go_simp⟩ hb1 (by simp <;> omega)
    have hf : ∀ o, w1.frozen? ⟨w.heap.size, o, none⟩ = false := fun o => (hb1.frozen (p := ⟨w.heap.size, o, none⟩) (by simp <;> omega)).trans (by go_simp)
    have hf2 : ∀ o, w1.frozen? ⟨w.heap.size + 1, o, none⟩ = false := fun o => (hb1.frozen (p := ⟨w.heap.size + 1, o, none⟩) (by simp <;> omega)).trans (by go_simp)
    have hz : w.heap.size + 1 < w1.heap.size := by have := hb1.size; simp at this; omega
    obtain ⟨q0, q1, q2, q3, q4, q5, q6⟩ := hD
    obtain ⟨r0, r1, r2, r3, r4, r5, r6⟩ := id hR
    clear hb1 c1
    go_wp2
    refine disk_ret (fn := Try.f21) (p := 4) (u := 5) rfl _ _ _ (w.heap.size + 1) _ _ _ _ _ _ _ _ rfl rfl ?_ ?_ _ (fun hb => ⟨rfl, hb⟩)
    · try with_reducible apply Seven.drew1
      with_reducible apply Seven.all
      repeat (with_reducible apply Seven.far)
      with_reducible first | exact hR | exact hR.drewN _
      all_goals omega
    · try with_reducible refine Below.drew ?_
      repeat (refine Below.setCell ?_ (by simp <;> omega) _)
      with_reducible first | exact hB | exact below_drewN hB _
set_option maxHeartbeats 400000 in
theorem rcrash_no (b0 : ByteArray) (s0 : Int) (b1 : ByteArray) (s1 cap left : Int) (down : Bool) (a b : Int) (w : World) (h : ¬ dOk b0 s0 b1 s1 cap) :
    Calls Try.prog 22 #[.agg #[.string b0, .int .i64 s0, .string b1, .int .i64 s1, .int .i64 cap, .int .i64 left, .bool down], .int .i64 a, .int .i64 b] w fun e w' => e = .returned (.tuple #[.agg #[.string ⟨#[]⟩, .int .i64 0, .string ⟨#[]⟩, .int .i64 0, .int .i64 0, .int .i64 0, .bool false], .int .i64 2]) ∧ Below w.heap.size w w' := by
    have c1 := fun w => rcheck_no b0 s0 b1 s1 cap left down w h
    clear h
    go_enter Try.func22, Try.ntmps22
    go_wp2_with fail
    refine (c1 _).mono ?_
    rintro e w1 ⟨rfl, hb1⟩
    have hB : Below w.heap.size w w1 := bn (bbox (bbox (Below.refl _ _) _) _) hb1
    have hD : Seven w1 w.heap.size (.string b0) (.int .i64 s0) (.string b1) (.int .i64 s1) (.int .i64 cap) (.int .i64 left) (.bool down) :=
      Seven.below (W := _) ⟨by go_simp, by go_simp, by go_simp, by go_simp, by go_simp, by go_simp, by go_simp⟩ hb1 (by simp <;> omega)
    have hR : Seven w1 (w.heap.size + 1) (.string ⟨#[]⟩) (.int .i64 0) (.string ⟨#[]⟩) (.int .i64 0) (.int .i64 0) (.int .i64 0) (.bool false) :=
      Seven.below (W := _) ⟨by go_simp, by go_simp, by go_simp, by go_simp, by go_simp, by go_simp, by go_simp⟩ hb1 (by simp <;> omega)
    have hf : ∀ o, w1.frozen? ⟨w.heap.size, o, none⟩ = false := fun o => (hb1.frozen (p := ⟨w.heap.size, o, none⟩) (by simp <;> omega)).trans (by go_simp)
    have hf2 : ∀ o, w1.frozen? ⟨w.heap.size + 1, o, none⟩ = false := fun o => (hb1.frozen (p := ⟨w.heap.size + 1, o, none⟩) (by simp <;> omega)).trans (by go_simp)
    have hz : w.heap.size + 1 < w1.heap.size := by have := hb1.size; simp at this; omega
    obtain ⟨q0, q1, q2, q3, q4, q5, q6⟩ := hD
    obtain ⟨r0, r1, r2, r3, r4, r5, r6⟩ := id hR
    clear hb1 c1
    go_wp2
    refine disk_ret (fn := Try.f22) (p := 6) (u := 7) rfl _ _ _ (w.heap.size + 1) _ _ _ _ _ _ _ _ rfl rfl ?_ ?_ _ (fun hb => ⟨rfl, hb⟩)
    · try with_reducible apply Seven.drew1
      with_reducible apply Seven.all
      repeat (with_reducible apply Seven.far)
      with_reducible first | exact hR | exact hR.drewN _
      all_goals omega
    · try with_reducible refine Below.drew ?_
      repeat (refine Below.setCell ?_ (by simp <;> omega) _)
      with_reducible first | exact hB | exact below_drewN hB _
theorem rarm_any (d : Dm.Dk) (n : Int) (w : World) : Calls Try.prog 21 #[dv d, .int .i64 n] w (DoPost (Dm.armF d n) w) := by
  obtain ⟨b0, s0, b1, s1, cap, left, down⟩ := d
  by_cases h : Dm.okB ⟨b0, s0, b1, s1, cap, left, down⟩ = true
  · by_cases hn : n < -1
    · have e : Dm.armF ⟨b0, s0, b1, s1, cap, left, down⟩ n = (⟨b0, s0, b1, s1, cap, -1, down⟩, 0) := by unfold Dm.armF; rw [if_pos h, if_pos hn]
      rw [e]; exact rarm_lo b0 s0 b1 s1 cap left down n w ((ok_iff _).1 h) hn
    · have e : Dm.armF ⟨b0, s0, b1, s1, cap, left, down⟩ n = (⟨b0, s0, b1, s1, cap, n, down⟩, 0) := by unfold Dm.armF; rw [if_pos h, if_neg hn]
      rw [e]; exact rarm_hi b0 s0 b1 s1 cap left down n w ((ok_iff _).1 h) (by omega)
  · have e : Dm.armF ⟨b0, s0, b1, s1, cap, left, down⟩ n = (Dm.zero, 2) := by unfold Dm.armF; rw [if_neg h]
    rw [e]; exact rarm_no b0 s0 b1 s1 cap left down n w (fun k => h ((ok_iff _).2 k))
end Go.Proofs.Ytehgnlocekcakaa
