/- The walks of the disk: arm, crash. -/
import Derived.Test.YtehgnlocekcakaaDkG
import Derived.BigRegion
namespace Go.Proofs.Ytehgnlocekcakaa
open Go.RowKit
open Go
set_option linter.unusedVariables false
set_option maxHeartbeats 400000 in
theorem arm_no (b0 : ByteArray) (s0 : Int) (b1 : ByteArray) (s1 cap left : Int) (down : Bool) (n : Int) (w : World) (h : ¬ dOk b0 s0 b1 s1 cap) :
    Calls Try.prog 19 #[.agg #[.string b0, .int .i64 s0, .string b1, .int .i64 s1, .int .i64 cap, .int .i64 left, .bool down], .int .i64 n] w fun e w' => e = .returned (.tuple #[.agg #[.string ⟨#[]⟩, .int .i64 0, .string ⟨#[]⟩, .int .i64 0, .int .i64 0, .int .i64 0, .bool false], .int .i64 2]) ∧ Below w.heap.size w w' := by
    have c1 := fun w => check_no b0 s0 b1 s1 cap left down w h
    clear h
    go_enter Try.func19, Try.ntmps19
    go_wp2_with fail
    refine (c1 _).mono ?_
    rintro e w1 ⟨rfl, hb1⟩
    have hB : Below w.heap.size w w1 := bn (bbox (bbox (Below.refl _ _) _) _) hb1
    have hD : Seven w1 w.heap.size (.string b0) (.int .i64 s0) (.string b1) (.int .i64 s1) (.int .i64 cap) (.int .i64 left) (.bool down) :=
      Seven.below (W := _) ⟨by go_simp, by go_simp, by go_simp, by go_simp, by go_simp, by go_simp, by go_simp⟩ hb1 (by simp <;> omega)
    have hR : Seven w1 (w.heap.size + 1) (.string ⟨#[]⟩) (.int .i64 0) (.string ⟨#[]⟩) (.int .i64 0) (.int .i64 0) (.int .i64 0) (.bool false) :=
      Seven.below (W := _) ⟨by go_simp, by go_simp, by go_simp, by go_simp, by go_simp, by go_simp, by go_simp⟩ hb1 (by simp <;> omega)
    have hf : ∀ o, w1.frozen? ⟨w.heap.size, o, none⟩ = false := fun o => (hb1.frozen (p := ⟨w.heap.size, o, none⟩) (by simp <;> omega)).trans (by go_simp)
    have hf2 : ∀ o, w1.frozen? ⟨w.heap.size + 1, o, none⟩ = false := fun o => (hb1.frozen (p := ⟨w.heap.size + 1, o, none⟩) (by simp <;> omega)).trans (by go_simp)
    have hz : w.heap.size + 1 < w1.heap.size := by have := hb1.size; simp at this; omega
    obtain ⟨q0, q1, q2, q3, q4, q5, q6⟩ := hD
    obtain ⟨r0, r1, r2, r3, r4, r5, r6⟩ := id hR
    clear hb1 c1
    go_wp2
    refine disk_ret (fn := Try.f19) (p := 4) (u := 5) rfl _ _ _ (w.heap.size + 1) _ _ _ _ _ _ _ _ rfl rfl ?_ ?_ _ (fun hb => ⟨rfl, hb⟩)
    · try with_reducible apply Seven.drew1
      with_reducible apply Seven.all
      repeat (with_reducible apply Seven.far)
      with_reducible first | exact hR | exact hR.drewN _
      all_goals omega
    · try with_reducible refine Below.drew ?_
      repeat (refine Below.setCell ?_ (by simp <;> omega) _)
      with_reducible first | exact hB | exact below_drewN hB _
set_option maxHeartbeats 400000 in
theorem arm_lo (b0 : ByteArray) (s0 : Int) (b1 : ByteArray) (s1 cap left : Int) (down : Bool) (n : Int) (w : World) (h : dOk b0 s0 b1 s1 cap) (hn : n < -1) :
    Calls Try.prog 19 #[.agg #[.string b0, .int .i64 s0, .string b1, .int .i64 s1, .int .i64 cap, .int .i64 left, .bool down], .int .i64 n] w fun e w' => e = .returned (.tuple #[.agg #[.string b0, .int .i64 s0, .string b1, .int .i64 s1, .int .i64 cap, .int .i64 (-1), .bool down], .int .i64 0]) ∧ Below w.heap.size w w' := by
    have c1 := fun w => check_yes b0 s0 b1 s1 cap left down w h
    clear h
    go_enter Try.func19, Try.ntmps19
    go_wp2_with fail
    refine (c1 _).mono ?_
    rintro e w1 ⟨rfl, hb1⟩
    have hB : Below w.heap.size w w1 := bn (bbox (bbox (Below.refl _ _) _) _) hb1
    have hD : Seven w1 w.heap.size (.string b0) (.int .i64 s0) (.string b1) (.int .i64 s1) (.int .i64 cap) (.int .i64 left) (.bool down) :=
      Seven.below (W := _) ⟨by go_simp, by go_simp, by go_simp, by go_simp, by go_simp, by go_simp, by go_simp⟩ hb1 (by simp <;> omega)
    have hR : Seven w1 (w.heap.size + 1) (.string ⟨#[]⟩) (.int .i64 0) (.string ⟨#[]⟩) (.int .i64 0) (.int .i64 0) (.int .i64 0) (.bool false) :=
      Seven.below (W := _) ⟨by go_simp, by go_simp, by go_simp, by go_simp, by go_simp, by go_simp, by go_simp⟩ hb1 (by simp <;> omega)
    have hf : ∀ o, w1.frozen? ⟨w.heap.size, o, none⟩ = false := fun o => (hb1.frozen (p := ⟨w.heap.size, o, none⟩) (by simp <;> omega)).trans (by go_simp)
    have hf2 : ∀ o, w1.frozen? ⟨w.heap.size + 1, o, none⟩ = false := fun o => (hb1.frozen (p := ⟨w.heap.size + 1, o, none⟩) (by simp <;> omega)).trans (by go_simp)
    have hz : w.heap.size + 1 < w1.heap.size := by have := hb1.size; simp at this; omega
    obtain ⟨q0, q1, q2, q3, q4, q5, q6⟩ := hD
    obtain ⟨r0, r1, r2, r3, r4, r5, r6⟩ := id hR
    clear hb1 c1
    go_wp2
    refine disk_ret (fn := Try.f19) (p := 4) (u := 5) rfl _ _ _ (w.heap.size + 1) _ _ _ _ _ _ _ _ rfl rfl ?_ ?_ _ (fun hb => ⟨rfl, hb⟩)
    · try with_reducible apply Seven.drew1
      with_reducible apply Seven.all
      repeat (with_reducible apply Seven.far)
      with_reducible first | exact hR | exact hR.drewN _
      all_goals omega
    · try with_reducible refine Below.drew ?_
      repeat (refine Below.setCell ?_ (by simp <;> omega) _)
      with_reducible first | exact hB | exact below_drewN hB _
set_option maxHeartbeats 400000 in
theorem arm_hi (b0 : ByteArray) (s0 : Int) (b1 : ByteArray) (s1 cap left : Int) (down : Bool) (n : Int) (w : World) (h : dOk b0 s0 b1 s1 cap) (hn : -1 ≤ n) :
    Calls Try.prog 19 #[.agg #[.string b0, .int .i64 s0, .string b1, .int .i64 s1, .int .i64 cap, .int .i64 left, .bool down], .int .i64 n] w fun e w' => e = .returned (.tuple #[.agg #[.string b0, .int .i64 s0, .string b1, .int .i64 s1, .int .i64 cap, .int .i64 n, .bool down], .int .i64 0]) ∧ Below w.heap.size w w' := by
    have c1 := fun w => check_yes b0 s0 b1 s1 cap left down w h
    clear h
    go_enter Try.func19, Try.ntmps19
    go_wp2_with fail
    refine (c1 _).mono ?_
    rintro e w1 ⟨rfl, hb1⟩
    have hB : Below w.heap.size w w1 := bn (bbox (bbox (Below.refl _ _) _) _) hb1
    have hD : Seven w1 w.heap.size (.string b0) (.int .i64 s0) (.string b1) (.int .i64 s1) (.int .i64 cap) (.int .i64 left) (.bool down) :=
      Seven.below (W := _) ⟨by go_simp, by go_simp, by go_simp, by go_simp, by go_simp, by go_simp, by go_simp⟩ hb1 (by simp <;> omega)
    have hR : Seven w1 (w.heap.size + 1) (.string ⟨#[]⟩) (.int .i64 0) (.string ⟨#[]⟩) (.int .i64 0) (.int .i64 0) (.int .i64 0) (.bool false) :=
      Seven.below (W := _) ⟨by go_simp, by go_simp, by go_simp, by go_simp, by go_simp, by go_simp, by go_simp⟩ hb1 (by simp <;> omega)
    have hf : ∀ o, w1.frozen? ⟨w.heap.size, o, none⟩ = false := fun o => (hb1.frozen (p := ⟨w.heap.size, o, none⟩) (by simp <;> omega)).trans (by go_simp)
    have hf2 : ∀ o, w1.frozen? ⟨w.heap.size + 1, o, none⟩ = false := fun o => (hb1.frozen (p := ⟨w.heap.size + 1, o, none⟩) (by simp <;> omega)).trans (by go_simp)
    have hz : w.heap.size + 1 < w1.heap.size := by have := hb1.size; simp at this; omega
    obtain ⟨q0, q1, q2, q3, q4, q5, q6⟩ := hD
    obtain ⟨r0, r1, r2, r3, r4, r5, r6⟩ := id hR
    clear hb1 c1
    go_wp2
    refine disk_ret (fn := Try.f19) (p := 4) (u := 5) rfl _ _ _ (w.heap.size + 1) _ _ _ _ _ _ _ _ rfl rfl ?_ ?_ _ (fun hb => ⟨rfl, hb⟩)
    · try with_reducible apply Seven.drew1
      with_reducible apply Seven.all
      repeat (with_reducible apply Seven.far)
      with_reducible first | exact hR | exact hR.drewN _
      all_goals omega
    · try with_reducible refine Below.drew ?_
      repeat (refine Below.setCell ?_ (by simp <;> omega) _)
      with_reducible first | exact hB | exact below_drewN hB _
set_option maxHeartbeats 400000 in
theorem crash_no (b0 : ByteArray) (s0 : Int) (b1 : ByteArray) (s1 cap left : Int) (down : Bool) (a b : Int) (w : World) (h : ¬ dOk b0 s0 b1 s1 cap) :
    Calls Try.prog 16 #[.agg #[.string b0, .int .i64 s0, .string b1, .int .i64 s1, .int .i64 cap, .int .i64 left, .bool down], .int .i64 a, .int .i64 b] w fun e w' => e = .returned (.tuple #[.agg #[.string ⟨#[]⟩, .int .i64 0, .string ⟨#[]⟩, .int .i64 0, .int .i64 0, .int .i64 0, .bool false], .int .i64 2]) ∧ Below w.heap.size w w' := by
    have c1 := fun w => check_no b0 s0 b1 s1 cap left down w h
    clear h
    go_enter Try.func16, Try.ntmps16
    go_wp2_with fail
    refine (c1 _).mono ?_
    rintro e w1 ⟨rfl, hb1⟩
    have hB : Below w.heap.size w w1 := bn (bbox (bbox (Below.refl _ _) _) _) hb1
    have hD : Seven w1 w.heap.size (.string b0) (.int .i64 s0) (.string b1) (.int .i64 s1) (.int .i64 cap) (.int .i64 left) (.bool down) :=
      Seven.below (W := _) ⟨by go_simp, by go_simp, by go_simp, by go_simp, by go_simp, by go_simp, by go_simp⟩ hb1 (by simp <;> omega)
    have hR : Seven w1 (w.heap.size + 1) (.string ⟨#[]⟩) (.int .i64 0) (.string ⟨#[]⟩) (.int .i64 0) (.int .i64 0) (.int .i64 0) (.bool false) :=
      Seven.below (W := _) ⟨by go_simp, by go_simp, by go_simp, by go_simp, by go_simp, by go_simp, by go_simp⟩ hb1 (by simp <;> omega)
    have hf : ∀ o, w1.frozen? ⟨w.heap.size, o, none⟩ = false := fun o => (hb1.frozen (p := ⟨w.heap.size, o, none⟩) (by simp <;> omega)).trans (by go_simp)
    have hf2 : ∀ o, w1.frozen? ⟨w.heap.size + 1, o, none⟩ = false := fun o => (hb1.frozen (p := ⟨w.heap.size + 1, o, none⟩) (by simp <;> omega)).trans (by go_simp)
    have hz : w.heap.size + 1 < w1.heap.size := by have := hb1.size; simp at this; omega
    obtain ⟨q0, q1, q2, q3, q4, q5, q6⟩ := hD
    obtain ⟨r0, r1, r2, r3, r4, r5, r6⟩ := id hR
    clear hb1 c1
    go_wp2
    refine disk_ret (fn := Try.f16) (p := 6) (u := 7) rfl _ _ _ (w.heap.size + 1) _ _ _ _ _ _ _ _ rfl rfl ?_ ?_ _ (fun hb => ⟨rfl, hb⟩)
    · try with_reducible apply Seven.drew1
      with_reducible apply Seven.all
      repeat (with_reducible apply Seven.far)
      with_reducible first | exact hR | exact hR.drewN _
      all_goals omega
    · try with_reducible refine Below.drew ?_
      repeat (refine Below.setCell ?_ (by simp <;> omega) _)
      with_reducible first | exact hB | exact below_drewN hB _
theorem keep0 (a b : Int) : ∀ w, (Instr.index 55 (.agg #[.int .i64 a, .int .i64 b]) (.int .i64 0)).run Try.prog w = .ok (.int .i64 a) w := fun _ => by kernel_rfl
theorem keep1 (a b : Int) : ∀ w, (Instr.index 55 (.agg #[.int .i64 a, .int .i64 b]) (.int .i64 1)).run Try.prog w = .ok (.int .i64 b) w := fun _ => by kernel_rfl
def CrRel (j : Int) (b0 : ByteArray) (s0 : Int) (b1 : ByteArray) (s1 cap left : Int) (down : Bool) (a b : Int) (w wr : World) : Prop :=
  Seven wr w.heap.size (.string (if 1 ≤ j then b0.extract 0 (Dm.left1 b0 s0 a).toNat else b0)) (.int .i64 (if 1 ≤ j then Dm.left1 b0 s0 a else s0)) (.string (if 2 ≤ j then b1.extract 0 (Dm.left1 b1 s1 b).toNat else b1)) (.int .i64 (if 2 ≤ j then Dm.left1 b1 s1 b else s1)) (.int .i64 cap) (.int .i64 left) (.bool down) ∧
  Seven wr (w.heap.size + 1) (.string ⟨#[]⟩) (.int .i64 0) (.string ⟨#[]⟩) (.int .i64 0) (.int .i64 0) (.int .i64 0) (.bool false) ∧
  (∀ o, wr.frozen? ⟨w.heap.size, o, none⟩ = false) ∧ (∀ o, wr.frozen? ⟨w.heap.size + 1, o, none⟩ = false) ∧ w.heap.size + 1 < wr.heap.size ∧ Below w.heap.size w wr
theorem cr_step0 {b0 : ByteArray} {s0 : Int} {b1 : ByteArray} {s1 cap left : Int} {down : Bool} {a b : Int} {w wr : World} {T : Int} (h : CrRel 0 b0 s0 b1 s1 cap left down a b w wr) (hT : Dm.left1 b0 s0 a = T) :
    CrRel 1 b0 s0 b1 s1 cap left down a b w (((wr.setCell ⟨w.heap.size, 1, none⟩ (.int .i64 T)).setCell ⟨w.heap.size, 0, none⟩ (.string (b0.extract 0 T.toNat))).drew.drew) := by
  subst hT
  obtain ⟨hD, hR, hf, hf2, hz, hB⟩ := h
  refine ⟨?_, ((hR.far (by omega) _).far (by omega) _), ?_, ?_, ?_, ?_⟩
  · have := ((hD.s1 (.int .i64 (Dm.left1 b0 s0 a))).s0 (.string (b0.extract 0 (Dm.left1 b0 s0 a).toNat))).drew1.drew1
    simpa using this
  · intro o; simpa using hf o
  · intro o; simpa using hf2 o
  · simpa using hz
  · exact (((hB.setCell (by simp) _).setCell (by simp) _).drew).drew
theorem cr_step1 {b0 : ByteArray} {s0 : Int} {b1 : ByteArray} {s1 cap left : Int} {down : Bool} {a b : Int} {w wr : World} {T : Int} (h : CrRel 1 b0 s0 b1 s1 cap left down a b w wr) (hT : Dm.left1 b1 s1 b = T) :
    CrRel 2 b0 s0 b1 s1 cap left down a b w (((wr.setCell ⟨w.heap.size, 3, none⟩ (.int .i64 T)).setCell ⟨w.heap.size, 2, none⟩ (.string (b1.extract 0 T.toNat))).drew.drew) := by
  subst hT
  obtain ⟨hD, hR, hf, hf2, hz, hB⟩ := h
  refine ⟨?_, ((hR.far (by omega) _).far (by omega) _), ?_, ?_, ?_, ?_⟩
  · have := ((hD.s3 (.int .i64 (Dm.left1 b1 s1 b))).s2 (.string (b1.extract 0 (Dm.left1 b1 s1 b).toNat))).drew1.drew1
    simpa using this
  · intro o; simpa using hf o
  · intro o; simpa using hf2 o
  · simpa using hz
  · exact (((hB.setCell (by simp) _).setCell (by simp) _).drew).drew
set_option maxHeartbeats 1000000 in
theorem crash_yes (b0 : ByteArray) (s0 : Int) (b1 : ByteArray) (s1 cap left : Int) (down : Bool) (a b : Int) (w : World) (h : dOk b0 s0 b1 s1 cap) :
    Calls Try.prog 16 #[.agg #[.string b0, .int .i64 s0, .string b1, .int .i64 s1, .int .i64 cap, .int .i64 left, .bool down], .int .i64 a, .int .i64 b] w fun e w' => e = .returned (.tuple #[.agg #[.string (b0.extract 0 (Dm.left1 b0 s0 a).toNat), .int .i64 (Dm.left1 b0 s0 a), .string (b1.extract 0 (Dm.left1 b1 s1 b).toNat), .int .i64 (Dm.left1 b1 s1 b), .int .i64 cap, .int .i64 (-1), .bool false], .int .i64 0]) ∧ Below w.heap.size w w' := by
    have c1 := fun w => check_yes b0 s0 b1 s1 cap left down w h
    obtain ⟨⟨k1, k2⟩, ⟨z1, z2, z3⟩, ⟨y1, y2, y3⟩⟩ := h
    have i0 := keep0 a b
    have i1 := keep1 a b
    go_enter Try.func16, Try.ntmps16
    go_wp2_with fail
    refine (c1 _).mono ?_
    rintro e w1 ⟨rfl, hb1⟩
    have hB : Below w.heap.size w w1 := bn (bbox (bbox (Below.refl _ _) _) _) hb1
    have hD : Seven w1 w.heap.size (.string b0) (.int .i64 s0) (.string b1) (.int .i64 s1) (.int .i64 cap) (.int .i64 left) (.bool down) :=
      Seven.below (W := _) ⟨by go_simp, by go_simp, by go_simp, by go_simp, by go_simp, by go_simp, by go_simp⟩ hb1 (by simp <;> omega)
    have hR : Seven w1 (w.heap.size + 1) (.string ⟨#[]⟩) (.int .i64 0) (.string ⟨#[]⟩) (.int .i64 0) (.int .i64 0) (.int .i64 0) (.bool false) :=
      Seven.below (W := _) ⟨by go_simp, by go_simp, by go_simp, by go_simp, by go_simp, by go_simp, by go_simp⟩ hb1 (by simp <;> omega)
    have hf : ∀ o, w1.frozen? ⟨w.heap.size, o, none⟩ = false := fun o => (hb1.frozen (p := ⟨w.heap.size, o, none⟩) (by simp <;> omega)).trans (by go_simp)
    have hf2 : ∀ o, w1.frozen? ⟨w.heap.size + 1, o, none⟩ = false := fun o => (hb1.frozen (p := ⟨w.heap.size + 1, o, none⟩) (by simp <;> omega)).trans (by go_simp)
    have hz : w.heap.size + 1 < w1.heap.size := by have := hb1.size; simp at this; omega
    obtain ⟨q0, q1, q2, q3, q4, q5, q6⟩ := hD
    clear hb1 c1
    go_wp2_with fail
    go_loopw [18] (fun k wr => ∃ j : Int, (j = 0 ∨ j = 1 ∨ j = 2) ∧ k = .int .i64 j ∧ CrRel j b0 s0 b1 s1 cap left down a b w wr) (fun k _ => (2 - intOf k).toNat)
    case atStart => exact ⟨0, by omega, rfl, ⟨q0, q1, q2, q3, q4, q5, q6⟩, hR, hf, hf2, hz, hB⟩
    case round =>
      obtain ⟨j, hj, rfl, hrl⟩ := hrel
      rcases hj with rfl | rfl | rfl
      · have HR := Lib.hid hrl
        obtain ⟨⟨p0, p1, p2, p3, p4, p5, p6⟩, gR, gf, gf2, gz, gB⟩ := hrl
        simp at p0 p1 p2 p3
        clear q0 q1 q2 q3 q4 q5 q6 hf hf2
        by_cases ha : a < 0
        · have e1 := Lib.hid (Dm.left1_lo b0 s0 a ha)
          go_wp2_with fail
          go_region
          go_wp2_with fail
          go_region
          go_wp2_with fail
          exact ⟨⟨1, by omega, rfl, cr_step0 HR.out e1.out⟩, by simp [intOf]⟩
        · by_cases ha2 : a ≤ b0.size - s0
          · have e1 := Lib.hid (Dm.left1_mid b0 s0 a (by omega) ha2)
            go_wp2_with fail
            go_region
            go_wp2_with fail
            go_region
            go_wp2_with fail
            exact ⟨⟨1, by omega, rfl, cr_step0 HR.out e1.out⟩, by simp [intOf]⟩
          · have e1 := Lib.hid (Dm.left1_hi b0 s0 a (by omega) (by omega))
            go_wp2_with fail
            go_region
            go_wp2_with fail
            go_region
            go_wp2_with fail
            exact ⟨⟨1, by omega, rfl, cr_step0 HR.out e1.out⟩, by simp [intOf]⟩
      · have HR := Lib.hid hrl
        obtain ⟨⟨p0, p1, p2, p3, p4, p5, p6⟩, gR, gf, gf2, gz, gB⟩ := hrl
        simp at p0 p1 p2 p3
        clear q0 q1 q2 q3 q4 q5 q6 hf hf2
        by_cases ha : b < 0
        · have e1 := Lib.hid (Dm.left1_lo b1 s1 b ha)
          go_wp2_with fail
          go_region
          go_wp2_with fail
          go_region
          go_wp2_with fail
          exact ⟨⟨2, by omega, rfl, cr_step1 HR.out e1.out⟩, by simp [intOf]⟩
        · by_cases ha2 : b ≤ b1.size - s1
          · have e1 := Lib.hid (Dm.left1_mid b1 s1 b (by omega) ha2)
            go_wp2_with fail
            go_region
            go_wp2_with fail
            go_region
            go_wp2_with fail
            exact ⟨⟨2, by omega, rfl, cr_step1 HR.out e1.out⟩, by simp [intOf]⟩
          · have e1 := Lib.hid (Dm.left1_hi b1 s1 b (by omega) (by omega))
            go_wp2_with fail
            go_region
            go_wp2_with fail
            go_region
            go_wp2_with fail
            exact ⟨⟨2, by omega, rfl, cr_step1 HR.out e1.out⟩, by simp [intOf]⟩
      · obtain ⟨⟨p0, p1, p2, p3, p4, p5, p6⟩, hR, gf, gf2, gz, hB⟩ := hrl
        simp at p0 p1 p2 p3
        obtain ⟨r0, r1, r2, r3, r4, r5, r6⟩ := id hR
        clear q0 q1 q2 q3 q4 q5 q6 hf hf2
        go_wp2
        refine disk_ret (fn := Try.f16) (p := 6) (u := 7) rfl _ _ _ (w.heap.size + 1) _ _ _ _ _ _ _ _ rfl rfl ?_ ?_ _ (fun hb => ⟨rfl, hb⟩)
        · try with_reducible apply Seven.drew1
          with_reducible apply Seven.all
          repeat (with_reducible apply Seven.far)
          with_reducible first | exact hR | exact hR.drewN _
          all_goals omega
        · try with_reducible refine Below.drew ?_
          repeat (refine Below.setCell ?_ (by simp <;> omega) _)
          with_reducible first | exact hB | exact below_drewN hB _
end Go.Proofs.Ytehgnlocekcakaa
