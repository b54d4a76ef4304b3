/- The walks of the disk: do. -/
import Derived.Test.YtehgnlocekcakaaDkC
import Derived.BigRegion
namespace Go.Proofs.Ytehgnlocekcakaa
open Go.RowKit
open Go
set_option maxRecDepth 100000 in
set_option maxHeartbeats 1000000 in
theorem do_A (b0 : ByteArray) (s0 : Int) (b1 : ByteArray) (s1 cap left : Int) (down : Bool) (op zone n : Int) (b : ByteArray) (w : World) (h : ¬ dOk b0 s0 b1 s1 cap) :
    Calls Try.prog 15 #[.agg #[.string b0, .int .i64 s0, .string b1, .int .i64 s1, .int .i64 cap, .int .i64 left, .bool down], .agg #[.int .i8 op, .int .i64 zone, .string b, .int .i64 n]] w fun e w' => e = .returned (.tuple #[.agg #[.string ⟨#[]⟩, .int .i64 0, .string ⟨#[]⟩, .int .i64 0, .int .i64 0, .int .i64 0, .bool false], .int .i64 2]) ∧ Below w.heap.size w w' := by
  have c1 := fun w => check_no b0 s0 b1 s1 cap left down w h
  clear h
  go_enter Try.func15, Try.ntmps15
  go_wp2_with fail
  refine (c1 _).mono ?_
  rintro e w1 ⟨rfl, hb1⟩
  clear c1
  obtain ⟨⟨q0, q1, q2, q3, q4, q5, q6⟩, hR, ⟨y0, y1, y2, y3⟩, f0, f2, gz2, hB⟩ := do_mem _ _ _ _ _ _ _ _ _ _ _ _ _ _ _ _ _ _ _ _ _ _ _ _ hb1 (Below.refl _ _)
  obtain ⟨r0, r1, r2, r3, r4, r5, r6⟩ := id hR
  clear hb1
  go_wp2
  refine disk_ret (fn := Try.f15) (p := 4) (u := 5) rfl _ _ _ (w.heap.size + 1 + 1) _ _ _ _ _ _ _ _ rfl rfl ?_ ?_ _ (fun hb => ⟨rfl, hb⟩)
  · try with_reducible apply Seven.drew1
    with_reducible apply Seven.all
    repeat (with_reducible apply Seven.far)
    with_reducible first | exact hR | exact hR.drewN _
    all_goals omega
  · try with_reducible refine Below.drew ?_
    repeat (refine Below.setCell ?_ (by simp <;> omega) _)
    with_reducible first | exact hB | exact below_drewN hB _
set_option maxRecDepth 100000 in
set_option maxHeartbeats 1000000 in
theorem do_B (b0 : ByteArray) (s0 : Int) (b1 : ByteArray) (s1 cap left : Int) (down : Bool) (op zone n : Int) (b : ByteArray) (w : World) (h : dOk b0 s0 b1 s1 cap) (hz : zone < 0 ∨ 1 < zone) :
    Calls Try.prog 15 #[.agg #[.string b0, .int .i64 s0, .string b1, .int .i64 s1, .int .i64 cap, .int .i64 left, .bool down], .agg #[.int .i8 op, .int .i64 zone, .string b, .int .i64 n]] w fun e w' => e = .returned (.tuple #[.agg #[.string ⟨#[]⟩, .int .i64 0, .string ⟨#[]⟩, .int .i64 0, .int .i64 0, .int .i64 0, .bool false], .int .i64 2]) ∧ Below w.heap.size w w' := by
  have c1 := fun w => check_yes b0 s0 b1 s1 cap left down w h
  have hz2 : ((zone / 2) == 0) = false := by
    have : ¬ zone / 2 = 0 := by omega
    simpa using this
  clear h hz
  go_enter Try.func15, Try.ntmps15
  go_wp2_with fail
  refine (c1 _).mono ?_
  rintro e w1 ⟨rfl, hb1⟩
  clear c1
  obtain ⟨⟨q0, q1, q2, q3, q4, q5, q6⟩, hR, ⟨y0, y1, y2, y3⟩, f0, f2, gz2, hB⟩ := do_mem _ _ _ _ _ _ _ _ _ _ _ _ _ _ _ _ _ _ _ _ _ _ _ _ hb1 (Below.refl _ _)
  obtain ⟨r0, r1, r2, r3, r4, r5, r6⟩ := id hR
  clear hb1
  go_wp2
  refine disk_ret (fn := Try.f15) (p := 4) (u := 5) rfl _ _ _ (w.heap.size + 1 + 1) _ _ _ _ _ _ _ _ rfl rfl ?_ ?_ _ (fun hb => ⟨rfl, hb⟩)
  · try with_reducible apply Seven.drew1
    with_reducible apply Seven.all
    repeat (with_reducible apply Seven.far)
    with_reducible first | exact hR | exact hR.drewN _
    all_goals omega
  · try with_reducible refine Below.drew ?_
    repeat (refine Below.setCell ?_ (by simp <;> omega) _)
    with_reducible first | exact hB | exact below_drewN hB _
end Go.Proofs.Ytehgnlocekcakaa

