/- The walks of the document's disk: do. -/
import Derived.Test.YtehgnlocekcakaaDkRa
namespace Go.Proofs.Ytehgnlocekcakaa
open Go.RowKit
open Go
set_option linter.unusedVariables false
set_option maxRecDepth 100000 in
set_option maxHeartbeats 1000000 in
theorem rdo_A (b0 : ByteArray) (s0 : Int) (b1 : ByteArray) (s1 cap left : Int) (down : Bool) (op zone n : Int) (b : ByteArray) (w : World) (h : ¬ dOk b0 s0 b1 s1 cap) :
    Calls Try.prog 20 #[.agg #[.string b0, .int .i64 s0, .string b1, .int .i64 s1, .int .i64 cap, .int .i64 left, .bool down], .agg #[.int .i8 op, .int .i64 zone, .string b, .int .i64 n]] w fun e w' => e = .returned (.tuple #[.agg #[.string ⟨#[]⟩, .int .i64 0, .string ⟨#[]⟩, .int .i64 0, .int .i64 0, .int .i64 0, .bool false], .int .i64 2]) ∧ Below w.heap.size w w' := by
  have c1 := fun w => rcheck_no b0 s0 b1 s1 cap left down w h
  clear h
  go_enter Try.func20, Try.ntmps20
  go_wp2_with fail
  refine (c1 _).mono ?_
  rintro e w1 ⟨rfl, hb1⟩
  clear c1
  obtain ⟨⟨q0, q1, q2, q3, q4, q5, q6⟩, hR, ⟨y0, y1, y2, y3⟩, f0, f2, gz2, hB⟩ := do_mem _ _ _ _ _ _ _ _ _ _ _ _ _ _ _ _ _ _ _ _ _ _ _ _ hb1 (Below.refl _ _)
  obtain ⟨r0, r1, r2, r3, r4, r5, r6⟩ := id hR
  have gz1 : w.heap.size + 1 < w1.heap.size := by omega
  have gz0 : w.heap.size < w1.heap.size := by omega
  clear hb1
  go_wp2
  refine disk_ret (fn := Try.f20) (p := 4) (u := 5) rfl _ _ _ (w.heap.size + 1 + 1) _ _ _ _ _ _ _ _ rfl rfl ?_ ?_ _ (fun hb => ⟨rfl, hb⟩)
  · try (with_reducible refine Seven.alloc1 ?_ (by simp <;> omega) _)
    with_reducible apply Seven.all
    repeat (with_reducible apply Seven.far)
    with_reducible exact hR
    all_goals omega
  · try with_reducible refine bbox ?_ _
    repeat (refine Below.setCell ?_ (by simp <;> omega) _)
    with_reducible exact hB
set_option maxRecDepth 100000 in
set_option maxHeartbeats 1000000 in
theorem rdo_B1 (b0 : ByteArray) (s0 : Int) (b1 : ByteArray) (s1 cap left : Int) (down : Bool) (op zone n : Int) (b : ByteArray) (w : World) (h : dOk b0 s0 b1 s1 cap) (hz : zone < 0) :
    Calls Try.prog 20 #[.agg #[.string b0, .int .i64 s0, .string b1, .int .i64 s1, .int .i64 cap, .int .i64 left, .bool down], .agg #[.int .i8 op, .int .i64 zone, .string b, .int .i64 n]] w fun e w' => e = .returned (.tuple #[.agg #[.string ⟨#[]⟩, .int .i64 0, .string ⟨#[]⟩, .int .i64 0, .int .i64 0, .int .i64 0, .bool false], .int .i64 2]) ∧ Below w.heap.size w w' := by
  have c1 := fun w => rcheck_yes b0 s0 b1 s1 cap left down w h
  clear h
  go_enter Try.func20, Try.ntmps20
  go_wp2_with fail
  refine (c1 _).mono ?_
  rintro e w1 ⟨rfl, hb1⟩
  clear c1
  obtain ⟨⟨q0, q1, q2, q3, q4, q5, q6⟩, hR, ⟨y0, y1, y2, y3⟩, f0, f2, gz2, hB⟩ := do_mem _ _ _ _ _ _ _ _ _ _ _ _ _ _ _ _ _ _ _ _ _ _ _ _ hb1 (Below.refl _ _)
  obtain ⟨r0, r1, r2, r3, r4, r5, r6⟩ := id hR
  have gz1 : w.heap.size + 1 < w1.heap.size := by omega
  have gz0 : w.heap.size < w1.heap.size := by omega
  clear hb1
  go_wp2
  refine disk_ret (fn := Try.f20) (p := 4) (u := 5) rfl _ _ _ (w.heap.size + 1 + 1) _ _ _ _ _ _ _ _ rfl rfl ?_ ?_ _ (fun hb => ⟨rfl, hb⟩)
  · try (with_reducible refine Seven.alloc1 ?_ (by simp <;> omega) _)
    with_reducible apply Seven.all
    repeat (with_reducible apply Seven.far)
    with_reducible exact hR
    all_goals omega
  · try with_reducible refine bbox ?_ _
    repeat (refine Below.setCell ?_ (by simp <;> omega) _)
    with_reducible exact hB
set_option maxRecDepth 100000 in
set_option maxHeartbeats 1000000 in
theorem rdo_B2 (b0 : ByteArray) (s0 : Int) (b1 : ByteArray) (s1 cap left : Int) (down : Bool) (op zone n : Int) (b : ByteArray) (w : World) (h : dOk b0 s0 b1 s1 cap) (hz : 1 < zone) :
    Calls Try.prog 20 #[.agg #[.string b0, .int .i64 s0, .string b1, .int .i64 s1, .int .i64 cap, .int .i64 left, .bool down], .agg #[.int .i8 op, .int .i64 zone, .string b, .int .i64 n]] w fun e w' => e = .returned (.tuple #[.agg #[.string ⟨#[]⟩, .int .i64 0, .string ⟨#[]⟩, .int .i64 0, .int .i64 0, .int .i64 0, .bool false], .int .i64 2]) ∧ Below w.heap.size w w' := by
  have c1 := fun w => rcheck_yes b0 s0 b1 s1 cap left down w h
  clear h
  have hz3 : 0 ≤ zone := by omega
  go_enter Try.func20, Try.ntmps20
  go_wp2_with fail
  refine (c1 _).mono ?_
  rintro e w1 ⟨rfl, hb1⟩
  clear c1
  obtain ⟨⟨q0, q1, q2, q3, q4, q5, q6⟩, hR, ⟨y0, y1, y2, y3⟩, f0, f2, gz2, hB⟩ := do_mem _ _ _ _ _ _ _ _ _ _ _ _ _ _ _ _ _ _ _ _ _ _ _ _ hb1 (Below.refl _ _)
  obtain ⟨r0, r1, r2, r3, r4, r5, r6⟩ := id hR
  have gz1 : w.heap.size + 1 < w1.heap.size := by omega
  have gz0 : w.heap.size < w1.heap.size := by omega
  clear hb1
  go_wp2
  refine disk_ret (fn := Try.f20) (p := 4) (u := 5) rfl _ _ _ (w.heap.size + 1 + 1) _ _ _ _ _ _ _ _ rfl rfl ?_ ?_ _ (fun hb => ⟨rfl, hb⟩)
  · try (with_reducible refine Seven.alloc1 ?_ (by simp <;> omega) _)
    with_reducible apply Seven.all
    repeat (with_reducible apply Seven.far)
    with_reducible exact hR
    all_goals omega
  · try with_reducible refine bbox ?_ _
    repeat (refine Below.setCell ?_ (by simp <;> omega) _)
    with_reducible exact hB
end Go.Proofs.Ytehgnlocekcakaa

