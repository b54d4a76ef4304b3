/- The walks of the document's disk: do. -/
import Derived.Test.YtehgnlocekcakaaDkRa
namespace Go.Proofs.Ytehgnlocekcakaa
open Go.RowKit
open Go
set_option linter.unusedVariables false
set_option maxRecDepth 100000 in
set_option maxHeartbeats 1000000 in
theorem rdo_C0e0 (b0 : ByteArray) (s0 : Int) (b1 : ByteArray) (s1 cap left : Int) (down : Bool) (op zone n : Int) (b : ByteArray) (w : World) (h : dOk b0 s0 b1 s1 cap) (be : b.toList = []) (bs : b.size = 0) :
    Calls Try.prog 20 #[.agg #[.string b0, .int .i64 s0, .string b1, .int .i64 s1, .int .i64 cap, .int .i64 left, .bool down], .agg #[.int .i8 0, .int .i64 0, .string b, .int .i64 n]] w fun e w' => e = .returned (.tuple #[.agg #[.string ⟨#[]⟩, .int .i64 0, .string ⟨#[]⟩, .int .i64 0, .int .i64 0, .int .i64 0, .bool false], .int .i64 2]) ∧ Below w.heap.size w w' := by
  have c1 := fun w => rcheck_yes b0 s0 b1 s1 cap left down w h
  clear h
  go_enter Try.func20, Try.ntmps20
  go_wp2_with fail
  refine (c1 _).mono ?_
  rintro e w1 ⟨rfl, hb1⟩
  clear c1
  obtain ⟨⟨q0, q1, q2, q3, q4, q5, q6⟩, hR, ⟨y0, y1, y2, y3⟩, f0, f2, gz2, hB⟩ := do_mem _ _ _ _ _ _ _ _ _ _ _ _ _ _ _ _ _ _ _ _ _ _ _ _ hb1 (Below.refl _ _)
  obtain ⟨r0, r1, r2, r3, r4, r5, r6⟩ := id hR
  have gz1 : w.heap.size + 1 < w1.heap.size := by omega
  have gz0 : w.heap.size < w1.heap.size := by omega
  clear hb1
  go_wp2
  refine disk_ret (fn := Try.f20) (p := 4) (u := 5) rfl _ _ _ (w.heap.size + 1 + 1) _ _ _ _ _ _ _ _ rfl rfl ?_ ?_ _ (fun hb => ⟨rfl, hb⟩)
  · try (with_reducible refine Seven.alloc1 ?_ (by simp <;> omega) _)
    with_reducible apply Seven.all
    repeat (with_reducible apply Seven.far)
    with_reducible exact hR
    all_goals omega
  · try with_reducible refine bbox ?_ _
    repeat (refine Below.setCell ?_ (by simp <;> omega) _)
    with_reducible exact hB
set_option maxRecDepth 100000 in
set_option maxHeartbeats 1000000 in
theorem rdo_C0n0 (b0 : ByteArray) (s0 : Int) (b1 : ByteArray) (s1 cap left : Int) (down : Bool) (op zone n : Int) (b : ByteArray) (w : World) (h : dOk b0 s0 b1 s1 cap) (be : b.toList.isEmpty = false) (bs : ((b.size : Int) == 0) = false) (bn : ¬ b = ByteArray.empty) (hn : (n == 0) = false) :
    Calls Try.prog 20 #[.agg #[.string b0, .int .i64 s0, .string b1, .int .i64 s1, .int .i64 cap, .int .i64 left, .bool down], .agg #[.int .i8 0, .int .i64 0, .string b, .int .i64 n]] w fun e w' => e = .returned (.tuple #[.agg #[.string ⟨#[]⟩, .int .i64 0, .string ⟨#[]⟩, .int .i64 0, .int .i64 0, .int .i64 0, .bool false], .int .i64 2]) ∧ Below w.heap.size w w' := by
  have c1 := fun w => rcheck_yes b0 s0 b1 s1 cap left down w h
  clear h
  go_enter Try.func20, Try.ntmps20
  go_wp2_with fail
  refine (c1 _).mono ?_
  rintro e w1 ⟨rfl, hb1⟩
  clear c1
  obtain ⟨⟨q0, q1, q2, q3, q4, q5, q6⟩, hR, ⟨y0, y1, y2, y3⟩, f0, f2, gz2, hB⟩ := do_mem _ _ _ _ _ _ _ _ _ _ _ _ _ _ _ _ _ _ _ _ _ _ _ _ hb1 (Below.refl _ _)
  obtain ⟨r0, r1, r2, r3, r4, r5, r6⟩ := id hR
  have gz1 : w.heap.size + 1 < w1.heap.size := by omega
  have gz0 : w.heap.size < w1.heap.size := by omega
  clear hb1
  go_wp2
  refine disk_ret (fn := Try.f20) (p := 4) (u := 5) rfl _ _ _ (w.heap.size + 1 + 1) _ _ _ _ _ _ _ _ rfl rfl ?_ ?_ _ (fun hb => ⟨rfl, hb⟩)
  · try (with_reducible refine Seven.alloc1 ?_ (by simp <;> omega) _)
    with_reducible apply Seven.all
    repeat (with_reducible apply Seven.far)
    with_reducible exact hR
    all_goals omega
  · try with_reducible refine bbox ?_ _
    repeat (refine Below.setCell ?_ (by simp <;> omega) _)
    with_reducible exact hB
set_option maxRecDepth 100000 in
set_option maxHeartbeats 1000000 in
theorem rdo_C1e0 (b0 : ByteArray) (s0 : Int) (b1 : ByteArray) (s1 cap left : Int) (down : Bool) (op zone n : Int) (b : ByteArray) (w : World) (h : dOk b0 s0 b1 s1 cap) (be : b.toList.isEmpty = false) (bs : ((b.size : Int) == 0) = false) (bn : ¬ b = ByteArray.empty) :
    Calls Try.prog 20 #[.agg #[.string b0, .int .i64 s0, .string b1, .int .i64 s1, .int .i64 cap, .int .i64 left, .bool down], .agg #[.int .i8 1, .int .i64 0, .string b, .int .i64 n]] w fun e w' => e = .returned (.tuple #[.agg #[.string ⟨#[]⟩, .int .i64 0, .string ⟨#[]⟩, .int .i64 0, .int .i64 0, .int .i64 0, .bool false], .int .i64 2]) ∧ Below w.heap.size w w' := by
  have c1 := fun w => rcheck_yes b0 s0 b1 s1 cap left down w h
  clear h
  go_enter Try.func20, Try.ntmps20
  go_wp2_with fail
  refine (c1 _).mono ?_
  rintro e w1 ⟨rfl, hb1⟩
  clear c1
  obtain ⟨⟨q0, q1, q2, q3, q4, q5, q6⟩, hR, ⟨y0, y1, y2, y3⟩, f0, f2, gz2, hB⟩ := do_mem _ _ _ _ _ _ _ _ _ _ _ _ _ _ _ _ _ _ _ _ _ _ _ _ hb1 (Below.refl _ _)
  obtain ⟨r0, r1, r2, r3, r4, r5, r6⟩ := id hR
  have gz1 : w.heap.size + 1 < w1.heap.size := by omega
  have gz0 : w.heap.size < w1.heap.size := by omega
  clear hb1
  go_wp2
  refine disk_ret (fn := Try.f20) (p := 4) (u := 5) rfl _ _ _ (w.heap.size + 1 + 1) _ _ _ _ _ _ _ _ rfl rfl ?_ ?_ _ (fun hb => ⟨rfl, hb⟩)
  · try (with_reducible refine Seven.alloc1 ?_ (by simp <;> omega) _)
    with_reducible apply Seven.all
    repeat (with_reducible apply Seven.far)
    with_reducible exact hR
    all_goals omega
  · try with_reducible refine bbox ?_ _
    repeat (refine Below.setCell ?_ (by simp <;> omega) _)
    with_reducible exact hB
set_option maxRecDepth 100000 in
set_option maxHeartbeats 1000000 in
theorem rdo_C1n0 (b0 : ByteArray) (s0 : Int) (b1 : ByteArray) (s1 cap left : Int) (down : Bool) (op zone n : Int) (b : ByteArray) (w : World) (h : dOk b0 s0 b1 s1 cap) (be : b.toList = []) (bs : b.size = 0) (hn : (n == 0) = false) :
    Calls Try.prog 20 #[.agg #[.string b0, .int .i64 s0, .string b1, .int .i64 s1, .int .i64 cap, .int .i64 left, .bool down], .agg #[.int .i8 1, .int .i64 0, .string b, .int .i64 n]] w fun e w' => e = .returned (.tuple #[.agg #[.string ⟨#[]⟩, .int .i64 0, .string ⟨#[]⟩, .int .i64 0, .int .i64 0, .int .i64 0, .bool false], .int .i64 2]) ∧ Below w.heap.size w w' := by
  have c1 := fun w => rcheck_yes b0 s0 b1 s1 cap left down w h
  clear h
  go_enter Try.func20, Try.ntmps20
  go_wp2_with fail
  refine (c1 _).mono ?_
  rintro e w1 ⟨rfl, hb1⟩
  clear c1
  obtain ⟨⟨q0, q1, q2, q3, q4, q5, q6⟩, hR, ⟨y0, y1, y2, y3⟩, f0, f2, gz2, hB⟩ := do_mem _ _ _ _ _ _ _ _ _ _ _ _ _ _ _ _ _ _ _ _ _ _ _ _ hb1 (Below.refl _ _)
  obtain ⟨r0, r1, r2, r3, r4, r5, r6⟩ := id hR
  have gz1 : w.heap.size + 1 < w1.heap.size := by omega
  have gz0 : w.heap.size < w1.heap.size := by omega
  clear hb1
  go_wp2
  refine disk_ret (fn := Try.f20) (p := 4) (u := 5) rfl _ _ _ (w.heap.size + 1 + 1) _ _ _ _ _ _ _ _ rfl rfl ?_ ?_ _ (fun hb => ⟨rfl, hb⟩)
  · try (with_reducible refine Seven.alloc1 ?_ (by simp <;> omega) _)
    with_reducible apply Seven.all
    repeat (with_reducible apply Seven.far)
    with_reducible exact hR
    all_goals omega
  · try with_reducible refine bbox ?_ _
    repeat (refine Below.setCell ?_ (by simp <;> omega) _)
    with_reducible exact hB
set_option maxRecDepth 100000 in
set_option maxHeartbeats 1000000 in
theorem rdo_C2e0 (b0 : ByteArray) (s0 : Int) (b1 : ByteArray) (s1 cap left : Int) (down : Bool) (op zone n : Int) (b : ByteArray) (w : World) (h : dOk b0 s0 b1 s1 cap) (be : b.toList.isEmpty = false) (bs : ((b.size : Int) == 0) = false) (bn : ¬ b = ByteArray.empty) :
    Calls Try.prog 20 #[.agg #[.string b0, .int .i64 s0, .string b1, .int .i64 s1, .int .i64 cap, .int .i64 left, .bool down], .agg #[.int .i8 2, .int .i64 0, .string b, .int .i64 n]] w fun e w' => e = .returned (.tuple #[.agg #[.string ⟨#[]⟩, .int .i64 0, .string ⟨#[]⟩, .int .i64 0, .int .i64 0, .int .i64 0, .bool false], .int .i64 2]) ∧ Below w.heap.size w w' := by
  have c1 := fun w => rcheck_yes b0 s0 b1 s1 cap left down w h
  clear h
  go_enter Try.func20, Try.ntmps20
  go_wp2_with fail
  refine (c1 _).mono ?_
  rintro e w1 ⟨rfl, hb1⟩
  clear c1
  obtain ⟨⟨q0, q1, q2, q3, q4, q5, q6⟩, hR, ⟨y0, y1, y2, y3⟩, f0, f2, gz2, hB⟩ := do_mem _ _ _ _ _ _ _ _ _ _ _ _ _ _ _ _ _ _ _ _ _ _ _ _ hb1 (Below.refl _ _)
  obtain ⟨r0, r1, r2, r3, r4, r5, r6⟩ := id hR
  have gz1 : w.heap.size + 1 < w1.heap.size := by omega
  have gz0 : w.heap.size < w1.heap.size := by omega
  clear hb1
  go_wp2
  refine disk_ret (fn := Try.f20) (p := 4) (u := 5) rfl _ _ _ (w.heap.size + 1 + 1) _ _ _ _ _ _ _ _ rfl rfl ?_ ?_ _ (fun hb => ⟨rfl, hb⟩)
  · try (with_reducible refine Seven.alloc1 ?_ (by simp <;> omega) _)
    with_reducible apply Seven.all
    repeat (with_reducible apply Seven.far)
    with_reducible exact hR
    all_goals omega
  · try with_reducible refine bbox ?_ _
    repeat (refine Below.setCell ?_ (by simp <;> omega) _)
    with_reducible exact hB
set_option maxRecDepth 100000 in
set_option maxHeartbeats 1000000 in
theorem rdo_C2l0 (b0 : ByteArray) (s0 : Int) (b1 : ByteArray) (s1 cap left : Int) (down : Bool) (op zone n : Int) (b : ByteArray) (w : World) (h : dOk b0 s0 b1 s1 cap) (be : b.toList = []) (bs : b.size = 0) (hn : n < 0) :
    Calls Try.prog 20 #[.agg #[.string b0, .int .i64 s0, .string b1, .int .i64 s1, .int .i64 cap, .int .i64 left, .bool down], .agg #[.int .i8 2, .int .i64 0, .string b, .int .i64 n]] w fun e w' => e = .returned (.tuple #[.agg #[.string ⟨#[]⟩, .int .i64 0, .string ⟨#[]⟩, .int .i64 0, .int .i64 0, .int .i64 0, .bool false], .int .i64 2]) ∧ Below w.heap.size w w' := by
  have c1 := fun w => rcheck_yes b0 s0 b1 s1 cap left down w h
  clear h
  go_enter Try.func20, Try.ntmps20
  go_wp2_with fail
  refine (c1 _).mono ?_
  rintro e w1 ⟨rfl, hb1⟩
  clear c1
  obtain ⟨⟨q0, q1, q2, q3, q4, q5, q6⟩, hR, ⟨y0, y1, y2, y3⟩, f0, f2, gz2, hB⟩ := do_mem _ _ _ _ _ _ _ _ _ _ _ _ _ _ _ _ _ _ _ _ _ _ _ _ hb1 (Below.refl _ _)
  obtain ⟨r0, r1, r2, r3, r4, r5, r6⟩ := id hR
  have gz1 : w.heap.size + 1 < w1.heap.size := by omega
  have gz0 : w.heap.size < w1.heap.size := by omega
  clear hb1
  go_wp2
  refine disk_ret (fn := Try.f20) (p := 4) (u := 5) rfl _ _ _ (w.heap.size + 1 + 1) _ _ _ _ _ _ _ _ rfl rfl ?_ ?_ _ (fun hb => ⟨rfl, hb⟩)
  · try (with_reducible refine Seven.alloc1 ?_ (by simp <;> omega) _)
    with_reducible apply Seven.all
    repeat (with_reducible apply Seven.far)
    with_reducible exact hR
    all_goals omega
  · try with_reducible refine bbox ?_ _
    repeat (refine Below.setCell ?_ (by simp <;> omega) _)
    with_reducible exact hB
set_option maxRecDepth 100000 in
set_option maxHeartbeats 1000000 in
theorem rdo_C2h0 (b0 : ByteArray) (s0 : Int) (b1 : ByteArray) (s1 cap left : Int) (down : Bool) (op zone n : Int) (b : ByteArray) (w : World) (h : dOk b0 s0 b1 s1 cap) (be : b.toList = []) (bs : b.size = 0) (hn0 : 0 ≤ n) (hn : (b0.size : Int) < n) :
    Calls Try.prog 20 #[.agg #[.string b0, .int .i64 s0, .string b1, .int .i64 s1, .int .i64 cap, .int .i64 left, .bool down], .agg #[.int .i8 2, .int .i64 0, .string b, .int .i64 n]] w fun e w' => e = .returned (.tuple #[.agg #[.string ⟨#[]⟩, .int .i64 0, .string ⟨#[]⟩, .int .i64 0, .int .i64 0, .int .i64 0, .bool false], .int .i64 2]) ∧ Below w.heap.size w w' := by
  have c1 := fun w => rcheck_yes b0 s0 b1 s1 cap left down w h
  clear h
  go_enter Try.func20, Try.ntmps20
  go_wp2_with fail
  refine (c1 _).mono ?_
  rintro e w1 ⟨rfl, hb1⟩
  clear c1
  obtain ⟨⟨q0, q1, q2, q3, q4, q5, q6⟩, hR, ⟨y0, y1, y2, y3⟩, f0, f2, gz2, hB⟩ := do_mem _ _ _ _ _ _ _ _ _ _ _ _ _ _ _ _ _ _ _ _ _ _ _ _ hb1 (Below.refl _ _)
  obtain ⟨r0, r1, r2, r3, r4, r5, r6⟩ := id hR
  have gz1 : w.heap.size + 1 < w1.heap.size := by omega
  have gz0 : w.heap.size < w1.heap.size := by omega
  clear hb1
  go_wp2
  refine disk_ret (fn := Try.f20) (p := 4) (u := 5) rfl _ _ _ (w.heap.size + 1 + 1) _ _ _ _ _ _ _ _ rfl rfl ?_ ?_ _ (fun hb => ⟨rfl, hb⟩)
  · try (with_reducible refine Seven.alloc1 ?_ (by simp <;> omega) _)
    with_reducible apply Seven.all
    repeat (with_reducible apply Seven.far)
    with_reducible exact hR
    all_goals omega
  · try with_reducible refine bbox ?_ _
    repeat (refine Below.setCell ?_ (by simp <;> omega) _)
    with_reducible exact hB
set_option maxRecDepth 100000 in
set_option maxHeartbeats 1000000 in
theorem rdo_Cx0 (b0 : ByteArray) (s0 : Int) (b1 : ByteArray) (s1 cap left : Int) (down : Bool) (op zone n : Int) (b : ByteArray) (w : World) (h : dOk b0 s0 b1 s1 cap) (o0 : (op == 0) = false) (o1 : (op == 1) = false) (o2 : (op == 2) = false) :
    Calls Try.prog 20 #[.agg #[.string b0, .int .i64 s0, .string b1, .int .i64 s1, .int .i64 cap, .int .i64 left, .bool down], .agg #[.int .i8 op, .int .i64 0, .string b, .int .i64 n]] w fun e w' => e = .returned (.tuple #[.agg #[.string ⟨#[]⟩, .int .i64 0, .string ⟨#[]⟩, .int .i64 0, .int .i64 0, .int .i64 0, .bool false], .int .i64 2]) ∧ Below w.heap.size w w' := by
  have c1 := fun w => rcheck_yes b0 s0 b1 s1 cap left down w h
  clear h
  go_enter Try.func20, Try.ntmps20
  go_wp2_with fail
  refine (c1 _).mono ?_
  rintro e w1 ⟨rfl, hb1⟩
  clear c1
  obtain ⟨⟨q0, q1, q2, q3, q4, q5, q6⟩, hR, ⟨y0, y1, y2, y3⟩, f0, f2, gz2, hB⟩ := do_mem _ _ _ _ _ _ _ _ _ _ _ _ _ _ _ _ _ _ _ _ _ _ _ _ hb1 (Below.refl _ _)
  obtain ⟨r0, r1, r2, r3, r4, r5, r6⟩ := id hR
  have gz1 : w.heap.size + 1 < w1.heap.size := by omega
  have gz0 : w.heap.size < w1.heap.size := by omega
  clear hb1
  go_wp2
  refine disk_ret (fn := Try.f20) (p := 4) (u := 5) rfl _ _ _ (w.heap.size + 1 + 1) _ _ _ _ _ _ _ _ rfl rfl ?_ ?_ _ (fun hb => ⟨rfl, hb⟩)
  · try (with_reducible refine Seven.alloc1 ?_ (by simp <;> omega) _)
    with_reducible apply Seven.all
    repeat (with_reducible apply Seven.far)
    with_reducible exact hR
    all_goals omega
  · try with_reducible refine bbox ?_ _
    repeat (refine Below.setCell ?_ (by simp <;> omega) _)
    with_reducible exact hB
set_option maxRecDepth 100000 in
set_option maxHeartbeats 1000000 in
theorem rdo_D00 (b0 : ByteArray) (s0 : Int) (b1 : ByteArray) (s1 cap left : Int) (down : Bool) (op zone n : Int) (b : ByteArray) (w : World) (h : dOk b0 s0 b1 s1 cap) (be : b.toList.isEmpty = false) (bs : ((b.size : Int) == 0) = false) (bn : ¬ b = ByteArray.empty) :
    Calls Try.prog 20 #[.agg #[.string b0, .int .i64 s0, .string b1, .int .i64 s1, .int .i64 cap, .int .i64 left, .bool true], .agg #[.int .i8 0, .int .i64 0, .string b, .int .i64 0]] w fun e w' => e = .returned (.tuple #[.agg #[.string ⟨#[]⟩, .int .i64 0, .string ⟨#[]⟩, .int .i64 0, .int .i64 0, .int .i64 0, .bool false], .int .i64 30]) ∧ Below w.heap.size w w' := by
  have c1 := fun w => rcheck_yes b0 s0 b1 s1 cap left true w h
  clear h
  go_enter Try.func20, Try.ntmps20
  go_wp2_with fail
  refine (c1 _).mono ?_
  rintro e w1 ⟨rfl, hb1⟩
  clear c1
  obtain ⟨⟨q0, q1, q2, q3, q4, q5, q6⟩, hR, ⟨y0, y1, y2, y3⟩, f0, f2, gz2, hB⟩ := do_mem _ _ _ _ _ _ _ _ _ _ _ _ _ _ _ _ _ _ _ _ _ _ _ _ hb1 (Below.refl _ _)
  obtain ⟨r0, r1, r2, r3, r4, r5, r6⟩ := id hR
  have gz1 : w.heap.size + 1 < w1.heap.size := by omega
  have gz0 : w.heap.size < w1.heap.size := by omega
  clear hb1
  go_wp2
  refine disk_ret (fn := Try.f20) (p := 4) (u := 5) rfl _ _ _ (w.heap.size + 1 + 1) _ _ _ _ _ _ _ _ rfl rfl ?_ ?_ _ (fun hb => ⟨rfl, hb⟩)
  · try (with_reducible refine Seven.alloc1 ?_ (by simp <;> omega) _)
    with_reducible apply Seven.all
    repeat (with_reducible apply Seven.far)
    with_reducible exact hR
    all_goals omega
  · try with_reducible refine bbox ?_ _
    repeat (refine Below.setCell ?_ (by simp <;> omega) _)
    with_reducible exact hB
set_option maxRecDepth 100000 in
set_option maxHeartbeats 1000000 in
theorem rdo_E00 (b0 : ByteArray) (s0 : Int) (b1 : ByteArray) (s1 cap left : Int) (down : Bool) (op zone n : Int) (b : ByteArray) (w : World) (h : dOk b0 s0 b1 s1 cap) (be : b.toList.isEmpty = false) (bs : ((b.size : Int) == 0) = false) (bn : ¬ b = ByteArray.empty) :
    Calls Try.prog 20 #[.agg #[.string b0, .int .i64 s0, .string b1, .int .i64 s1, .int .i64 cap, .int .i64 0, .bool false], .agg #[.int .i8 0, .int .i64 0, .string b, .int .i64 0]] w fun e w' => e = .returned (.tuple #[.agg #[.string b0, .int .i64 s0, .string b1, .int .i64 s1, .int .i64 cap, .int .i64 0, .bool true], .int .i64 30]) ∧ Below w.heap.size w w' := by
  have c1 := fun w => rcheck_yes b0 s0 b1 s1 cap 0 false w h
  clear h
  go_enter Try.func20, Try.ntmps20
  go_wp2_with fail
  refine (c1 _).mono ?_
  rintro e w1 ⟨rfl, hb1⟩
  clear c1
  obtain ⟨⟨q0, q1, q2, q3, q4, q5, q6⟩, hR, ⟨y0, y1, y2, y3⟩, f0, f2, gz2, hB⟩ := do_mem _ _ _ _ _ _ _ _ _ _ _ _ _ _ _ _ _ _ _ _ _ _ _ _ hb1 (Below.refl _ _)
  obtain ⟨r0, r1, r2, r3, r4, r5, r6⟩ := id hR
  have gz1 : w.heap.size + 1 < w1.heap.size := by omega
  have gz0 : w.heap.size < w1.heap.size := by omega
  clear hb1
  go_wp2
  refine disk_ret (fn := Try.f20) (p := 4) (u := 5) rfl _ _ _ (w.heap.size + 1 + 1) _ _ _ _ _ _ _ _ rfl rfl ?_ ?_ _ (fun hb => ⟨rfl, hb⟩)
  · try (with_reducible refine Seven.alloc1 ?_ (by simp <;> omega) _)
    with_reducible apply Seven.all
    repeat (with_reducible apply Seven.far)
    with_reducible exact hR
    all_goals omega
  · try with_reducible refine bbox ?_ _
    repeat (refine Below.setCell ?_ (by simp <;> omega) _)
    with_reducible exact hB
set_option maxRecDepth 100000 in
set_option maxHeartbeats 1000000 in
theorem rdo_D10 (b0 : ByteArray) (s0 : Int) (b1 : ByteArray) (s1 cap left : Int) (down : Bool) (op zone n : Int) (b : ByteArray) (w : World) (h : dOk b0 s0 b1 s1 cap) (be : b.toList = []) (bs : b.size = 0) :
    Calls Try.prog 20 #[.agg #[.string b0, .int .i64 s0, .string b1, .int .i64 s1, .int .i64 cap, .int .i64 left, .bool true], .agg #[.int .i8 1, .int .i64 0, .string b, .int .i64 0]] w fun e w' => e = .returned (.tuple #[.agg #[.string ⟨#[]⟩, .int .i64 0, .string ⟨#[]⟩, .int .i64 0, .int .i64 0, .int .i64 0, .bool false], .int .i64 30]) ∧ Below w.heap.size w w' := by
  have c1 := fun w => rcheck_yes b0 s0 b1 s1 cap left true w h
  clear h
  go_enter Try.func20, Try.ntmps20
  go_wp2_with fail
  refine (c1 _).mono ?_
  rintro e w1 ⟨rfl, hb1⟩
  clear c1
  obtain ⟨⟨q0, q1, q2, q3, q4, q5, q6⟩, hR, ⟨y0, y1, y2, y3⟩, f0, f2, gz2, hB⟩ := do_mem _ _ _ _ _ _ _ _ _ _ _ _ _ _ _ _ _ _ _ _ _ _ _ _ hb1 (Below.refl _ _)
  obtain ⟨r0, r1, r2, r3, r4, r5, r6⟩ := id hR
  have gz1 : w.heap.size + 1 < w1.heap.size := by omega
  have gz0 : w.heap.size < w1.heap.size := by omega
  clear hb1
  go_wp2
  refine disk_ret (fn := Try.f20) (p := 4) (u := 5) rfl _ _ _ (w.heap.size + 1 + 1) _ _ _ _ _ _ _ _ rfl rfl ?_ ?_ _ (fun hb => ⟨rfl, hb⟩)
  · try (with_reducible refine Seven.alloc1 ?_ (by simp <;> omega) _)
    with_reducible apply Seven.all
    repeat (with_reducible apply Seven.far)
    with_reducible exact hR
    all_goals omega
  · try with_reducible refine bbox ?_ _
    repeat (refine Below.setCell ?_ (by simp <;> omega) _)
    with_reducible exact hB
set_option maxRecDepth 100000 in
set_option maxHeartbeats 1000000 in
theorem rdo_E10 (b0 : ByteArray) (s0 : Int) (b1 : ByteArray) (s1 cap left : Int) (down : Bool) (op zone n : Int) (b : ByteArray) (w : World) (h : dOk b0 s0 b1 s1 cap) (be : b.toList = []) (bs : b.size = 0) :
    Calls Try.prog 20 #[.agg #[.string b0, .int .i64 s0, .string b1, .int .i64 s1, .int .i64 cap, .int .i64 0, .bool false], .agg #[.int .i8 1, .int .i64 0, .string b, .int .i64 0]] w fun e w' => e = .returned (.tuple #[.agg #[.string b0, .int .i64 s0, .string b1, .int .i64 s1, .int .i64 cap, .int .i64 0, .bool true], .int .i64 30]) ∧ Below w.heap.size w w' := by
  have c1 := fun w => rcheck_yes b0 s0 b1 s1 cap 0 false w h
  clear h
  go_enter Try.func20, Try.ntmps20
  go_wp2_with fail
  refine (c1 _).mono ?_
  rintro e w1 ⟨rfl, hb1⟩
  clear c1
  obtain ⟨⟨q0, q1, q2, q3, q4, q5, q6⟩, hR, ⟨y0, y1, y2, y3⟩, f0, f2, gz2, hB⟩ := do_mem _ _ _ _ _ _ _ _ _ _ _ _ _ _ _ _ _ _ _ _ _ _ _ _ hb1 (Below.refl _ _)
  obtain ⟨r0, r1, r2, r3, r4, r5, r6⟩ := id hR
  have gz1 : w.heap.size + 1 < w1.heap.size := by omega
  have gz0 : w.heap.size < w1.heap.size := by omega
  clear hb1
  go_wp2
  refine disk_ret (fn := Try.f20) (p := 4) (u := 5) rfl _ _ _ (w.heap.size + 1 + 1) _ _ _ _ _ _ _ _ rfl rfl ?_ ?_ _ (fun hb => ⟨rfl, hb⟩)
  · try (with_reducible refine Seven.alloc1 ?_ (by simp <;> omega) _)
    with_reducible apply Seven.all
    repeat (with_reducible apply Seven.far)
    with_reducible exact hR
    all_goals omega
  · try with_reducible refine bbox ?_ _
    repeat (refine Below.setCell ?_ (by simp <;> omega) _)
    with_reducible exact hB
set_option maxRecDepth 100000 in
set_option maxHeartbeats 1000000 in
theorem rdo_D20 (b0 : ByteArray) (s0 : Int) (b1 : ByteArray) (s1 cap left : Int) (down : Bool) (op zone n : Int) (b : ByteArray) (w : World) (h : dOk b0 s0 b1 s1 cap) (be : b.toList = []) (bs : b.size = 0) (k : Nat) (hk : k ≤ b0.size) :
    Calls Try.prog 20 #[.agg #[.string b0, .int .i64 s0, .string b1, .int .i64 s1, .int .i64 cap, .int .i64 left, .bool true], .agg #[.int .i8 2, .int .i64 0, .string b, .int .i64 k]] w fun e w' => e = .returned (.tuple #[.agg #[.string ⟨#[]⟩, .int .i64 0, .string ⟨#[]⟩, .int .i64 0, .int .i64 0, .int .i64 0, .bool false], .int .i64 30]) ∧ Below w.heap.size w w' := by
  have c1 := fun w => rcheck_yes b0 s0 b1 s1 cap left true w h
  clear h
  go_enter Try.func20, Try.ntmps20
  go_wp2_with fail
  refine (c1 _).mono ?_
  rintro e w1 ⟨rfl, hb1⟩
  clear c1
  obtain ⟨⟨q0, q1, q2, q3, q4, q5, q6⟩, hR, ⟨y0, y1, y2, y3⟩, f0, f2, gz2, hB⟩ := do_mem _ _ _ _ _ _ _ _ _ _ _ _ _ _ _ _ _ _ _ _ _ _ _ _ hb1 (Below.refl _ _)
  obtain ⟨r0, r1, r2, r3, r4, r5, r6⟩ := id hR
  have gz1 : w.heap.size + 1 < w1.heap.size := by omega
  have gz0 : w.heap.size < w1.heap.size := by omega
  clear hb1
  go_wp2
  refine disk_ret (fn := Try.f20) (p := 4) (u := 5) rfl _ _ _ (w.heap.size + 1 + 1) _ _ _ _ _ _ _ _ rfl rfl ?_ ?_ _ (fun hb => ⟨rfl, hb⟩)
  · try (with_reducible refine Seven.alloc1 ?_ (by simp <;> omega) _)
    with_reducible apply Seven.all
    repeat (with_reducible apply Seven.far)
    with_reducible exact hR
    all_goals omega
  · try with_reducible refine bbox ?_ _
    repeat (refine Below.setCell ?_ (by simp <;> omega) _)
    with_reducible exact hB
set_option maxRecDepth 100000 in
set_option maxHeartbeats 1000000 in
theorem rdo_E20 (b0 : ByteArray) (s0 : Int) (b1 : ByteArray) (s1 cap left : Int) (down : Bool) (op zone n : Int) (b : ByteArray) (w : World) (h : dOk b0 s0 b1 s1 cap) (be : b.toList = []) (bs : b.size = 0) (k : Nat) (hk : k ≤ b0.size) :
    Calls Try.prog 20 #[.agg #[.string b0, .int .i64 s0, .string b1, .int .i64 s1, .int .i64 cap, .int .i64 0, .bool false], .agg #[.int .i8 2, .int .i64 0, .string b, .int .i64 k]] w fun e w' => e = .returned (.tuple #[.agg #[.string b0, .int .i64 s0, .string b1, .int .i64 s1, .int .i64 cap, .int .i64 0, .bool true], .int .i64 30]) ∧ Below w.heap.size w w' := by
  have c1 := fun w => rcheck_yes b0 s0 b1 s1 cap 0 false w h
  clear h
  go_enter Try.func20, Try.ntmps20
  go_wp2_with fail
  refine (c1 _).mono ?_
  rintro e w1 ⟨rfl, hb1⟩
  clear c1
  obtain ⟨⟨q0, q1, q2, q3, q4, q5, q6⟩, hR, ⟨y0, y1, y2, y3⟩, f0, f2, gz2, hB⟩ := do_mem _ _ _ _ _ _ _ _ _ _ _ _ _ _ _ _ _ _ _ _ _ _ _ _ hb1 (Below.refl _ _)
  obtain ⟨r0, r1, r2, r3, r4, r5, r6⟩ := id hR
  have gz1 : w.heap.size + 1 < w1.heap.size := by omega
  have gz0 : w.heap.size < w1.heap.size := by omega
  clear hb1
  go_wp2
  refine disk_ret (fn := Try.f20) (p := 4) (u := 5) rfl _ _ _ (w.heap.size + 1 + 1) _ _ _ _ _ _ _ _ rfl rfl ?_ ?_ _ (fun hb => ⟨rfl, hb⟩)
  · try (with_reducible refine Seven.alloc1 ?_ (by simp <;> omega) _)
    with_reducible apply Seven.all
    repeat (with_reducible apply Seven.far)
    with_reducible exact hR
    all_goals omega
  · try with_reducible refine bbox ?_ _
    repeat (refine Below.setCell ?_ (by simp <;> omega) _)
    with_reducible exact hB
set_option maxRecDepth 100000 in
set_option maxHeartbeats 1000000 in
theorem rdo_F0 (b0 : ByteArray) (s0 : Int) (b1 : ByteArray) (s1 cap left : Int) (down : Bool) (op zone n : Int) (b : ByteArray) (w : World) (h : dOk b0 s0 b1 s1 cap) (be : b.toList.isEmpty = false) (bs : ((b.size : Int) == 0) = false) (bn : ¬ b = ByteArray.empty) (hl : (left == 0) = false) (hf : cap < (b0.size : Int) + b.size) (hs : (b.size : Int) ≤ 9000000000000000000) :
    Calls Try.prog 20 #[.agg #[.string b0, .int .i64 s0, .string b1, .int .i64 s1, .int .i64 cap, .int .i64 left, .bool false], .agg #[.int .i8 0, .int .i64 0, .string b, .int .i64 0]] w fun e w' => e = .returned (.tuple #[.agg #[.string ⟨#[]⟩, .int .i64 0, .string ⟨#[]⟩, .int .i64 0, .int .i64 0, .int .i64 0, .bool false], .int .i64 31]) ∧ Below w.heap.size w w' := by
  have c1 := fun w => rcheck_yes b0 s0 b1 s1 cap left false w h
  have hcap := h.1.2
  have hzb := h.2.1.1
  have hnw : ¬ 9223372036854775807 < b0.size + b.size := by omega
  clear h hs
  go_enter Try.func20, Try.ntmps20
  go_wp2_with fail
  refine (c1 _).mono ?_
  rintro e w1 ⟨rfl, hb1⟩
  clear c1
  obtain ⟨⟨q0, q1, q2, q3, q4, q5, q6⟩, hR, ⟨y0, y1, y2, y3⟩, f0, f2, gz2, hB⟩ := do_mem _ _ _ _ _ _ _ _ _ _ _ _ _ _ _ _ _ _ _ _ _ _ _ _ hb1 (Below.refl _ _)
  obtain ⟨r0, r1, r2, r3, r4, r5, r6⟩ := id hR
  have gz1 : w.heap.size + 1 < w1.heap.size := by omega
  have gz0 : w.heap.size < w1.heap.size := by omega
  clear hb1
  go_wp2
  refine disk_ret (fn := Try.f20) (p := 4) (u := 5) rfl _ _ _ (w.heap.size + 1 + 1) _ _ _ _ _ _ _ _ rfl rfl ?_ ?_ _ (fun hb => ⟨rfl, hb⟩)
  · try (with_reducible refine Seven.alloc1 ?_ (by simp <;> omega) _)
    with_reducible apply Seven.all
    repeat (with_reducible apply Seven.far)
    with_reducible exact hR
    all_goals omega
  · try with_reducible refine bbox ?_ _
    repeat (refine Below.setCell ?_ (by simp <;> omega) _)
    with_reducible exact hB
set_option maxRecDepth 100000 in
set_option maxHeartbeats 1000000 in
theorem rdo_AP0 (b0 : ByteArray) (s0 : Int) (b1 : ByteArray) (s1 cap left : Int) (down : Bool) (op zone n : Int) (b : ByteArray) (w : World) (h : dOk b0 s0 b1 s1 cap) (be : b.toList.isEmpty = false) (bs : ((b.size : Int) == 0) = false) (bn : ¬ b = ByteArray.empty) (hl : 0 < left) (hl2 : left ≤ 9223372036854775807) (hf : (b0.size : Int) + b.size ≤ cap) :
    Calls Try.prog 20 #[.agg #[.string b0, .int .i64 s0, .string b1, .int .i64 s1, .int .i64 cap, .int .i64 left, .bool false], .agg #[.int .i8 0, .int .i64 0, .string b, .int .i64 0]] w fun e w' => e = .returned (.tuple #[.agg #[.string (b0 ++ b), .int .i64 s0, .string b1, .int .i64 s1, .int .i64 cap, .int .i64 (left - 1), .bool false], .int .i64 0]) ∧ Below w.heap.size w w' := by
  have c1 := fun w => rcheck_yes b0 s0 b1 s1 cap left false w h
  have hl0 : (left == 0) = false := by
    have : left ≠ 0 := by omega
    simpa using this
  have hcap := h.1.2
  have hnw : ¬ 9223372036854775807 < b0.size + b.size := by omega
  clear h
  go_enter Try.func20, Try.ntmps20
  go_wp2_with fail
  refine (c1 _).mono ?_
  rintro e w1 ⟨rfl, hb1⟩
  clear c1
  obtain ⟨⟨q0, q1, q2, q3, q4, q5, q6⟩, hR, ⟨y0, y1, y2, y3⟩, f0, f2, gz2, hB⟩ := do_mem _ _ _ _ _ _ _ _ _ _ _ _ _ _ _ _ _ _ _ _ _ _ _ _ hb1 (Below.refl _ _)
  obtain ⟨r0, r1, r2, r3, r4, r5, r6⟩ := id hR
  have gz1 : w.heap.size + 1 < w1.heap.size := by omega
  have gz0 : w.heap.size < w1.heap.size := by omega
  clear hb1
  go_wp2
  refine disk_ret (fn := Try.f20) (p := 4) (u := 5) rfl _ _ _ (w.heap.size + 1 + 1) _ _ _ _ _ _ _ _ rfl rfl ?_ ?_ _ (fun hb => ⟨rfl, hb⟩)
  · try (with_reducible refine Seven.alloc1 ?_ (by simp <;> omega) _)
    with_reducible apply Seven.all
    repeat (with_reducible apply Seven.far)
    with_reducible exact hR
    all_goals omega
  · try with_reducible refine bbox ?_ _
    repeat (refine Below.setCell ?_ (by simp <;> omega) _)
    with_reducible exact hB
set_option maxRecDepth 100000 in
set_option maxHeartbeats 1000000 in
theorem rdo_SP0 (b0 : ByteArray) (s0 : Int) (b1 : ByteArray) (s1 cap left : Int) (down : Bool) (op zone n : Int) (b : ByteArray) (w : World) (h : dOk b0 s0 b1 s1 cap) (be : b.toList = []) (bs : b.size = 0) (hl : 0 < left) (hl2 : left ≤ 9223372036854775807) :
    Calls Try.prog 20 #[.agg #[.string b0, .int .i64 s0, .string b1, .int .i64 s1, .int .i64 cap, .int .i64 left, .bool false], .agg #[.int .i8 1, .int .i64 0, .string b, .int .i64 0]] w fun e w' => e = .returned (.tuple #[.agg #[.string b0, .int .i64 b0.size, .string b1, .int .i64 s1, .int .i64 cap, .int .i64 (left - 1), .bool false], .int .i64 0]) ∧ Below w.heap.size w w' := by
  have c1 := fun w => rcheck_yes b0 s0 b1 s1 cap left false w h
  have hl0 : (left == 0) = false := by
    have : left ≠ 0 := by omega
    simpa using this
  have hzb := h.2.1.1
  clear h
  go_enter Try.func20, Try.ntmps20
  go_wp2_with fail
  refine (c1 _).mono ?_
  rintro e w1 ⟨rfl, hb1⟩
  clear c1
  obtain ⟨⟨q0, q1, q2, q3, q4, q5, q6⟩, hR, ⟨y0, y1, y2, y3⟩, f0, f2, gz2, hB⟩ := do_mem _ _ _ _ _ _ _ _ _ _ _ _ _ _ _ _ _ _ _ _ _ _ _ _ hb1 (Below.refl _ _)
  obtain ⟨r0, r1, r2, r3, r4, r5, r6⟩ := id hR
  have gz1 : w.heap.size + 1 < w1.heap.size := by omega
  have gz0 : w.heap.size < w1.heap.size := by omega
  clear hb1
  go_wp2
  refine disk_ret (fn := Try.f20) (p := 4) (u := 5) rfl _ _ _ (w.heap.size + 1 + 1) _ _ _ _ _ _ _ _ rfl rfl ?_ ?_ _ (fun hb => ⟨rfl, hb⟩)
  · try (with_reducible refine Seven.alloc1 ?_ (by simp <;> omega) _)
    with_reducible apply Seven.all
    repeat (with_reducible apply Seven.far)
    with_reducible exact hR
    all_goals omega
  · try with_reducible refine bbox ?_ _
    repeat (refine Below.setCell ?_ (by simp <;> omega) _)
    with_reducible exact hB
set_option maxRecDepth 100000 in
set_option maxHeartbeats 1000000 in
theorem rdo_HP0 (b0 : ByteArray) (s0 : Int) (b1 : ByteArray) (s1 cap left : Int) (down : Bool) (op zone n : Int) (b : ByteArray) (w : World) (k : Nat) (hk : k ≤ b0.size) (h : dOk b0 s0 b1 s1 cap) (be : b.toList = []) (bs : b.size = 0) (hl : 0 < left) (hl2 : left ≤ 9223372036854775807) :
    Calls Try.prog 20 #[.agg #[.string b0, .int .i64 s0, .string b1, .int .i64 s1, .int .i64 cap, .int .i64 left, .bool false], .agg #[.int .i8 2, .int .i64 0, .string b, .int .i64 k]] w fun e w' => e = .returned (.tuple #[.agg #[.string (b0.extract 0 k), .int .i64 k, .string b1, .int .i64 s1, .int .i64 cap, .int .i64 (left - 1), .bool false], .int .i64 0]) ∧ Below w.heap.size w w' := by
  have c1 := fun w => rcheck_yes b0 s0 b1 s1 cap left false w h
  have hl0 : (left == 0) = false := by
    have : left ≠ 0 := by omega
    simpa using this
  have hzb := h.2.1.1
  have hsz : (b0.extract 0 k).size = k := by simp; omega
  have hkc : (k : Int) ≤ cap := by omega
  clear h
  go_enter Try.func20, Try.ntmps20
  go_wp2_with fail
  refine (c1 _).mono ?_
  rintro e w1 ⟨rfl, hb1⟩
  clear c1
  obtain ⟨⟨q0, q1, q2, q3, q4, q5, q6⟩, hR, ⟨y0, y1, y2, y3⟩, f0, f2, gz2, hB⟩ := do_mem _ _ _ _ _ _ _ _ _ _ _ _ _ _ _ _ _ _ _ _ _ _ _ _ hb1 (Below.refl _ _)
  obtain ⟨r0, r1, r2, r3, r4, r5, r6⟩ := id hR
  have gz1 : w.heap.size + 1 < w1.heap.size := by omega
  have gz0 : w.heap.size < w1.heap.size := by omega
  clear hb1
  go_wp2
  refine disk_ret (fn := Try.f20) (p := 4) (u := 5) rfl _ _ _ (w.heap.size + 1 + 1) _ _ _ _ _ _ _ _ rfl rfl ?_ ?_ _ (fun hb => ⟨rfl, hb⟩)
  · try (with_reducible refine Seven.alloc1 ?_ (by simp <;> omega) _)
    with_reducible apply Seven.all
    repeat (with_reducible apply Seven.far)
    with_reducible exact hR
    all_goals omega
  · try with_reducible refine bbox ?_ _
    repeat (refine Below.setCell ?_ (by simp <;> omega) _)
    with_reducible exact hB
set_option maxRecDepth 100000 in
set_option maxHeartbeats 1000000 in
theorem rdo_AN0 (b0 : ByteArray) (s0 : Int) (b1 : ByteArray) (s1 cap left : Int) (down : Bool) (op zone n : Int) (b : ByteArray) (w : World) (h : dOk b0 s0 b1 s1 cap) (be : b.toList.isEmpty = false) (bs : ((b.size : Int) == 0) = false) (bn : ¬ b = ByteArray.empty) (hl : left < 0) (hf : (b0.size : Int) + b.size ≤ cap) :
    Calls Try.prog 20 #[.agg #[.string b0, .int .i64 s0, .string b1, .int .i64 s1, .int .i64 cap, .int .i64 left, .bool false], .agg #[.int .i8 0, .int .i64 0, .string b, .int .i64 0]] w fun e w' => e = .returned (.tuple #[.agg #[.string (b0 ++ b), .int .i64 s0, .string b1, .int .i64 s1, .int .i64 cap, .int .i64 (left), .bool false], .int .i64 0]) ∧ Below w.heap.size w w' := by
  have c1 := fun w => rcheck_yes b0 s0 b1 s1 cap left false w h
  have hl0 : (left == 0) = false := by
    have : left ≠ 0 := by omega
    simpa using this
  have hcap := h.1.2
  have hnw : ¬ 9223372036854775807 < b0.size + b.size := by omega
  clear h
  go_enter Try.func20, Try.ntmps20
  go_wp2_with fail
  refine (c1 _).mono ?_
  rintro e w1 ⟨rfl, hb1⟩
  clear c1
  obtain ⟨⟨q0, q1, q2, q3, q4, q5, q6⟩, hR, ⟨y0, y1, y2, y3⟩, f0, f2, gz2, hB⟩ := do_mem _ _ _ _ _ _ _ _ _ _ _ _ _ _ _ _ _ _ _ _ _ _ _ _ hb1 (Below.refl _ _)
  obtain ⟨r0, r1, r2, r3, r4, r5, r6⟩ := id hR
  have gz1 : w.heap.size + 1 < w1.heap.size := by omega
  have gz0 : w.heap.size < w1.heap.size := by omega
  clear hb1
  go_wp2
  refine disk_ret (fn := Try.f20) (p := 4) (u := 5) rfl _ _ _ (w.heap.size + 1 + 1) _ _ _ _ _ _ _ _ rfl rfl ?_ ?_ _ (fun hb => ⟨rfl, hb⟩)
  · try (with_reducible refine Seven.alloc1 ?_ (by simp <;> omega) _)
    with_reducible apply Seven.all
    repeat (with_reducible apply Seven.far)
    with_reducible exact hR
    all_goals omega
  · try with_reducible refine bbox ?_ _
    repeat (refine Below.setCell ?_ (by simp <;> omega) _)
    with_reducible exact hB
set_option maxRecDepth 100000 in
set_option maxHeartbeats 1000000 in
theorem rdo_SN0 (b0 : ByteArray) (s0 : Int) (b1 : ByteArray) (s1 cap left : Int) (down : Bool) (op zone n : Int) (b : ByteArray) (w : World) (h : dOk b0 s0 b1 s1 cap) (be : b.toList = []) (bs : b.size = 0) (hl : left < 0) :
    Calls Try.prog 20 #[.agg #[.string b0, .int .i64 s0, .string b1, .int .i64 s1, .int .i64 cap, .int .i64 left, .bool false], .agg #[.int .i8 1, .int .i64 0, .string b, .int .i64 0]] w fun e w' => e = .returned (.tuple #[.agg #[.string b0, .int .i64 b0.size, .string b1, .int .i64 s1, .int .i64 cap, .int .i64 (left), .bool false], .int .i64 0]) ∧ Below w.heap.size w w' := by
  have c1 := fun w => rcheck_yes b0 s0 b1 s1 cap left false w h
  have hl0 : (left == 0) = false := by
    have : left ≠ 0 := by omega
    simpa using this
  have hzb := h.2.1.1
  clear h
  go_enter Try.func20, Try.ntmps20
  go_wp2_with fail
  refine (c1 _).mono ?_
  rintro e w1 ⟨rfl, hb1⟩
  clear c1
  obtain ⟨⟨q0, q1, q2, q3, q4, q5, q6⟩, hR, ⟨y0, y1, y2, y3⟩, f0, f2, gz2, hB⟩ := do_mem _ _ _ _ _ _ _ _ _ _ _ _ _ _ _ _ _ _ _ _ _ _ _ _ hb1 (Below.refl _ _)
  obtain ⟨r0, r1, r2, r3, r4, r5, r6⟩ := id hR
  have gz1 : w.heap.size + 1 < w1.heap.size := by omega
  have gz0 : w.heap.size < w1.heap.size := by omega
  clear hb1
  go_wp2
  refine disk_ret (fn := Try.f20) (p := 4) (u := 5) rfl _ _ _ (w.heap.size + 1 + 1) _ _ _ _ _ _ _ _ rfl rfl ?_ ?_ _ (fun hb => ⟨rfl, hb⟩)
  · try (with_reducible refine Seven.alloc1 ?_ (by simp <;> omega) _)
    with_reducible apply Seven.all
    repeat (with_reducible apply Seven.far)
    with_reducible exact hR
    all_goals omega
  · try with_reducible refine bbox ?_ _
    repeat (refine Below.setCell ?_ (by simp <;> omega) _)
    with_reducible exact hB
set_option maxRecDepth 100000 in
set_option maxHeartbeats 1000000 in
theorem rdo_HN0 (b0 : ByteArray) (s0 : Int) (b1 : ByteArray) (s1 cap left : Int) (down : Bool) (op zone n : Int) (b : ByteArray) (w : World) (k : Nat) (hk : k ≤ b0.size) (h : dOk b0 s0 b1 s1 cap) (be : b.toList = []) (bs : b.size = 0) (hl : left < 0) :
    Calls Try.prog 20 #[.agg #[.string b0, .int .i64 s0, .string b1, .int .i64 s1, .int .i64 cap, .int .i64 left, .bool false], .agg #[.int .i8 2, .int .i64 0, .string b, .int .i64 k]] w fun e w' => e = .returned (.tuple #[.agg #[.string (b0.extract 0 k), .int .i64 k, .string b1, .int .i64 s1, .int .i64 cap, .int .i64 (left), .bool false], .int .i64 0]) ∧ Below w.heap.size w w' := by
  have c1 := fun w => rcheck_yes b0 s0 b1 s1 cap left false w h
  have hl0 : (left == 0) = false := by
    have : left ≠ 0 := by omega
    simpa using this
  have hzb := h.2.1.1
  have hsz : (b0.extract 0 k).size = k := by simp; omega
  have hkc : (k : Int) ≤ cap := by omega
  clear h
  go_enter Try.func20, Try.ntmps20
  go_wp2_with fail
  refine (c1 _).mono ?_
  rintro e w1 ⟨rfl, hb1⟩
  clear c1
  obtain ⟨⟨q0, q1, q2, q3, q4, q5, q6⟩, hR, ⟨y0, y1, y2, y3⟩, f0, f2, gz2, hB⟩ := do_mem _ _ _ _ _ _ _ _ _ _ _ _ _ _ _ _ _ _ _ _ _ _ _ _ hb1 (Below.refl _ _)
  obtain ⟨r0, r1, r2, r3, r4, r5, r6⟩ := id hR
  have gz1 : w.heap.size + 1 < w1.heap.size := by omega
  have gz0 : w.heap.size < w1.heap.size := by omega
  clear hb1
  go_wp2
  refine disk_ret (fn := Try.f20) (p := 4) (u := 5) rfl _ _ _ (w.heap.size + 1 + 1) _ _ _ _ _ _ _ _ rfl rfl ?_ ?_ _ (fun hb => ⟨rfl, hb⟩)
  · try (with_reducible refine Seven.alloc1 ?_ (by simp <;> omega) _)
    with_reducible apply Seven.all
    repeat (with_reducible apply Seven.far)
    with_reducible exact hR
    all_goals omega
  · try with_reducible refine bbox ?_ _
    repeat (refine Below.setCell ?_ (by simp <;> omega) _)
    with_reducible exact hB
end Go.Proofs.Ytehgnlocekcakaa

