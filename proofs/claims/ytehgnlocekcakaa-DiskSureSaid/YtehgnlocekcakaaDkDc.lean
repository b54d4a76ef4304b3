/- The walks of the disk: do. -/
import Derived.Test.YtehgnlocekcakaaDkC
import Derived.BigRegion
namespace Go.Proofs.Ytehgnlocekcakaa
open Go.RowKit
open Go
set_option linter.unusedVariables false
set_option maxRecDepth 100000 in
set_option maxHeartbeats 1000000 in
theorem do_C1 (b0 : ByteArray) (s0 : Int) (b1 : ByteArray) (s1 cap left : Int) (down : Bool) (op zone n : Int) (b : ByteArray) (w : World) (h : dOk b0 s0 b1 s1 cap) (hm : ¬ mayP op n b b1) :
    Calls Try.prog 15 #[.agg #[.string b0, .int .i64 s0, .string b1, .int .i64 s1, .int .i64 cap, .int .i64 left, .bool down], .agg #[.int .i8 op, .int .i64 1, .string b, .int .i64 n]] w fun e w' => e = .returned (.tuple #[.agg #[.string ⟨#[]⟩, .int .i64 0, .string ⟨#[]⟩, .int .i64 0, .int .i64 0, .int .i64 0, .bool false], .int .i64 2]) ∧ Below w.heap.size w w' := by
  have c1 := fun w => check_yes b0 s0 b1 s1 cap left down w h
  have HM := Lib.hid hm
  clear h hm
  go_enter Try.func15, Try.ntmps15
  go_wp2_with fail
  refine (c1 _).mono ?_
  rintro e w1 ⟨rfl, hb1⟩
  clear c1
  obtain ⟨hc, hf⟩ := bcell hb1
  have hz2 : w.heap.size + 1 + 1 < w1.heap.size := by have := hb1.size; simp at this; omega
  have hz1 : w.heap.size + 1 < w1.heap.size := by omega
  have hz0 : w.heap.size < w1.heap.size := by omega
  go_wp2_with fail
  refine (may_any _ _ _ op n b b1 _ (by go_simp) (by go_simp) (by go_simp) (by go_simp)).mono ?_
  rintro e w2 ⟨r, rfl, hr, hb2⟩
  obtain rfl : r = false := by
    cases r
    · rfl
    · exact absurd (hr.1 rfl) HM.out
  clear hr
  obtain ⟨⟨q0, q1, q2, q3, q4, q5, q6⟩, hR, ⟨y0, y1, y2, y3⟩, f0, f2, gz2, hB⟩ := do_mem _ _ _ _ _ _ _ _ _ _ _ _ _ _ _ _ _ _ _ _ _ _ _ _ hb1 hb2
  obtain ⟨r0, r1, r2, r3, r4, r5, r6⟩ := id hR
  clear hc hf hb1 hb2 hz0 hz1 hz2
  go_wp2
  refine disk_ret (fn := Try.f15) (p := 4) (u := 5) rfl _ _ _ (w.heap.size + 1 + 1) _ _ _ _ _ _ _ _ rfl rfl ?_ ?_ _ (fun hb => ⟨rfl, hb⟩)
  · try with_reducible apply Seven.drew1
    with_reducible apply Seven.all
    repeat (with_reducible apply Seven.far)
    with_reducible first | exact hR | exact hR.drewN _
    all_goals omega
  · try with_reducible refine Below.drew ?_
    repeat (refine Below.setCell ?_ (by simp <;> omega) _)
    with_reducible first | exact hB | exact below_drewN hB _
set_option maxRecDepth 100000 in
set_option maxHeartbeats 1000000 in
theorem do_D1 (b0 : ByteArray) (s0 : Int) (b1 : ByteArray) (s1 cap left : Int) (down : Bool) (op zone n : Int) (b : ByteArray) (w : World) (h : dOk b0 s0 b1 s1 cap) (hm : mayP op n b b1) :
    Calls Try.prog 15 #[.agg #[.string b0, .int .i64 s0, .string b1, .int .i64 s1, .int .i64 cap, .int .i64 left, .bool true], .agg #[.int .i8 op, .int .i64 1, .string b, .int .i64 n]] w fun e w' => e = .returned (.tuple #[.agg #[.string ⟨#[]⟩, .int .i64 0, .string ⟨#[]⟩, .int .i64 0, .int .i64 0, .int .i64 0, .bool false], .int .i64 30]) ∧ Below w.heap.size w w' := by
  have c1 := fun w => check_yes b0 s0 b1 s1 cap left true w h
  have HM := Lib.hid hm
  clear h hm
  go_enter Try.func15, Try.ntmps15
  go_wp2_with fail
  refine (c1 _).mono ?_
  rintro e w1 ⟨rfl, hb1⟩
  clear c1
  obtain ⟨hc, hf⟩ := bcell hb1
  have hz2 : w.heap.size + 1 + 1 < w1.heap.size := by have := hb1.size; simp at this; omega
  have hz1 : w.heap.size + 1 < w1.heap.size := by omega
  have hz0 : w.heap.size < w1.heap.size := by omega
  go_wp2_with fail
  refine (may_any _ _ _ op n b b1 _ (by go_simp) (by go_simp) (by go_simp) (by go_simp)).mono ?_
  rintro e w2 ⟨r, rfl, hr, hb2⟩
  obtain rfl : r = true := hr.2 HM.out
  clear hr
  obtain ⟨⟨q0, q1, q2, q3, q4, q5, q6⟩, hR, ⟨y0, y1, y2, y3⟩, f0, f2, gz2, hB⟩ := do_mem _ _ _ _ _ _ _ _ _ _ _ _ _ _ _ _ _ _ _ _ _ _ _ _ hb1 hb2
  obtain ⟨r0, r1, r2, r3, r4, r5, r6⟩ := id hR
  clear hc hf hb1 hb2 hz0 hz1 hz2
  go_wp2
  refine disk_ret (fn := Try.f15) (p := 4) (u := 5) rfl _ _ _ (w.heap.size + 1 + 1) _ _ _ _ _ _ _ _ rfl rfl ?_ ?_ _ (fun hb => ⟨rfl, hb⟩)
  · try with_reducible apply Seven.drew1
    with_reducible apply Seven.all
    repeat (with_reducible apply Seven.far)
    with_reducible first | exact hR | exact hR.drewN _
    all_goals omega
  · try with_reducible refine Below.drew ?_
    repeat (refine Below.setCell ?_ (by simp <;> omega) _)
    with_reducible first | exact hB | exact below_drewN hB _
set_option maxRecDepth 100000 in
set_option maxHeartbeats 1000000 in
theorem do_E1 (b0 : ByteArray) (s0 : Int) (b1 : ByteArray) (s1 cap left : Int) (down : Bool) (op zone n : Int) (b : ByteArray) (w : World) (h : dOk b0 s0 b1 s1 cap) (hm : mayP op n b b1) :
    Calls Try.prog 15 #[.agg #[.string b0, .int .i64 s0, .string b1, .int .i64 s1, .int .i64 cap, .int .i64 0, .bool false], .agg #[.int .i8 op, .int .i64 1, .string b, .int .i64 n]] w fun e w' => e = .returned (.tuple #[.agg #[.string b0, .int .i64 s0, .string b1, .int .i64 s1, .int .i64 cap, .int .i64 0, .bool true], .int .i64 30]) ∧ Below w.heap.size w w' := by
  have c1 := fun w => check_yes b0 s0 b1 s1 cap 0 false w h
  have HM := Lib.hid hm
  clear h hm
  go_enter Try.func15, Try.ntmps15
  go_wp2_with fail
  refine (c1 _).mono ?_
  rintro e w1 ⟨rfl, hb1⟩
  clear c1
  obtain ⟨hc, hf⟩ := bcell hb1
  have hz2 : w.heap.size + 1 + 1 < w1.heap.size := by have := hb1.size; simp at this; omega
  have hz1 : w.heap.size + 1 < w1.heap.size := by omega
  have hz0 : w.heap.size < w1.heap.size := by omega
  go_wp2_with fail
  refine (may_any _ _ _ op n b b1 _ (by go_simp) (by go_simp) (by go_simp) (by go_simp)).mono ?_
  rintro e w2 ⟨r, rfl, hr, hb2⟩
  obtain rfl : r = true := hr.2 HM.out
  clear hr
  obtain ⟨⟨q0, q1, q2, q3, q4, q5, q6⟩, hR, ⟨y0, y1, y2, y3⟩, f0, f2, gz2, hB⟩ := do_mem _ _ _ _ _ _ _ _ _ _ _ _ _ _ _ _ _ _ _ _ _ _ _ _ hb1 hb2
  obtain ⟨r0, r1, r2, r3, r4, r5, r6⟩ := id hR
  clear hc hf hb1 hb2 hz0 hz1 hz2
  go_wp2
  refine disk_ret (fn := Try.f15) (p := 4) (u := 5) rfl _ _ _ (w.heap.size + 1 + 1) _ _ _ _ _ _ _ _ rfl rfl ?_ ?_ _ (fun hb => ⟨rfl, hb⟩)
  · try with_reducible apply Seven.drew1
    with_reducible apply Seven.all
    repeat (with_reducible apply Seven.far)
    with_reducible first | exact hR | exact hR.drewN _
    all_goals omega
  · try with_reducible refine Below.drew ?_
    repeat (refine Below.setCell ?_ (by simp <;> omega) _)
    with_reducible first | exact hB | exact below_drewN hB _
set_option maxRecDepth 100000 in
set_option maxHeartbeats 1000000 in
theorem do_F1 (b0 : ByteArray) (s0 : Int) (b1 : ByteArray) (s1 cap left : Int) (down : Bool) (op zone n : Int) (b : ByteArray) (w : World) (h : dOk b0 s0 b1 s1 cap) (hm : mayP 0 n b b1) (hl : left ≠ 0) (hf : cap < (b1.size : Int) + b.size) (hs : (b.size : Int) ≤ 9000000000000000000) :
    Calls Try.prog 15 #[.agg #[.string b0, .int .i64 s0, .string b1, .int .i64 s1, .int .i64 cap, .int .i64 left, .bool false], .agg #[.int .i8 0, .int .i64 1, .string b, .int .i64 n]] w fun e w' => e = .returned (.tuple #[.agg #[.string ⟨#[]⟩, .int .i64 0, .string ⟨#[]⟩, .int .i64 0, .int .i64 0, .int .i64 0, .bool false], .int .i64 31]) ∧ Below w.heap.size w w' := by
  have c1 := fun w => check_yes b0 s0 b1 s1 cap left false w h
  have hl0 : (left == 0) = false := by simpa using hl
  have HM := Lib.hid hm
  have hcap := h.1.2
  have hzb := h.2.2.1
  clear h hm hl
  go_enter Try.func15, Try.ntmps15
  go_wp2_with fail
  refine (c1 _).mono ?_
  rintro e w1 ⟨rfl, hb1⟩
  clear c1
  obtain ⟨hc, hf⟩ := bcell hb1
  have hz2 : w.heap.size + 1 + 1 < w1.heap.size := by have := hb1.size; simp at this; omega
  have hz1 : w.heap.size + 1 < w1.heap.size := by omega
  have hz0 : w.heap.size < w1.heap.size := by omega
  go_wp2_with fail
  refine (may_any _ _ _ 0 n b b1 _ (by go_simp) (by go_simp) (by go_simp) (by go_simp)).mono ?_
  rintro e w2 ⟨r, rfl, hr, hb2⟩
  obtain rfl : r = true := hr.2 HM.out
  clear hr
  obtain ⟨⟨q0, q1, q2, q3, q4, q5, q6⟩, hR, ⟨y0, y1, y2, y3⟩, f0, f2, gz2, hB⟩ := do_mem _ _ _ _ _ _ _ _ _ _ _ _ _ _ _ _ _ _ _ _ _ _ _ _ hb1 hb2
  obtain ⟨r0, r1, r2, r3, r4, r5, r6⟩ := id hR
  clear hc hf hb1 hb2 hz0 hz1 hz2
  go_wp2_with fail
  go_quiet (fail)
  go_wp2
  refine disk_ret (fn := Try.f15) (p := 4) (u := 5) rfl _ _ _ (w.heap.size + 1 + 1) _ _ _ _ _ _ _ _ rfl rfl ?_ ?_ _ (fun hb => ⟨rfl, hb⟩)
  · try with_reducible apply Seven.drew1
    with_reducible apply Seven.all
    repeat (with_reducible apply Seven.far)
    with_reducible first | exact hR | exact hR.drewN _
    all_goals omega
  · try with_reducible refine Below.drew ?_
    repeat (refine Below.setCell ?_ (by simp <;> omega) _)
    with_reducible first | exact hB | exact below_drewN hB _
set_option maxRecDepth 100000 in
set_option maxHeartbeats 1000000 in
theorem do_AP1 (b0 : ByteArray) (s0 : Int) (b1 : ByteArray) (s1 cap left : Int) (down : Bool) (op zone n : Int) (b : ByteArray) (w : World) (h : dOk b0 s0 b1 s1 cap) (hm : mayP 0 n b b1) (hl : 0 < left) (hl2 : left ≤ 9223372036854775807) (hf : (b1.size : Int) + b.size ≤ cap) :
    Calls Try.prog 15 #[.agg #[.string b0, .int .i64 s0, .string b1, .int .i64 s1, .int .i64 cap, .int .i64 left, .bool false], .agg #[.int .i8 0, .int .i64 1, .string b, .int .i64 n]] w fun e w' => e = .returned (.tuple #[.agg #[.string b0, .int .i64 s0, .string (b1 ++ b), .int .i64 s1, .int .i64 cap, .int .i64 (left - 1), .bool false], .int .i64 0]) ∧ Below w.heap.size w w' := by
  have c1 := fun w => check_yes b0 s0 b1 s1 cap left false w h
  have hl0 : (left == 0) = false := by
    have : left ≠ 0 := by omega
    simpa using this
  have HM := Lib.hid hm
  have hcap := h.1.2
  clear h hm
  go_enter Try.func15, Try.ntmps15
  go_wp2_with fail
  refine (c1 _).mono ?_
  rintro e w1 ⟨rfl, hb1⟩
  clear c1
  obtain ⟨hc, hf⟩ := bcell hb1
  have hz2 : w.heap.size + 1 + 1 < w1.heap.size := by have := hb1.size; simp at this; omega
  have hz1 : w.heap.size + 1 < w1.heap.size := by omega
  have hz0 : w.heap.size < w1.heap.size := by omega
  go_wp2_with fail
  refine (may_any _ _ _ 0 n b b1 _ (by go_simp) (by go_simp) (by go_simp) (by go_simp)).mono ?_
  rintro e w2 ⟨r, rfl, hr, hb2⟩
  obtain rfl : r = true := hr.2 HM.out
  clear hr
  obtain ⟨⟨q0, q1, q2, q3, q4, q5, q6⟩, hR, ⟨y0, y1, y2, y3⟩, f0, f2, gz2, hB⟩ := do_mem _ _ _ _ _ _ _ _ _ _ _ _ _ _ _ _ _ _ _ _ _ _ _ _ hb1 hb2
  obtain ⟨r0, r1, r2, r3, r4, r5, r6⟩ := id hR
  clear hc hf hb1 hb2 hz0 hz1 hz2
  go_wp2_with fail
  go_quiet (fail)
  go_wp2_with fail
  go_region
  all_goals go_wp2
  refine disk_ret (fn := Try.f15) (p := 4) (u := 5) rfl _ _ _ (w.heap.size + 1 + 1) _ _ _ _ _ _ _ _ rfl rfl ?_ ?_ _ (fun hb => ⟨rfl, hb⟩)
  · try with_reducible apply Seven.drew1
    with_reducible apply Seven.all
    repeat (with_reducible apply Seven.far)
    with_reducible first | exact hR | exact hR.drewN _
    all_goals omega
  · try with_reducible refine Below.drew ?_
    repeat (refine Below.setCell ?_ (by simp <;> omega) _)
    with_reducible first | exact hB | exact below_drewN hB _
set_option maxRecDepth 100000 in
set_option maxHeartbeats 1000000 in
theorem do_SP1 (b0 : ByteArray) (s0 : Int) (b1 : ByteArray) (s1 cap left : Int) (down : Bool) (op zone n : Int) (b : ByteArray) (w : World) (h : dOk b0 s0 b1 s1 cap) (hm : mayP 1 n b b1) (hl : 0 < left) (hl2 : left ≤ 9223372036854775807) :
    Calls Try.prog 15 #[.agg #[.string b0, .int .i64 s0, .string b1, .int .i64 s1, .int .i64 cap, .int .i64 left, .bool false], .agg #[.int .i8 1, .int .i64 1, .string b, .int .i64 n]] w fun e w' => e = .returned (.tuple #[.agg #[.string b0, .int .i64 s0, .string b1, .int .i64 b1.size, .int .i64 cap, .int .i64 (left - 1), .bool false], .int .i64 0]) ∧ Below w.heap.size w w' := by
  have c1 := fun w => check_yes b0 s0 b1 s1 cap left false w h
  have hl0 : (left == 0) = false := by
    have : left ≠ 0 := by omega
    simpa using this
  have HM := Lib.hid hm
  clear h hm
  go_enter Try.func15, Try.ntmps15
  go_wp2_with fail
  refine (c1 _).mono ?_
  rintro e w1 ⟨rfl, hb1⟩
  clear c1
  obtain ⟨hc, hf⟩ := bcell hb1
  have hz2 : w.heap.size + 1 + 1 < w1.heap.size := by have := hb1.size; simp at this; omega
  have hz1 : w.heap.size + 1 < w1.heap.size := by omega
  have hz0 : w.heap.size < w1.heap.size := by omega
  go_wp2_with fail
  refine (may_any _ _ _ 1 n b b1 _ (by go_simp) (by go_simp) (by go_simp) (by go_simp)).mono ?_
  rintro e w2 ⟨r, rfl, hr, hb2⟩
  obtain rfl : r = true := hr.2 HM.out
  clear hr
  obtain ⟨⟨q0, q1, q2, q3, q4, q5, q6⟩, hR, ⟨y0, y1, y2, y3⟩, f0, f2, gz2, hB⟩ := do_mem _ _ _ _ _ _ _ _ _ _ _ _ _ _ _ _ _ _ _ _ _ _ _ _ hb1 hb2
  obtain ⟨r0, r1, r2, r3, r4, r5, r6⟩ := id hR
  clear hc hf hb1 hb2 hz0 hz1 hz2
  go_wp2
  refine disk_ret (fn := Try.f15) (p := 4) (u := 5) rfl _ _ _ (w.heap.size + 1 + 1) _ _ _ _ _ _ _ _ rfl rfl ?_ ?_ _ (fun hb => ⟨rfl, hb⟩)
  · try with_reducible apply Seven.drew1
    with_reducible apply Seven.all
    repeat (with_reducible apply Seven.far)
    with_reducible first | exact hR | exact hR.drewN _
    all_goals omega
  · try with_reducible refine Below.drew ?_
    repeat (refine Below.setCell ?_ (by simp <;> omega) _)
    with_reducible first | exact hB | exact below_drewN hB _
set_option maxRecDepth 100000 in
set_option maxHeartbeats 1000000 in
theorem do_HP1 (b0 : ByteArray) (s0 : Int) (b1 : ByteArray) (s1 cap left : Int) (down : Bool) (op zone n : Int) (b : ByteArray) (w : World) (k : Nat) (hk : k ≤ b1.size) (h : dOk b0 s0 b1 s1 cap) (hm : mayP 2 k b b1) (hl : 0 < left) (hl2 : left ≤ 9223372036854775807) :
    Calls Try.prog 15 #[.agg #[.string b0, .int .i64 s0, .string b1, .int .i64 s1, .int .i64 cap, .int .i64 left, .bool false], .agg #[.int .i8 2, .int .i64 1, .string b, .int .i64 k]] w fun e w' => e = .returned (.tuple #[.agg #[.string b0, .int .i64 s0, .string (b1.extract 0 k), .int .i64 k, .int .i64 cap, .int .i64 (left - 1), .bool false], .int .i64 0]) ∧ Below w.heap.size w w' := by
  have c1 := fun w => check_yes b0 s0 b1 s1 cap left false w h
  have hl0 : (left == 0) = false := by
    have : left ≠ 0 := by omega
    simpa using this
  have HM := Lib.hid hm
  have hsz : (b1.extract 0 k).size = k := by simp; omega
  clear h hm
  go_enter Try.func15, Try.ntmps15
  go_wp2_with fail
  refine (c1 _).mono ?_
  rintro e w1 ⟨rfl, hb1⟩
  clear c1
  obtain ⟨hc, hf⟩ := bcell hb1
  have hz2 : w.heap.size + 1 + 1 < w1.heap.size := by have := hb1.size; simp at this; omega
  have hz1 : w.heap.size + 1 < w1.heap.size := by omega
  have hz0 : w.heap.size < w1.heap.size := by omega
  go_wp2_with fail
  refine (may_any _ _ _ 2 (k : Int) b b1 _ (by go_simp) (by go_simp) (by go_simp) (by go_simp)).mono ?_
  rintro e w2 ⟨r, rfl, hr, hb2⟩
  obtain rfl : r = true := hr.2 HM.out
  clear hr
  obtain ⟨⟨q0, q1, q2, q3, q4, q5, q6⟩, hR, ⟨y0, y1, y2, y3⟩, f0, f2, gz2, hB⟩ := do_mem _ _ _ _ _ _ _ _ _ _ _ _ _ _ _ _ _ _ _ _ _ _ _ _ hb1 hb2
  obtain ⟨r0, r1, r2, r3, r4, r5, r6⟩ := id hR
  clear hc hf hb1 hb2 hz0 hz1 hz2
  go_wp2_with fail
  go_region
  all_goals go_wp2
  refine disk_ret (fn := Try.f15) (p := 4) (u := 5) rfl _ _ _ (w.heap.size + 1 + 1) _ _ _ _ _ _ _ _ rfl rfl ?_ ?_ _ (fun hb => ⟨rfl, hb⟩)
  · try with_reducible apply Seven.drew1
    with_reducible apply Seven.all
    repeat (with_reducible apply Seven.far)
    with_reducible first | exact hR | exact hR.drewN _
    all_goals omega
  · try with_reducible refine Below.drew ?_
    repeat (refine Below.setCell ?_ (by simp <;> omega) _)
    with_reducible first | exact hB | exact below_drewN hB _
set_option maxRecDepth 100000 in
set_option maxHeartbeats 1000000 in
theorem do_AN1 (b0 : ByteArray) (s0 : Int) (b1 : ByteArray) (s1 cap left : Int) (down : Bool) (op zone n : Int) (b : ByteArray) (w : World) (h : dOk b0 s0 b1 s1 cap) (hm : mayP 0 n b b1) (hl : left < 0) (hf : (b1.size : Int) + b.size ≤ cap) :
    Calls Try.prog 15 #[.agg #[.string b0, .int .i64 s0, .string b1, .int .i64 s1, .int .i64 cap, .int .i64 left, .bool false], .agg #[.int .i8 0, .int .i64 1, .string b, .int .i64 n]] w fun e w' => e = .returned (.tuple #[.agg #[.string b0, .int .i64 s0, .string (b1 ++ b), .int .i64 s1, .int .i64 cap, .int .i64 (left), .bool false], .int .i64 0]) ∧ Below w.heap.size w w' := by
  have c1 := fun w => check_yes b0 s0 b1 s1 cap left false w h
  have hl0 : (left == 0) = false := by
    have : left ≠ 0 := by omega
    simpa using this
  have HM := Lib.hid hm
  have hcap := h.1.2
  clear h hm
  go_enter Try.func15, Try.ntmps15
  go_wp2_with fail
  refine (c1 _).mono ?_
  rintro e w1 ⟨rfl, hb1⟩
  clear c1
  obtain ⟨hc, hf⟩ := bcell hb1
  have hz2 : w.heap.size + 1 + 1 < w1.heap.size := by have := hb1.size; simp at this; omega
  have hz1 : w.heap.size + 1 < w1.heap.size := by omega
  have hz0 : w.heap.size < w1.heap.size := by omega
  go_wp2_with fail
  refine (may_any _ _ _ 0 n b b1 _ (by go_simp) (by go_simp) (by go_simp) (by go_simp)).mono ?_
  rintro e w2 ⟨r, rfl, hr, hb2⟩
  obtain rfl : r = true := hr.2 HM.out
  clear hr
  obtain ⟨⟨q0, q1, q2, q3, q4, q5, q6⟩, hR, ⟨y0, y1, y2, y3⟩, f0, f2, gz2, hB⟩ := do_mem _ _ _ _ _ _ _ _ _ _ _ _ _ _ _ _ _ _ _ _ _ _ _ _ hb1 hb2
  obtain ⟨r0, r1, r2, r3, r4, r5, r6⟩ := id hR
  clear hc hf hb1 hb2 hz0 hz1 hz2
  go_wp2_with fail
  go_quiet (fail)
  go_wp2_with fail
  go_region
  all_goals go_wp2
  refine disk_ret (fn := Try.f15) (p := 4) (u := 5) rfl _ _ _ (w.heap.size + 1 + 1) _ _ _ _ _ _ _ _ rfl rfl ?_ ?_ _ (fun hb => ⟨rfl, hb⟩)
  · try with_reducible apply Seven.drew1
    with_reducible apply Seven.all
    repeat (with_reducible apply Seven.far)
    with_reducible first | exact hR | exact hR.drewN _
    all_goals omega
  · try with_reducible refine Below.drew ?_
    repeat (refine Below.setCell ?_ (by simp <;> omega) _)
    with_reducible first | exact hB | exact below_drewN hB _
set_option maxRecDepth 100000 in
set_option maxHeartbeats 1000000 in
theorem do_SN1 (b0 : ByteArray) (s0 : Int) (b1 : ByteArray) (s1 cap left : Int) (down : Bool) (op zone n : Int) (b : ByteArray) (w : World) (h : dOk b0 s0 b1 s1 cap) (hm : mayP 1 n b b1) (hl : left < 0) :
    Calls Try.prog 15 #[.agg #[.string b0, .int .i64 s0, .string b1, .int .i64 s1, .int .i64 cap, .int .i64 left, .bool false], .agg #[.int .i8 1, .int .i64 1, .string b, .int .i64 n]] w fun e w' => e = .returned (.tuple #[.agg #[.string b0, .int .i64 s0, .string b1, .int .i64 b1.size, .int .i64 cap, .int .i64 (left), .bool false], .int .i64 0]) ∧ Below w.heap.size w w' := by
  have c1 := fun w => check_yes b0 s0 b1 s1 cap left false w h
  have hl0 : (left == 0) = false := by
    have : left ≠ 0 := by omega
    simpa using this
  have HM := Lib.hid hm
  clear h hm
  go_enter Try.func15, Try.ntmps15
  go_wp2_with fail
  refine (c1 _).mono ?_
  rintro e w1 ⟨rfl, hb1⟩
  clear c1
  obtain ⟨hc, hf⟩ := bcell hb1
  have hz2 : w.heap.size + 1 + 1 < w1.heap.size := by have := hb1.size; simp at this; omega
  have hz1 : w.heap.size + 1 < w1.heap.size := by omega
  have hz0 : w.heap.size < w1.heap.size := by omega
  go_wp2_with fail
  refine (may_any _ _ _ 1 n b b1 _ (by go_simp) (by go_simp) (by go_simp) (by go_simp)).mono ?_
  rintro e w2 ⟨r, rfl, hr, hb2⟩
  obtain rfl : r = true := hr.2 HM.out
  clear hr
  obtain ⟨⟨q0, q1, q2, q3, q4, q5, q6⟩, hR, ⟨y0, y1, y2, y3⟩, f0, f2, gz2, hB⟩ := do_mem _ _ _ _ _ _ _ _ _ _ _ _ _ _ _ _ _ _ _ _ _ _ _ _ hb1 hb2
  obtain ⟨r0, r1, r2, r3, r4, r5, r6⟩ := id hR
  clear hc hf hb1 hb2 hz0 hz1 hz2
  go_wp2
  refine disk_ret (fn := Try.f15) (p := 4) (u := 5) rfl _ _ _ (w.heap.size + 1 + 1) _ _ _ _ _ _ _ _ rfl rfl ?_ ?_ _ (fun hb => ⟨rfl, hb⟩)
  · try with_reducible apply Seven.drew1
    with_reducible apply Seven.all
    repeat (with_reducible apply Seven.far)
    with_reducible first | exact hR | exact hR.drewN _
    all_goals omega
  · try with_reducible refine Below.drew ?_
    repeat (refine Below.setCell ?_ (by simp <;> omega) _)
    with_reducible first | exact hB | exact below_drewN hB _
set_option maxRecDepth 100000 in
set_option maxHeartbeats 1000000 in
theorem do_HN1 (b0 : ByteArray) (s0 : Int) (b1 : ByteArray) (s1 cap left : Int) (down : Bool) (op zone n : Int) (b : ByteArray) (w : World) (k : Nat) (hk : k ≤ b1.size) (h : dOk b0 s0 b1 s1 cap) (hm : mayP 2 k b b1) (hl : left < 0) :
    Calls Try.prog 15 #[.agg #[.string b0, .int .i64 s0, .string b1, .int .i64 s1, .int .i64 cap, .int .i64 left, .bool false], .agg #[.int .i8 2, .int .i64 1, .string b, .int .i64 k]] w fun e w' => e = .returned (.tuple #[.agg #[.string b0, .int .i64 s0, .string (b1.extract 0 k), .int .i64 k, .int .i64 cap, .int .i64 (left), .bool false], .int .i64 0]) ∧ Below w.heap.size w w' := by
  have c1 := fun w => check_yes b0 s0 b1 s1 cap left false w h
  have hl0 : (left == 0) = false := by
    have : left ≠ 0 := by omega
    simpa using this
  have HM := Lib.hid hm
  have hsz : (b1.extract 0 k).size = k := by simp; omega
  clear h hm
  go_enter Try.func15, Try.ntmps15
  go_wp2_with fail
  refine (c1 _).mono ?_
  rintro e w1 ⟨rfl, hb1⟩
  clear c1
  obtain ⟨hc, hf⟩ := bcell hb1
  have hz2 : w.heap.size + 1 + 1 < w1.heap.size := by have := hb1.size; simp at this; omega
  have hz1 : w.heap.size + 1 < w1.heap.size := by omega
  have hz0 : w.heap.size < w1.heap.size := by omega
  go_wp2_with fail
  refine (may_any _ _ _ 2 (k : Int) b b1 _ (by go_simp) (by go_simp) (by go_simp) (by go_simp)).mono ?_
  rintro e w2 ⟨r, rfl, hr, hb2⟩
  obtain rfl : r = true := hr.2 HM.out
  clear hr
  obtain ⟨⟨q0, q1, q2, q3, q4, q5, q6⟩, hR, ⟨y0, y1, y2, y3⟩, f0, f2, gz2, hB⟩ := do_mem _ _ _ _ _ _ _ _ _ _ _ _ _ _ _ _ _ _ _ _ _ _ _ _ hb1 hb2
  obtain ⟨r0, r1, r2, r3, r4, r5, r6⟩ := id hR
  clear hc hf hb1 hb2 hz0 hz1 hz2
  go_wp2_with fail
  go_region
  all_goals go_wp2
  refine disk_ret (fn := Try.f15) (p := 4) (u := 5) rfl _ _ _ (w.heap.size + 1 + 1) _ _ _ _ _ _ _ _ rfl rfl ?_ ?_ _ (fun hb => ⟨rfl, hb⟩)
  · try with_reducible apply Seven.drew1
    with_reducible apply Seven.all
    repeat (with_reducible apply Seven.far)
    with_reducible first | exact hR | exact hR.drewN _
    all_goals omega
  · try with_reducible refine Below.drew ?_
    repeat (refine Below.setCell ?_ (by simp <;> omega) _)
    with_reducible first | exact hB | exact below_drewN hB _
end Go.Proofs.Ytehgnlocekcakaa

