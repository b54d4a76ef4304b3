/- The walks of the tables' statements. -/
import Derived.Test.YtgodpjopcengmaaTbH
namespace Go.Proofs.Ytgodpjopcengmaa
open Go.RowKit
open Go
set_option linter.unusedVariables false
def LawTrue (w : World) (e : Ending) (w' : World) : Prop := e = .returned (.bool true) ∧ Below w.heap.size w w'
theorem wk1 : madeV (Tb.madeF 7879) = .tuple #[.int .i64 7865, .int .i64 770, .bool true] := by kernel_rfl
theorem wk2 : madeV (Tb.madeF 44033) = .tuple #[.int .i64 44032, .int .i64 4520, .bool true] := by kernel_rfl
theorem wk3 : Tb.classI 769 = 230 := by kernel_rfl
theorem small64 {a : Int} (h0 : -100000000 ≤ a) (h1 : a ≤ 100000000) : Is64 a := by unfold Is64; omega
set_option maxHeartbeats 1000000 in
theorem wakes_any (w : World) : Calls Try.prog 8 #[] w (LawTrue w) := by
  have c1 := fun w => made_any 7879 (small64 (by omega) (by omega)) w
  have c2 := fun w => made_any 44033 (small64 (by omega) (by omega)) w
  have c3 := fun w => class_any 769 w
  unfold MadePost at c1 c2
  rw [wk1] at c1
  rw [wk2] at c2
  rw [wk3] at c3
  go_enter Try.func8, Try.ntmps8
  go_wp2_with fail
  refine (c1 _).mono ?_
  rintro e w1 ⟨rfl, hb1⟩
  go_wp2_with fail
  refine (c2 _).mono ?_
  rintro e w2 ⟨rfl, hb2⟩
  go_wp2_with fail
  refine (c3 _).mono ?_
  rintro e w3 ⟨rfl, rfl⟩
  go_wp2_with fail
  go_ret
  exact ⟨rfl, bn hb1 hb2⟩
set_option maxRecDepth 100000 in
set_option maxHeartbeats 1000000 in
theorem tablesTell_walk {w : World} (r : Int) (hr : Is64 r) (a : Int) (ha : Is64 a) (b : Int) (hb : Is64 b) : Calls Try.prog 5 #[.int .i64 r, .int .i64 a, .int .i64 b] w (LawTrue w) := by
  have c1 := fun w => made_any r hr w
  have c2 := fun w => rmade_any r w
  have c3 := fun w => whole_any a b ha hb w
  have c4 := fun w => rwhole_any a b w
  have c5 := fun w => class_any r w
  have c6 := fun w => rclass_any r w
  have c7 := fun w => mark_any r w
  have c8 := fun w => rmark_any r w
  have c9 := fun w => hang_any r w
  have c10 := fun w => rhang_any r w
  unfold MadePost madeV at c1 c2
  unfold WholePost wholeV at c3 c4
  generalize (Tb.madeF r).getD (0, 0) = m at *
  obtain ⟨m1, m2⟩ := m
  generalize (Tb.madeF r).isSome = m3 at *
  generalize (Tb.wholeF a b).getD 0 = n1 at *
  generalize (Tb.wholeF a b).isSome = n2 at *
  generalize Tb.classI r = k at *
  generalize Tb.markB r = b1 at *
  generalize Tb.hangB r = b2 at *
  simp only at c1 c2
  go_enter Try.func5, Try.ntmps5
  go_wp2_with fail
  refine (c1 _).mono ?_
  rintro e w1 ⟨rfl, hb1⟩
  clear c1
  go_wp2_with fail
  refine (c2 _).mono ?_
  rintro e w2 ⟨rfl, hb2⟩
  clear c2
  go_wp2_with fail
  refine (c3 _).mono ?_
  rintro e w3 ⟨rfl, hb3⟩
  clear c3
  go_wp2_with fail
  refine (c4 _).mono ?_
  rintro e w4 ⟨rfl, hb4⟩
  clear c4
  go_wp2_with fail
  refine (c5 _).mono ?_
  rintro e w5 ⟨rfl, rfl⟩
  clear c5
  go_wp2_with fail
  refine (c6 _).mono ?_
  rintro e w6 ⟨rfl, rfl⟩
  clear c6
  go_wp2_with fail
  refine (c7 _).mono ?_
  rintro e w7 ⟨rfl, rfl⟩
  clear c7
  go_wp2_with fail
  refine (c8 _).mono ?_
  rintro e w8 ⟨rfl, rfl⟩
  clear c8
  go_wp2_with fail
  refine (c9 _).mono ?_
  rintro e w9 ⟨rfl, rfl⟩
  clear c9
  go_wp2_with fail
  refine (c10 _).mono ?_
  rintro e w10 ⟨rfl, rfl⟩
  clear c10
  go_wp2_with fail
  refine (wakes_any _).mono ?_
  rintro e w11 ⟨rfl, hb5⟩
  go_wp2_with fail
  go_ret
  exact ⟨rfl, bn (bn (bn (bn hb1 hb2) hb3) hb4) hb5⟩
end Go.Proofs.Ytgodpjopcengmaa
