/- The walks of the stamp's statements on any text and any second. -/
import Derived.Test.YtcdnjaefijjliaaStP
namespace Go.Proofs.Ytcdnjaefijjliaa
open Go.RowKit
open Go
set_option linter.unusedVariables false
def LawTrue (w : World) (e : Ending) (w' : World) : Prop := e = .returned (.bool true) ∧ Below w.heap.size w w'
set_option maxRecDepth 100000 in
set_option maxHeartbeats 1000000 in
theorem stampWrites_walk {w : World} (sec : Int) (_ : Is64 sec) : Calls Try.prog 4 #[.int .i64 sec] w (LawTrue w) := by
  obtain ⟨r, hr⟩ := text_exists sec
  have c1 := fun w => text_any sec r hr w
  have c2 := fun w => rtext_any sec r hr w
  obtain ⟨t, ok⟩ := r
  clear hr
  go_enter Try.func4, Try.ntmps4
  go_wp2_with fail
  refine (c1 _).mono ?_
  rintro e w1 ⟨rfl, hb1⟩
  go_wp2_with fail
  refine (c2 _).mono ?_
  rintro e w2 ⟨rfl, hb2⟩
  go_wp2_with fail
  refine (wakes_any _).mono ?_
  rintro e w3 ⟨rfl, hb3⟩
  go_wp2_with fail
  go_ret
  exact ⟨rfl, bn (bn hb1 hb2) hb3⟩
set_option maxRecDepth 100000 in
set_option maxHeartbeats 1000000 in
theorem tells_long {w : World} (s : ByteArray) (h : 300 < s.size) : Calls Try.prog 3 #[.string s] w (LawTrue w) := by
  have h' : (300 : Int) < s.size := by omega
  go_enter Try.func3, Try.ntmps3
  go_wp2_with fail
  refine (wakes_any _).mono ?_
  rintro e w3 ⟨rfl, hb3⟩
  go_wp2_with fail
  go_ret
  exact ⟨rfl, hb3⟩
set_option maxRecDepth 100000 in
set_option maxHeartbeats 1000000 in
theorem tells_short {w : World} (s : ByteArray) (h : s.size ≤ 300) : Calls Try.prog 3 #[.string s] w (LawTrue w) := by
  have h' : ¬ (300 : Int) < s.size := by omega
  have c1 := fun w => stamp_any s (by omega) w
  have c2 := fun w => rstamp_any s (by omega) w
  have c3 := fun w => w3c_any s (by omega) w
  have c4 := fun w => rw3c_any s (by omega) w
  have c5 := fun w => zone_any s w
  have c6 := fun w => rzone_any s w
  have c7 := fun w => clock_any s (by omega) w
  have c8 := fun w => rclock_any s (by omega) w
  unfold ClkPost clkV at c7 c8
  generalize Sm.fullF s 8 = r1 at *
  generalize Sm.w3cF s = r2 at *
  generalize Sm.zonF s = r3 at *
  generalize Sm.clkF s = r4 at *
  obtain ⟨a1, b1⟩ := r1
  obtain ⟨a2, b2⟩ := r2
  obtain ⟨a3, b3⟩ := r3
  obtain ⟨hh, mi, x, n, ok⟩ := r4
  simp only at c7 c8
  go_enter Try.func3, Try.ntmps3
  go_wp2_with fail
  refine (c1 _).mono ?_
  rintro e w1 ⟨rfl, hb1⟩
  clear c1
  go_wp2_with fail
  refine (c2 _).mono ?_
  rintro e w2 ⟨rfl, hb2⟩
  clear c2
  go_wp2_with fail
  refine (c3 _).mono ?_
  rintro e w3 ⟨rfl, hb3⟩
  clear c3
  go_wp2_with fail
  refine (c4 _).mono ?_
  rintro e w4 ⟨rfl, hb4⟩
  clear c4
  go_wp2_with fail
  refine (c5 _).mono ?_
  rintro e w5 ⟨rfl, hb5⟩
  clear c5
  go_wp2_with fail
  refine (c6 _).mono ?_
  rintro e w6 ⟨rfl, hb6⟩
  clear c6
  have hB6 := bn (bn (bn (bn (bn hb1 hb2) hb3) hb4) hb5) hb6
  clear hb1 hb2 hb3 hb4 hb5 hb6
  go_wp2_with fail
  refine (c7 _).mono ?_
  rintro e w7 ⟨rfl, hb7⟩
  clear c7
  go_wp2_with fail
  refine (c8 _).mono ?_
  rintro e w8 ⟨rfl, hb8⟩
  clear c8
  have hc := (BX.first w7 _ _ _ _ _ _ _).step hb8
  obtain ⟨⟨q0, q1, q2, q3, q4, q5⟩, hf, hz, hB⟩ := id hc
  have hB8 : Below w.heap.size w w8 := bn (bn hB6 hb7) hB
  clear hb7 hb8 hB hB6
  go_wp2_with fail
  refine (wakes_any _).mono ?_
  rintro e w9 ⟨rfl, hb9⟩
  go_wp2_with fail
  go_ret
  exact ⟨rfl, bn (bbox hB8 _) hb9⟩
theorem stampTells_walk {w : World} (s : ByteArray) (_ : (s.size : Nat) ≤ maxLen) : Calls Try.prog 3 #[.string s] w (LawTrue w) := by
  by_cases h : 300 < s.size
  · exact tells_long s h
  · exact tells_short s (by omega)
end Go.Proofs.Ytcdnjaefijjliaa
