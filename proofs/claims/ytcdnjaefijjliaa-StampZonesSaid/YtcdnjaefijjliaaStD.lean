/- The walks of the stamp's Clock, whole, and Zone. -/
import Derived.Test.YtcdnjaefijjliaaStC
namespace Go.Proofs.Ytcdnjaefijjliaa
open Go.RowKit
open Go
set_option linter.unusedVariables false
theorem clock_any (s : ByteArray) (hs : s.size ≤ 1000) (w : World) : Calls Try.prog 16 #[.string s] w (ClkPost (Sm.clkF s) w) := by
  cases hh : Sm.hmB s
  · have : Sm.clkF s = (0, 0, 0, 0, false) := by unfold Sm.clkF; rw [if_neg (fun k => by rw [hh] at k; cases k.1)]
    rw [this]
    by_cases h : s.size < 5
    · exact clock_lo s h w
    · exact clock_no s (by omega) hs hh w
  · exact clock_yes s (Sm.hm_size hh) hs hh w
def ZonPost (r : Int × Bool) (w : World) (e : Ending) (w' : World) : Prop := e = .returned (.tuple #[.int .i64 r.1, .bool r.2]) ∧ Below w.heap.size w w'
theorem eq_list {s t : ByteArray} : s.toList = t.toList ↔ s = t := by
  rw [ByteArray.toList_eq, ByteArray.toList_eq]
  constructor
  · intro h
    apply ByteArray.ext
    apply Array.ext'
    exact h
  · intro h; rw [h]
set_option maxHeartbeats 1000000 in
theorem zone_z (w : World) : Calls Try.prog 14 #[.string ⟨#[90]⟩] w (ZonPost (0, true) w) := by
  go_enter Try.func14, Try.ntmps14
  go_wp2_with fail
  go_ret2
  exact ⟨rfl, Below.refl _ _⟩
set_option maxHeartbeats 1000000 in
theorem zone_no (s : ByteArray) (hz : (s.toList == [90]) = false) (h1 : Sm.formB s ⟨#[43, 48, 48, 58, 48, 48]⟩ = false) (h2 : Sm.formB s ⟨#[45, 48, 48, 58, 48, 48]⟩ = false) (w : World) : Calls Try.prog 14 #[.string s] w (ZonPost (0, false) w) := by
  have hz' : ¬ s.toList = [90] := by simpa using hz
  go_enter Try.func14, Try.ntmps14
  go_wp2_with fail
  refine (fm _ _ false h1 (by decide) _).mono ?_
  rintro e w1 ⟨rfl, hb1⟩
  go_wp2_with fail
  refine (fm _ _ false h2 (by decide) _).mono ?_
  rintro e w2 ⟨rfl, hb2⟩
  go_wp2_with fail
  go_ret2
  exact ⟨rfl, bn hb1 hb2⟩
theorem bbb {w W W' : World} (h : Below w.heap.size w W) (k : Below W.heap.size W W' ∨ Below W.drew.heap.size W.drew W') : Below w.heap.size w W' := by
  rcases k with k | k
  · exact bn h k
  · exact bn h.drew k
set_option maxHeartbeats 1000000 in
theorem zone_east (s : ByteArray) (hz : (s.toList == [90]) = false) (h1 : Sm.formB s ⟨#[43, 48, 48, 58, 48, 48]⟩ = true) (h6 : s.size = 6) (h0 : Sm.B s 0 = 43) (d1 : Sm.d2 s 1 = true) (d4 : Sm.d2 s 4 = true) (w : World) :
    Calls Try.prog 14 #[.string s] w (ZonPost (if Sm.n2 s 1 ≤ 23 ∧ Sm.n2 s 4 ≤ 59 then (Sm.n2 s 1 * 60 + Sm.n2 s 4, true) else (0, false)) w) := by
  have hz' : ¬ s.toList = [90] := by simpa using hz
  have h6' : (s.size : Int) = 6 := by omega
  have C1 := fun w => nm2 s 1 3 rfl d1 w
  have C4 := fun w => nm2 s 4 s.size h6 d4 w
  rw [h6] at C4
  have b1 := Sm.n2_bd d1
  have b4 := Sm.n2_bd d4
  obtain ⟨b10, b11⟩ := b1
  obtain ⟨b40, b41⟩ := b4
  have hidx : ((s[0]'(by omega)).toNat : Int) = 43 := by rw [Sm.B_at s 0 (by omega), h0]; rfl
  generalize Sm.n2 s 1 = h at *
  generalize Sm.n2 s 4 = m at *
  generalize hF : (if h ≤ 23 ∧ m ≤ 59 then (h * 60 + m, true) else (0, false)) = res
  have HF := Lib.hid hF
  clear hF
  go_enter Try.func14, Try.ntmps14
  go_wp2_with fail
  refine (fm _ _ true h1 (by decide) _).mono ?_
  rintro e w1 ⟨rfl, hb1⟩
  go_wp2_with fail
  go_region_held3 (fun _ => True) (trivial) (first | (go_at_call 28; (first | (with_reducible refine (C1 _).mono ?_) | (with_reducible refine (C4 _).mono ?_)); rintro e w' ⟨rfl, hb⟩; replace hb1 : Below w.heap.size w w' := (by first | exact bn hb1 hb | exact bn hb1.drew hb); clear hb))
  by_cases hh : 23 < h
  · go_wp2_with fail
    go_ret2
    rw [← HF.out, if_neg (by omega)]
    exact ⟨rfl, hb1⟩
  by_cases hm : 59 < m
  · go_wp2_with fail
    go_ret2
    rw [← HF.out, if_neg (by omega)]
    exact ⟨rfl, hb1⟩
  go_wp2_with fail
  go_ret2
  rw [← HF.out, if_pos (by omega)]
  refine ⟨?_, hb1⟩
  first | rfl | (go_num; rfl) | skip
set_option maxHeartbeats 1000000 in
theorem zone_west (s : ByteArray) (hz : (s.toList == [90]) = false) (h0' : Sm.formB s ⟨#[43, 48, 48, 58, 48, 48]⟩ = false) (h1 : Sm.formB s ⟨#[45, 48, 48, 58, 48, 48]⟩ = true) (h6 : s.size = 6) (h0 : Sm.B s 0 = 45) (d1 : Sm.d2 s 1 = true) (d4 : Sm.d2 s 4 = true) (w : World) :
    Calls Try.prog 14 #[.string s] w (ZonPost (if Sm.n2 s 1 ≤ 23 ∧ Sm.n2 s 4 ≤ 59 then (-(Sm.n2 s 1 * 60 + Sm.n2 s 4), true) else (0, false)) w) := by
  have hz' : ¬ s.toList = [90] := by simpa using hz
  have h6' : (s.size : Int) = 6 := by omega
  have C1 := fun w => nm2 s 1 3 rfl d1 w
  have C4 := fun w => nm2 s 4 s.size h6 d4 w
  rw [h6] at C4
  have b1 := Sm.n2_bd d1
  have b4 := Sm.n2_bd d4
  obtain ⟨b10, b11⟩ := b1
  obtain ⟨b40, b41⟩ := b4
  have hidx : ((s[0]'(by omega)).toNat : Int) = 45 := by rw [Sm.B_at s 0 (by omega), h0]; rfl
  generalize Sm.n2 s 1 = h at *
  generalize Sm.n2 s 4 = m at *
  generalize hF : (if h ≤ 23 ∧ m ≤ 59 then (-(h * 60 + m), true) else (0, false)) = res
  have HF := Lib.hid hF
  clear hF
  go_enter Try.func14, Try.ntmps14
  go_wp2_with fail
  refine (fm _ _ false h0' (by decide) _).mono ?_
  rintro e w0 ⟨rfl, hb0⟩
  go_wp2_with fail
  refine (fm _ _ true h1 (by decide) _).mono ?_
  rintro e w1 ⟨rfl, hb1⟩
  replace hb1 := bn hb0 hb1
  go_wp2_with fail
  go_region_held3 (fun _ => True) (trivial) (first | (go_at_call 28; (first | (with_reducible refine (C1 _).mono ?_) | (with_reducible refine (C4 _).mono ?_)); rintro e w' ⟨rfl, hb⟩; replace hb1 : Below w.heap.size w w' := (by first | exact bn hb1 hb | exact bn hb1.drew hb); clear hb))
  by_cases hh : 23 < h
  · go_wp2_with fail
    go_ret2
    rw [← HF.out, if_neg (by omega)]
    exact ⟨rfl, hb1⟩
  by_cases hm : 59 < m
  · go_wp2_with fail
    go_ret2
    rw [← HF.out, if_neg (by omega)]
    exact ⟨rfl, hb1⟩
  go_wp2_with fail
  go_ret2
  rw [← HF.out, if_pos (by omega)]
  refine ⟨?_, hb1⟩
  first | rfl | (go_num; rfl) | skip
end Go.Proofs.Ytcdnjaefijjliaa
