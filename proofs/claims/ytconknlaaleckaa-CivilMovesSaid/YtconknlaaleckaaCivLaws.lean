/- The walks of civil's statements over numbers alone. -/
import Derived.Test.YtconknlaaleckaaCivB
namespace Go.Proofs.Ytconknlaaleckaa
open Go.RowKit
open Go
theorem days_at (y m d n : Int) (w : World) (h : Cv.vldB y m d = true) (e : Cv.num y m d = n) :
    Calls Try.prog 11 #[.int .i64 y, .int .i64 m, .int .i64 d] w fun e w' => e = .returned (.tuple #[.int .i64 n, .int .i64 0]) ∧ Below w.heap.size w w' := by
  subst e; exact days_yes y m d w h
theorem date_at (y m d n : Int) (w : World) (h : Cv.vldB y m d = true) (e : Cv.num y m d = n) :
    Calls Try.prog 20 #[.int .i64 n] w fun e w' => e = .returned (.tuple #[.int .i64 y, .int .i64 m, .int .i64 d, .int .i64 0]) ∧ Below w.heap.size w w' := by
  subst e; exact date_yes y m d w h
theorem wday_at (n k : Int) (w : World) (h : Cv.wday n = k) :
    Calls Try.prog 13 #[.int .i64 n] w fun e w' => e = .returned (.int .i64 k) ∧ w = w' := by
  subst h; exact wday_any n w
theorem leap_at (y : Int) (b : Bool) (w : World) (h : Cv.leapB y = b) :
    Calls Try.prog 9 #[.int .i64 y] w fun e w' => e = .returned (.bool b) ∧ w = w' := by
  subst h; exact leap_any y w
theorem last_at (y m k : Int) (w : World) (h : Cv.lastI y m = k) :
    Calls Try.prog 12 #[.int .i64 y, .int .i64 m] w fun e w' => e = .returned (.int .i64 k) ∧ Below w.heap.size w w' := by
  subst h; exact last_any y m w
set_option maxHeartbeats 400000 in
theorem wakes_any (w : World) :
    Calls Try.prog 10 #[] w fun e w' => e = .returned (.bool true) ∧ Below w.heap.size w w' := by
  have c1 := fun w => days_at 2000 3 1 11017 w (by decide) (by decide)
  have c2 := fun w => wday_at 11017 2 w (by decide)
  have c3 := fun w => wday_at 0 3 w (by decide)
  have c4 := fun w => leap_at 2000 true w (by decide)
  have c5 := fun w => last_at 1900 2 28 w (by decide)
  go_enter Try.func10, Try.ntmps10
  go_wp2_with fail
  refine (c1 _).mono ?_
  rintro e w1 ⟨rfl, hb1⟩
  go_wp2_with fail
  refine (c2 _).mono ?_
  rintro e w2 ⟨rfl, rfl⟩
  go_wp2_with fail
  refine (c3 _).mono ?_
  rintro e w2 ⟨rfl, rfl⟩
  go_wp2_with fail
  refine (c4 _).mono ?_
  rintro e w2 ⟨rfl, rfl⟩
  go_wp2_with fail
  refine (c5 _).mono ?_
  rintro e w2 ⟨rfl, hb2⟩
  go_wp2
  go_ret
  exact ⟨rfl, bn hb1 hb2⟩
def LawTrue (w : World) (e : Ending) (w' : World) : Prop := e = .returned (.bool true) ∧ Below w.heap.size w w'
theorem leap_400 (y : Int) (h1 : 1 ≤ y) (h2 : y ≤ 9599) : Cv.leapB (y + 400) = Cv.leapB y := by
  rw [Bool.eq_iff_iff, Cv.leapB_iff, Cv.leapB_iff]; omega
theorem last_400 (y m : Int) (h1 : 1 ≤ y) (h2 : y ≤ 9599) : Cv.lastI (y + 400) m = Cv.lastI y m := by
  unfold Cv.lastI Cv.lp
  rw [leap_400 y h1 h2]
  by_cases h : y < 1 ∨ 9999 < y ∨ m < 1 ∨ 12 < m
  · rw [if_pos h, if_pos (by omega)]
  · rw [if_neg h, if_neg (by omega)]
theorem vld_400 (y m d : Int) (h1 : 1 ≤ y) (h2 : y ≤ 9599) : Cv.vldB (y + 400) m d = Cv.vldB y m d := by
  unfold Cv.vldB; rw [last_400 y m h1 h2]
theorem num_400 (y m d : Int) (h1 : 1 ≤ y) (h2 : y ≤ 9599) : Cv.num (y + 400) m d = Cv.num y m d + 146097 := by
  have : Cv.cum (y + 400) m = Cv.cum y m := by unfold Cv.cum Cv.lp; rw [leap_400 y h1 h2]
  unfold Cv.num Cv.ahead; rw [this]; omega
set_option maxHeartbeats 400000 in
theorem civilYears_walk (y : Int) (_ : Is64 y) (m : Int) (_ : Is64 m) (d : Int) (_ : Is64 d) (w : World) :
    Calls Try.prog 3 #[.int .i64 y, .int .i64 m, .int .i64 d] w (LawTrue w) := by
  by_cases hr : y < 1 ∨ 9599 < y
  · have c4 := fun w => leap_at 4 true w (by decide)
    rcases hr with hr | hr
    · go_enter Try.func3, Try.ntmps3
      go_wp2_with (first | (go_at_call 9; refine (c4 _).mono ?_; rintro e w2 ⟨rfl, rfl⟩) | (go_at_call 10; refine (wakes_any _).mono ?_; rintro e w2 ⟨rfl, hb2⟩))
      go_ret
      exact ⟨rfl, hb2⟩
    · have h1 : ¬ y < 1 := by omega
      go_enter Try.func3, Try.ntmps3
      go_wp2_with (first | (go_at_call 9; refine (c4 _).mono ?_; rintro e w2 ⟨rfl, rfl⟩) | (go_at_call 10; refine (wakes_any _).mono ?_; rintro e w2 ⟨rfl, hb2⟩))
      go_ret
      exact ⟨rfl, hb2⟩
  · have h1 : 1 ≤ y := by omega
    have h2 : y ≤ 9599 := by omega
    clear hr
    have l1 := fun w => leap_at y (Cv.leapB y) w rfl
    have l2 := fun w => leap_at (y + 400) (Cv.leapB y) w (leap_400 y h1 h2)
    have k1 := fun w => last_at y m (Cv.lastI y m) w rfl
    have k2 := fun w => last_at (y + 400) m (Cv.lastI y m) w (last_400 y m h1 h2)
    cases hv : Cv.vldB y m d
    · have D1 := fun w => days_no y m d w hv
      have D2 := fun w => days_no (y + 400) m d w (by rw [vld_400 y m d h1 h2]; exact hv)
      clear hv
      go_enter Try.func3, Try.ntmps3
      go_wp2_with fail
      refine (D1 _).mono ?_
      rintro e w1 ⟨rfl, hb1⟩
      go_wp2_with fail
      refine (D2 _).mono ?_
      rintro e w2 ⟨rfl, hb2⟩
      go_wp2_with fail
      refine (l1 _).mono ?_
      rintro e w3 ⟨rfl, rfl⟩
      go_wp2_with fail
      refine (l2 _).mono ?_
      rintro e w3 ⟨rfl, rfl⟩
      go_wp2_with fail
      refine (k1 _).mono ?_
      rintro e w3 ⟨rfl, hb3⟩
      go_wp2_with fail
      refine (k2 _).mono ?_
      rintro e w4 ⟨rfl, hb4⟩
      go_wp2_with fail
      refine (wakes_any _).mono ?_
      rintro e w5 ⟨rfl, hb5⟩
      go_wp2
      go_ret
      exact ⟨rfl, bn hb1 (bn hb2 (bn hb3 (bn hb4 hb5)))⟩
    · have hn := Cv.num_bd hv
      have D1 := fun w => days_at y m d (Cv.num y m d) w hv rfl
      have D2 := fun w => days_at (y + 400) m d (Cv.num y m d + 146097) w (by rw [vld_400 y m d h1 h2]; exact hv) (num_400 y m d h1 h2)
      clear hv
      generalize Cv.num y m d = N at *
      have g1 := fun w => wday_at N (Cv.wday N) w rfl
      have g2 := fun w => wday_at (N + 146097) (Cv.wday N) w (by unfold Cv.wday; omega)
      go_enter Try.func3, Try.ntmps3
      go_wp2_with fail
      refine (D1 _).mono ?_
      rintro e w1 ⟨rfl, hb1⟩
      go_wp2_with fail
      refine (D2 _).mono ?_
      rintro e w2 ⟨rfl, hb2⟩
      go_wp2_with fail
      refine (l1 _).mono ?_
      rintro e w3 ⟨rfl, rfl⟩
      go_wp2_with fail
      refine (l2 _).mono ?_
      rintro e w3 ⟨rfl, rfl⟩
      go_wp2_with fail
      refine (k1 _).mono ?_
      rintro e w3 ⟨rfl, hb3⟩
      go_wp2_with fail
      refine (k2 _).mono ?_
      rintro e w4 ⟨rfl, hb4⟩
      go_wp2_with fail
      refine (g1 _).mono ?_
      rintro e w5 ⟨rfl, rfl⟩
      go_wp2_with fail
      refine (g2 _).mono ?_
      rintro e w5 ⟨rfl, rfl⟩
      go_wp2_with fail
      refine (wakes_any _).mono ?_
      rintro e w5 ⟨rfl, hb5⟩
      go_wp2
      go_ret
      exact ⟨rfl, bn hb1 (bn hb2 (bn hb3 (bn hb4 hb5)))⟩
end Go.Proofs.Ytconknlaaleckaa
