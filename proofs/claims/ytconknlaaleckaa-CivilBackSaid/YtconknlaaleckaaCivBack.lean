/- The walks of civil's counts, there and back. -/
import Derived.Test.YtconknlaaleckaaCivLaws
namespace Go.Proofs.Ytconknlaaleckaa
open Go.RowKit
open Go
theorem rdays_at (y m d n : Int) (w : World) (h : Cv.vldB y m d = true) (e : Cv.num y m d = n) :
    Calls Try.prog 19 #[.int .i64 y, .int .i64 m, .int .i64 d] w fun e w' => e = .returned (.tuple #[.int .i64 n, .int .i64 0]) ∧ w = w' := by
  subst e; exact rdays_yes y m d w h
theorem rdate_at (y m d n : Int) (w : World) (h : Cv.vldB y m d = true) (e : Cv.num y m d = n) :
    Calls Try.prog 21 #[.int .i64 n] w fun e w' => e = .returned (.tuple #[.int .i64 y, .int .i64 m, .int .i64 d, .int .i64 0]) ∧ w = w' := by
  subst e; exact rdate_yes y m d w h
set_option maxHeartbeats 400000 in
theorem counts_yes_yes (y m d n : Int) (w : World) (hv : Cv.vldB y m d = true) (y' m' d' : Int) (hv' : Cv.vldB y' m' d' = true) (hn' : Cv.num y' m' d' = n) :
    Calls Try.prog 5 #[.int .i64 y, .int .i64 m, .int .i64 d, .int .i64 n] w (LawTrue w) := by
  have c1 := fun w => days_at y m d (Cv.num y m d) w hv rfl
  have c2 := fun w => rdays_at y m d (Cv.num y m d) w hv rfl
  have c3 := fun w => date_at y' m' d' n w hv' hn'
  have c4 := fun w => rdate_at y' m' d' n w hv' hn'
  clear hv hv' hn'
  go_enter Try.func5, Try.ntmps5
  go_wp2_with fail
  refine (c1 _).mono ?_
  rintro e w1 ⟨rfl, hb0⟩
  go_wp2_with fail
  refine (c2 _).mono ?_
  rintro e w1 ⟨rfl, rfl⟩
  go_wp2_with fail
  refine (c3 _).mono ?_
  rintro e w1 ⟨rfl, hb2⟩
  go_wp2_with fail
  refine (c4 _).mono ?_
  rintro e w1 ⟨rfl, rfl⟩
  go_wp2_with fail
  refine (wakes_any _).mono ?_
  rintro e w1 ⟨rfl, hb4⟩
  go_wp2
  go_ret
  exact ⟨rfl, bn hb0 (bn hb2 hb4)⟩
set_option maxHeartbeats 400000 in
theorem counts_yes_no (y m d n : Int) (w : World) (hv : Cv.vldB y m d = true) (hn : n < -719162 ∨ 2932896 < n) :
    Calls Try.prog 5 #[.int .i64 y, .int .i64 m, .int .i64 d, .int .i64 n] w (LawTrue w) := by
  have c1 := fun w => days_at y m d (Cv.num y m d) w hv rfl
  have c2 := fun w => rdays_at y m d (Cv.num y m d) w hv rfl
  have c3 := fun w => date_no n w hn
  have c4 := fun w => rdate_no n w hn
  clear hv hn
  go_enter Try.func5, Try.ntmps5
  go_wp2_with fail
  refine (c1 _).mono ?_
  rintro e w1 ⟨rfl, hb0⟩
  go_wp2_with fail
  refine (c2 _).mono ?_
  rintro e w1 ⟨rfl, rfl⟩
  go_wp2_with fail
  refine (c3 _).mono ?_
  rintro e w1 ⟨rfl, hb2⟩
  go_wp2_with fail
  refine (c4 _).mono ?_
  rintro e w1 ⟨rfl, rfl⟩
  go_wp2_with fail
  refine (wakes_any _).mono ?_
  rintro e w1 ⟨rfl, hb4⟩
  go_wp2
  go_ret
  exact ⟨rfl, bn hb0 (bn hb2 hb4)⟩
set_option maxHeartbeats 400000 in
theorem counts_no_yes (y m d n : Int) (w : World) (hv : Cv.vldB y m d = false) (y' m' d' : Int) (hv' : Cv.vldB y' m' d' = true) (hn' : Cv.num y' m' d' = n) :
    Calls Try.prog 5 #[.int .i64 y, .int .i64 m, .int .i64 d, .int .i64 n] w (LawTrue w) := by
  have c1 := fun w => days_no y m d w hv
  have c2 := fun w => rdays_no y m d w hv
  have c3 := fun w => date_at y' m' d' n w hv' hn'
  have c4 := fun w => rdate_at y' m' d' n w hv' hn'
  clear hv hv' hn'
  go_enter Try.func5, Try.ntmps5
  go_wp2_with fail
  refine (c1 _).mono ?_
  rintro e w1 ⟨rfl, hb0⟩
  go_wp2_with fail
  refine (c2 _).mono ?_
  rintro e w1 ⟨rfl, rfl⟩
  go_wp2_with fail
  refine (c3 _).mono ?_
  rintro e w1 ⟨rfl, hb2⟩
  go_wp2_with fail
  refine (c4 _).mono ?_
  rintro e w1 ⟨rfl, rfl⟩
  go_wp2_with fail
  refine (wakes_any _).mono ?_
  rintro e w1 ⟨rfl, hb4⟩
  go_wp2
  go_ret
  exact ⟨rfl, bn hb0 (bn hb2 hb4)⟩
set_option maxHeartbeats 400000 in
theorem counts_no_no (y m d n : Int) (w : World) (hv : Cv.vldB y m d = false) (hn : n < -719162 ∨ 2932896 < n) :
    Calls Try.prog 5 #[.int .i64 y, .int .i64 m, .int .i64 d, .int .i64 n] w (LawTrue w) := by
  have c1 := fun w => days_no y m d w hv
  have c2 := fun w => rdays_no y m d w hv
  have c3 := fun w => date_no n w hn
  have c4 := fun w => rdate_no n w hn
  clear hv hn
  go_enter Try.func5, Try.ntmps5
  go_wp2_with fail
  refine (c1 _).mono ?_
  rintro e w1 ⟨rfl, hb0⟩
  go_wp2_with fail
  refine (c2 _).mono ?_
  rintro e w1 ⟨rfl, rfl⟩
  go_wp2_with fail
  refine (c3 _).mono ?_
  rintro e w1 ⟨rfl, hb2⟩
  go_wp2_with fail
  refine (c4 _).mono ?_
  rintro e w1 ⟨rfl, rfl⟩
  go_wp2_with fail
  refine (wakes_any _).mono ?_
  rintro e w1 ⟨rfl, hb4⟩
  go_wp2
  go_ret
  exact ⟨rfl, bn hb0 (bn hb2 hb4)⟩
theorem civilCounts_walk (y : Int) (_ : Is64 y) (m : Int) (_ : Is64 m) (d : Int) (_ : Is64 d) (n : Int) (_ : Is64 n) (w : World) :
    Calls Try.prog 5 #[.int .i64 y, .int .i64 m, .int .i64 d, .int .i64 n] w (LawTrue w) := by
  by_cases hn : n < -719162 ∨ 2932896 < n
  · cases hv : Cv.vldB y m d
    · exact counts_no_no y m d n w hv hn
    · exact counts_yes_no y m d n w hv hn
  · obtain ⟨y', m', d', hv', hn'⟩ := Cv.date_ex n (by omega) (by omega)
    cases hv : Cv.vldB y m d
    · exact counts_no_yes y m d n w hv y' m' d' hv' hn'
    · exact counts_yes_yes y m d n w hv y' m' d' hv' hn'
set_option maxRecDepth 100000 in
set_option maxHeartbeats 1000000 in
theorem back_a1 (y m d n : Int) (w : World) (hv : Cv.vldB y m d = true) (hn : n < -719162 ∨ 2932896 < n) :
    Calls Try.prog 6 #[.int .i64 y, .int .i64 m, .int .i64 d, .int .i64 n] w (LawTrue w) := by
  have hN := (Cv.vld_iff y m d).1 hv
  obtain ⟨f1, f2⟩ := hN
  have c1 := fun w => days_at y m d (Cv.num y m d) w hv rfl
  have c2 := fun w => last_at y m (Cv.lastI y m) w rfl
  have c3 := fun w => date_at y m d (Cv.num y m d) w hv rfl
  clear hv
  have e1 := fun w => date_no n w hn
  clear hn
  go_enter Try.func6, Try.ntmps6
  go_wp2_with fail
  refine (c1 _).mono ?_
  rintro e w1 ⟨rfl, hb0⟩
  go_wp2_with fail
  refine (c2 _).mono ?_
  rintro e w1 ⟨rfl, hb1⟩
  go_wp2_with fail
  refine (c3 _).mono ?_
  rintro e w1 ⟨rfl, hb2⟩
  go_wp2_with fail
  refine (e1 _).mono ?_
  rintro e w1 ⟨rfl, hb3⟩
  go_wp2_with fail
  refine (wakes_any _).mono ?_
  rintro e w1 ⟨rfl, hb4⟩
  go_wp2
  go_ret
  exact ⟨rfl, bn hb0 (bn hb1 (bn hb2 (bn hb3 hb4)))⟩
set_option maxRecDepth 100000 in
set_option maxHeartbeats 1000000 in
theorem back_a2 (y m d n : Int) (w : World) (hv : Cv.vldB y m d = true) (hn : n = 2932896) :
    Calls Try.prog 6 #[.int .i64 y, .int .i64 m, .int .i64 d, .int .i64 n] w (LawTrue w) := by
  have hN := (Cv.vld_iff y m d).1 hv
  obtain ⟨f1, f2⟩ := hN
  have c1 := fun w => days_at y m d (Cv.num y m d) w hv rfl
  have c2 := fun w => last_at y m (Cv.lastI y m) w rfl
  have c3 := fun w => date_at y m d (Cv.num y m d) w hv rfl
  clear hv
  subst hn
  have e1 := fun w => date_at 9999 12 31 2932896 w (by decide) (by decide)
  have e2 := fun w => days_at 9999 12 31 2932896 w (by decide) (by decide)
  have e3 := fun w => date_no 2932897 w (by decide)
  go_enter Try.func6, Try.ntmps6
  go_wp2_with fail
  refine (c1 _).mono ?_
  rintro e w1 ⟨rfl, hb0⟩
  go_wp2_with fail
  refine (c2 _).mono ?_
  rintro e w1 ⟨rfl, hb1⟩
  go_wp2_with fail
  refine (c3 _).mono ?_
  rintro e w1 ⟨rfl, hb2⟩
  go_wp2_with fail
  refine (e1 _).mono ?_
  rintro e w1 ⟨rfl, hb3⟩
  go_wp2_with fail
  refine (e2 _).mono ?_
  rintro e w1 ⟨rfl, hb4⟩
  go_wp2_with fail
  refine (e3 _).mono ?_
  rintro e w1 ⟨rfl, hb5⟩
  go_wp2_with fail
  refine (wakes_any _).mono ?_
  rintro e w1 ⟨rfl, hb6⟩
  go_wp2
  go_ret
  exact ⟨rfl, bn hb0 (bn hb1 (bn hb2 (bn hb3 (bn hb4 (bn hb5 hb6)))))⟩
set_option maxRecDepth 100000 in
set_option maxHeartbeats 1000000 in
theorem back_a3 (y m d n : Int) (w : World) (hv : Cv.vldB y m d = true) (p q r : Int) (hn : Cv.num p q r = n) (bn1 : -719162 ≤ n) (bn2 : n ≤ 2932896) (hp : Cv.vldB p q r = true) (hl : Cv.vldB p q (r + 1) = true) :
    Calls Try.prog 6 #[.int .i64 y, .int .i64 m, .int .i64 d, .int .i64 n] w (LawTrue w) := by
  have hN := (Cv.vld_iff y m d).1 hv
  obtain ⟨f1, f2⟩ := hN
  have c1 := fun w => days_at y m d (Cv.num y m d) w hv rfl
  have c2 := fun w => last_at y m (Cv.lastI y m) w rfl
  have c3 := fun w => date_at y m d (Cv.num y m d) w hv rfl
  clear hv
  have b1 := Cv.vld_bd hp
  have e1 := fun w => date_at p q r n w hp hn
  have e2 := fun w => days_at p q r n w hp hn
  have e3 := fun w => date_at p q (r + 1) (n + 1) w hl (by rw [← hn]; unfold Cv.num; omega)
  clear hp hl hn
  have kb : 0 ≤ Cv.wday n ∧ Cv.wday n ≤ 6 := by unfold Cv.wday; omega
  have g1 := fun w => wday_at n (Cv.wday n) w rfl
  have g2 := fun w => wday_at (n + 1) ((Cv.wday n + 1) % 7) w (by unfold Cv.wday; omega)
  generalize Cv.wday n = K at *
  go_enter Try.func6, Try.ntmps6
  go_wp2_with fail
  refine (c1 _).mono ?_
  rintro e w1 ⟨rfl, hb0⟩
  go_wp2_with fail
  refine (c2 _).mono ?_
  rintro e w1 ⟨rfl, hb1⟩
  go_wp2_with fail
  refine (c3 _).mono ?_
  rintro e w1 ⟨rfl, hb2⟩
  go_wp2_with fail
  refine (e1 _).mono ?_
  rintro e w1 ⟨rfl, hb3⟩
  go_wp2_with fail
  refine (e2 _).mono ?_
  rintro e w1 ⟨rfl, hb4⟩
  go_wp2_with fail
  refine (e3 _).mono ?_
  rintro e w1 ⟨rfl, hb5⟩
  go_wp2_with fail
  refine (g1 _).mono ?_
  rintro e w1 ⟨rfl, rfl⟩
  go_wp2_with fail
  refine (g2 _).mono ?_
  rintro e w1 ⟨rfl, rfl⟩
  go_wp2_with fail
  refine (wakes_any _).mono ?_
  rintro e w1 ⟨rfl, hb8⟩
  go_wp2
  go_ret
  exact ⟨rfl, bn hb0 (bn hb1 (bn hb2 (bn hb3 (bn hb4 (bn hb5 hb8)))))⟩
set_option maxRecDepth 100000 in
set_option maxHeartbeats 1000000 in
theorem back_a4 (y m d n : Int) (w : World) (hv : Cv.vldB y m d = true) (p q r : Int) (hn : Cv.num p q r = n) (bn1 : -719162 ≤ n) (bn2 : n ≤ 2932896) (hp : Cv.vldB p q r = true) (hr : Cv.lastI p q = r) (hq : q < 12) :
    Calls Try.prog 6 #[.int .i64 y, .int .i64 m, .int .i64 d, .int .i64 n] w (LawTrue w) := by
  have hN := (Cv.vld_iff y m d).1 hv
  obtain ⟨f1, f2⟩ := hN
  have c1 := fun w => days_at y m d (Cv.num y m d) w hv rfl
  have c2 := fun w => last_at y m (Cv.lastI y m) w rfl
  have c3 := fun w => date_at y m d (Cv.num y m d) w hv rfl
  clear hv
  have b1 := Cv.vld_bd hp
  have hl : Cv.vldB p (q + 1) 1 = true := Cv.vld_mk ⟨by omega, by have := Cv.lastI_lo p (q + 1) (by omega) (by omega) (by omega) (by omega); omega⟩
  have e1 := fun w => date_at p q r n w hp hn
  have e2 := fun w => days_at p q r n w hp hn
  have e3 := fun w => date_at p (q + 1) 1 (n + 1) w hl (by rw [← hn]; unfold Cv.num; rw [Cv.cum_succ p q (by omega) (by omega) (by omega) (by omega), hr]; omega)
  have e4 := fun w => last_at p q r w hr
  clear hp hl hn hr
  have kb : 0 ≤ Cv.wday n ∧ Cv.wday n ≤ 6 := by unfold Cv.wday; omega
  have g1 := fun w => wday_at n (Cv.wday n) w rfl
  have g2 := fun w => wday_at (n + 1) ((Cv.wday n + 1) % 7) w (by unfold Cv.wday; omega)
  generalize Cv.wday n = K at *
  go_enter Try.func6, Try.ntmps6
  go_wp2_with fail
  refine (c1 _).mono ?_
  rintro e w1 ⟨rfl, hb0⟩
  go_wp2_with fail
  refine (c2 _).mono ?_
  rintro e w1 ⟨rfl, hb1⟩
  go_wp2_with fail
  refine (c3 _).mono ?_
  rintro e w1 ⟨rfl, hb2⟩
  go_wp2_with fail
  refine (e1 _).mono ?_
  rintro e w1 ⟨rfl, hb3⟩
  go_wp2_with fail
  refine (e2 _).mono ?_
  rintro e w1 ⟨rfl, hb4⟩
  go_wp2_with fail
  refine (e3 _).mono ?_
  rintro e w1 ⟨rfl, hb5⟩
  go_wp2_with fail
  refine (e4 _).mono ?_
  rintro e w1 ⟨rfl, hb6⟩
  go_wp2_with fail
  refine (g1 _).mono ?_
  rintro e w1 ⟨rfl, rfl⟩
  go_wp2_with fail
  refine (g2 _).mono ?_
  rintro e w1 ⟨rfl, rfl⟩
  go_wp2_with fail
  refine (wakes_any _).mono ?_
  rintro e w1 ⟨rfl, hb9⟩
  go_wp2
  go_ret
  exact ⟨rfl, bn hb0 (bn hb1 (bn hb2 (bn hb3 (bn hb4 (bn hb5 (bn hb6 hb9))))))⟩
set_option maxRecDepth 100000 in
set_option maxHeartbeats 1000000 in
theorem back_a5 (y m d n : Int) (w : World) (hv : Cv.vldB y m d = true) (p : Int) (hn : Cv.num p 12 31 = n) (bn1 : -719162 ≤ n) (bn2 : n < 2932896) (hp : Cv.vldB p 12 31 = true) (hq : p < 9999) :
    Calls Try.prog 6 #[.int .i64 y, .int .i64 m, .int .i64 d, .int .i64 n] w (LawTrue w) := by
  have hN := (Cv.vld_iff y m d).1 hv
  obtain ⟨f1, f2⟩ := hN
  have c1 := fun w => days_at y m d (Cv.num y m d) w hv rfl
  have c2 := fun w => last_at y m (Cv.lastI y m) w rfl
  have c3 := fun w => date_at y m d (Cv.num y m d) w hv rfl
  clear hv
  have b1 := Cv.vld_bd hp
  have hl : Cv.vldB (p + 1) 1 1 = true := Cv.vld_mk ⟨by omega, by have := Cv.lastI_lo (p + 1) 1 (by omega) (by omega) (by omega) (by omega); omega⟩
  have e1 := fun w => date_at p 12 31 n w hp hn
  have e2 := fun w => days_at p 12 31 n w hp hn
  have e3 := fun w => date_at (p + 1) 1 1 (n + 1) w hl (by rw [← hn]; unfold Cv.num; rw [Cv.ahead_succ p (by omega) (by omega)]; have := Cv.cum_1 (p + 1); have : Cv.cum p 12 = 334 + Cv.lp p := by simp [Cv.cum]
                                                           omega)
  clear hp hl hn
  have kb : 0 ≤ Cv.wday n ∧ Cv.wday n ≤ 6 := by unfold Cv.wday; omega
  have g1 := fun w => wday_at n (Cv.wday n) w rfl
  have g2 := fun w => wday_at (n + 1) ((Cv.wday n + 1) % 7) w (by unfold Cv.wday; omega)
  generalize Cv.wday n = K at *
  go_enter Try.func6, Try.ntmps6
  go_wp2_with fail
  refine (c1 _).mono ?_
  rintro e w1 ⟨rfl, hb0⟩
  go_wp2_with fail
  refine (c2 _).mono ?_
  rintro e w1 ⟨rfl, hb1⟩
  go_wp2_with fail
  refine (c3 _).mono ?_
  rintro e w1 ⟨rfl, hb2⟩
  go_wp2_with fail
  refine (e1 _).mono ?_
  rintro e w1 ⟨rfl, hb3⟩
  go_wp2_with fail
  refine (e2 _).mono ?_
  rintro e w1 ⟨rfl, hb4⟩
  go_wp2_with fail
  refine (e3 _).mono ?_
  rintro e w1 ⟨rfl, hb5⟩
  go_wp2_with fail
  refine (g1 _).mono ?_
  rintro e w1 ⟨rfl, rfl⟩
  go_wp2_with fail
  refine (g2 _).mono ?_
  rintro e w1 ⟨rfl, rfl⟩
  go_wp2_with fail
  refine (wakes_any _).mono ?_
  rintro e w1 ⟨rfl, hb8⟩
  go_wp2
  go_ret
  exact ⟨rfl, bn hb0 (bn hb1 (bn hb2 (bn hb3 (bn hb4 (bn hb5 hb8)))))⟩
set_option maxRecDepth 100000 in
set_option maxHeartbeats 1000000 in
theorem back_b1 (y m d n : Int) (w : World) (hv : Cv.vldB y m d = false) (f1 : 1 ≤ d) (hn : n < -719162 ∨ 2932896 < n) :
    Calls Try.prog 6 #[.int .i64 y, .int .i64 m, .int .i64 d, .int .i64 n] w (LawTrue w) := by
  have f2 : Cv.lastI y m < d := by
    have := mt (Cv.vld_iff y m d).2 (by rw [hv]; decide)
    omega
  have c1 := fun w => days_no y m d w hv
  have c2 := fun w => last_at y m (Cv.lastI y m) w rfl
  clear hv
  have e1 := fun w => date_no n w hn
  clear hn
  go_enter Try.func6, Try.ntmps6
  go_wp2_with fail
  refine (c1 _).mono ?_
  rintro e w1 ⟨rfl, hb0⟩
  go_wp2_with fail
  refine (c2 _).mono ?_
  rintro e w1 ⟨rfl, hb1⟩
  go_wp2_with fail
  refine (e1 _).mono ?_
  rintro e w1 ⟨rfl, hb2⟩
  go_wp2_with fail
  refine (wakes_any _).mono ?_
  rintro e w1 ⟨rfl, hb3⟩
  go_wp2
  go_ret
  exact ⟨rfl, bn hb0 (bn hb1 (bn hb2 hb3))⟩
set_option maxRecDepth 100000 in
set_option maxHeartbeats 1000000 in
theorem back_b2 (y m d n : Int) (w : World) (hv : Cv.vldB y m d = false) (f1 : 1 ≤ d) (hn : n = 2932896) :
    Calls Try.prog 6 #[.int .i64 y, .int .i64 m, .int .i64 d, .int .i64 n] w (LawTrue w) := by
  have f2 : Cv.lastI y m < d := by
    have := mt (Cv.vld_iff y m d).2 (by rw [hv]; decide)
    omega
  have c1 := fun w => days_no y m d w hv
  have c2 := fun w => last_at y m (Cv.lastI y m) w rfl
  clear hv
  subst hn
  have e1 := fun w => date_at 9999 12 31 2932896 w (by decide) (by decide)
  have e2 := fun w => days_at 9999 12 31 2932896 w (by decide) (by decide)
  have e3 := fun w => date_no 2932897 w (by decide)
  go_enter Try.func6, Try.ntmps6
  go_wp2_with fail
  refine (c1 _).mono ?_
  rintro e w1 ⟨rfl, hb0⟩
  go_wp2_with fail
  refine (c2 _).mono ?_
  rintro e w1 ⟨rfl, hb1⟩
  go_wp2_with fail
  refine (e1 _).mono ?_
  rintro e w1 ⟨rfl, hb2⟩
  go_wp2_with fail
  refine (e2 _).mono ?_
  rintro e w1 ⟨rfl, hb3⟩
  go_wp2_with fail
  refine (e3 _).mono ?_
  rintro e w1 ⟨rfl, hb4⟩
  go_wp2_with fail
  refine (wakes_any _).mono ?_
  rintro e w1 ⟨rfl, hb5⟩
  go_wp2
  go_ret
  exact ⟨rfl, bn hb0 (bn hb1 (bn hb2 (bn hb3 (bn hb4 hb5))))⟩
set_option maxRecDepth 100000 in
set_option maxHeartbeats 1000000 in
theorem back_b3 (y m d n : Int) (w : World) (hv : Cv.vldB y m d = false) (f1 : 1 ≤ d) (p q r : Int) (hn : Cv.num p q r = n) (bn1 : -719162 ≤ n) (bn2 : n ≤ 2932896) (hp : Cv.vldB p q r = true) (hl : Cv.vldB p q (r + 1) = true) :
    Calls Try.prog 6 #[.int .i64 y, .int .i64 m, .int .i64 d, .int .i64 n] w (LawTrue w) := by
  have f2 : Cv.lastI y m < d := by
    have := mt (Cv.vld_iff y m d).2 (by rw [hv]; decide)
    omega
  have c1 := fun w => days_no y m d w hv
  have c2 := fun w => last_at y m (Cv.lastI y m) w rfl
  clear hv
  have b1 := Cv.vld_bd hp
  have e1 := fun w => date_at p q r n w hp hn
  have e2 := fun w => days_at p q r n w hp hn
  have e3 := fun w => date_at p q (r + 1) (n + 1) w hl (by rw [← hn]; unfold Cv.num; omega)
  clear hp hl hn
  have kb : 0 ≤ Cv.wday n ∧ Cv.wday n ≤ 6 := by unfold Cv.wday; omega
  have g1 := fun w => wday_at n (Cv.wday n) w rfl
  have g2 := fun w => wday_at (n + 1) ((Cv.wday n + 1) % 7) w (by unfold Cv.wday; omega)
  generalize Cv.wday n = K at *
  go_enter Try.func6, Try.ntmps6
  go_wp2_with fail
  refine (c1 _).mono ?_
  rintro e w1 ⟨rfl, hb0⟩
  go_wp2_with fail
  refine (c2 _).mono ?_
  rintro e w1 ⟨rfl, hb1⟩
  go_wp2_with fail
  refine (e1 _).mono ?_
  rintro e w1 ⟨rfl, hb2⟩
  go_wp2_with fail
  refine (e2 _).mono ?_
  rintro e w1 ⟨rfl, hb3⟩
  go_wp2_with fail
  refine (e3 _).mono ?_
  rintro e w1 ⟨rfl, hb4⟩
  go_wp2_with fail
  refine (g1 _).mono ?_
  rintro e w1 ⟨rfl, rfl⟩
  go_wp2_with fail
  refine (g2 _).mono ?_
  rintro e w1 ⟨rfl, rfl⟩
  go_wp2_with fail
  refine (wakes_any _).mono ?_
  rintro e w1 ⟨rfl, hb7⟩
  go_wp2
  go_ret
  exact ⟨rfl, bn hb0 (bn hb1 (bn hb2 (bn hb3 (bn hb4 hb7))))⟩
set_option maxRecDepth 100000 in
set_option maxHeartbeats 1000000 in
theorem back_b4 (y m d n : Int) (w : World) (hv : Cv.vldB y m d = false) (f1 : 1 ≤ d) (p q r : Int) (hn : Cv.num p q r = n) (bn1 : -719162 ≤ n) (bn2 : n ≤ 2932896) (hp : Cv.vldB p q r = true) (hr : Cv.lastI p q = r) (hq : q < 12) :
    Calls Try.prog 6 #[.int .i64 y, .int .i64 m, .int .i64 d, .int .i64 n] w (LawTrue w) := by
  have f2 : Cv.lastI y m < d := by
    have := mt (Cv.vld_iff y m d).2 (by rw [hv]; decide)
    omega
  have c1 := fun w => days_no y m d w hv
  have c2 := fun w => last_at y m (Cv.lastI y m) w rfl
  clear hv
  have b1 := Cv.vld_bd hp
  have hl : Cv.vldB p (q + 1) 1 = true := Cv.vld_mk ⟨by omega, by have := Cv.lastI_lo p (q + 1) (by omega) (by omega) (by omega) (by omega); omega⟩
  have e1 := fun w => date_at p q r n w hp hn
  have e2 := fun w => days_at p q r n w hp hn
  have e3 := fun w => date_at p (q + 1) 1 (n + 1) w hl (by rw [← hn]; unfold Cv.num; rw [Cv.cum_succ p q (by omega) (by omega) (by omega) (by omega), hr]; omega)
  have e4 := fun w => last_at p q r w hr
  clear hp hl hn hr
  have kb : 0 ≤ Cv.wday n ∧ Cv.wday n ≤ 6 := by unfold Cv.wday; omega
  have g1 := fun w => wday_at n (Cv.wday n) w rfl
  have g2 := fun w => wday_at (n + 1) ((Cv.wday n + 1) % 7) w (by unfold Cv.wday; omega)
  generalize Cv.wday n = K at *
  go_enter Try.func6, Try.ntmps6
  go_wp2_with fail
  refine (c1 _).mono ?_
  rintro e w1 ⟨rfl, hb0⟩
  go_wp2_with fail
  refine (c2 _).mono ?_
  rintro e w1 ⟨rfl, hb1⟩
  go_wp2_with fail
  refine (e1 _).mono ?_
  rintro e w1 ⟨rfl, hb2⟩
  go_wp2_with fail
  refine (e2 _).mono ?_
  rintro e w1 ⟨rfl, hb3⟩
  go_wp2_with fail
  refine (e3 _).mono ?_
  rintro e w1 ⟨rfl, hb4⟩
  go_wp2_with fail
  refine (e4 _).mono ?_
  rintro e w1 ⟨rfl, hb5⟩
  go_wp2_with fail
  refine (g1 _).mono ?_
  rintro e w1 ⟨rfl, rfl⟩
  go_wp2_with fail
  refine (g2 _).mono ?_
  rintro e w1 ⟨rfl, rfl⟩
  go_wp2_with fail
  refine (wakes_any _).mono ?_
  rintro e w1 ⟨rfl, hb8⟩
  go_wp2
  go_ret
  exact ⟨rfl, bn hb0 (bn hb1 (bn hb2 (bn hb3 (bn hb4 (bn hb5 hb8)))))⟩
set_option maxRecDepth 100000 in
set_option maxHeartbeats 1000000 in
theorem back_b5 (y m d n : Int) (w : World) (hv : Cv.vldB y m d = false) (f1 : 1 ≤ d) (p : Int) (hn : Cv.num p 12 31 = n) (bn1 : -719162 ≤ n) (bn2 : n < 2932896) (hp : Cv.vldB p 12 31 = true) (hq : p < 9999) :
    Calls Try.prog 6 #[.int .i64 y, .int .i64 m, .int .i64 d, .int .i64 n] w (LawTrue w) := by
  have f2 : Cv.lastI y m < d := by
    have := mt (Cv.vld_iff y m d).2 (by rw [hv]; decide)
    omega
  have c1 := fun w => days_no y m d w hv
  have c2 := fun w => last_at y m (Cv.lastI y m) w rfl
  clear hv
  have b1 := Cv.vld_bd hp
  have hl : Cv.vldB (p + 1) 1 1 = true := Cv.vld_mk ⟨by omega, by have := Cv.lastI_lo (p + 1) 1 (by omega) (by omega) (by omega) (by omega); omega⟩
  have e1 := fun w => date_at p 12 31 n w hp hn
  have e2 := fun w => days_at p 12 31 n w hp hn
  have e3 := fun w => date_at (p + 1) 1 1 (n + 1) w hl (by rw [← hn]; unfold Cv.num; rw [Cv.ahead_succ p (by omega) (by omega)]; have := Cv.cum_1 (p + 1); have : Cv.cum p 12 = 334 + Cv.lp p := by simp [Cv.cum]
                                                           omega)
  clear hp hl hn
  have kb : 0 ≤ Cv.wday n ∧ Cv.wday n ≤ 6 := by unfold Cv.wday; omega
  have g1 := fun w => wday_at n (Cv.wday n) w rfl
  have g2 := fun w => wday_at (n + 1) ((Cv.wday n + 1) % 7) w (by unfold Cv.wday; omega)
  generalize Cv.wday n = K at *
  go_enter Try.func6, Try.ntmps6
  go_wp2_with fail
  refine (c1 _).mono ?_
  rintro e w1 ⟨rfl, hb0⟩
  go_wp2_with fail
  refine (c2 _).mono ?_
  rintro e w1 ⟨rfl, hb1⟩
  go_wp2_with fail
  refine (e1 _).mono ?_
  rintro e w1 ⟨rfl, hb2⟩
  go_wp2_with fail
  refine (e2 _).mono ?_
  rintro e w1 ⟨rfl, hb3⟩
  go_wp2_with fail
  refine (e3 _).mono ?_
  rintro e w1 ⟨rfl, hb4⟩
  go_wp2_with fail
  refine (g1 _).mono ?_
  rintro e w1 ⟨rfl, rfl⟩
  go_wp2_with fail
  refine (g2 _).mono ?_
  rintro e w1 ⟨rfl, rfl⟩
  go_wp2_with fail
  refine (wakes_any _).mono ?_
  rintro e w1 ⟨rfl, hb7⟩
  go_wp2
  go_ret
  exact ⟨rfl, bn hb0 (bn hb1 (bn hb2 (bn hb3 (bn hb4 hb7))))⟩
set_option maxRecDepth 100000 in
set_option maxHeartbeats 1000000 in
theorem back_c1 (y m d n : Int) (w : World) (hv : Cv.vldB y m d = false) (f1 : d < 1) (hn : n < -719162 ∨ 2932896 < n) :
    Calls Try.prog 6 #[.int .i64 y, .int .i64 m, .int .i64 d, .int .i64 n] w (LawTrue w) := by
  have c1 := fun w => days_no y m d w hv
  clear hv
  have e1 := fun w => date_no n w hn
  clear hn
  go_enter Try.func6, Try.ntmps6
  go_wp2_with fail
  refine (c1 _).mono ?_
  rintro e w1 ⟨rfl, hb0⟩
  go_wp2_with fail
  refine (e1 _).mono ?_
  rintro e w1 ⟨rfl, hb1⟩
  go_wp2_with fail
  refine (wakes_any _).mono ?_
  rintro e w1 ⟨rfl, hb2⟩
  go_wp2
  go_ret
  exact ⟨rfl, bn hb0 (bn hb1 hb2)⟩
set_option maxRecDepth 100000 in
set_option maxHeartbeats 1000000 in
theorem back_c2 (y m d n : Int) (w : World) (hv : Cv.vldB y m d = false) (f1 : d < 1) (hn : n = 2932896) :
    Calls Try.prog 6 #[.int .i64 y, .int .i64 m, .int .i64 d, .int .i64 n] w (LawTrue w) := by
  have c1 := fun w => days_no y m d w hv
  clear hv
  subst hn
  have e1 := fun w => date_at 9999 12 31 2932896 w (by decide) (by decide)
  have e2 := fun w => days_at 9999 12 31 2932896 w (by decide) (by decide)
  have e3 := fun w => date_no 2932897 w (by decide)
  go_enter Try.func6, Try.ntmps6
  go_wp2_with fail
  refine (c1 _).mono ?_
  rintro e w1 ⟨rfl, hb0⟩
  go_wp2_with fail
  refine (e1 _).mono ?_
  rintro e w1 ⟨rfl, hb1⟩
  go_wp2_with fail
  refine (e2 _).mono ?_
  rintro e w1 ⟨rfl, hb2⟩
  go_wp2_with fail
  refine (e3 _).mono ?_
  rintro e w1 ⟨rfl, hb3⟩
  go_wp2_with fail
  refine (wakes_any _).mono ?_
  rintro e w1 ⟨rfl, hb4⟩
  go_wp2
  go_ret
  exact ⟨rfl, bn hb0 (bn hb1 (bn hb2 (bn hb3 hb4)))⟩
set_option maxRecDepth 100000 in
set_option maxHeartbeats 1000000 in
theorem back_c3 (y m d n : Int) (w : World) (hv : Cv.vldB y m d = false) (f1 : d < 1) (p q r : Int) (hn : Cv.num p q r = n) (bn1 : -719162 ≤ n) (bn2 : n ≤ 2932896) (hp : Cv.vldB p q r = true) (hl : Cv.vldB p q (r + 1) = true) :
    Calls Try.prog 6 #[.int .i64 y, .int .i64 m, .int .i64 d, .int .i64 n] w (LawTrue w) := by
  have c1 := fun w => days_no y m d w hv
  clear hv
  have b1 := Cv.vld_bd hp
  have e1 := fun w => date_at p q r n w hp hn
  have e2 := fun w => days_at p q r n w hp hn
  have e3 := fun w => date_at p q (r + 1) (n + 1) w hl (by rw [← hn]; unfold Cv.num; omega)
  clear hp hl hn
  have kb : 0 ≤ Cv.wday n ∧ Cv.wday n ≤ 6 := by unfold Cv.wday; omega
  have g1 := fun w => wday_at n (Cv.wday n) w rfl
  have g2 := fun w => wday_at (n + 1) ((Cv.wday n + 1) % 7) w (by unfold Cv.wday; omega)
  generalize Cv.wday n = K at *
  go_enter Try.func6, Try.ntmps6
  go_wp2_with fail
  refine (c1 _).mono ?_
  rintro e w1 ⟨rfl, hb0⟩
  go_wp2_with fail
  refine (e1 _).mono ?_
  rintro e w1 ⟨rfl, hb1⟩
  go_wp2_with fail
  refine (e2 _).mono ?_
  rintro e w1 ⟨rfl, hb2⟩
  go_wp2_with fail
  refine (e3 _).mono ?_
  rintro e w1 ⟨rfl, hb3⟩
  go_wp2_with fail
  refine (g1 _).mono ?_
  rintro e w1 ⟨rfl, rfl⟩
  go_wp2_with fail
  refine (g2 _).mono ?_
  rintro e w1 ⟨rfl, rfl⟩
  go_wp2_with fail
  refine (wakes_any _).mono ?_
  rintro e w1 ⟨rfl, hb6⟩
  go_wp2
  go_ret
  exact ⟨rfl, bn hb0 (bn hb1 (bn hb2 (bn hb3 hb6)))⟩
set_option maxRecDepth 100000 in
set_option maxHeartbeats 1000000 in
theorem back_c4 (y m d n : Int) (w : World) (hv : Cv.vldB y m d = false) (f1 : d < 1) (p q r : Int) (hn : Cv.num p q r = n) (bn1 : -719162 ≤ n) (bn2 : n ≤ 2932896) (hp : Cv.vldB p q r = true) (hr : Cv.lastI p q = r) (hq : q < 12) :
    Calls Try.prog 6 #[.int .i64 y, .int .i64 m, .int .i64 d, .int .i64 n] w (LawTrue w) := by
  have c1 := fun w => days_no y m d w hv
  clear hv
  have b1 := Cv.vld_bd hp
  have hl : Cv.vldB p (q + 1) 1 = true := Cv.vld_mk ⟨by omega, by have := Cv.lastI_lo p (q + 1) (by omega) (by omega) (by omega) (by omega); omega⟩
  have e1 := fun w => date_at p q r n w hp hn
  have e2 := fun w => days_at p q r n w hp hn
  have e3 := fun w => date_at p (q + 1) 1 (n + 1) w hl (by rw [← hn]; unfold Cv.num; rw [Cv.cum_succ p q (by omega) (by omega) (by omega) (by omega), hr]; omega)
  have e4 := fun w => last_at p q r w hr
  clear hp hl hn hr
  have kb : 0 ≤ Cv.wday n ∧ Cv.wday n ≤ 6 := by unfold Cv.wday; omega
  have g1 := fun w => wday_at n (Cv.wday n) w rfl
  have g2 := fun w => wday_at (n + 1) ((Cv.wday n + 1) % 7) w (by unfold Cv.wday; omega)
  generalize Cv.wday n = K at *
  go_enter Try.func6, Try.ntmps6
  go_wp2_with fail
  refine (c1 _).mono ?_
  rintro e w1 ⟨rfl, hb0⟩
  go_wp2_with fail
  refine (e1 _).mono ?_
  rintro e w1 ⟨rfl, hb1⟩
  go_wp2_with fail
  refine (e2 _).mono ?_
  rintro e w1 ⟨rfl, hb2⟩
  go_wp2_with fail
  refine (e3 _).mono ?_
  rintro e w1 ⟨rfl, hb3⟩
  go_wp2_with fail
  refine (e4 _).mono ?_
  rintro e w1 ⟨rfl, hb4⟩
  go_wp2_with fail
  refine (g1 _).mono ?_
  rintro e w1 ⟨rfl, rfl⟩
  go_wp2_with fail
  refine (g2 _).mono ?_
  rintro e w1 ⟨rfl, rfl⟩
  go_wp2_with fail
  refine (wakes_any _).mono ?_
  rintro e w1 ⟨rfl, hb7⟩
  go_wp2
  go_ret
  exact ⟨rfl, bn hb0 (bn hb1 (bn hb2 (bn hb3 (bn hb4 hb7))))⟩
set_option maxRecDepth 100000 in
set_option maxHeartbeats 1000000 in
theorem back_c5 (y m d n : Int) (w : World) (hv : Cv.vldB y m d = false) (f1 : d < 1) (p : Int) (hn : Cv.num p 12 31 = n) (bn1 : -719162 ≤ n) (bn2 : n < 2932896) (hp : Cv.vldB p 12 31 = true) (hq : p < 9999) :
    Calls Try.prog 6 #[.int .i64 y, .int .i64 m, .int .i64 d, .int .i64 n] w (LawTrue w) := by
  have c1 := fun w => days_no y m d w hv
  clear hv
  have b1 := Cv.vld_bd hp
  have hl : Cv.vldB (p + 1) 1 1 = true := Cv.vld_mk ⟨by omega, by have := Cv.lastI_lo (p + 1) 1 (by omega) (by omega) (by omega) (by omega); omega⟩
  have e1 := fun w => date_at p 12 31 n w hp hn
  have e2 := fun w => days_at p 12 31 n w hp hn
  have e3 := fun w => date_at (p + 1) 1 1 (n + 1) w hl (by rw [← hn]; unfold Cv.num; rw [Cv.ahead_succ p (by omega) (by omega)]; have := Cv.cum_1 (p + 1); have : Cv.cum p 12 = 334 + Cv.lp p := by simp [Cv.cum]
                                                           omega)
  clear hp hl hn
  have kb : 0 ≤ Cv.wday n ∧ Cv.wday n ≤ 6 := by unfold Cv.wday; omega
  have g1 := fun w => wday_at n (Cv.wday n) w rfl
  have g2 := fun w => wday_at (n + 1) ((Cv.wday n + 1) % 7) w (by unfold Cv.wday; omega)
  generalize Cv.wday n = K at *
  go_enter Try.func6, Try.ntmps6
  go_wp2_with fail
  refine (c1 _).mono ?_
  rintro e w1 ⟨rfl, hb0⟩
  go_wp2_with fail
  refine (e1 _).mono ?_
  rintro e w1 ⟨rfl, hb1⟩
  go_wp2_with fail
  refine (e2 _).mono ?_
  rintro e w1 ⟨rfl, hb2⟩
  go_wp2_with fail
  refine (e3 _).mono ?_
  rintro e w1 ⟨rfl, hb3⟩
  go_wp2_with fail
  refine (g1 _).mono ?_
  rintro e w1 ⟨rfl, rfl⟩
  go_wp2_with fail
  refine (g2 _).mono ?_
  rintro e w1 ⟨rfl, rfl⟩
  go_wp2_with fail
  refine (wakes_any _).mono ?_
  rintro e w1 ⟨rfl, hb6⟩
  go_wp2
  go_ret
  exact ⟨rfl, bn hb0 (bn hb1 (bn hb2 (bn hb3 hb6)))⟩
theorem civilBack_walk (y : Int) (_ : Is64 y) (m : Int) (_ : Is64 m) (d : Int) (_ : Is64 d) (n : Int) (_ : Is64 n) (w : World) :
    Calls Try.prog 6 #[.int .i64 y, .int .i64 m, .int .i64 d, .int .i64 n] w (LawTrue w) := by
  have key : (n < -719162 ∨ 2932896 < n) ∨ n = 2932896 ∨ (∃ p q r : Int, Cv.num p q r = n ∧ -719162 ≤ n ∧ n ≤ 2932896 ∧ Cv.vldB p q r = true ∧ Cv.vldB p q (r + 1) = true) ∨
      (∃ p q r : Int, Cv.num p q r = n ∧ -719162 ≤ n ∧ n ≤ 2932896 ∧ Cv.vldB p q r = true ∧ Cv.lastI p q = r ∧ q < 12) ∨ (∃ p : Int, Cv.num p 12 31 = n ∧ -719162 ≤ n ∧ n < 2932896 ∧ Cv.vldB p 12 31 = true ∧ p < 9999) := by
    by_cases hn : n < -719162 ∨ 2932896 < n
    · exact Or.inl hn
    · by_cases he : n = 2932896
      · exact Or.inr (Or.inl he)
      · obtain ⟨p, q, r, hv, hn'⟩ := Cv.date_ex n (by omega) (by omega)
        have hb := Cv.vld_bd hv
        have hl := (Cv.vld_iff p q r).1 hv
        right; right
        by_cases c : r < Cv.lastI p q
        · exact Or.inl ⟨p, q, r, hn', by omega, by omega, hv, Cv.vld_mk ⟨by omega, by omega⟩⟩
        · by_cases c2 : q < 12
          · exact Or.inr (Or.inl ⟨p, q, r, hn', by omega, by omega, hv, by omega, c2⟩)
          · have e : q = 12 := by omega
            subst e
            have e31 : Cv.lastI p 12 = 31 := by
              rcases Cv.lastI_or p 12 with h | ⟨_, _, ⟨h, _⟩ | ⟨h, _⟩ | h | h⟩ <;> omega
            have er : r = 31 := by omega
            subst er
            refine Or.inr (Or.inr ⟨p, hn', by omega, by omega, hv, ?_⟩)
            by_cases e9 : p = 9999
            · subst e9; have : Cv.num 9999 12 31 = 2932896 := by decide
              omega
            · omega
  have first : Cv.vldB y m d = true ∨ (Cv.vldB y m d = false ∧ 1 ≤ d) ∨ (Cv.vldB y m d = false ∧ d < 1) := by
    cases Cv.vldB y m d
    · by_cases c : 1 ≤ d
      · exact Or.inr (Or.inl ⟨rfl, c⟩)
      · exact Or.inr (Or.inr ⟨rfl, by omega⟩)
    · exact Or.inl rfl
  rcases first with f | ⟨f, g⟩ | ⟨f, g⟩ <;> rcases key with k | k | ⟨p, q, r, k1, k2, k3, k4, k5⟩ | ⟨p, q, r, k1, k2, k3, k4, k5, k6⟩ | ⟨p, k1, k2, k3, k4, k5⟩
  · exact back_a1 y m d n w f k
  · exact back_a2 y m d n w f k
  · exact back_a3 y m d n w f p q r k1 k2 k3 k4 k5
  · exact back_a4 y m d n w f p q r k1 k2 k3 k4 k5 k6
  · exact back_a5 y m d n w f p k1 k2 k3 k4 k5
  · exact back_b1 y m d n w f g k
  · exact back_b2 y m d n w f g k
  · exact back_b3 y m d n w f g p q r k1 k2 k3 k4 k5
  · exact back_b4 y m d n w f g p q r k1 k2 k3 k4 k5 k6
  · exact back_b5 y m d n w f g p k1 k2 k3 k4 k5
  · exact back_c1 y m d n w f g k
  · exact back_c2 y m d n w f g k
  · exact back_c3 y m d n w f g p q r k1 k2 k3 k4 k5
  · exact back_c4 y m d n w f g p q r k1 k2 k3 k4 k5 k6
  · exact back_c5 y m d n w f g p k1 k2 k3 k4 k5
end Go.Proofs.Ytconknlaaleckaa
