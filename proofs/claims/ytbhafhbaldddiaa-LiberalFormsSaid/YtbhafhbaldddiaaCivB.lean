/- The walks of civil: a number's date. -/
import Derived.Test.YtbhafhbaldddiaaCivA
namespace Go.Proofs.Ytbhafhbaldddiaa
open Go.RowKit
open Go
theorem first_of (y : Int) : Cv.num y 1 1 = Cv.ahead y - 719162 := by unfold Cv.num; rw [Cv.cum_1]; omega
theorem count_first (y : Int) (w : World) (h1 : 1 ≤ y) (h2 : y ≤ 10000) :
    Calls Try.prog 39 #[.int .i64 y, .int .i64 1, .int .i64 1] w fun e w' => e = .returned (.int .i64 (Cv.ahead y - 719162)) ∧ w = w' := by
  rw [← first_of]
  exact count_lo y 1 1 w h1 h2 (by omega) (by omega) (by omega) (by omega)
def DateAt (n : Int) (w : World) (e : Ending) (w' : World) : Prop :=
  ∃ y m d : Int, e = .returned (.tuple #[.int .i64 y, .int .i64 m, .int .i64 d, .int .i64 0]) ∧ Cv.vldB y m d = true ∧ Cv.num y m d = n ∧ Below w.heap.size w w'
set_option maxHeartbeats 400000 in
theorem rdate_no (n : Int) (w : World) (h : n < -719162 ∨ 2932896 < n) :
    Calls Try.prog 42 #[.int .i64 n] w fun e w' => e = .returned (.tuple #[.int .i64 0, .int .i64 0, .int .i64 0, .int .i64 2]) ∧ w = w' := by
  have c2 := fun w => ahead_any 10000 w (by decide) (by decide)
  have n2 : Cv.ahead 10000 = 3652059 := by decide
  rw [n2] at c2
  clear n2
  rcases h with h | h
  · go_enter Try.func42, Try.ntmps42
    go_wp2
    exact bodyPost_ret (v := .tuple #[.int .i64 0, .int .i64 0, .int .i64 0, .int .i64 2]) (by simp [results, Try.results42, go_sem]) rfl ⟨rfl, rfl⟩
  · have h' : ¬ n < -719162 := by omega
    go_enter Try.func42, Try.ntmps42
    go_wp2_with (go_at_call 44; refine (c2 _).mono ?_; rintro e w' ⟨rfl, rfl⟩)
    exact bodyPost_ret (v := .tuple #[.int .i64 0, .int .i64 0, .int .i64 0, .int .i64 2]) (by simp [results, Try.results42, go_sem]) rfl ⟨rfl, rfl⟩
def RDateAt (n : Int) (w : World) (e : Ending) (w' : World) : Prop :=
  ∃ y m d : Int, e = .returned (.tuple #[.int .i64 y, .int .i64 m, .int .i64 d, .int .i64 0]) ∧ Cv.vldB y m d = true ∧ Cv.num y m d = n ∧ w = w'
set_option maxHeartbeats 1000000 in
theorem rdate_some (n : Int) (w : World) (h1 : -719162 ≤ n) (h2 : n ≤ 2932896) :
    Calls Try.prog 42 #[.int .i64 n] w (RDateAt n w) := by
  have c2 := fun w => ahead_any 10000 w (by decide) (by decide)
  have n2 : Cv.ahead 10000 = 3652059 := by decide
  rw [n2] at c2
  clear n2
  obtain ⟨g1, g2, g3⟩ := Cv.ahead_guess (n + 719162) (by omega) (by omega)
  go_enter Try.func42, Try.ntmps42
  go_wp2_with (go_at_call 44; refine (c2 _).mono ?_; rintro e w' ⟨rfl, rfl⟩)
  clear c2
  go_loop [7] (fun t => ∃ y : Int, 1 ≤ y ∧ y ≤ 9999 ∧ Cv.ahead y ≤ n + 719162 ∧ t = .int .i64 y) (fun t => (9999 - intOf t).toNat)
  case atStart => exact ⟨_, by omega, by omega, g3, by go_num⟩
  case round =>
    obtain ⟨y, hy1, hy2, hy3, rfl⟩ := hrel
    by_cases hc : y < 9999 ∧ Cv.ahead (y + 1) ≤ n + 719162
    · obtain ⟨hlt, hd⟩ := hc
      have hbd := Cv.ahead_bd (y + 1) (by omega) (by omega)
      go_wp2_with (go_at_call 44; refine (ahead_any _ _ (by omega) (by omega)).mono ?_; rintro e w' ⟨rfl, rfl⟩)
      go_round
      case rel => exact ⟨y + 1, by omega, by omega, hd, rfl⟩
      case measure => simp [intOf]; omega
    · have hz : n + 719162 < Cv.ahead (y + 1) := by
        by_cases e : y = 9999
        · have := Cv.ahead_max; rw [e]; show _ < Cv.ahead 10000; omega
        · omega
      have hb := Cv.ahead_bd y hy1 (by omega)
      have hb' := Cv.ahead_bd (y + 1) (by omega) (by omega)
      have hs := Cv.ahead_succ y hy1 hy2
      have hl := Cv.lp_01 y
      have hin : n + 719162 - Cv.ahead y < 365 + Cv.lp y := by omega
      clear hc g3 hs
      by_cases hlt : y < 9999
      all_goals
        go_wp2_with (go_at_call 44; refine (ahead_any _ _ (by omega) (by omega)).mono ?_; rintro e w' ⟨rfl, rfl⟩)
        go_loop [6, 8] (fun r k => ∃ m : Int, 1 ≤ m ∧ m ≤ 12 ∧ k = .int .i64 m ∧ 0 ≤ n + 719162 - Cv.ahead y - Cv.cum y m ∧ r = .int .i64 (n + 719162 - Cv.ahead y - Cv.cum y m)) (fun _ k => (12 - intOf k).toNat)
        case atStart => exact ⟨1, by omega, by omega, rfl, by rw [Cv.cum_1]; omega, by rw [Cv.cum_1]; go_num⟩
        case round =>
          obtain ⟨m, hm1, hm2, rfl, hr, rfl⟩ := hrel
          have cb := Cv.cum_bd y m
          have lb := Cv.lastI_bd y m
          have cs := Cv.cum_succ y m hy1 hy2 (by omega) (by omega)
          have hlast : ¬ n + 719162 - Cv.ahead y - Cv.cum y m < Cv.lastI y m → m < 12 := by
            intro h
            by_cases e : m = 12
            · subst e; rw [show (12 : Int) + 1 = 13 from rfl, Cv.cum_13] at cs; omega
            · omega
          have CS := Lib.hid cs
          clear cs
          by_cases hc : n + 719162 - Cv.ahead y - Cv.cum y m < Cv.lastI y m
          · clear hlast
            go_wp2_with (go_at_call 45; refine (rlast_any _ _ _).mono ?_; rintro e w' ⟨rfl, rfl⟩)
            refine bodyPost_ret (v := .tuple #[.int .i64 y, .int .i64 m, .int .i64 (n + 719162 - Cv.ahead y - Cv.cum y m + 1), .int .i64 0]) (by simp [results, Try.results42, go_sem]) rfl ⟨y, m, _, rfl, Cv.vld_mk (by omega), ?_, rfl⟩
            unfold Cv.num; omega
          · have hlt2 := hlast hc
            clear hlast
            go_wp2_with (go_at_call 45; refine (rlast_any _ _ _).mono ?_; rintro e w' ⟨rfl, rfl⟩)
            go_round
            case rel => exact ⟨m + 1, by omega, by omega, rfl, by rw [CS.out]; omega, by rw [CS.out]; go_num⟩
            case measure => simp [intOf]; omega
theorem rdate_yes (y m d : Int) (w : World) (h : Cv.vldB y m d = true) :
    Calls Try.prog 42 #[.int .i64 (Cv.num y m d)] w fun e w' => e = .returned (.tuple #[.int .i64 y, .int .i64 m, .int .i64 d, .int .i64 0]) ∧ w = w' := by
  have hb := Cv.num_bd h
  refine (rdate_some _ w hb.1 hb.2).mono ?_
  rintro e w' ⟨y', m', d', rfl, hv, hn, hbw⟩
  obtain ⟨rfl, rfl, rfl⟩ := Cv.num_inj hv h hn
  exact ⟨rfl, hbw⟩
end Go.Proofs.Ytbhafhbaldddiaa
