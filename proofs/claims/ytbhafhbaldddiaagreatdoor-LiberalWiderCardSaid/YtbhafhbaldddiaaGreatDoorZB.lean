/- The walks of civil: leap years, last days, weekdays, counts. The walks of civil: a number's date. -/
import Derived.Test.YtbhafhbaldddiaaGreatDoorZA
namespace Go.Proofs.YtbhafhbaldddiaaGreatDoor
open Go.RowKit
open Go
theorem i64_and3 (n : Int) : bits .and .i64 n 3 = n % 4 := by
  have h3 : (BitVec.ofInt 64 3).toNat = 2 ^ 2 - 1 := by decide
  have key : (BitVec.ofInt 64 n &&& BitVec.ofInt 64 3).toNat = (n % ((2 ^ 64 : Nat) : Int)).toNat % 2 ^ 2 := by
    rw [BitVec.toNat_and, BitVec.toNat_ofInt, h3, Nat.and_two_pow_sub_one_eq_mod]
  show IntKind.i64.wrap ((BitVec.ofInt 64 n &&& BitVec.ofInt 64 3).toNat : Nat) = n % 4
  rw [key, IntKind.wrap_i64]
  omega
theorem leapB_eq {y : Int} {b : Bool} (h : b = true ↔ (1 ≤ y ∧ y ≤ 9999 ∧ y % 4 = 0 ∧ (y % 100 ≠ 0 ∨ y % 400 = 0))) : b = Cv.leapB y := by
  rw [Bool.eq_iff_iff, Cv.leapB_iff]; exact h
set_option maxHeartbeats 400000 in
theorem leap_any (y : Int) (w : World) :
    Calls Tryz.prog 123 #[.int .i64 y] w fun e w' => e = .returned (.bool (Cv.leapB y)) ∧ w = w' := by
  have h4 := i64_and3 y
  go_enter Tryz.func123, Tryz.ntmps123
  go_wp2
  all_goals go_ret
  all_goals (refine ⟨ret_bool (leapB_eq ?_), rfl⟩; simp; omega)
set_option maxHeartbeats 400000 in
theorem rleap_any (y : Int) (w : World) :
    Calls Tryz.prog 114 #[.int .i64 y] w fun e w' => e = .returned (.bool (Cv.leapB y)) ∧ w = w' := by
  go_enter Tryz.func114, Tryz.ntmps114
  go_wp2
  all_goals go_ret
  all_goals (refine ⟨ret_bool (leapB_eq ?_), rfl⟩; simp; omega)
theorem tmod7 (n : Int) : -6 ≤ n.tmod 7 ∧ n.tmod 7 ≤ 6 ∧ (n.tmod 7 + 10) % 7 = (n + 3) % 7 := by
  have h1 := Int.tmod_add_mul_tdiv n 7
  have h2 := Int.tmod_lt_of_pos n (show (0 : Int) < 7 by omega)
  have h3 := Int.lt_tmod_of_pos n (show (0 : Int) < 7 by omega)
  generalize n.tmod 7 = r at *
  generalize n.tdiv 7 = q at *
  omega
set_option maxHeartbeats 400000 in
theorem wday_any (n : Int) (w : World) :
    Calls Tryz.prog 87 #[.int .i64 n] w fun e w' => e = .returned (.int .i64 (Cv.wday n)) ∧ w = w' := by
  obtain ⟨h1, h2, h3⟩ := tmod7 n
  have H3 := Lib.hid h3; clear h3
  go_enter Tryz.func87, Tryz.ntmps87
  go_wp2
  go_ret
  exact ⟨ret_int H3.out, rfl⟩
set_option maxHeartbeats 400000 in
theorem rwday_any (n : Int) (w : World) :
    Calls Tryz.prog 52 #[.int .i64 n] w fun e w' => e = .returned (.int .i64 (Cv.wday n)) ∧ w = w' := by
  obtain ⟨h1, h2, h3⟩ := tmod7 n
  have H3 := Lib.hid h3; clear h3
  go_enter Tryz.func52, Tryz.ntmps52
  go_wp2
  go_ret
  exact ⟨ret_int (by rw [Cv.wday, ← H3.out]; omega), rfl⟩
set_option maxHeartbeats 400000 in
theorem count_lo (y m d : Int) (w : World) (h1 : 1 ≤ y) (h2 : y ≤ 10000) (h3 : 1 ≤ m) (h4 : m ≤ 2) (h5 : 1 ≤ d) (h6 : d ≤ 31) :
    Calls Tryz.prog 65 #[.int .i64 y, .int .i64 m, .int .i64 d] w fun e w' => e = .returned (.int .i64 (Cv.num y m d)) ∧ w = w' := by
  go_enter Tryz.func65, Tryz.ntmps65
  go_wp2
  go_ret
  refine ⟨ret_int ?_, rfl⟩
  rw [← Cv.march_lo y m d h1 h3 h4]
set_option maxHeartbeats 400000 in
theorem count_hi (y m d : Int) (w : World) (h1 : 1 ≤ y) (h2 : y ≤ 9999) (h3 : 2 < m) (h4 : m ≤ 12) (h5 : 1 ≤ d) (h6 : d ≤ 31) :
    Calls Tryz.prog 65 #[.int .i64 y, .int .i64 m, .int .i64 d] w fun e w' => e = .returned (.int .i64 (Cv.num y m d)) ∧ w = w' := by
  go_enter Tryz.func65, Tryz.ntmps65
  go_wp2
  go_ret
  refine ⟨ret_int ?_, rfl⟩
  rw [← Cv.march_hi y m d h1 h2 h3 h4]
theorem count_any (y m d : Int) (w : World) (h : Cv.vldB y m d = true) :
    Calls Tryz.prog 65 #[.int .i64 y, .int .i64 m, .int .i64 d] w fun e w' => e = .returned (.int .i64 (Cv.num y m d)) ∧ w = w' := by
  have hb := Cv.vld_bd h
  by_cases c : m ≤ 2
  · exact count_lo y m d w (by omega) (by omega) (by omega) c (by omega) (by omega)
  · exact count_hi y m d w (by omega) (by omega) (by omega) (by omega) (by omega) (by omega)
set_option maxHeartbeats 400000 in
theorem ahead_any (y : Int) (w : World) (h1 : 1 ≤ y) (h2 : y ≤ 10000) :
    Calls Tryz.prog 98 #[.int .i64 y] w fun e w' => e = .returned (.int .i64 (Cv.ahead y)) ∧ w = w' := by
  go_enter Tryz.func98, Tryz.ntmps98
  go_wp2
  go_ret
  refine ⟨ret_int ?_, rfl⟩
  unfold Cv.ahead
  omega
set_option maxHeartbeats 400000 in
theorem rlast_any (y m : Int) (w : World) :
    Calls Tryz.prog 99 #[.int .i64 y, .int .i64 m] w fun e w' => e = .returned (.int .i64 (Cv.lastI y m)) ∧ w = w' := by
  go_enter Tryz.func99, Tryz.ntmps99
  go_wp2_with (go_at_call 114; refine (rleap_any _ _).mono ?_; rintro e w' ⟨rfl, rfl⟩)
  all_goals go_ret
  all_goals (refine ⟨ret_int ?_, rfl⟩; (try simp only [beq_iff_eq, beq_eq_false_iff_ne] at *); rcases Cv.lastI_or y m with h | ⟨_, _, ⟨_, h, _⟩ | ⟨_, h, _⟩ | h | h⟩ <;> first | omega | simp_all)
theorem tab_eq (y m : Int) (a : 1 ≤ y) (b : y ≤ 9999) (c : 1 ≤ m) (d : m < 13) (e : ¬ m = 2) : ∀ h : m.toNat < 13,
    ([Value.int .i64 0, .int .i64 31, .int .i64 28, .int .i64 31, .int .i64 30, .int .i64 31, .int .i64 30, .int .i64 31, .int .i64 31, .int .i64 30, .int .i64 31, .int .i64 30, .int .i64 31])[m.toNat]'h = .int .i64 (Cv.lastI y m) := by
  have h : m = 1 ∨ m = 3 ∨ m = 4 ∨ m = 5 ∨ m = 6 ∨ m = 7 ∨ m = 8 ∨ m = 9 ∨ m = 10 ∨ m = 11 ∨ m = 12 := by omega
  unfold Cv.lastI
  rw [if_neg (by omega), if_neg e]
  rcases h with rfl | rfl | rfl | rfl | rfl | rfl | rfl | rfl | rfl | rfl | rfl <;> intro h <;> rfl
set_option maxHeartbeats 400000 in
theorem last_any (y m : Int) (w : World) :
    Calls Tryz.prog 115 #[.int .i64 y, .int .i64 m] w fun e w' => e = .returned (.int .i64 (Cv.lastI y m)) ∧ Below w.heap.size w w' := by
  go_enter Tryz.func115, Tryz.ntmps115
  go_wp2_with (go_at_call 123; refine (leap_any _ _).mono ?_; rintro e w' ⟨rfl, rfl⟩)
  all_goals go_ret
  all_goals first
    | exact ⟨congrArg Ending.returned (tab_eq y m (by omega) (by omega) (by omega) (by omega) (by omega) _), (Below.refl _ _).alloc (Nat.le_refl _) _⟩
    | (refine ⟨ret_int ?_, (Below.refl _ _).alloc (Nat.le_refl _) _⟩; rcases Cv.lastI_or y m with h | ⟨_, _, ⟨_, h, _⟩ | ⟨_, h, _⟩ | h | h⟩ <;> first | omega | simp_all)
set_option maxHeartbeats 400000 in
theorem rdate_any (y m d : Int) (w : World) :
    Calls Tryz.prog 97 #[.int .i64 y, .int .i64 m, .int .i64 d] w fun e w' => e = .returned (.bool (Cv.vldB y m d)) ∧ w = w' := by
  go_enter Tryz.func97, Tryz.ntmps97
  go_wp2_with (go_at_call 99; refine (rlast_any _ _ _).mono ?_; rintro e w' ⟨rfl, rfl⟩)
  all_goals go_ret
  all_goals (refine ⟨ret_bool ?_, rfl⟩; rw [Bool.eq_iff_iff, Cv.vld_iff]; simp; omega)
set_option maxHeartbeats 400000 in
theorem date_any (y m d : Int) (w : World) :
    Calls Tryz.prog 101 #[.int .i64 y, .int .i64 m, .int .i64 d] w fun e w' => e = .returned (.bool (Cv.vldB y m d)) ∧ Below w.heap.size w w' := by
  go_enter Tryz.func101, Tryz.ntmps101
  go_wp2_with (go_at_call 115; refine (last_any _ _ _).mono ?_; rintro e w' ⟨rfl, hb⟩)
  all_goals go_ret
  all_goals (refine ⟨ret_bool ?_, ?_⟩ <;> first | (rw [Bool.eq_iff_iff, Cv.vld_iff]; simp; omega) | exact hb | exact Below.refl _ _)
set_option maxHeartbeats 400000 in
theorem days_yes (y m d : Int) (w : World) (h : Cv.vldB y m d = true) :
    Calls Tryz.prog 86 #[.int .i64 y, .int .i64 m, .int .i64 d] w fun e w' => e = .returned (.tuple #[.int .i64 (Cv.num y m d), .int .i64 0]) ∧ Below w.heap.size w w' := by
  have H := Lib.hid h
  have hd := (date_any y m d w)
  rw [h] at hd
  clear h
  go_enter Tryz.func86, Tryz.ntmps86
  go_wp2_with (first | (go_at_call 101; refine hd.mono ?_; rintro e w' ⟨rfl, hb⟩; clear hd) | (go_at_call 65; refine (count_any _ _ _ _ H.out).mono ?_; rintro e w' ⟨rfl, rfl⟩))
  go_ret2
  exact ⟨rfl, hb⟩
set_option maxHeartbeats 400000 in
theorem days_no (y m d : Int) (w : World) (h : Cv.vldB y m d = false) :
    Calls Tryz.prog 86 #[.int .i64 y, .int .i64 m, .int .i64 d] w fun e w' => e = .returned (.tuple #[.int .i64 0, .int .i64 2]) ∧ Below w.heap.size w w' := by
  have hd := (date_any y m d w)
  rw [h] at hd
  clear h
  go_enter Tryz.func86, Tryz.ntmps86
  go_wp2_with (go_at_call 101; refine hd.mono ?_; rintro e w' ⟨rfl, hb⟩; clear hd)
  go_ret2
  exact ⟨rfl, hb⟩
set_option maxHeartbeats 400000 in
theorem rdays_no (y m d : Int) (w : World) (h : Cv.vldB y m d = false) :
    Calls Tryz.prog 51 #[.int .i64 y, .int .i64 m, .int .i64 d] w fun e w' => e = .returned (.tuple #[.int .i64 0, .int .i64 2]) ∧ w = w' := by
  have hd := (rdate_any y m d w)
  rw [h] at hd
  clear h
  go_enter Tryz.func51, Tryz.ntmps51
  go_wp2_with (go_at_call 97; refine hd.mono ?_; rintro e w' ⟨rfl, rfl⟩; clear hd)
  go_ret2
  exact ⟨rfl, rfl⟩
set_option maxHeartbeats 400000 in
theorem rdays_yes (y m d : Int) (w : World) (h : Cv.vldB y m d = true) :
    Calls Tryz.prog 51 #[.int .i64 y, .int .i64 m, .int .i64 d] w fun e w' => e = .returned (.tuple #[.int .i64 (Cv.num y m d), .int .i64 0]) ∧ w = w' := by
  have hv := Cv.vld_bd h
  have hd := (rdate_any y m d w)
  rw [h] at hd
  clear h
  have ha := Cv.ahead_bd y (by omega) (by omega)
  go_enter Tryz.func51, Tryz.ntmps51
  go_wp2_with (first | (go_at_call 97; refine hd.mono ?_; rintro e w' ⟨rfl, rfl⟩; clear hd) | (go_at_call 98; refine (ahead_any _ _ (by omega) (by omega)).mono ?_; rintro e w' ⟨rfl, rfl⟩))
  go_loop [8, 9] (fun n k => ∃ j : Int, 1 ≤ j ∧ j ≤ m ∧ k = .int .i64 j ∧ n = .int .i64 (-719162 + Cv.ahead y + Cv.cum y j)) (fun _ k => (m - intOf k).toNat)
  case atStart => exact ⟨1, by omega, by omega, rfl, by rw [Cv.cum_1]; go_num⟩
  case round =>
    obtain ⟨j, hj1, hj2, rfl, rfl⟩ := hrel
    have cb := Cv.cum_bd y j
    have lb := Cv.lastI_bd y j
    by_cases hlt : j < m
    · have cs := Lib.hid (Cv.cum_succ y j (by omega) (by omega) (by omega) (by omega))
      go_wp2_with (go_at_call 99; refine (rlast_any _ _ _).mono ?_; rintro e w' ⟨rfl, rfl⟩)
      go_round
      case rel => exact ⟨j + 1, by omega, by omega, rfl, by rw [cs.out]; go_num⟩
      case measure => simp [intOf]; omega
    · have e : j = m := by omega
      subst e
      go_wp2
      go_ret2
      exact ⟨rfl, rfl⟩
end Go.Proofs.YtbhafhbaldddiaaGreatDoor
namespace Go.Proofs.YtbhafhbaldddiaaGreatDoor
open Go.RowKit
open Go
theorem first_of (y : Int) : Cv.num y 1 1 = Cv.ahead y - 719162 := by unfold Cv.num; rw [Cv.cum_1]; omega
theorem count_first (y : Int) (w : World) (h1 : 1 ≤ y) (h2 : y ≤ 10000) :
    Calls Tryz.prog 65 #[.int .i64 y, .int .i64 1, .int .i64 1] w fun e w' => e = .returned (.int .i64 (Cv.ahead y - 719162)) ∧ w = w' := by
  rw [← first_of]
  exact count_lo y 1 1 w h1 h2 (by omega) (by omega) (by omega) (by omega)
def DateAt (n : Int) (w : World) (e : Ending) (w' : World) : Prop :=
  ∃ y m d : Int, e = .returned (.tuple #[.int .i64 y, .int .i64 m, .int .i64 d, .int .i64 0]) ∧ Cv.vldB y m d = true ∧ Cv.num y m d = n ∧ Below w.heap.size w w'
set_option maxHeartbeats 400000 in
theorem rdate_no (n : Int) (w : World) (h : n < -719162 ∨ 2932896 < n) :
    Calls Tryz.prog 100 #[.int .i64 n] w fun e w' => e = .returned (.tuple #[.int .i64 0, .int .i64 0, .int .i64 0, .int .i64 2]) ∧ w = w' := by
  have c2 := fun w => ahead_any 10000 w (by decide) (by decide)
  have n2 : Cv.ahead 10000 = 3652059 := by decide
  rw [n2] at c2
  clear n2
  rcases h with h | h
  · go_enter Tryz.func100, Tryz.ntmps100
    go_wp2
    exact bodyPost_ret (v := .tuple #[.int .i64 0, .int .i64 0, .int .i64 0, .int .i64 2]) (by simp [results, Tryz.results100, go_sem]) rfl ⟨rfl, rfl⟩
  · have h' : ¬ n < -719162 := by omega
    go_enter Tryz.func100, Tryz.ntmps100
    go_wp2_with (go_at_call 98; refine (c2 _).mono ?_; rintro e w' ⟨rfl, rfl⟩)
    exact bodyPost_ret (v := .tuple #[.int .i64 0, .int .i64 0, .int .i64 0, .int .i64 2]) (by simp [results, Tryz.results100, go_sem]) rfl ⟨rfl, rfl⟩
def RDateAt (n : Int) (w : World) (e : Ending) (w' : World) : Prop :=
  ∃ y m d : Int, e = .returned (.tuple #[.int .i64 y, .int .i64 m, .int .i64 d, .int .i64 0]) ∧ Cv.vldB y m d = true ∧ Cv.num y m d = n ∧ w = w'
set_option maxHeartbeats 1000000 in
theorem rdate_some (n : Int) (w : World) (h1 : -719162 ≤ n) (h2 : n ≤ 2932896) :
    Calls Tryz.prog 100 #[.int .i64 n] w (RDateAt n w) := by
  have c2 := fun w => ahead_any 10000 w (by decide) (by decide)
  have n2 : Cv.ahead 10000 = 3652059 := by decide
  rw [n2] at c2
  clear n2
  obtain ⟨g1, g2, g3⟩ := Cv.ahead_guess (n + 719162) (by omega) (by omega)
  go_enter Tryz.func100, Tryz.ntmps100
  go_wp2_with (go_at_call 98; refine (c2 _).mono ?_; rintro e w' ⟨rfl, rfl⟩)
  clear c2
  go_loop [7] (fun t => ∃ y : Int, 1 ≤ y ∧ y ≤ 9999 ∧ Cv.ahead y ≤ n + 719162 ∧ t = .int .i64 y) (fun t => (9999 - intOf t).toNat)
  case atStart => exact ⟨_, by omega, by omega, g3, by go_num⟩
  case round =>
    obtain ⟨y, hy1, hy2, hy3, rfl⟩ := hrel
    by_cases hc : y < 9999 ∧ Cv.ahead (y + 1) ≤ n + 719162
    · obtain ⟨hlt, hd⟩ := hc
      have hbd := Cv.ahead_bd (y + 1) (by omega) (by omega)
      go_wp2_with (go_at_call 98; refine (ahead_any _ _ (by omega) (by omega)).mono ?_; rintro e w' ⟨rfl, rfl⟩)
      go_round
      case rel => exact ⟨y + 1, by omega, by omega, hd, rfl⟩
      case measure => simp [intOf]; omega
    · have hz : n + 719162 < Cv.ahead (y + 1) := by
        by_cases e : y = 9999
        · have := Cv.ahead_max; rw [e]; show _ < Cv.ahead 10000; omega
        · omega
      have hb := Cv.ahead_bd y hy1 (by omega)
      have hb' := Cv.ahead_bd (y + 1) (by omega) (by omega)
      have hs := Cv.ahead_succ y hy1 hy2
      have hl := Cv.lp_01 y
      have hin : n + 719162 - Cv.ahead y < 365 + Cv.lp y := by omega
      clear hc g3 hs
      by_cases hlt : y < 9999
      all_goals
        go_wp2_with (go_at_call 98; refine (ahead_any _ _ (by omega) (by omega)).mono ?_; rintro e w' ⟨rfl, rfl⟩)
        go_loop [6, 8] (fun r k => ∃ m : Int, 1 ≤ m ∧ m ≤ 12 ∧ k = .int .i64 m ∧ 0 ≤ n + 719162 - Cv.ahead y - Cv.cum y m ∧ r = .int .i64 (n + 719162 - Cv.ahead y - Cv.cum y m)) (fun _ k => (12 - intOf k).toNat)
        case atStart => exact ⟨1, by omega, by omega, rfl, by rw [Cv.cum_1]; omega, by rw [Cv.cum_1]; go_num⟩
        case round =>
          obtain ⟨m, hm1, hm2, rfl, hr, rfl⟩ := hrel
          have cb := Cv.cum_bd y m
          have lb := Cv.lastI_bd y m
          have cs := Cv.cum_succ y m hy1 hy2 (by omega) (by omega)
          have hlast : ¬ n + 719162 - Cv.ahead y - Cv.cum y m < Cv.lastI y m → m < 12 := by
            intro h
            by_cases e : m = 12
            · subst e; rw [show (12 : Int) + 1 = 13 from rfl, Cv.cum_13] at cs; omega
            · omega
          have CS := Lib.hid cs
          clear cs
          by_cases hc : n + 719162 - Cv.ahead y - Cv.cum y m < Cv.lastI y m
          · clear hlast
            go_wp2_with (go_at_call 99; refine (rlast_any _ _ _).mono ?_; rintro e w' ⟨rfl, rfl⟩)
            refine bodyPost_ret (v := .tuple #[.int .i64 y, .int .i64 m, .int .i64 (n + 719162 - Cv.ahead y - Cv.cum y m + 1), .int .i64 0]) (by simp [results, Tryz.results100, go_sem]) rfl ⟨y, m, _, rfl, Cv.vld_mk (by omega), ?_, rfl⟩
            unfold Cv.num; omega
          · have hlt2 := hlast hc
            clear hlast
            go_wp2_with (go_at_call 99; refine (rlast_any _ _ _).mono ?_; rintro e w' ⟨rfl, rfl⟩)
            go_round
            case rel => exact ⟨m + 1, by omega, by omega, rfl, by rw [CS.out]; omega, by rw [CS.out]; go_num⟩
            case measure => simp [intOf]; omega
theorem rdate_yes (y m d : Int) (w : World) (h : Cv.vldB y m d = true) :
    Calls Tryz.prog 100 #[.int .i64 (Cv.num y m d)] w fun e w' => e = .returned (.tuple #[.int .i64 y, .int .i64 m, .int .i64 d, .int .i64 0]) ∧ w = w' := by
  have hb := Cv.num_bd h
  refine (rdate_some _ w hb.1 hb.2).mono ?_
  rintro e w' ⟨y', m', d', rfl, hv, hn, hbw⟩
  obtain ⟨rfl, rfl, rfl⟩ := Cv.num_inj hv h hn
  exact ⟨rfl, hbw⟩
end Go.Proofs.YtbhafhbaldddiaaGreatDoor
