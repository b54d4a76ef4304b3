/- The walks of civil: leap years, last days, weekdays, counts. -/
import Derived.Test.YtbhafhbaldddiaaBase
import Derived.Test.YtbhafhbaldddiaaCal
namespace Go.Proofs.Ytbhafhbaldddiaa
open Go.RowKit
open Go
theorem i64_and3 (n : Int) : bits .and .i64 n 3 = n % 4 := by
  have h3 : (BitVec.ofInt 64 3).toNat = 2 ^ 2 - 1 := by decide
  have key : (BitVec.ofInt 64 n &&& BitVec.ofInt 64 3).toNat = (n % ((2 ^ 64 : Nat) : Int)).toNat % 2 ^ 2 := by
    rw [BitVec.toNat_and, BitVec.toNat_ofInt, h3, Nat.and_two_pow_sub_one_eq_mod]
  show IntKind.i64.wrap ((BitVec.ofInt 64 n &&& BitVec.ofInt 64 3).toNat : Nat) = n % 4
  rw [key, IntKind.wrap_i64]
  omega
theorem leapB_eq {y : Int} {b : Bool} (h : b = true ↔ (1 ≤ y ∧ y ≤ 9999 ∧ y % 4 = 0 ∧ (y % 100 ≠ 0 ∨ y % 400 = 0))) : b = Cv.leapB y := by
  rw [Bool.eq_iff_iff, Cv.leapB_iff]; exact h
set_option maxHeartbeats 400000 in
theorem leap_any (y : Int) (w : World) :
    Calls Try.prog 52 #[.int .i64 y] w fun e w' => e = .returned (.bool (Cv.leapB y)) ∧ w = w' := by
  have h4 := i64_and3 y
  go_enter Try.func52, Try.ntmps52
  go_wp2
  all_goals go_ret
  all_goals (refine ⟨ret_bool (leapB_eq ?_), rfl⟩; simp; omega)
set_option maxHeartbeats 400000 in
theorem rleap_any (y : Int) (w : World) :
    Calls Try.prog 49 #[.int .i64 y] w fun e w' => e = .returned (.bool (Cv.leapB y)) ∧ w = w' := by
  go_enter Try.func49, Try.ntmps49
  go_wp2
  all_goals go_ret
  all_goals (refine ⟨ret_bool (leapB_eq ?_), rfl⟩; simp; omega)
theorem tmod7 (n : Int) : -6 ≤ n.tmod 7 ∧ n.tmod 7 ≤ 6 ∧ (n.tmod 7 + 10) % 7 = (n + 3) % 7 := by
  have h1 := Int.tmod_add_mul_tdiv n 7
  have h2 := Int.tmod_lt_of_pos n (show (0 : Int) < 7 by omega)
  have h3 := Int.lt_tmod_of_pos n (show (0 : Int) < 7 by omega)
  generalize n.tmod 7 = r at *
  generalize n.tdiv 7 = q at *
  omega
set_option maxHeartbeats 400000 in
theorem rwday_any (n : Int) (w : World) :
    Calls Try.prog 27 #[.int .i64 n] w fun e w' => e = .returned (.int .i64 (Cv.wday n)) ∧ w = w' := by
  obtain ⟨h1, h2, h3⟩ := tmod7 n
  have H3 := Lib.hid h3; clear h3
  go_enter Try.func27, Try.ntmps27
  go_wp2
  go_ret
  exact ⟨ret_int (by rw [Cv.wday, ← H3.out]; omega), rfl⟩
set_option maxHeartbeats 400000 in
theorem count_lo (y m d : Int) (w : World) (h1 : 1 ≤ y) (h2 : y ≤ 10000) (h3 : 1 ≤ m) (h4 : m ≤ 2) (h5 : 1 ≤ d) (h6 : d ≤ 31) :
    Calls Try.prog 39 #[.int .i64 y, .int .i64 m, .int .i64 d] w fun e w' => e = .returned (.int .i64 (Cv.num y m d)) ∧ w = w' := by
  go_enter Try.func39, Try.ntmps39
  go_wp2
  go_ret
  refine ⟨ret_int ?_, rfl⟩
  rw [← Cv.march_lo y m d h1 h3 h4]
set_option maxHeartbeats 400000 in
theorem count_hi (y m d : Int) (w : World) (h1 : 1 ≤ y) (h2 : y ≤ 9999) (h3 : 2 < m) (h4 : m ≤ 12) (h5 : 1 ≤ d) (h6 : d ≤ 31) :
    Calls Try.prog 39 #[.int .i64 y, .int .i64 m, .int .i64 d] w fun e w' => e = .returned (.int .i64 (Cv.num y m d)) ∧ w = w' := by
  go_enter Try.func39, Try.ntmps39
  go_wp2
  go_ret
  refine ⟨ret_int ?_, rfl⟩
  rw [← Cv.march_hi y m d h1 h2 h3 h4]
theorem count_any (y m d : Int) (w : World) (h : Cv.vldB y m d = true) :
    Calls Try.prog 39 #[.int .i64 y, .int .i64 m, .int .i64 d] w fun e w' => e = .returned (.int .i64 (Cv.num y m d)) ∧ w = w' := by
  have hb := Cv.vld_bd h
  by_cases c : m ≤ 2
  · exact count_lo y m d w (by omega) (by omega) (by omega) c (by omega) (by omega)
  · exact count_hi y m d w (by omega) (by omega) (by omega) (by omega) (by omega) (by omega)
set_option maxHeartbeats 400000 in
theorem ahead_any (y : Int) (w : World) (h1 : 1 ≤ y) (h2 : y ≤ 10000) :
    Calls Try.prog 44 #[.int .i64 y] w fun e w' => e = .returned (.int .i64 (Cv.ahead y)) ∧ w = w' := by
  go_enter Try.func44, Try.ntmps44
  go_wp2
  go_ret
  refine ⟨ret_int ?_, rfl⟩
  unfold Cv.ahead
  omega
set_option maxHeartbeats 400000 in
theorem rlast_any (y m : Int) (w : World) :
    Calls Try.prog 45 #[.int .i64 y, .int .i64 m] w fun e w' => e = .returned (.int .i64 (Cv.lastI y m)) ∧ w = w' := by
  go_enter Try.func45, Try.ntmps45
  go_wp2_with (go_at_call 49; refine (rleap_any _ _).mono ?_; rintro e w' ⟨rfl, rfl⟩)
  all_goals go_ret
  all_goals (refine ⟨ret_int ?_, rfl⟩; (try simp only [beq_iff_eq, beq_eq_false_iff_ne] at *); rcases Cv.lastI_or y m with h | ⟨_, _, ⟨_, h, _⟩ | ⟨_, h, _⟩ | h | h⟩ <;> first | omega | simp_all)
theorem tab_eq (y m : Int) (a : 1 ≤ y) (b : y ≤ 9999) (c : 1 ≤ m) (d : m < 13) (e : ¬ m = 2) : ∀ h : m.toNat < 13,
    ([Value.int .i64 0, .int .i64 31, .int .i64 28, .int .i64 31, .int .i64 30, .int .i64 31, .int .i64 30, .int .i64 31, .int .i64 31, .int .i64 30, .int .i64 31, .int .i64 30, .int .i64 31])[m.toNat]'h = .int .i64 (Cv.lastI y m) := by
  have h : m = 1 ∨ m = 3 ∨ m = 4 ∨ m = 5 ∨ m = 6 ∨ m = 7 ∨ m = 8 ∨ m = 9 ∨ m = 10 ∨ m = 11 ∨ m = 12 := by omega
  unfold Cv.lastI
  rw [if_neg (by omega), if_neg e]
  rcases h with rfl | rfl | rfl | rfl | rfl | rfl | rfl | rfl | rfl | rfl | rfl <;> intro h <;> rfl
set_option maxHeartbeats 400000 in
theorem last_any (y m : Int) (w : World) :
    Calls Try.prog 51 #[.int .i64 y, .int .i64 m] w fun e w' => e = .returned (.int .i64 (Cv.lastI y m)) ∧ Below w.heap.size w w' := by
  go_enter Try.func51, Try.ntmps51
  go_wp2_with (go_at_call 52; refine (leap_any _ _).mono ?_; rintro e w' ⟨rfl, rfl⟩)
  all_goals go_ret
  all_goals first
    | exact ⟨congrArg Ending.returned (tab_eq y m (by omega) (by omega) (by omega) (by omega) (by omega) _), (Below.refl _ _).alloc (Nat.le_refl _) _⟩
    | (refine ⟨ret_int ?_, (Below.refl _ _).alloc (Nat.le_refl _) _⟩; rcases Cv.lastI_or y m with h | ⟨_, _, ⟨_, h, _⟩ | ⟨_, h, _⟩ | h | h⟩ <;> first | omega | simp_all)
set_option maxHeartbeats 400000 in
theorem rdate_any (y m d : Int) (w : World) :
    Calls Try.prog 43 #[.int .i64 y, .int .i64 m, .int .i64 d] w fun e w' => e = .returned (.bool (Cv.vldB y m d)) ∧ w = w' := by
  go_enter Try.func43, Try.ntmps43
  go_wp2_with (go_at_call 45; refine (rlast_any _ _ _).mono ?_; rintro e w' ⟨rfl, rfl⟩)
  all_goals go_ret
  all_goals (refine ⟨ret_bool ?_, rfl⟩; rw [Bool.eq_iff_iff, Cv.vld_iff]; simp; omega)
set_option maxHeartbeats 400000 in
theorem date_any (y m d : Int) (w : World) :
    Calls Try.prog 47 #[.int .i64 y, .int .i64 m, .int .i64 d] w fun e w' => e = .returned (.bool (Cv.vldB y m d)) ∧ Below w.heap.size w w' := by
  go_enter Try.func47, Try.ntmps47
  go_wp2_with (go_at_call 51; refine (last_any _ _ _).mono ?_; rintro e w' ⟨rfl, hb⟩)
  all_goals go_ret
  all_goals (refine ⟨ret_bool ?_, ?_⟩ <;> first | (rw [Bool.eq_iff_iff, Cv.vld_iff]; simp; omega) | exact hb | exact Below.refl _ _)
set_option maxHeartbeats 400000 in
theorem rdays_no (y m d : Int) (w : World) (h : Cv.vldB y m d = false) :
    Calls Try.prog 26 #[.int .i64 y, .int .i64 m, .int .i64 d] w fun e w' => e = .returned (.tuple #[.int .i64 0, .int .i64 2]) ∧ w = w' := by
  have hd := (rdate_any y m d w)
  rw [h] at hd
  clear h
  go_enter Try.func26, Try.ntmps26
  go_wp2_with (go_at_call 43; refine hd.mono ?_; rintro e w' ⟨rfl, rfl⟩; clear hd)
  go_ret2
  exact ⟨rfl, rfl⟩
set_option maxHeartbeats 400000 in
theorem rdays_yes (y m d : Int) (w : World) (h : Cv.vldB y m d = true) :
    Calls Try.prog 26 #[.int .i64 y, .int .i64 m, .int .i64 d] w fun e w' => e = .returned (.tuple #[.int .i64 (Cv.num y m d), .int .i64 0]) ∧ w = w' := by
  have hv := Cv.vld_bd h
  have hd := (rdate_any y m d w)
  rw [h] at hd
  clear h
  have ha := Cv.ahead_bd y (by omega) (by omega)
  go_enter Try.func26, Try.ntmps26
  go_wp2_with (first | (go_at_call 43; refine hd.mono ?_; rintro e w' ⟨rfl, rfl⟩; clear hd) | (go_at_call 44; refine (ahead_any _ _ (by omega) (by omega)).mono ?_; rintro e w' ⟨rfl, rfl⟩))
  go_loop [8, 9] (fun n k => ∃ j : Int, 1 ≤ j ∧ j ≤ m ∧ k = .int .i64 j ∧ n = .int .i64 (-719162 + Cv.ahead y + Cv.cum y j)) (fun _ k => (m - intOf k).toNat)
  case atStart => exact ⟨1, by omega, by omega, rfl, by rw [Cv.cum_1]; go_num⟩
  case round =>
    obtain ⟨j, hj1, hj2, rfl, rfl⟩ := hrel
    have cb := Cv.cum_bd y j
    have lb := Cv.lastI_bd y j
    by_cases hlt : j < m
    · have cs := Lib.hid (Cv.cum_succ y j (by omega) (by omega) (by omega) (by omega))
      go_wp2_with (go_at_call 45; refine (rlast_any _ _ _).mono ?_; rintro e w' ⟨rfl, rfl⟩)
      go_round
      case rel => exact ⟨j + 1, by omega, by omega, rfl, by rw [cs.out]; go_num⟩
      case measure => simp [intOf]; omega
    · have e : j = m := by omega
      subst e
      go_wp2
      go_ret2
      exact ⟨rfl, rfl⟩
end Go.Proofs.Ytbhafhbaldddiaa
