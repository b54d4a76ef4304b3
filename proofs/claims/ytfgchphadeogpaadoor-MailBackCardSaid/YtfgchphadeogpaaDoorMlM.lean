/- The walk of MailBack. -/
import Derived.Test.YtfgchphadeogpaaDoorMlL
import Derived.Test.YtfgchphadeogpaaDoorMlPf
import Derived.Deep.RegionHeld3
namespace Go.Proofs.YtfgchphadeogpaaDoor
open Go.RowKit
open Go
set_option linter.unusedVariables false
set_option maxRecDepth 100000 in
set_option maxHeartbeats 4000000 in
theorem back_core (S : ByteArray) (sec s v0 : Int) (hs : 0 ≤ s ∧ s ≤ 59) (hsec : sec % 60 = s) (hr : -62135596800 ≤ sec ∧ sec ≤ 253402300799) (hv : v0 = sec - s) (hb : Ml.Back S sec v0) (w : World) (T : ∀ w, Calls Tryd.prog 17 #[.int .i64 sec] w (TxtPost S 0 w)) :
    Calls Tryd.prog 5 #[.int .i64 sec] w (LawTrue w) := by
  have hsz := hb.size
  have W := wakes_any
  have P1 := parse_some (by omega) hb.all
  have P2 := parse_some (by rw [Sm.size_extract]; omega) hb.five
  have P4 := parse_some (by rw [size_add, Sm.size_extract, Sm.size_extract]; omega) hb.less
  have hsix := fun h => parse_some (by rw [Sm.size_extract]; omega) (hb.six h)
  have P2' : ∀ w, Calls Tryd.prog 9 #[.string (S.extract 5 S.size)] w (TwoPost sec 0 w) := by rw [hsz]; exact P2
  have P4' : ∀ w, Calls Tryd.prog 9 #[.string (S.extract 0 22 ++ S.extract 25 S.size)] w (TwoPost v0 0 w) := by rw [hsz]; exact P4
  have hb5 := byte_at S 5 (by omega)
  have t1 : ((sec.tmod 60 + 60).tmod 60 : Int) = s := by
    have h60 : (sec.tmod 60) = sec - 60 * sec.tdiv 60 := by have := Int.mul_tdiv_add_tmod sec 60; omega
    have hlt : -60 < sec.tmod 60 := by have := Int.tmod_lt_of_pos (-sec) (show (0 : Int) < 60 by omega); have := Int.neg_tmod sec 60; omega
    have hlt2 : sec.tmod 60 < 60 := Int.tmod_lt_of_pos sec (by omega)
    rw [Int.tmod_eq_emod_of_nonneg (by omega)]
    omega
  have t0 : -60 < sec.tmod 60 ∧ sec.tmod 60 < 60 := by
    have := Int.tmod_lt_of_pos (-sec) (show (0 : Int) < 60 by omega)
    have := Int.neg_tmod sec 60
    have := Int.tmod_lt_of_pos sec (show (0 : Int) < 60 by omega)
    omega
  have w1 : IntKind.i64.wrap (sec.tmod 60 + 60) = sec.tmod 60 + 60 := by simp [IntKind.wrap, IntKind.bits, IntKind.signed]; omega
  have w2 : IntKind.i64.wrap (sec - s) = sec - s := by simp [IntKind.wrap, IntKind.bits, IntKind.signed]; omega
  subst hv
  have z1 : (S.extract 0 22).size = 22 := by rw [Sm.size_extract]; omega
  have z2 : (S.extract 25 29).size = 4 := by rw [Sm.size_extract]; omega
  have z3 : (S.extract 25 S.size).size = 4 := by rw [hsz]; exact z2
  have hz : w.heap.size ≤ w.heap.size := Nat.le_refl _
  have hB : Below w.heap.size w w := Below.refl _ _
  clear hb hsec
  by_cases h48 : Sm.B S 5 = 48
  · have P3 := hsix h48
    have P3' : ∀ w, Calls Tryd.prog 9 #[.string (S.extract 6 S.size)] w (TwoPost sec 0 w) := by rw [hsz]; exact P3
    rw [h48] at hb5
    clear hsix h48
    go_enter Tryd.func5, Tryd.ntmps5
    go_wp2_with (first | (go_at_call 9; (first | (with_reducible refine (P1 _).mono ?_) | (with_reducible refine (P2 _).mono ?_) | (with_reducible refine (P2' _).mono ?_) | (with_reducible refine (P3 _).mono ?_) | (with_reducible refine (P3' _).mono ?_) | (with_reducible refine (P4 _).mono ?_) | (with_reducible refine (P4' _).mono ?_)); rintro e w9 ⟨rfl, hb9⟩; replace hB := hB.trans (hb9.mono hz); replace hz := Nat.le_trans hz hb9.size; clear hb9) | (go_at_call 17; (first | (with_reducible refine (T _).mono ?_)); rintro e w9 ⟨rfl, hb9⟩; replace hB := hB.trans (hb9.mono hz); replace hz := Nat.le_trans hz hb9.size; clear hb9) | (go_at_call 8; (first | (with_reducible refine (W _).mono ?_)); rintro e w9 ⟨rfl, hb9⟩; replace hB := hB.trans (hb9.mono hz); replace hz := Nat.le_trans hz hb9.size; clear hb9))
    go_region_held3 (fun _ => True) (exact True.intro) (first | (go_at_call 9; (first | (with_reducible refine (P4 _).mono ?_) | (with_reducible refine (P4' _).mono ?_)); rintro e w8 ⟨rfl, hbd⟩; have hb8 := below_undrew hbd; clear hbd; replace hB := hB.trans (hb8.mono hz); replace hz := Nat.le_trans hz hb8.size; clear hb8))
    go_wp2_with (first | (go_at_call 8; (with_reducible refine (W _).mono ?_); rintro e w9 ⟨rfl, hb9⟩; replace hB := hB.trans (hb9.mono hz); replace hz := Nat.le_trans hz hb9.size; clear hb9))
    go_ret
    exact ⟨rfl, hB⟩
  · have e48 : ((Sm.B S 5 : Int) == 48) = false := by simp; omega
    have H48 := Lib.hid h48
    clear hsix h48
    go_enter Tryd.func5, Tryd.ntmps5
    go_wp2_with (first | (go_at_call 9; (first | (with_reducible refine (P1 _).mono ?_) | (with_reducible refine (P2 _).mono ?_) | (with_reducible refine (P2' _).mono ?_) | (with_reducible refine (P4 _).mono ?_) | (with_reducible refine (P4' _).mono ?_)); rintro e w9 ⟨rfl, hb9⟩; replace hB := hB.trans (hb9.mono hz); replace hz := Nat.le_trans hz hb9.size; clear hb9) | (go_at_call 17; (first | (with_reducible refine (T _).mono ?_)); rintro e w9 ⟨rfl, hb9⟩; replace hB := hB.trans (hb9.mono hz); replace hz := Nat.le_trans hz hb9.size; clear hb9) | (go_at_call 8; (first | (with_reducible refine (W _).mono ?_)); rintro e w9 ⟨rfl, hb9⟩; replace hB := hB.trans (hb9.mono hz); replace hz := Nat.le_trans hz hb9.size; clear hb9))
    go_region_held3 (fun _ => True) (exact True.intro) (first | (go_at_call 9; (first | (with_reducible refine (P4 _).mono ?_) | (with_reducible refine (P4' _).mono ?_)); rintro e w8 ⟨rfl, hbd⟩; have hb8 := below_undrew hbd; clear hbd; replace hB := hB.trans (hb8.mono hz); replace hz := Nat.le_trans hz hb8.size; clear hb8))
    go_wp2_with (first | (go_at_call 8; (with_reducible refine (W _).mono ?_); rintro e w9 ⟨rfl, hb9⟩; replace hB := hB.trans (hb9.mono hz); replace hz := Nat.le_trans hz hb9.size; clear hb9))
    go_ret
    exact ⟨rfl, hB⟩
set_option maxHeartbeats 1000000 in
theorem mailBack_walk {w : World} (sec : Int) (_ : Is64 sec) : Calls Tryd.prog 5 #[.int .i64 sec] w (LawTrue w) := by
  by_cases h : sec < -62135596800 ∨ 253402300799 < sec
  · have T := text_no sec h
    have W := wakes_any
    rcases h with h | h
    · go_enter Tryd.func5, Tryd.ntmps5
      go_wp2_with fail
      refine (T _).mono ?_
      rintro e w1 ⟨rfl, b1⟩
      go_wp2_with fail
      refine (W _).mono ?_
      rintro e w2 ⟨rfl, b2⟩
      go_wp2_with fail
      go_ret
      exact ⟨rfl, b1.trans (b2.mono b1.size)⟩
    · go_enter Tryd.func5, Tryd.ntmps5
      go_wp2_with fail
      refine (T _).mono ?_
      rintro e w1 ⟨rfl, b1⟩
      go_wp2_with fail
      refine (W _).mono ?_
      rintro e w2 ⟨rfl, b2⟩
      go_wp2_with fail
      go_ret
      exact ⟨rfl, b1.trans (b2.mono b1.size)⟩
  · obtain ⟨y, m, d, hv, hn, hm, he⟩ := Cv.sec_split sec (by omega) (by omega)
    have hb := Ml.back_all hm
    have T := text_yes y m d _ _ _ hm
    rw [he] at hb T
    refine back_core _ sec ((sec + 62135596800) % 60) _ (by omega) (by omega) (by omega) ?_ hb w T
    rw [← he]
    unfold Cv.secV
    rw [show Cv.num y m d * 86400 + (sec + 62135596800) / 3600 % 24 * 3600 + (sec + 62135596800) / 60 % 60 * 60 + (sec + 62135596800) % 60 - 0 * 60 = sec from by have := he; unfold Cv.secV at this; exact this]
    have := he
    unfold Cv.secV at this
    omega
end Go.Proofs.YtfgchphadeogpaaDoor
