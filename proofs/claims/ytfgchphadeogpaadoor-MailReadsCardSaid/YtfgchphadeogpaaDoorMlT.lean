/- The walk of the document's clock. -/
import Derived.Test.YtfgchphadeogpaaDoorMlS
namespace Go.Proofs.YtfgchphadeogpaaDoor
open Go.RowKit
open Go
set_option linter.unusedVariables false
def CkP (s : ByteArray) (w : World) (e : Ending) (w' : World) : Prop := ∃ a b c, e = .returned (.tuple #[.int .i64 a, .int .i64 b, .int .i64 c, .bool (Ml.hmsB s)]) ∧ (Ml.hmsB s = true → a = Sm.n2 s 0 ∧ b = Sm.n2 s 3 ∧ c = Ml.secOf s) ∧ Below w.heap.size w w'
theorem hms_false {s : ByteArray} (h : ¬ (Sm.d2 s 0 = true ∧ Sm.B s 2 = 58 ∧ Sm.d2 s 3 = true ∧ (s.size = 5 ∨ s.size = 8 ∧ Sm.B s 5 = 58 ∧ Sm.d2 s 6 = true))) : Ml.hmsB s = false := by
  cases hh : Ml.hmsB s with
  | false => rfl
  | true => exact absurd ((Ml.hms_iff s).1 hh) h
set_option maxRecDepth 100000 in
set_option maxHeartbeats 2000000 in
theorem rclock_any (s : ByteArray) (hs : s.size ≤ 100000) (w : World) : Calls Tryd.prog 31 #[.string s] w (CkP s w) := by
  by_cases h5 : s.size = 5
  · have n5 : ((s.size : Int) == 5) = true := by simp [h5]
    have n5' : ((s.size : Int) != 5) = false := by simp [h5]
    have c1 := fun w => num2_any s 0 2 rfl (by omega) hs w
    have c2 := fun w => num2_any s 3 5 rfl (by omega) hs w
    have v1 : Sm.d2 s 0 = true → numV (s.extract 0 2) = Sm.n2 s 0 := fun h => num2_val rfl (by omega) h
    have v2 : Sm.d2 s 3 = true → numV (s.extract 3 5) = Sm.n2 s 3 := fun h => num2_val rfl (by omega) h
    have g2 : 2 < s.size := by omega
    have hb2 := byte_at s 2 g2
    have i1 : (2 : Int) ≤ (s.size : Int) := by omega
    have i2 : (5 : Int) ≤ (s.size : Int) := by omega
    have i3 : (2 : Int) < (s.size : Int) := by omega
    by_cases hq : Sm.B s 2 = 58
    · have hh : Ml.hmsB s = (Sm.d2 s 0 && Sm.d2 s 3) := by
        rw [Bool.eq_iff_iff, Ml.hms_iff, Bool.and_eq_true]
        exact ⟨fun h => ⟨h.1, h.2.2.1⟩, fun h => ⟨h.1, hq, h.2, Or.inl h5⟩⟩
      rw [hq] at hb2
      have hsec : Ml.secOf s = 0 := by unfold Ml.secOf; rw [if_neg (by omega)]
      have HH := Lib.hid hh
      have H5 := Lib.hid h5
      clear hq hh h5
      cases hp1 : Sm.d2 s 0 <;> cases hp2 : Sm.d2 s 3 <;> rw [hp1] at c1 <;> rw [hp2] at c2
      all_goals
        have HP1 := Lib.hid hp1
        have HP2 := Lib.hid hp2
        clear hp1 hp2
        go_enter Tryd.func31, Tryd.ntmps31
        go_wp2_with (go_at_call 30; (first | (with_reducible refine (c1 _).mono ?_) | (with_reducible refine (c2 _).mono ?_)); rintro e w3 ⟨rfl, rfl⟩)
        have hf := HH.out
        rw [HP1.out, HP2.out] at hf
        refine bodyPost_ret (v := .tuple #[.int .i64 (numV (s.extract 0 2)), .int .i64 (numV (s.extract 3 5)), .int .i64 0, .bool (Ml.hmsB s)]) (by simp [results, Tryd.results31, go_sem, hf]) rfl ⟨_, _, _, rfl, fun h => ?_, by first | exact Below.refl _ _ | exact below_drewN (Below.refl _ _) _⟩
        first | (rw [hf] at h; cases h; done) | exact ⟨v1 HP1.out, v2 HP2.out, hsec.symm⟩
    · have hh : Ml.hmsB s = false := hms_false (fun h => hq h.2.1)
      have e1 : ((Sm.B s 2 : Int) == 58) = false := by simp; omega
      have e2 : ((Sm.B s 2 : Int) != 58) = true := by simp; omega
      have HH := Lib.hid hh
      clear hq hh v1 v2 h5
      go_enter Tryd.func31, Tryd.ntmps31
      go_wp2_with fail
      refine bodyPost_ret (v := .tuple #[.int .i64 0, .int .i64 0, .int .i64 0, .bool (Ml.hmsB s)]) (by simp [results, Tryd.results31, go_sem, HH.out]) rfl ⟨_, _, _, rfl, fun h => ?_, by first | exact Below.refl _ _ | exact below_drewN (Below.refl _ _) _⟩
      rw [HH.out] at h
      cases h
  · by_cases h8 : s.size = 8
    · have n5 : ((s.size : Int) == 5) = false := by simp [h8]
      have n5' : ((s.size : Int) != 5) = true := by simp [h8]
      have n8 : ((s.size : Int) == 8) = true := by simp [h8]
      have n8' : ((s.size : Int) != 8) = false := by simp [h8]
      have c1 := fun w => num2_any s 0 2 rfl (by omega) hs w
      have c2 := fun w => num2_any s 3 5 rfl (by omega) hs w
      have c3 := fun w => num2_any s 6 s.size (by omega) (by omega) hs w
      have v1 : Sm.d2 s 0 = true → numV (s.extract 0 2) = Sm.n2 s 0 := fun h => num2_val rfl (by omega) h
      have v2 : Sm.d2 s 3 = true → numV (s.extract 3 5) = Sm.n2 s 3 := fun h => num2_val rfl (by omega) h
      have v3 : Sm.d2 s 6 = true → numV (s.extract 6 s.size) = Sm.n2 s 6 := fun h => num2_val (by omega) (by omega) h
      have g2 : 2 < s.size := by omega
      have g5 : 5 < s.size := by omega
      have hb2 := byte_at s 2 g2
      have hb5 := byte_at s 5 g5
      have i1 : (2 : Int) ≤ (s.size : Int) := by omega
      have i2 : (5 : Int) ≤ (s.size : Int) := by omega
      have i3 : (2 : Int) < (s.size : Int) := by omega
      have i4 : (6 : Int) ≤ (s.size : Int) := by omega
      have i5 : (5 : Int) < (s.size : Int) := by omega
      by_cases hq : Sm.B s 2 = 58
      · have hh : Ml.hmsB s = (Sm.d2 s 0 && Sm.d2 s 3 && Sm.d2 s 6 && decide (Sm.B s 5 = 58)) := by
          rw [Bool.eq_iff_iff, Ml.hms_iff, Bool.and_eq_true, Bool.and_eq_true, Bool.and_eq_true, decide_eq_true_iff]
          exact ⟨fun h => by
            rcases h.2.2.2 with k | k
            · omega
            · exact ⟨⟨⟨h.1, h.2.2.1⟩, k.2.2⟩, k.2.1⟩, fun h => ⟨h.1.1.1, hq, h.1.1.2, Or.inr ⟨h8, h.2, h.1.2⟩⟩⟩
        rw [hq] at hb2
        have hsec : Ml.secOf s = Sm.n2 s 6 := by unfold Ml.secOf; rw [if_pos h8]
        have HH := Lib.hid hh
        clear hq hh h5 h8
        have hr : ∃ r : Bool, decide (Sm.B s 5 = 58) = r ∧ ((Sm.B s 5 : Int) == 58) = r := ⟨_, rfl, by rw [Bool.eq_iff_iff, beq_iff_eq, decide_eq_true_iff]; omega⟩
        obtain ⟨r, hr1, hr2⟩ := hr
        have HR := Lib.hid hr1
        clear hr1
        cases hp1 : Sm.d2 s 0 <;> cases hp2 : Sm.d2 s 3 <;> cases hp3 : Sm.d2 s 6 <;> cases r <;> rw [hp1] at c1 <;> rw [hp2] at c2 <;> rw [hp3] at c3
        all_goals
          have HP1 := Lib.hid hp1
          have HP2 := Lib.hid hp2
          have HP3 := Lib.hid hp3
          clear hp1 hp2 hp3
          go_enter Tryd.func31, Tryd.ntmps31
          go_wp2_with (go_at_call 30; (first | (with_reducible refine (c1 _).mono ?_) | (with_reducible refine (c2 _).mono ?_) | (with_reducible refine (c3 _).mono ?_)); rintro e w3 ⟨rfl, rfl⟩)
          go_quiet (fail)
          go_wp2_with fail
          have hf := HH.out
          rw [HP1.out, HP2.out, HP3.out, HR.out] at hf
          refine bodyPost_ret (v := .tuple #[.int .i64 (numV (s.extract 0 2)), .int .i64 (numV (s.extract 3 5)), .int .i64 (numV (s.extract 6 s.size)), .bool (Ml.hmsB s)]) (by simp [results, Tryd.results31, go_sem, hf]) rfl ⟨_, _, _, rfl, fun h => ?_, by first | exact Below.refl _ _ | exact below_drewN (Below.refl _ _) _⟩
          first | (rw [hf] at h; cases h; done) | exact ⟨v1 HP1.out, v2 HP2.out, (v3 HP3.out).trans hsec.symm⟩
      · have hh : Ml.hmsB s = false := hms_false (fun h => hq h.2.1)
        have e1 : ((Sm.B s 2 : Int) == 58) = false := by simp; omega
        have e2 : ((Sm.B s 2 : Int) != 58) = true := by simp; omega
        have HH := Lib.hid hh
        clear hq hh v1 v2 v3 h5 h8
        go_enter Tryd.func31, Tryd.ntmps31
        go_wp2_with fail
        refine bodyPost_ret (v := .tuple #[.int .i64 0, .int .i64 0, .int .i64 0, .bool (Ml.hmsB s)]) (by simp [results, Tryd.results31, go_sem, HH.out]) rfl ⟨_, _, _, rfl, fun h => ?_, by first | exact Below.refl _ _ | exact below_drewN (Below.refl _ _) _⟩
        rw [HH.out] at h
        cases h
    · have n5 : ((s.size : Int) == 5) = false := by simp; omega
      have n5' : ((s.size : Int) != 5) = true := by simp; omega
      have n8 : ((s.size : Int) == 8) = false := by simp; omega
      have n8' : ((s.size : Int) != 8) = true := by simp; omega
      have hh : Ml.hmsB s = false := hms_false (fun h => by rcases h.2.2.2 with k | k <;> omega)
      have HH := Lib.hid hh
      clear hh h5 h8
      go_enter Tryd.func31, Tryd.ntmps31
      go_wp2_with fail
      refine bodyPost_ret (v := .tuple #[.int .i64 0, .int .i64 0, .int .i64 0, .bool (Ml.hmsB s)]) (by simp [results, Tryd.results31, go_sem, HH.out]) rfl ⟨_, _, _, rfl, fun h => ?_, by first | exact Below.refl _ _ | exact below_drewN (Below.refl _ _) _⟩
      rw [HH.out] at h
      cases h
end Go.Proofs.YtfgchphadeogpaaDoor

