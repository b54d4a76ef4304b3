/- The walk of the document's W3c. -/
import Derived.Test.YtcdnjaefijjliaaStL
namespace Go.Proofs.Ytcdnjaefijjliaa
open Go.RowKit
open Go
set_option linter.unusedVariables false
set_option maxHeartbeats 400000 in
theorem rw3c_long (s : ByteArray) (hs : s.size ≤ 1000) (h : 10 < s.size) (w : World) : Calls Try.prog 13 #[.string s] w (ZonPost (Sm.fullF s 5) w) := by
  have C := fun w => rfull_any s hs false 5 rfl w
  have h' : (10 : Int) < s.size := by omega
  go_enter Try.func13, Try.ntmps13
  go_wp2_with fail
  refine (C _).mono ?_
  rintro e w1 ⟨rfl, hb1⟩
  go_wp2_with fail
  go_ret2
  exact ⟨rfl, hb1⟩
set_option maxHeartbeats 2000000 in
theorem rw3c_core (s : ByteArray) (w : World) (h10 : s.size ≤ 10) (yv mv dv : Int) (a b d : Bool) (i4 i7 : Int)
    (H4 : ∀ h : 4 < s.size, ((s[4]'h).toNat : Int) = i4) (H7 : ∀ h : 7 < s.size, ((s[7]'h).toNat : Int) = i7)
    (D0 : ∀ w, Calls Try.prog 26 #[.string s, .int .i64 0, .int .i64 4] w (fun e w' => e = .returned (.tuple #[.int .i64 (bif a then yv else 0), .bool a]) ∧ w = w'))
    (D5 : ∀ w, Calls Try.prog 26 #[.string s, .int .i64 5, .int .i64 2] w (fun e w' => e = .returned (.tuple #[.int .i64 (bif b then mv else 0), .bool b]) ∧ w = w'))
    (D8 : ∀ w, Calls Try.prog 26 #[.string s, .int .i64 8, .int .i64 2] w (fun e w' => e = .returned (.tuple #[.int .i64 (bif d then dv else 0), .bool d]) ∧ w = w'))
    (r : Nat) (hr : (r = 1 ∧ s.size = 4 ∧ a = true) ∨ (r = 2 ∧ s.size = 7 ∧ a = true ∧ b = true ∧ i4 = 45) ∨ (r = 3 ∧ s.size = 10 ∧ a = true ∧ b = true ∧ d = true ∧ i4 = 45 ∧ i7 = 45) ∨
      (r = 0 ∧ (s.size = 4 → a = false) ∧ (s.size = 7 → a = false ∨ b = false ∨ i4 ≠ 45) ∧ (s.size = 10 → a = false ∨ b = false ∨ d = false ∨ i4 ≠ 45 ∨ i7 ≠ 45)))
    (v k : Int) (vok : Bool) (hk : (k == 0) = vok) (hz : r = 0 → (v = 0 ∧ vok = false)) (S : r ≠ 0 → ∀ w, Calls Try.prog 27 #[.agg #[.int .i64 yv, .int .i64 (if r = 1 then 1 else mv), .int .i64 (if r = 3 then dv else 1), .int .i64 0, .int .i64 0, .int .i64 0], .int .i64 0] w fun e w' => e = .returned (.tuple #[.int .i64 v, .int .i64 k]) ∧ Below w.heap.size w w') :
    Calls Try.prog 13 #[.string s] w (ZonPost (v, vok) w) := by
  have h' : ¬ (10 : Int) < s.size := by omega
  have HH4 := Lib.hid H4
  have HH7 := Lib.hid H7
  have HZ := Lib.hid hz
  have HS := Lib.hid S
  clear H4 H7 hz S
  rcases hr with ⟨rfl, hn, rfl⟩ | ⟨rfl, hn, rfl, rfl, rfl⟩ | ⟨rfl, hn, rfl, rfl, rfl, rfl, rfl⟩ | ⟨rfl, q4, q7, q10⟩
  · have hn' : (s.size : Int) = 4 := by omega
    have S := HS.out (by decide)
    simp only [if_true, if_neg (show ¬ (1 : Nat) = 3 by decide)] at S
    go_enter Try.func13, Try.ntmps13
    go_wp2_with fail
    refine (D0 _).mono ?_
    rintro e w1 ⟨rfl, rfl⟩
    go_wp2_with fail
    refine (D5 _).mono ?_
    rintro e w1 ⟨rfl, rfl⟩
    go_wp2_with fail
    refine (D8 _).mono ?_
    rintro e w1 ⟨rfl, rfl⟩
    clear D0 D5 D8
    go_wp2_with fail
    refine (S _).mono ?_
    rintro e w1 ⟨rfl, hb⟩
    go_wp2_with fail
    go_ret2
    exact ⟨rfl, bn (bbox (Below.refl _ _) _) hb⟩
  · have hn' : (s.size : Int) = 7 := by omega
    have S := HS.out (by decide)
    simp only [if_neg (show ¬ (2 : Nat) = 1 by decide), if_neg (show ¬ (2 : Nat) = 3 by decide)] at S
    have hi4 := HH4.out (by omega)
    go_enter Try.func13, Try.ntmps13
    go_wp2_with fail
    refine (D0 _).mono ?_
    rintro e w1 ⟨rfl, rfl⟩
    go_wp2_with fail
    refine (D5 _).mono ?_
    rintro e w1 ⟨rfl, rfl⟩
    go_wp2_with fail
    refine (D8 _).mono ?_
    rintro e w1 ⟨rfl, rfl⟩
    clear D0 D5 D8
    go_wp2_with fail
    refine (S _).mono ?_
    rintro e w1 ⟨rfl, hb⟩
    go_wp2_with fail
    go_ret2
    exact ⟨rfl, bn (bbox (Below.refl _ _) _) hb⟩
  · have hn' : (s.size : Int) = 10 := by omega
    have S := HS.out (by decide)
    simp only [if_neg (show ¬ (3 : Nat) = 1 by decide), if_true] at S
    have hi4 := HH4.out (by omega)
    have hi7 := HH7.out (by omega)
    go_enter Try.func13, Try.ntmps13
    go_wp2_with fail
    refine (D0 _).mono ?_
    rintro e w1 ⟨rfl, rfl⟩
    go_wp2_with fail
    refine (D5 _).mono ?_
    rintro e w1 ⟨rfl, rfl⟩
    go_wp2_with fail
    refine (D8 _).mono ?_
    rintro e w1 ⟨rfl, rfl⟩
    clear D0 D5 D8
    go_wp2_with fail
    refine (S _).mono ?_
    rintro e w1 ⟨rfl, hb⟩
    go_wp2_with fail
    go_ret2
    exact ⟨rfl, bn (bbox (Below.refl _ _) _) hb⟩
  · obtain ⟨rfl, rfl⟩ := HZ.out rfl
    clear HZ HS hk
    by_cases n4 : s.size = 4
    · have hn' : (s.size : Int) = 4 := by omega
      obtain rfl := q4 n4
      clear q4 q7 q10
      go_enter Try.func13, Try.ntmps13
      go_wp2_with fail
      refine (D0 _).mono ?_
      rintro e w1 ⟨rfl, rfl⟩
      go_wp2_with fail
      refine (D5 _).mono ?_
      rintro e w1 ⟨rfl, rfl⟩
      go_wp2_with fail
      refine (D8 _).mono ?_
      rintro e w1 ⟨rfl, rfl⟩
      clear D0 D5 D8
      go_wp2_with fail
      go_ret2
      exact ⟨rfl, bbox (Below.refl _ _) _⟩
    by_cases n7 : s.size = 7
    · have hn' : (s.size : Int) = 7 := by omega
      have q := q7 n7
      have hi4 := HH4.out (by omega)
      clear q4 q7 q10
      have q' : a = false ∨ (a = true ∧ b = false) ∨ (a = true ∧ b = true ∧ (i4 == 45) = false) := by
        cases a
        · exact Or.inl rfl
        · cases b
          · exact Or.inr (Or.inl ⟨rfl, rfl⟩)
          · exact Or.inr (Or.inr ⟨rfl, rfl, by simpa using q⟩)
      clear q
      rcases q' with rfl | ⟨rfl, rfl⟩ | ⟨rfl, rfl, q'⟩
      all_goals
        go_enter Try.func13, Try.ntmps13
        go_wp2_with fail
        refine (D0 _).mono ?_
        rintro e w1 ⟨rfl, rfl⟩
        go_wp2_with fail
        refine (D5 _).mono ?_
        rintro e w1 ⟨rfl, rfl⟩
        go_wp2_with fail
        refine (D8 _).mono ?_
        rintro e w1 ⟨rfl, rfl⟩
        clear D0 D5 D8
        go_wp2_with fail
        go_ret2
        exact ⟨rfl, bbox (Below.refl _ _) _⟩
    by_cases n10 : s.size = 10
    · have hn' : (s.size : Int) = 10 := by omega
      have q := q10 n10
      have hi4 := HH4.out (by omega)
      have hi7 := HH7.out (by omega)
      clear q4 q7 q10
      have q' : a = false ∨ (a = true ∧ b = false) ∨ (a = true ∧ b = true ∧ d = false) ∨ (a = true ∧ b = true ∧ d = true ∧ (i4 == 45) = false) ∨ (a = true ∧ b = true ∧ d = true ∧ i4 = 45 ∧ (i7 == 45) = false) := by
        cases a
        · exact Or.inl rfl
        · cases b
          · exact Or.inr (Or.inl ⟨rfl, rfl⟩)
          · cases d
            · exact Or.inr (Or.inr (Or.inl ⟨rfl, rfl, rfl⟩))
            · by_cases e : i4 = 45
              · refine Or.inr (Or.inr (Or.inr (Or.inr ⟨rfl, rfl, rfl, e, ?_⟩)))
                have : i7 ≠ 45 := by simpa [e] using q
                simpa using this
              · exact Or.inr (Or.inr (Or.inr (Or.inl ⟨rfl, rfl, rfl, by simpa using e⟩)))
      clear q
      rcases q' with rfl | ⟨rfl, rfl⟩ | ⟨rfl, rfl, rfl⟩ | ⟨rfl, rfl, rfl, q'⟩ | ⟨rfl, rfl, rfl, rfl, q'⟩
      all_goals
        go_enter Try.func13, Try.ntmps13
        go_wp2_with fail
        refine (D0 _).mono ?_
        rintro e w1 ⟨rfl, rfl⟩
        go_wp2_with fail
        refine (D5 _).mono ?_
        rintro e w1 ⟨rfl, rfl⟩
        go_wp2_with fail
        refine (D8 _).mono ?_
        rintro e w1 ⟨rfl, rfl⟩
        clear D0 D5 D8
        go_wp2_with fail
        go_ret2
        exact ⟨rfl, bbox (Below.refl _ _) _⟩
    have m4 : ((s.size : Int) == 4) = false := by rw [beq_eq_false_iff_ne]; omega
    have m7 : ((s.size : Int) == 7) = false := by rw [beq_eq_false_iff_ne]; omega
    have m10 : ((s.size : Int) == 10) = false := by rw [beq_eq_false_iff_ne]; omega
    clear q4 q7 q10
    go_enter Try.func13, Try.ntmps13
    go_wp2_with fail
    refine (D0 _).mono ?_
    rintro e w1 ⟨rfl, rfl⟩
    go_wp2_with fail
    refine (D5 _).mono ?_
    rintro e w1 ⟨rfl, rfl⟩
    go_wp2_with fail
    refine (D8 _).mono ?_
    rintro e w1 ⟨rfl, rfl⟩
    clear D0 D5 D8
    go_wp2_with fail
    go_ret2
    exact ⟨rfl, bbox (Below.refl _ _) _⟩
set_option maxHeartbeats 1000000 in
theorem rw3c_any (s : ByteArray) (hs : s.size ≤ 1000) (w : World) : Calls Try.prog 13 #[.string s] w (ZonPost (Sm.w3cF s) w) := by
  by_cases h10 : 10 < s.size
  · have : Sm.w3cF s = Sm.fullF s 5 := by
      unfold Sm.w3cF
      rw [if_neg (by omega), if_neg (by omega), if_neg (by omega)]
    rw [this]; exact rw3c_long s hs h10 w
  · obtain ⟨a, ha⟩ : ∃ a, Sm.d4 s 0 = a := ⟨_, rfl⟩
    obtain ⟨b, hb⟩ : ∃ a, Sm.d2 s 5 = a := ⟨_, rfl⟩
    obtain ⟨d, hd⟩ : ∃ a, Sm.d2 s 8 = a := ⟨_, rfl⟩
    obtain ⟨i4, h4⟩ : ∃ c : Int, (Sm.B s 4 : Int) = c := ⟨_, rfl⟩
    obtain ⟨i7, h7⟩ : ∃ c : Int, (Sm.B s 7 : Int) = c := ⟨_, rfl⟩
    have D0 := fun w => dg4 s 0 hs (by omega) a ha w
    have D5 := fun w => dg2 s 5 hs (by omega) b hb w
    have D8 := fun w => dg2 s 8 hs (by omega) d hd w
    have core := fun r hr v k vok hk hz S => rw3c_core s w (by omega) (Sm.n4 s 0) (Sm.n2 s 5) (Sm.n2 s 8) a b d i4 i7 (fun h => (byte_at s 4 h).trans h4) (fun h => (byte_at s 7 h).trans h7) D0 D5 D8 r hr v k vok hk hz S
    by_cases q4 : s.size = 4 ∧ Sm.d4 s 0 = true
    · have e : Sm.w3cF s = Sm.secR (Sm.n4 s 0) 1 1 0 0 0 0 := by unfold Sm.w3cF; rw [if_pos q4]
      rw [e]
      obtain ⟨kk, sok, g1, g2, g3⟩ := rsecR_call (Sm.n4 s 0) 1 1 0 0 0 0
      generalize Sm.secR (Sm.n4 s 0) 1 1 0 0 0 0 = sr at *
      obtain ⟨v, vok⟩ := sr
      simp only at g2 g3
      subst g2
      exact core 1 (Or.inl ⟨rfl, q4.1, ha.symm.trans q4.2⟩) v kk vok g1 (fun k => by cases k) (fun _ => g3)
    · by_cases q7 : s.size = 7 ∧ Sm.d4 s 0 = true ∧ Sm.B s 4 = 45 ∧ Sm.d2 s 5 = true
      · have e : Sm.w3cF s = Sm.secR (Sm.n4 s 0) (Sm.n2 s 5) 1 0 0 0 0 := by unfold Sm.w3cF; rw [if_neg q4, if_pos q7]
        rw [e]
        obtain ⟨kk, sok, g1, g2, g3⟩ := rsecR_call (Sm.n4 s 0) (Sm.n2 s 5) 1 0 0 0 0
        generalize Sm.secR (Sm.n4 s 0) (Sm.n2 s 5) 1 0 0 0 0 = sr at *
        obtain ⟨v, vok⟩ := sr
        simp only at g2 g3
        subst g2
        exact core 2 (Or.inr (Or.inl ⟨rfl, q7.1, ha.symm.trans q7.2.1, hb.symm.trans q7.2.2.2, by have := q7.2.2.1; omega⟩)) v kk vok g1 (fun k => by cases k) (fun _ => g3)
      · by_cases q10 : s.size = 10 ∧ Sm.dayB s = true
        · have e : Sm.w3cF s = Sm.secR (Sm.n4 s 0) (Sm.n2 s 5) (Sm.n2 s 8) 0 0 0 0 := by unfold Sm.w3cF; rw [if_neg q4, if_neg q7, if_pos q10]
          rw [e]
          obtain ⟨c0, c4, c5, c7, c8⟩ := (Sm.dayB_iff s).1 q10.2
          obtain ⟨kk, sok, g1, g2, g3⟩ := rsecR_call (Sm.n4 s 0) (Sm.n2 s 5) (Sm.n2 s 8) 0 0 0 0
          generalize Sm.secR (Sm.n4 s 0) (Sm.n2 s 5) (Sm.n2 s 8) 0 0 0 0 = sr at *
          obtain ⟨v, vok⟩ := sr
          simp only at g2 g3
          subst g2
          exact core 3 (Or.inr (Or.inr (Or.inl ⟨rfl, q10.1, ha.symm.trans c0, hb.symm.trans c5, hd.symm.trans c8, by omega, by omega⟩))) v kk vok g1 (fun k => by cases k) (fun _ => g3)
        · have e : Sm.w3cF s = (0, false) := by
            unfold Sm.w3cF
            rw [if_neg q4, if_neg q7, if_neg q10]
            unfold Sm.fullF
            rw [if_neg]
            rintro ⟨_, k⟩
            have := Sm.B_in (s := s) (i := 10) (by omega)
            omega
          rw [e]
          refine core 0 (Or.inr (Or.inr (Or.inr ⟨rfl, fun k => ?_, fun k => ?_, fun k => ?_⟩))) 0 2 false rfl (fun _ => ⟨rfl, rfl⟩) (fun k => absurd rfl k)
          · cases a
            · rfl
            · exact absurd ⟨k, ha⟩ q4
          · cases a
            · exact Or.inl rfl
            · cases b
              · exact Or.inr (Or.inl rfl)
              · exact Or.inr (Or.inr (fun z => q7 ⟨k, ha, by omega, hb⟩))
          · cases a
            · exact Or.inl rfl
            · cases b
              · exact Or.inr (Or.inl rfl)
              · cases d
                · exact Or.inr (Or.inr (Or.inl rfl))
                · by_cases z4 : i4 = 45
                  · exact Or.inr (Or.inr (Or.inr (Or.inr (fun z7 => q10 ⟨k, (Sm.dayB_iff s).2 ⟨ha, by omega, hb, by omega, hd⟩⟩))))
                  · exact Or.inr (Or.inr (Or.inr (Or.inl z4)))
end Go.Proofs.Ytcdnjaefijjliaa
