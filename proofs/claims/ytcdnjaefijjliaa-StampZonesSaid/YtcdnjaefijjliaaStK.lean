/- The walk of the document's Zone. -/
import Derived.Test.YtcdnjaefijjliaaStJ
import Derived.Test.YtcdnjaefijjliaaStE
namespace Go.Proofs.Ytcdnjaefijjliaa
open Go.RowKit
open Go
set_option linter.unusedVariables false
set_option maxHeartbeats 1000000 in
theorem rzone_z (w : World) : Calls Try.prog 15 #[.string ⟨#[90]⟩] w (ZonPost (0, true) w) := by
  go_enter Try.func15, Try.ntmps15
  go_wp2_with fail
  go_ret2
  exact ⟨rfl, Below.refl _ _⟩
set_option maxHeartbeats 1000000 in
theorem rzone_len (s : ByteArray) (hz : (s.toList == [90]) = false) (h6 : s.size ≠ 6) (w : World) : Calls Try.prog 15 #[.string s] w (ZonPost (0, false) w) := by
  have hz' : ¬ s.toList = [90] := by simpa using hz
  have h6' : ¬ (s.size : Int) = 6 := by omega
  go_enter Try.func15, Try.ntmps15
  go_wp2_with fail
  go_ret2
  exact ⟨rfl, Below.refl _ _⟩
set_option maxHeartbeats 2000000 in
theorem rzone_6 (s : ByteArray) (hz : (s.toList == [90]) = false) (h6 : s.size = 6) (w : World) : Calls Try.prog 15 #[.string s] w (ZonPost (Sm.zonF s) w) := by
  have hne : s ≠ ⟨#[90]⟩ := fun e => by rw [e] at h6; cases h6
  have hF : Sm.zonF s = if (Sm.B s 0 = 43 ∨ Sm.B s 0 = 45) ∧ Sm.d2 s 1 = true ∧ Sm.B s 3 = 58 ∧ Sm.d2 s 4 = true ∧ Sm.n2 s 1 ≤ 23 ∧ Sm.n2 s 4 ≤ 59 then
        ((if Sm.B s 0 = 45 then -(Sm.n2 s 1 * 60 + Sm.n2 s 4) else Sm.n2 s 1 * 60 + Sm.n2 s 4), true) else (0, false) := by
    unfold Sm.zonF; rw [if_neg hne]; simp only [h6, true_and]
  obtain ⟨p, hp⟩ : ∃ c : Int, c = (Sm.B s 0 : Int) := ⟨_, rfl⟩
  obtain ⟨q, hq⟩ : ∃ c : Int, c = (Sm.B s 3 : Int) := ⟨_, rfl⟩
  have i0 : ((s[0]'(by omega)).toNat : Int) = p := by rw [hp]; exact byte_at s 0 (by omega)
  have i3 : ((s[3]'(by omega)).toNat : Int) = q := by rw [hq]; exact byte_at s 3 (by omega)
  obtain ⟨a, ha⟩ : ∃ a, Sm.d2 s 1 = a := ⟨_, rfl⟩
  obtain ⟨b, hb⟩ : ∃ a, Sm.d2 s 4 = a := ⟨_, rfl⟩
  have D1 := fun w => dg2 s 1 (by omega) (by omega) a ha w
  have D4 := fun w => dg2 s 4 (by omega) (by omega) b hb w
  have bd1 : a = true → 0 ≤ Sm.n2 s 1 ∧ Sm.n2 s 1 ≤ 99 := fun k => Sm.n2_bd (ha.trans k)
  have bd4 : b = true → 0 ≤ Sm.n2 s 4 ∧ Sm.n2 s 4 ≤ 99 := fun k => Sm.n2_bd (hb.trans k)
  have e0 : Sm.B s 0 = 43 ↔ p = 43 := by omega
  have e00 : Sm.B s 0 = 45 ↔ p = 45 := by omega
  have e3 : Sm.B s 3 = 58 ↔ q = 58 := by omega
  rw [ha, hb] at hF
  simp only [e0, e00, e3] at hF
  generalize Sm.zonF s = res at *
  have HF := Lib.hid hF
  clear hF hp hq e0 e00 e3 ha hb hne
  generalize Sm.n2 s 1 = h at *
  generalize Sm.n2 s 4 = m at *
  have hz' : ¬ s.toList = [90] := by simpa using hz
  have h6' : (s.size : Int) = 6 := by omega
  have BD1 := Lib.hid bd1
  have BD4 := Lib.hid bd4
  clear bd1 bd4
  have fin : res = (0, false) → Calls Try.prog 15 #[.string s] w (ZonPost (0, false) w) → Calls Try.prog 15 #[.string s] w (ZonPost res w) := fun e k => by rw [e]; exact k
  by_cases k0 : p = 43 ∨ p = 45
  · by_cases k3 : q = 58
    · subst k3
      cases a
      · refine fin (by rw [HF.out]; simp) ?_
        clear fin HF
        rcases k0 with rfl | rfl
        all_goals
          go_enter Try.func15, Try.ntmps15
          go_wp2_with fail
          refine (D1 _).mono ?_
          rintro e w1 ⟨rfl, rfl⟩
          go_wp2_with fail
          refine (D4 _).mono ?_
          rintro e w1 ⟨rfl, rfl⟩
          go_wp2_with fail
          go_ret2
          exact ⟨rfl, Below.refl _ _⟩
      cases b
      · refine fin (by rw [HF.out]; simp) ?_
        clear fin HF
        rcases k0 with rfl | rfl
        all_goals
          go_enter Try.func15, Try.ntmps15
          go_wp2_with fail
          refine (D1 _).mono ?_
          rintro e w1 ⟨rfl, rfl⟩
          go_wp2_with fail
          refine (D4 _).mono ?_
          rintro e w1 ⟨rfl, rfl⟩
          go_wp2_with fail
          go_ret2
          exact ⟨rfl, Below.refl _ _⟩
      have g1 := BD1.out rfl
      have g4 := BD4.out rfl
      obtain ⟨g10, g11⟩ := g1
      obtain ⟨g40, g41⟩ := g4
      by_cases hh : 23 < h
      · refine fin (by rw [HF.out, if_neg (by omega)]) ?_
        clear fin HF
        rcases k0 with rfl | rfl
        all_goals
          go_enter Try.func15, Try.ntmps15
          go_wp2_with fail
          refine (D1 _).mono ?_
          rintro e w1 ⟨rfl, rfl⟩
          go_wp2_with fail
          refine (D4 _).mono ?_
          rintro e w1 ⟨rfl, rfl⟩
          go_wp2_with fail
          go_ret2
          exact ⟨rfl, Below.refl _ _⟩
      by_cases hm : 59 < m
      · refine fin (by rw [HF.out, if_neg (by omega)]) ?_
        clear fin HF
        rcases k0 with rfl | rfl
        all_goals
          go_enter Try.func15, Try.ntmps15
          go_wp2_with fail
          refine (D1 _).mono ?_
          rintro e w1 ⟨rfl, rfl⟩
          go_wp2_with fail
          refine (D4 _).mono ?_
          rintro e w1 ⟨rfl, rfl⟩
          go_wp2_with fail
          go_ret2
          exact ⟨rfl, Below.refl _ _⟩
      clear fin
      rcases k0 with rfl | rfl
      · rw [show res = (h * 60 + m, true) by rw [HF.out, if_pos ⟨by decide, by first | rfl | trivial, by first | rfl | trivial, by first | rfl | trivial, by omega, by omega⟩, if_neg (by decide)]]
        clear HF
        go_enter Try.func15, Try.ntmps15
        go_wp2_with fail
        refine (D1 _).mono ?_
        rintro e w1 ⟨rfl, rfl⟩
        go_wp2_with fail
        refine (D4 _).mono ?_
        rintro e w1 ⟨rfl, rfl⟩
        go_wp2_with fail
        go_ret2
        exact ⟨rfl, Below.refl _ _⟩
      · rw [show res = (-(h * 60 + m), true) by rw [HF.out, if_pos ⟨by decide, by first | rfl | trivial, by first | rfl | trivial, by first | rfl | trivial, by omega, by omega⟩, if_pos rfl]]
        clear HF
        go_enter Try.func15, Try.ntmps15
        go_wp2_with fail
        refine (D1 _).mono ?_
        rintro e w1 ⟨rfl, rfl⟩
        go_wp2_with fail
        refine (D4 _).mono ?_
        rintro e w1 ⟨rfl, rfl⟩
        go_wp2_with fail
        go_ret2
        exact ⟨rfl, Below.refl _ _⟩
    · refine fin (by rw [HF.out, if_neg (fun k => k3 k.2.2.1)]) ?_
      clear fin HF
      have k3' : (q != 58) = true := by simpa using k3
      rcases k0 with rfl | rfl
      all_goals
        go_enter Try.func15, Try.ntmps15
        go_wp2_with fail
        go_ret2
        exact ⟨rfl, Below.refl _ _⟩
  · refine fin (by rw [HF.out, if_neg (fun k => k0 k.1)]) ?_
    clear fin HF
    have k1 : (p != 43) = true := by rw [bne_iff_ne]; omega
    have k2 : (p != 45) = true := by rw [bne_iff_ne]; omega
    go_enter Try.func15, Try.ntmps15
    go_wp2_with fail
    go_ret2
    exact ⟨rfl, Below.refl _ _⟩
theorem rzone_any (s : ByteArray) (w : World) : Calls Try.prog 15 #[.string s] w (ZonPost (Sm.zonF s) w) := by
  by_cases hs : s = ⟨#[90]⟩
  · subst hs
    have : Sm.zonF ⟨#[90]⟩ = (0, true) := by unfold Sm.zonF; rw [if_pos rfl]
    rw [this]; exact rzone_z w
  · have hz : (s.toList == [90]) = false := by
      rw [beq_eq_false_iff_ne]
      intro e
      exact hs (eq_list.1 (e.trans (by rw [ByteArray.toList_eq])))
    by_cases h6 : s.size = 6
    · exact rzone_6 s hz h6 w
    · have : Sm.zonF s = (0, false) := by unfold Sm.zonF; rw [if_neg hs, if_neg (fun k => h6 k.1)]
      rw [this]; exact rzone_len s hz h6 w
end Go.Proofs.Ytcdnjaefijjliaa
