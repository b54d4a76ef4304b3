/- The walks of cardingref12: second, Apart. -/
import Derived.Test.YtmpoeeioeimmfaaGreatNfL
import Derived.Test.YtmpoeeioeimmfaaGreatR2C
namespace Go.Proofs.YtmpoeeioeimmfaaGreat
open Go.RowKit Go.Shelf
open Go
set_option linter.unusedVariables false
set_option maxRecDepth 100000
def IsBool (b : Bool) (w : World) (e : Ending) (w' : World) : Prop := e = .returned (.bool b) ∧ Below w.heap.size w w'
set_option maxHeartbeats 4000000 in
theorem rsecond_any (r : Int) (w : World) : Calls Tryz.prog 33 #[.int .i64 r] w (IsBool (Tb.isSec r) w) := by
  by_cases h1 : 4449 ≤ r ∧ r ≤ 4469
  · have e : Tb.isSec r = true := by unfold Tb.isSec; simp [h1]
    obtain ⟨h1, h2⟩ := h1
    rw [e]
    clear e
    go_enter Tryz.func33, Tryz.ntmps33
    go_wp2
    go_ret
    exact ⟨rfl, Below.refl _ _⟩
  · by_cases h2 : 4520 ≤ r ∧ r ≤ 4546
    · have e : Tb.isSec r = true := by unfold Tb.isSec; simp [h2]
      obtain ⟨h2, h3⟩ := h2
      have q1 : 4449 ≤ r := by omega
      have q2 : ¬ r ≤ 4469 := by omega
      rw [e]
      clear e h1
      go_enter Tryz.func33, Tryz.ntmps33
      go_wp2
      go_ret
      exact ⟨rfl, Below.refl _ _⟩
    · have g1 : (decide (4449 ≤ r) && decide (r ≤ 4469)) = false := by simp; omega
      have g2 : (decide (4520 ≤ r) && decide (r ≤ 4546)) = false := by simp; omega
      have e : Tb.isSec r = s1 r := by rw [isSec_s1, g1, g2]; simp
      rw [e]
      clear e
      have hs : Hid (s1 r = Tb.prs.any fun p => p.2.2 == r && r != 0) := Lib.hid rfl
      obtain ⟨z, hz⟩ : ∃ z, s1 r = z := ⟨_, rfl⟩
      rw [hz] at hs ⊢
      clear hz
      have hcase : (r < 4449) ∨ (4469 < r ∧ r < 4520) ∨ 4546 < r := by omega
      clear h1 h2 g1 g2
      have main : ∀ w1 : World, Below w.heap.size w w1 → True := fun _ _ => trivial
      clear main
      rcases hcase with q | ⟨q, q'⟩ | q
      all_goals
        first
          | (have p1 : ¬ 4449 ≤ r := by omega
             have p2 : ¬ 4520 ≤ r := by omega
             have p3 : r ≤ 4469 := by omega
             have p4 : r ≤ 4546 := by omega
             go_enter Tryz.func33, Tryz.ntmps33
             go_wp2_with (go_at_call 56; refine (rpairs_any _).mono ?_; rintro e w1 ⟨g, cap, rfl, hc1, hc2, hrow, hB⟩; rw [prs_len] at hc1 ⊢; have HR := Lib.hid hrow; clear hrow))
          | (have p1 : 4449 ≤ r := by omega
             have p2 : ¬ r ≤ 4469 := by omega
             have p3 : ¬ 4520 ≤ r := by omega
             have p4 : r ≤ 4546 := by omega
             go_enter Tryz.func33, Tryz.ntmps33
             go_wp2_with (go_at_call 56; refine (rpairs_any _).mono ?_; rintro e w1 ⟨g, cap, rfl, hc1, hc2, hrow, hB⟩; rw [prs_len] at hc1 ⊢; have HR := Lib.hid hrow; clear hrow))
          | (have p1 : 4449 ≤ r := by omega
             have p2 : ¬ r ≤ 4469 := by omega
             have p3 : 4520 ≤ r := by omega
             have p4 : ¬ r ≤ 4546 := by omega
             go_enter Tryz.func33, Tryz.ntmps33
             go_wp2_with (go_at_call 56; refine (rpairs_any _).mono ?_; rintro e w1 ⟨g, cap, rfl, hc1, hc2, hrow, hB⟩; rw [prs_len] at hc1 ⊢; have HR := Lib.hid hrow; clear hrow))
        go_loop [4] (fun k => ∃ i : Nat, i ≤ 73 ∧ k = .int .i64 i ∧ Hid (∀ j (hj : j < Tb.prs.length), j < i → ((Tb.prs[j]'hj).2.2 == r && r != 0) = false)) (fun k => 73 - (intOf k).toNat)
        case atStart => exact ⟨0, by omega, rfl, Lib.hid fun j _ h => absurd h (by omega)⟩
        case round =>
          obtain ⟨i, hi, rfl, HN⟩ := hrel
          by_cases hlt : i < 73
          · have hlp : i < Tb.prs.length := by rw [prs_len]; exact hlt
            obtain ⟨r0, r1, r2⟩ := HR.out.at_ hlp
            generalize hq : Tb.prs[i] = q at *
            obtain ⟨q0, q1, q2⟩ := q
            simp only at r0 r1 r2
            have HQ := Lib.hid hq
            clear hq
            have i1 : (0 : Int) ≤ (i : Int) := by omega
            have i2 : (i : Int) < 73 := by omega
            by_cases hz0 : q2 = 0
            · have hb0 : (q2 == 0) = true := by simpa using hz0
              have HW : Hid (∀ j (hj : j < Tb.prs.length), j < i + 1 → ((Tb.prs[j]'hj).2.2 == r && r != 0) = false) := Lib.hid fun j hj h1 => by
                by_cases e : j = i
                · subst e
                  rw [HQ.out, hz0]
                  simp
                  omega
                · exact HN.out j hj (by omega)
              subst hz0
              clear hb0
              go_wp2_with fail
              go_round
              case rel => exact ⟨i + 1, by omega, by go_num, HW⟩
              case measure => simp [intOf] <;> omega
            · have hb0 : (q2 == 0) = false := by simpa using hz0
              by_cases he : q2 = r
              · have hb1 : (q2 == r) = true := by simpa using he
                have hzz : Hid (z = true) := Lib.hid (by
                  rw [hs.out, List.any_eq_true]
                  exact ⟨_, List.getElem_mem hlp, by rw [HQ.out, he]; rw [he] at hz0; simp [hz0]⟩)
                subst he
                have hb2 : (q2 != 0) = true := by simpa using hz0
                go_wp2_with fail
                go_ret
                exact ⟨by rw [hzz.out]; rfl, hB⟩
              · have hb1 : (q2 == r) = false := by simpa using he
                have HW : Hid (∀ j (hj : j < Tb.prs.length), j < i + 1 → ((Tb.prs[j]'hj).2.2 == r && r != 0) = false) := Lib.hid fun j hj h1 => by
                  by_cases e : j = i
                  · subst e
                    rw [HQ.out, hb1]
                    rfl
                  · exact HN.out j hj (by omega)
                have hb2 : (q2 != 0) = true := by simpa using hz0
                go_wp2_with fail
                go_round
                case rel => exact ⟨i + 1, by omega, by go_num, HW⟩
                case measure => simp [intOf] <;> omega
          · obtain rfl : i = 73 := by omega
            have hzz : Hid (z = false) := Lib.hid (by
              rw [hs.out, List.any_eq_false]
              intro x hx
              obtain ⟨j, hj, rfl⟩ := List.getElem_of_mem hx
              rw [HN.out j hj (by rw [prs_len] at hj; exact hj)]
              simp)
            go_wp2_with fail
            go_ret
            exact ⟨by rw [hzz.out]; rfl, hB⟩
def apB : List Int → Bool
  | [] => true
  | x :: _ => Tb.classI x == 0 && !Tb.isSec x
def apF (s : ByteArray) : Bool := match Ut.scal (Ut.bsL s) with | some L => apB L | none => false
end Go.Proofs.YtmpoeeioeimmfaaGreat
