/- The walks of cardingref12: second, Apart. -/
import Derived.Test.YtmpoeeioeimmfaaNfL
import Derived.Test.YtmpoeeioeimmfaaR2B
namespace Go.Proofs.Ytmpoeeioeimmfaa
open Go.RowKit Go.Shelf
open Go
set_option linter.unusedVariables false
set_option maxRecDepth 100000
def IsBool (b : Bool) (w : World) (e : Ending) (w' : World) : Prop := e = .returned (.bool b) ∧ Below w.heap.size w w'
set_option maxHeartbeats 4000000 in
theorem rsecond_any (r : Int) (w : World) : Calls Try.prog 30 #[.int .i64 r] w (IsBool (Tb.isSec r) w) := by
  by_cases h1 : 4449 ≤ r ∧ r ≤ 4469
  · have e : Tb.isSec r = true := by unfold Tb.isSec; simp [h1]
    obtain ⟨h1, h2⟩ := h1
    rw [e]
    clear e
    go_enter Try.func30, Try.ntmps30
    go_wp2
    go_ret
    exact ⟨rfl, Below.refl _ _⟩
  · by_cases h2 : 4520 ≤ r ∧ r ≤ 4546
    · have e : Tb.isSec r = true := by unfold Tb.isSec; simp [h2]
      obtain ⟨h2, h3⟩ := h2
      have q1 : 4449 ≤ r := by omega
      have q2 : ¬ r ≤ 4469 := by omega
      rw [e]
      clear e h1
      go_enter Try.func30, Try.ntmps30
      go_wp2
      go_ret
      exact ⟨rfl, Below.refl _ _⟩
    · have g1 : (decide (4449 ≤ r) && decide (r ≤ 4469)) = false := by simp; omega
      have g2 : (decide (4520 ≤ r) && decide (r ≤ 4546)) = false := by simp; omega
      have e : Tb.isSec r = s1 r := by rw [isSec_s1, g1, g2]; simp
      rw [e]
      clear e
      have hs : Hid (s1 r = Tb.prs.any fun p => p.2.2 == r && r != 0) := Lib.hid rfl
      obtain ⟨z, hz⟩ : ∃ z, s1 r = z := ⟨_, rfl⟩
      rw [hz] at hs ⊢
      clear hz
      have hcase : (r < 4449) ∨ (4469 < r ∧ r < 4520) ∨ 4546 < r := by omega
      clear h1 h2 g1 g2
      have main : ∀ w1 : World, Below w.heap.size w w1 → True := fun _ _ => trivial
      clear main
      rcases hcase with q | ⟨q, q'⟩ | q
      all_goals
        first
          | (have p1 : ¬ 4449 ≤ r := by omega
             have p2 : ¬ 4520 ≤ r := by omega
             have p3 : r ≤ 4469 := by omega
             have p4 : r ≤ 4546 := by omega
             go_enter Try.func30, Try.ntmps30
             go_wp2_with (go_at_call 49; refine (rpairs_any _).mono ?_; rintro e w1 ⟨g, cap, rfl, hc1, hc2, hrow, hB⟩; rw [prs_len] at hc1 ⊢; have HR := Lib.hid hrow; clear hrow))
          | (have p1 : 4449 ≤ r := by omega
             have p2 : ¬ r ≤ 4469 := by omega
             have p3 : ¬ 4520 ≤ r := by omega
             have p4 : r ≤ 4546 := by omega
             go_enter Try.func30, Try.ntmps30
             go_wp2_with (go_at_call 49; refine (rpairs_any _).mono ?_; rintro e w1 ⟨g, cap, rfl, hc1, hc2, hrow, hB⟩; rw [prs_len] at hc1 ⊢; have HR := Lib.hid hrow; clear hrow))
          | (have p1 : 4449 ≤ r := by omega
             have p2 : ¬ r ≤ 4469 := by omega
             have p3 : 4520 ≤ r := by omega
             have p4 : ¬ r ≤ 4546 := by omega
             go_enter Try.func30, Try.ntmps30
             go_wp2_with (go_at_call 49; refine (rpairs_any _).mono ?_; rintro e w1 ⟨g, cap, rfl, hc1, hc2, hrow, hB⟩; rw [prs_len] at hc1 ⊢; have HR := Lib.hid hrow; clear hrow))
        go_loop [4] (fun k => ∃ i : Nat, i ≤ 73 ∧ k = .int .i64 i ∧ Hid (∀ j (hj : j < Tb.prs.length), j < i → ((Tb.prs[j]'hj).2.2 == r && r != 0) = false)) (fun k => 73 - (intOf k).toNat)
        case atStart => exact ⟨0, by omega, rfl, Lib.hid fun j _ h => absurd h (by omega)⟩
        case round =>
          obtain ⟨i, hi, rfl, HN⟩ := hrel
          by_cases hlt : i < 73
          · have hlp : i < Tb.prs.length := by rw [prs_len]; exact hlt
            obtain ⟨r0, r1, r2⟩ := HR.out.at_ hlp
            generalize hq : Tb.prs[i] = q at *
            obtain ⟨q0, q1, q2⟩ := q
            simp only at r0 r1 r2
            have HQ := Lib.hid hq
            clear hq
            have i1 : (0 : Int) ≤ (i : Int) := by omega
            have i2 : (i : Int) < 73 := by omega
            by_cases hz0 : q2 = 0
            · have hb0 : (q2 == 0) = true := by simpa using hz0
              have HW : Hid (∀ j (hj : j < Tb.prs.length), j < i + 1 → ((Tb.prs[j]'hj).2.2 == r && r != 0) = false) := Lib.hid fun j hj h1 => by
                by_cases e : j = i
                · subst e
                  rw [HQ.out, hz0]
                  simp
                  omega
                · exact HN.out j hj (by omega)
              subst hz0
              clear hb0
              go_wp2_with fail
              go_round
              case rel => exact ⟨i + 1, by omega, by go_num, HW⟩
              case measure => simp [intOf] <;> omega
            · have hb0 : (q2 == 0) = false := by simpa using hz0
              by_cases he : q2 = r
              · have hb1 : (q2 == r) = true := by simpa using he
                have hzz : Hid (z = true) := Lib.hid (by
                  rw [hs.out, List.any_eq_true]
                  exact ⟨_, List.getElem_mem hlp, by rw [HQ.out, he]; rw [he] at hz0; simp [hz0]⟩)
                subst he
                have hb2 : (q2 != 0) = true := by simpa using hz0
                go_wp2_with fail
                go_ret
                exact ⟨by rw [hzz.out]; rfl, hB⟩
              · have hb1 : (q2 == r) = false := by simpa using he
                have HW : Hid (∀ j (hj : j < Tb.prs.length), j < i + 1 → ((Tb.prs[j]'hj).2.2 == r && r != 0) = false) := Lib.hid fun j hj h1 => by
                  by_cases e : j = i
                  · subst e
                    rw [HQ.out, hb1]
                    rfl
                  · exact HN.out j hj (by omega)
                have hb2 : (q2 != 0) = true := by simpa using hz0
                go_wp2_with fail
                go_round
                case rel => exact ⟨i + 1, by omega, by go_num, HW⟩
                case measure => simp [intOf] <;> omega
          · obtain rfl : i = 73 := by omega
            have hzz : Hid (z = false) := Lib.hid (by
              rw [hs.out, List.any_eq_false]
              intro x hx
              obtain ⟨j, hj, rfl⟩ := List.getElem_of_mem hx
              rw [HN.out j hj (by rw [prs_len] at hj; exact hj)]
              simp)
            go_wp2_with fail
            go_ret
            exact ⟨by rw [hzz.out]; rfl, hB⟩
def apB : List Int → Bool
  | [] => true
  | x :: _ => Tb.classI x == 0 && !Tb.isSec x
def apF (s : ByteArray) : Bool := match Ut.scal (Ut.bsL s) with | some L => apB L | none => false
theorem rapart_any (s : ByteArray) (hs : s.size ≤ 100000) (w : World) : Calls Try.prog 16 #[.string s] w (IsBool (apF s) w) := by
  have C := rscalars_any s hs w
  unfold ScPost at C
  unfold apF
  have hb0 : Below w.heap.size w w := Below.refl _ _
  cases h : Ut.scal (Ut.bsL s) with
  | none =>
    rw [h] at C
    simp only
    go_enter Try.func16, Try.ntmps16
    go_wp2_with (go_at_call 17; refine C.mono ?_; rintro e w1 ⟨rfl, hb1⟩)
    go_ret
    exact ⟨rfl, hb1⟩
  | some L =>
    rw [h] at C
    simp only
    clear h
    cases L with
    | nil =>
      go_enter Try.func16, Try.ntmps16
      go_wp2_with (go_at_call 17; refine C.mono ?_; rintro e w1 ⟨⟨v1, rfl, ho1⟩, hb1⟩; obtain ⟨p1, cc1, rfl, hr1⟩ := nown_rowp ho1; have HR1 := Lib.hid hr1; clear ho1 hr1)
      go_ret
      exact ⟨rfl, hb1⟩
    | cons x t =>
      show Calls _ _ _ _ (IsBool (Tb.classI x == 0 && !Tb.isSec x) w)
      have c2 := rclass_any x
      have c3 := rsecond_any x
      obtain ⟨n, hn⟩ : ∃ n, (x :: t).length = n := ⟨_, rfl⟩
      have hpos : 0 < n := by rw [← hn]; simp
      have ii : (0 : Int) < (n : Int) := by omega
      have iz : ((n : Int) == 0) = false := by simp; omega
      have HN := Lib.hid hn
      clear hn
      have hw0 : w.heap.size ≤ w.heap.size := Nat.le_refl _
      generalize Tb.classI x = cx at *
      generalize Tb.isSec x = sx at *
      by_cases hc0 : cx = 0
      · subst hc0
        go_enter Try.func16, Try.ntmps16
        go_wp2_with (first | (go_at_call 17; refine C.mono ?_; rintro e w1 ⟨⟨v1, rfl, ho1⟩, hb1⟩; obtain ⟨p1, cc1, rfl, hr1⟩ := nown_rowp ho1; rw [HN.out] at *; obtain ⟨g1, o1, hcl⟩ := row_cells hr1; obtain ⟨hp, hci⟩ := hcl 0 (by simp); subst hp; have hcx : w1.cell? ⟨g1, o1, none⟩ = some (.int .i64 x) := hci; clear ho1 hr1 hcl hci) | (go_at_call 18; refine (c2 _).mono ?_; rintro e w2 ⟨rfl, rfl⟩) | (go_at_call 30; refine (c3 _).mono ?_; rintro e w3 ⟨rfl, hb3⟩))
        go_ret
        exact ⟨rfl, hb1.trans (hb3.mono hb1.size)⟩
      · have hc1 : (cx == 0) = false := by simpa using hc0
        go_enter Try.func16, Try.ntmps16
        go_wp2_with (first | (go_at_call 17; refine C.mono ?_; rintro e w1 ⟨⟨v1, rfl, ho1⟩, hb1⟩; obtain ⟨p1, cc1, rfl, hr1⟩ := nown_rowp ho1; rw [HN.out] at *; obtain ⟨g1, o1, hcl⟩ := row_cells hr1; obtain ⟨hp, hci⟩ := hcl 0 (by simp); subst hp; have hcx : w1.cell? ⟨g1, o1, none⟩ = some (.int .i64 x) := hci; clear ho1 hr1 hcl hci) | (go_at_call 18; refine (c2 _).mono ?_; rintro e w2 ⟨rfl, rfl⟩))
        go_ret
        rw [hc1]
        exact ⟨rfl, hb1⟩
end Go.Proofs.Ytmpoeeioeimmfaa
