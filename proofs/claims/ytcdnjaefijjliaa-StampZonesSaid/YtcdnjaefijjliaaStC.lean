/- The walk of the stamp's Clock. -/
import Derived.Test.YtcdnjaefijjliaaStA
import Derived.Test.YtcdnjaefijjliaaCivD
import Derived.BigRegion
import Derived.Deep.RegionWith
import Derived.Deep.RegionHeld3
namespace Go.Proofs.Ytcdnjaefijjliaa
open Go.RowKit
open Go
set_option linter.unusedVariables false
/-- A time of the day as a value. -/
def clkV (h m x : Int) : Value := .agg #[.int .i64 0, .int .i64 0, .int .i64 0, .int .i64 h, .int .i64 m, .int .i64 x]
/-- What a contract of Clock says. -/
def ClkPost (r : Int × Int × Int × Nat × Bool) (w : World) (e : Ending) (w' : World) : Prop := e = .returned (.tuple #[clkV r.1 r.2.1 r.2.2.1, .int .i64 r.2.2.2.1, .bool r.2.2.2.2]) ∧ Below w.heap.size w w'
theorem fm (s a : ByteArray) (b : Bool) (hb : Sm.formB s a = b) (ha : a.size ≤ 1000) (w : World) : Calls Try.prog 24 #[.string s, .string a] w (fun e w' => e = .returned (.bool b) ∧ Below w.heap.size w w') := by
  subst hb; exact form_any s a ha w
theorem nm2 (s : ByteArray) (a b : Nat) (hb : b = a + 2) (h : Sm.d2 s a = true) (w : World) : Calls Try.prog 28 #[.string (s.extract a b)] w (fun e w' => e = .returned (.int .i64 (Sm.n2 s a)) ∧ Below w.heap.size w w') := by
  subst hb
  obtain ⟨h1, h2⟩ := Sm.num_d2 h
  have := number_any (s.extract a (a + 2)) (by omega) w
  rw [h1, h2] at this; exact this
/-- The box of Clock's answer. -/
def CB (w W : World) (v3 v4 v5 : Value) : Prop := Six W w.heap.size (.int .i64 0) (.int .i64 0) (.int .i64 0) v3 v4 v5 ∧ (∀ o, W.frozen? ⟨w.heap.size, o, none⟩ = false) ∧ w.heap.size < W.heap.size ∧ Below w.heap.size w W
theorem CB.first (w : World) (t : TypeId) : CB w (w.alloc (.cells #[.int .i64 0, .int .i64 0, .int .i64 0, .int .i64 0, .int .i64 0, .int .i64 0] t)) (.int .i64 0) (.int .i64 0) (.int .i64 0) :=
  ⟨⟨by simp, by simp, by simp, by simp, by simp, by simp⟩, fun o => by simp, by simp, bbox (Below.refl _ _) _⟩
theorem CB.drew {w W : World} {v3 v4 v5 : Value} (h : CB w W v3 v4 v5) : CB w W.drew v3 v4 v5 := ⟨h.1, h.2.1, h.2.2.1, h.2.2.2.drew⟩
theorem CB.step {w W W' : World} {v3 v4 v5 : Value} (h : CB w W v3 v4 v5) (hb : Below W.heap.size W W') : CB w W' v3 v4 v5 := by
  obtain ⟨⟨q0, q1, q2, q3, q4, q5⟩, hf, hz, hB⟩ := h
  exact ⟨⟨(hb.cell (p := ⟨w.heap.size, 0, none⟩) hz).trans q0, (hb.cell (p := ⟨w.heap.size, 1, none⟩) hz).trans q1, (hb.cell (p := ⟨w.heap.size, 2, none⟩) hz).trans q2, (hb.cell (p := ⟨w.heap.size, 3, none⟩) hz).trans q3, (hb.cell (p := ⟨w.heap.size, 4, none⟩) hz).trans q4, (hb.cell (p := ⟨w.heap.size, 5, none⟩) hz).trans q5⟩,
    fun o => (hb.frozen (p := ⟨w.heap.size, o, none⟩) hz).trans (hf o), Nat.lt_of_lt_of_le hz hb.size, bn hB hb⟩
theorem CB.stepd {w W W' : World} {v3 v4 v5 : Value} (h : CB w W v3 v4 v5) (hb : Below W.drew.heap.size W.drew W') : CB w W' v3 v4 v5 := h.drew.step hb
theorem CB.s3 {w W : World} {v3 v4 v5 : Value} (h : CB w W v3 v4 v5) (x : Value) : CB w (W.setCell ⟨w.heap.size, 3, none⟩ x) x v4 v5 := ⟨h.1.s3 x, fun o => by rw [World.frozen?_setCell]; exact h.2.1 o, by simpa using h.2.2.1, h.2.2.2.setCell (Nat.le_refl _) _⟩
theorem CB.s4 {w W : World} {v3 v4 v5 : Value} (h : CB w W v3 v4 v5) (x : Value) : CB w (W.setCell ⟨w.heap.size, 4, none⟩ x) v3 x v5 := ⟨h.1.s4 x, fun o => by rw [World.frozen?_setCell]; exact h.2.1 o, by simpa using h.2.2.1, h.2.2.2.setCell (Nat.le_refl _) _⟩
theorem CB.s5 {w W : World} {v3 v4 v5 : Value} (h : CB w W v3 v4 v5) (x : Value) : CB w (W.setCell ⟨w.heap.size, 5, none⟩ x) v3 v4 x := ⟨h.1.s5 x, fun o => by rw [World.frozen?_setCell]; exact h.2.1 o, by simpa using h.2.2.1, h.2.2.2.setCell (Nat.le_refl _) _⟩
theorem CB.all {w W : World} {v3 v4 v5 : Value} (h : CB w W v3 v4 v5) (x3 x4 x5 : Value) : CB w ((((((W.setCell ⟨w.heap.size, 0, none⟩ (.int .i64 0)).setCell ⟨w.heap.size, 1, none⟩ (.int .i64 0)).setCell ⟨w.heap.size, 2, none⟩ (.int .i64 0)).setCell ⟨w.heap.size, 3, none⟩ x3).setCell ⟨w.heap.size, 4, none⟩ x4).setCell ⟨w.heap.size, 5, none⟩ x5) x3 x4 x5 := by
  have h3 : CB w (((W.setCell ⟨w.heap.size, 0, none⟩ (.int .i64 0)).setCell ⟨w.heap.size, 1, none⟩ (.int .i64 0)).setCell ⟨w.heap.size, 2, none⟩ (.int .i64 0)) v3 v4 v5 :=
    ⟨((h.1.s0 _).s1 _).s2 _, fun o => by rw [World.frozen?_setCell, World.frozen?_setCell, World.frozen?_setCell]; exact h.2.1 o, by simpa using h.2.2.1, ((h.2.2.2.setCell (Nat.le_refl _) _).setCell (Nat.le_refl _) _).setCell (Nat.le_refl _) _⟩
  exact ((h3.s3 x3).s4 x4).s5 x5
theorem clk_ret (tmps : Array Value) (W w : World) (h m x n : Int) (ok : Bool) (h2 : tmps[2]?.getD undef = .pointer (some ⟨w.heap.size, 0, none⟩)) (h3 : tmps[3]?.getD undef = .int .i64 n) (h4 : tmps[4]?.getD undef = .bool ok)
    (hc : CB w W (.int .i64 h) (.int .i64 m) (.int .i64 x)) (Q : Ending → World → Prop) (hQ : Below w.heap.size w W → Q (.returned (.tuple #[clkV h m x, .int .i64 n, .bool ok])) W) :
    bodyPost Try.prog Try.f16 Q Exit.ret ⟨tmps, []⟩ W := by
  obtain ⟨⟨k0, k1, k2, k3, k4, k5⟩, _, _, hb⟩ := hc
  exact bodyPost_ret (v := .tuple #[clkV h m x, .int .i64 n, .bool ok]) (by unfold clkV; simp [results, go_sem, h2, h3, h4, k0, k1, k2, k3, k4, k5]) rfl (hQ hb)
set_option maxHeartbeats 1000000 in
theorem clock_lo (s : ByteArray) (h : s.size < 5) (w : World) : Calls Try.prog 16 #[.string s] w (ClkPost (0, 0, 0, 0, false) w) := by
  have h' : (s.size : Int) < 5 := by omega
  go_enter Try.func16, Try.ntmps16
  go_wp2_with fail
  exact clk_ret _ _ w 0 0 0 0 false rfl rfl rfl (CB.first w _) _ (fun hb => ⟨rfl, hb⟩)
set_option maxHeartbeats 1000000 in
theorem clock_no (s : ByteArray) (h : 5 ≤ s.size) (hs : s.size ≤ 1000) (hh : Sm.hmB s = false) (w : World) : Calls Try.prog 16 #[.string s] w (ClkPost (0, 0, 0, 0, false) w) := by
  have h' : ¬ (s.size : Int) < 5 := by omega
  have h5 : (5 : Int) ≤ s.size := by omega
  go_enter Try.func16, Try.ntmps16
  go_wp2_with fail
  refine (fm _ _ false ((Sm.form_hm s h).trans hh) (by decide) _).mono ?_
  rintro e w1 ⟨rfl, hb1⟩
  have hc := (CB.first w _).step hb1
  obtain ⟨⟨q0, q1, q2, q3, q4, q5⟩, hf, hz, hB⟩ := id hc
  go_wp2_with fail
  exact clk_ret _ _ w 0 0 0 0 false rfl rfl rfl (hc.all _ _ _) _ (fun hb => ⟨rfl, hb⟩)
set_option maxHeartbeats 6000000 in
theorem clock_yes (s : ByteArray) (h : 5 ≤ s.size) (hs : s.size ≤ 1000) (hh : Sm.hmB s = true) (w : World) : Calls Try.prog 16 #[.string s] w (ClkPost (Sm.clkF s) w) := by
  obtain ⟨d0, _, d3⟩ := (Sm.hmB_iff s).1 hh
  have h' : ¬ (s.size : Int) < 5 := by omega
  have h5 : (5 : Int) ≤ s.size := by omega
  have h2 : (2 : Int) ≤ s.size := by omega
  have C0 := fun w => nm2 s 0 2 rfl d0 w
  have C3 := fun w => nm2 s 3 5 rfl d3 w
  have F : Sm.clkF s = if Sm.n2 s 0 ≤ 23 ∧ Sm.n2 s 3 ≤ 59 then (if Sm.seB s = true ∧ Sm.n2 s 6 ≤ 59 then (Sm.n2 s 0, Sm.n2 s 3, Sm.n2 s 6, Sm.endN s, true) else (Sm.n2 s 0, Sm.n2 s 3, 0, 5, true)) else (0, 0, 0, 0, false) := by unfold Sm.clkF; simp only [hh, true_and]
  generalize Sm.clkF s = res at *
  have HF := Lib.hid F
  clear F
  go_enter Try.func16, Try.ntmps16
  go_wp2_with fail
  refine (fm _ _ true ((Sm.form_hm s h).trans hh) (by decide) _).mono ?_
  rintro e w1 ⟨rfl, hb1⟩
  have hc := (CB.first w _).step hb1
  obtain ⟨⟨q0, q1, q2, q3, q4, q5⟩, hf, hz, hB⟩ := id hc
  generalize Sm.n2 s 0 = hr at *
  generalize Sm.n2 s 3 = mi at *
  have f3 := hf 3
  have f4 := hf 4
  clear hf hz hB q0 q1 q2 q5
  go_wp2_with fail
  go_region_held3 (fun _ => True) (trivial) (first | (go_at_call 28; (first | (with_reducible refine (C0 _).mono ?_) | (with_reducible refine (C3 _).mono ?_)); rintro e w' ⟨rfl, hb⟩; (first | (replace hc := CB.step hc hb) | (replace hc := CB.stepd hc hb)); have k3 := hc.1.2.2.2.1; have k4 := hc.1.2.2.2.2.1; have f3 := hc.2.1 3; have f4 := hc.2.1 4))
  replace hc := (hc.s3 (.int .i64 hr)).s4 (.int .i64 mi)
  generalize ((w'.setCell ⟨w.heap.size, 3, none⟩ (.int .i64 hr)).setCell ⟨w.heap.size, 4, none⟩ (.int .i64 mi)) = W3 at *
  clear hb k3 k4 f3 f4
  obtain ⟨⟨q0, q1, q2, q3, q4, q5⟩, hf, hz, hB⟩ := id hc
  by_cases h23 : 23 < hr
  · go_wp2_with fail
    refine clk_ret _ _ w 0 0 0 0 false rfl rfl rfl (hc.all _ _ _) _ (fun hb => ?_)
    rw [show res = (0, 0, 0, 0, false) by rw [HF.out, if_neg (by omega)]]
    exact ⟨rfl, hb⟩
  by_cases h59 : 59 < mi
  · go_wp2_with fail
    refine clk_ret _ _ w 0 0 0 0 false rfl rfl rfl (hc.all _ _ _) _ (fun hb => ?_)
    rw [show res = (0, 0, 0, 0, false) by rw [HF.out, if_neg (by omega)]]
    exact ⟨rfl, hb⟩
  have HF := Lib.hid (show res = if Sm.seB s = true ∧ Sm.n2 s 6 ≤ 59 then (hr, mi, Sm.n2 s 6, Sm.endN s, true) else (hr, mi, 0, 5, true) from by rw [HF.out, if_pos (by omega)])
  by_cases h8 : (s.size : Int) < 8
  · go_wp2_with fail
    refine clk_ret _ _ w hr mi 0 5 true rfl rfl rfl (hc.all _ _ _) _ (fun hb => ?_)
    rw [show res = (hr, mi, 0, 5, true) by rw [HF.out, if_neg (fun k => by have := Sm.se_size k.1; omega)]]
    exact ⟨rfl, hb⟩
  have h88 : (8 : Int) ≤ s.size := by omega
  cases hse : Sm.seB s
  · go_wp2_with fail
    refine (fm _ _ false ((Sm.form_se s (by omega)).trans hse) (by decide) _).mono ?_
    rintro e w4 ⟨rfl, hb4⟩
    have hc := hc.step hb4
    clear hb4 q0 q1 q2 q3 q4 q5 hf hz hB
    obtain ⟨⟨q0, q1, q2, q3, q4, q5⟩, hf, hz, hB⟩ := id hc
    go_wp2_with fail
    refine clk_ret _ _ w hr mi 0 5 true rfl rfl rfl (hc.all _ _ _) _ (fun hb => ?_)
    rw [show res = (hr, mi, 0, 5, true) by rw [HF.out, if_neg (fun k => by rw [hse] at k; cases k.1)]]
    exact ⟨rfl, hb⟩
  have d6 := ((Sm.seB_iff s).1 hse).2
  have C6 := fun w => nm2 s 6 8 rfl d6 w
  go_wp2_with fail
  refine (fm _ _ true ((Sm.form_se s (by omega)).trans hse) (by decide) _).mono ?_
  rintro e w4 ⟨rfl, hb4⟩
  replace hc := hc.step hb4
  clear hb4 q0 q1 q2 q3 q4 q5 hf hz hB
  obtain ⟨⟨q0, q1, q2, q3, q4, q5⟩, hf, hz, hB⟩ := id hc
  have HF := Lib.hid (show res = if Sm.n2 s 6 ≤ 59 then (hr, mi, Sm.n2 s 6, Sm.endN s, true) else (hr, mi, 0, 5, true) from by rw [HF.out]; simp only [hse, true_and])
  generalize Sm.n2 s 6 = se at *
  go_wp2_with fail
  refine (C6 _).mono ?_
  rintro e w5 ⟨rfl, hb5⟩
  replace hc := hc.step hb5
  clear hb5 q0 q1 q2 q3 q4 q5 hf hz hB
  obtain ⟨⟨q0, q1, q2, q3, q4, q5⟩, hf, hz, hB⟩ := id hc
  by_cases h59x : 59 < se
  · go_wp2_with fail
    refine clk_ret _ _ w hr mi 0 5 true rfl rfl rfl (hc.all _ _ _) _ (fun hb => ?_)
    rw [show res = (hr, mi, 0, 5, true) by rw [HF.out, if_neg (by omega)]]
    exact ⟨rfl, hb⟩
  have HF := Lib.hid (show res = (hr, mi, se, Sm.endN s, true) from by rw [HF.out, if_pos (by omega)])
  go_wp2_with fail
  refine (C6 _).mono ?_
  rintro e w6 ⟨rfl, hb6⟩
  replace hc := hc.step hb6
  clear hb6 q0 q1 q2 q3 q4 q5 hf hz hB
  obtain ⟨⟨q0, q1, q2, q3, q4, q5⟩, hf, hz, hB⟩ := id hc
  have hd6 := Sm.dig_in ((Sm.d2_iff s 6).1 d6).2
  by_cases h9 : 9 < (s.size : Int)
  · obtain ⟨p, hp⟩ : ∃ p : Int, p = (Sm.B s 8 : Int) := ⟨_, rfl⟩
    have hidx : ((s[8]'(by omega)).toNat : Int) = p := by rw [hp, Sm.B_at s 8 (by omega)]
    have HP := Lib.hid hp
    clear hp
    by_cases hdot : p = 46
    · subst hdot
      go_wp2_with fail
      go_loopw [3] (fun k wr => ∃ j : Nat, 9 ≤ j ∧ j ≤ s.size ∧ k = .int .i64 j ∧ (∀ i, 9 ≤ i → i < j → Sm.dig s i = true) ∧ CB w wr (.int .i64 hr) (.int .i64 mi) (.int .i64 se)) (fun k _ => s.size - (intOf k).toNat)
      case atStart => exact ⟨9, by omega, by omega, rfl, fun i a b => by omega, hc.s5 (.int .i64 se)⟩
      case round =>
        obtain ⟨j, h9j, hj, rfl, hr', hc⟩ := hrel
        have HR := Lib.hid hr'
        clear hr'
        obtain ⟨⟨q0, q1, q2, q3, q4, q5⟩, hf, hz, hB⟩ := id hc
        have fin : ∀ hd : Sm.dig s j = false, res = (hr, mi, se, (if j = 9 then 8 else j), true) := fun hd => by
          rw [HF.out]
          by_cases e : j = 9
          · subst e; rw [if_pos rfl, Sm.endN_9 s hd]
          · rw [if_neg e, Sm.endN_exit s j (by have := HP.out; omega) (by omega) hj HR.out hd]
        have FIN := Lib.hid fin
        clear fin
        by_cases hlt : j < s.size
        · have hlt' : (j : Int) + 1 ≤ s.size := by omega
          cases hd : Sm.dig s j
          · go_wp2_with fail
            refine (fm _ _ false ((Sm.form_one s j hlt).trans hd) (by decide) _).mono ?_
            rintro e w7 ⟨rfl, hb7⟩
            replace hc := hc.step hb7
            clear hb7 q0 q1 q2 q3 q4 q5 hf hz hB
            obtain ⟨⟨q0, q1, q2, q3, q4, q5⟩, hf, hz, hB⟩ := id hc
            by_cases e : j = 9
            · subst e
              go_wp2_with fail
              refine clk_ret _ _ w hr mi se 8 true rfl rfl rfl (hc.all _ _ _) _ (fun hb => ?_)
              rw [FIN.out hd]
              exact ⟨rfl, hb⟩
            · have e' : ¬ ((j : Int) = 9) := by omega
              go_wp2_with fail
              refine clk_ret _ _ w hr mi se j true rfl rfl rfl (hc.all _ _ _) _ (fun hb => ?_)
              rw [FIN.out hd, if_neg e]
              exact ⟨rfl, hb⟩
          · go_wp2_with fail
            refine (fm _ _ true ((Sm.form_one s j hlt).trans hd) (by decide) _).mono ?_
            rintro e w7 ⟨rfl, hb7⟩
            replace hc := hc.step hb7
            go_wp2_with fail
            go_roundw
            case rel =>
              refine ⟨j + 1, by omega, by omega, by go_num, fun i a b => ?_, hc⟩
              by_cases e : i = j
              · subst e; exact hd
              · exact HR.out i a (by omega)
            case measure => simp [intOf]; omega
        · have hd : Sm.dig s j = false := Sm.dig_out s j (by omega)
          have e : ¬ j = 9 := by omega
          have e' : ¬ ((j : Int) = 9) := by omega
          go_wp2_with fail
          refine clk_ret _ _ w hr mi se j true rfl rfl rfl (hc.all _ _ _) _ (fun hb => ?_)
          rw [FIN.out hd, if_neg e]
          exact ⟨rfl, hb⟩
    · have hdot' : (p == 46) = false := by simpa using hdot
      go_wp2_with fail
      refine clk_ret _ _ w hr mi se 8 true rfl rfl rfl ((hc.s5 (.int .i64 se)).all _ _ _) _ (fun hb => ?_)
      rw [show res = (hr, mi, se, 8, true) by rw [HF.out]; unfold Sm.endN; rw [if_neg (fun k => hdot (by have := HP.out; omega))]]
      exact ⟨rfl, hb⟩
  · go_wp2_with fail
    refine clk_ret _ _ w hr mi se 8 true rfl rfl rfl ((hc.s5 (.int .i64 se)).all _ _ _) _ (fun hb => ?_)
    rw [show res = (hr, mi, se, 8, true) by rw [HF.out]; unfold Sm.endN; rw [if_neg (fun k => by have := Sm.dig_in k.2; omega)]]
    exact ⟨rfl, hb⟩
end Go.Proofs.Ytcdnjaefijjliaa
