/- The walk of the document's Clock. -/
import Derived.Test.YtcdnjaefijjliaaStI
namespace Go.Proofs.Ytcdnjaefijjliaa
open Go.RowKit
open Go
set_option linter.unusedVariables false
theorem dg2 (s : ByteArray) (a : Nat) (hs : s.size ≤ 1000) (ha : a ≤ 1000) (b : Bool) (hb : Sm.d2 s a = b) (w : World) : Calls Try.prog 26 #[.string s, .int .i64 a, .int .i64 2] w (fun e w' => e = .returned (.tuple #[.int .i64 (bif b then Sm.n2 s a else 0), .bool b]) ∧ w = w') := by
  have := dig2 s a hs ha w
  rw [hb] at this
  cases b <;> exact this
theorem dg4 (s : ByteArray) (a : Nat) (hs : s.size ≤ 1000) (ha : a ≤ 1000) (b : Bool) (hb : Sm.d4 s a = b) (w : World) : Calls Try.prog 26 #[.string s, .int .i64 a, .int .i64 4] w (fun e w' => e = .returned (.tuple #[.int .i64 (bif b then Sm.n4 s a else 0), .bool b]) ∧ w = w') := by
  have := dig4 s a hs ha w
  rw [hb] at this
  cases b <;> exact this
theorem clk_no (s : ByteArray) (h : ¬ (Sm.hmB s = true ∧ Sm.n2 s 0 ≤ 23 ∧ Sm.n2 s 3 ≤ 59)) : Sm.clkF s = (0, 0, 0, 0, false) := by unfold Sm.clkF; rw [if_neg h]
theorem rclk_ret (tmps : Array Value) (W w : World) (h m x n : Int) (ok : Bool) (h2 : tmps[2]?.getD undef = .pointer (some ⟨w.heap.size, 0, none⟩)) (h3 : tmps[3]?.getD undef = .int .i64 n) (h4 : tmps[4]?.getD undef = .bool ok)
    (hc : CB w W (.int .i64 h) (.int .i64 m) (.int .i64 x)) (Q : Ending → World → Prop) (hQ : Below w.heap.size w W → Q (.returned (.tuple #[clkV h m x, .int .i64 n, .bool ok])) W) :
    bodyPost Try.prog Try.f17 Q Exit.ret ⟨tmps, []⟩ W := by
  obtain ⟨⟨k0, k1, k2, k3, k4, k5⟩, _, _, hb⟩ := hc
  exact bodyPost_ret (v := .tuple #[clkV h m x, .int .i64 n, .bool ok]) (by unfold clkV; simp [results, go_sem, h2, h3, h4, k0, k1, k2, k3, k4, k5]) rfl (hQ hb)
theorem CB.alloc {w W : World} {v3 v4 v5 : Value} (h : CB w W v3 v4 v5) (o : Obj) : CB w (W.alloc o) v3 v4 v5 := h.step ((Below.refl _ _).alloc (Nat.le_refl _) o)
theorem CB.new (w : World) (t : TypeId) (v3 v4 v5 : Value) : CB w (w.alloc (.cells #[.int .i64 0, .int .i64 0, .int .i64 0, v3, v4, v5] t)) v3 v4 v5 :=
  ⟨⟨by simp, by simp, by simp, by simp, by simp, by simp⟩, fun o => by simp, by simp, bbox (Below.refl _ _) _⟩
set_option maxHeartbeats 2000000 in
theorem rclock_any (s : ByteArray) (hs : s.size ≤ 1000) (w : World) : Calls Try.prog 17 #[.string s] w (ClkPost (Sm.clkF s) w) := by
  obtain ⟨a, ha⟩ : ∃ a, Sm.d2 s 0 = a := ⟨_, rfl⟩
  obtain ⟨b, hb⟩ : ∃ a, Sm.d2 s 3 = a := ⟨_, rfl⟩
  obtain ⟨c, hc⟩ : ∃ a, decide (Sm.B s 2 = 58) = a := ⟨_, rfl⟩
  have D0 := fun w => dg2 s 0 hs (by omega) a ha w
  have D3 := fun w => dg2 s 3 hs (by omega) b hb w
  have I2 := fun w => is_any s 2 58 hs (by omega) c hc w
  have hhm : Sm.hmB s = (a && c && b) := by unfold Sm.hmB; rw [ha, hb, hc]
  have NO := Lib.hid (clk_no s)
  obtain ⟨res, hres⟩ : ∃ r, Sm.clkF s = r := ⟨_, rfl⟩
  have HRES := Lib.hid hres
  rw [hres]
  clear hres
  have HHM := Lib.hid hhm
  clear hhm
  go_enter Try.func17, Try.ntmps17
  go_wp2_with fail
  refine (D0 _).mono ?_
  rintro e w1 ⟨rfl, rfl⟩
  clear D0
  go_wp2_with fail
  refine (D3 _).mono ?_
  rintro e w1 ⟨rfl, rfl⟩
  clear D3
  cases a
  · go_wp2_with fail
    refine rclk_ret _ _ w 0 0 0 0 false rfl rfl rfl (CB.new w _ _ _ _) _ (fun hb => ?_)
    rw [show res = (0, 0, 0, 0, false) by rw [← HRES.out]; exact NO.out (fun k => by rw [HHM.out] at k; simp at k)]
    exact ⟨rfl, hb⟩
  cases b
  · go_wp2_with fail
    refine rclk_ret _ _ w 0 0 0 0 false rfl rfl rfl (CB.new w _ _ _ _) _ (fun hb => ?_)
    rw [show res = (0, 0, 0, 0, false) by rw [← HRES.out]; exact NO.out (fun k => by rw [HHM.out] at k; simp at k)]
    exact ⟨rfl, hb⟩
  go_wp2_with fail
  refine (I2 _).mono ?_
  rintro e w1 ⟨rfl, rfl⟩
  clear I2
  cases c
  · go_wp2_with fail
    refine rclk_ret _ _ w 0 0 0 0 false rfl rfl rfl (CB.new w _ _ _ _) _ (fun hb => ?_)
    rw [show res = (0, 0, 0, 0, false) by rw [← HRES.out]; exact NO.out (fun k => by rw [HHM.out] at k; simp at k)]
    exact ⟨rfl, hb⟩
  by_cases h23 : 23 < Sm.n2 s 0
  · go_wp2_with fail
    refine rclk_ret _ _ w 0 0 0 0 false rfl rfl rfl (CB.new w _ _ _ _) _ (fun hb => ?_)
    rw [show res = (0, 0, 0, 0, false) by rw [← HRES.out]; exact NO.out (fun k => by omega)]
    exact ⟨rfl, hb⟩
  by_cases h59 : 59 < Sm.n2 s 3
  · go_wp2_with fail
    refine rclk_ret _ _ w 0 0 0 0 false rfl rfl rfl (CB.new w _ _ _ _) _ (fun hb => ?_)
    rw [show res = (0, 0, 0, 0, false) by rw [← HRES.out]; exact NO.out (fun k => by omega)]
    exact ⟨rfl, hb⟩
  have yes : res = if Sm.seB s = true ∧ Sm.n2 s 6 ≤ 59 then (Sm.n2 s 0, Sm.n2 s 3, Sm.n2 s 6, Sm.endN s, true) else (Sm.n2 s 0, Sm.n2 s 3, 0, 5, true) := by
    rw [← HRES.out]; unfold Sm.clkF; rw [if_pos ⟨by rw [HHM.out]; rfl, by omega, by omega⟩]
  obtain ⟨a6, ha6⟩ : ∃ a, Sm.d2 s 6 = a := ⟨_, rfl⟩
  obtain ⟨c5, hc5⟩ : ∃ a, decide (Sm.B s 5 = 58) = a := ⟨_, rfl⟩
  have D6 := fun w => dg2 s 6 hs (by omega) a6 ha6 w
  have I5 := fun w => is_any s 5 58 hs (by omega) c5 hc5 w
  have hse : Sm.seB s = (c5 && a6) := by unfold Sm.seB; rw [ha6, hc5]
  rw [hse] at yes
  have YES := Lib.hid yes
  clear yes hse ha6 hc5 NO HRES HHM
  generalize Sm.n2 s 0 = hr at *
  generalize Sm.n2 s 3 = mi at *
  generalize Sm.n2 s 6 = se at *
  go_wp2_with fail
  refine (D6 _).mono ?_
  rintro e w1 ⟨rfl, rfl⟩
  clear D6
  cases a6
  · go_wp2_with fail
    refine rclk_ret _ _ w hr mi 0 5 true rfl rfl rfl ?_ _ (fun hb => ?_)
    · with_reducible exact (CB.new w _ _ _ _).alloc _
    rw [show res = (hr, mi, 0, 5, true) by rw [YES.out]; simp]
    exact ⟨rfl, hb⟩
  go_wp2_with fail
  refine (I5 _).mono ?_
  rintro e w1 ⟨rfl, rfl⟩
  clear I5
  cases c5
  · go_wp2_with fail
    refine rclk_ret _ _ w hr mi 0 5 true rfl rfl rfl ?_ _ (fun hb => ?_)
    · with_reducible exact (CB.new w _ _ _ _).alloc _
    rw [show res = (hr, mi, 0, 5, true) by rw [YES.out]; simp]
    exact ⟨rfl, hb⟩
  by_cases hx59 : 59 < se
  · go_wp2_with fail
    refine rclk_ret _ _ w hr mi 0 5 true rfl rfl rfl ?_ _ (fun hb => ?_)
    · with_reducible exact (CB.new w _ _ _ _).alloc _
    rw [show res = (hr, mi, 0, 5, true) by rw [YES.out, if_neg (by omega)]]
    exact ⟨rfl, hb⟩
  have YES := Lib.hid (show res = (hr, mi, se, Sm.endN s, true) from by rw [YES.out, if_pos ⟨rfl, by omega⟩])
  obtain ⟨d9, hd9⟩ : ∃ a, Sm.dig s 9 = a := ⟨_, rfl⟩
  obtain ⟨c8, hc8⟩ : ∃ a, decide (Sm.B s 8 = 46) = a := ⟨_, rfl⟩
  have D9 := fun w => dig1 s 9 hs (by omega) w
  unfold DigPost at D9
  rw [hd9] at D9
  have I8 := fun w => is_any s 8 46 hs (by omega) c8 hc8 w
  generalize Sm.numA s 9 1 = xx at D9
  have E := Lib.hid hd9
  have F := Lib.hid hc8
  clear hd9 hc8
  have e8 : c8 = false ∨ d9 = false → res = (hr, mi, se, 8, true) := fun q => by
    rw [YES.out]; unfold Sm.endN
    rw [if_neg]
    rintro ⟨k1, k2⟩
    have f := F.out
    have e := E.out
    rcases q with q | q
    · rw [q] at f; exact (decide_eq_false_iff_not.1 f) k1
    · rw [q, k2] at e; cases e
  have E8 := Lib.hid e8
  clear e8
  cases d9
  · go_wp2_with fail
    refine (D9 _).mono ?_
    rintro e w1 ⟨rfl, rfl⟩
    go_wp2_with fail
    refine (I8 _).mono ?_
    rintro e w1 ⟨rfl, rfl⟩
    cases c8
    · go_wp2_with fail
      refine rclk_ret _ _ w hr mi se 8 true rfl rfl rfl ?_ _ (fun hb => ?_)
      · with_reducible exact (CB.new w _ _ _ _).alloc _
      rw [show res = (hr, mi, se, 8, true) from E8.out (by simp)]
      exact ⟨rfl, hb⟩
    · go_wp2_with fail
      refine rclk_ret _ _ w hr mi se 8 true rfl rfl rfl ?_ _ (fun hb => ?_)
      · with_reducible exact (CB.new w _ _ _ _).alloc _
      rw [show res = (hr, mi, se, 8, true) from E8.out (by simp)]
      exact ⟨rfl, hb⟩
  · go_wp2_with fail
    refine (D9 _).mono ?_
    rintro e w1 ⟨rfl, rfl⟩
    go_wp2_with fail
    refine (I8 _).mono ?_
    rintro e w1 ⟨rfl, rfl⟩
    clear D9 I8
    cases c8
    · go_wp2_with fail
      refine rclk_ret _ _ w hr mi se 8 true rfl rfl rfl ?_ _ (fun hb => ?_)
      · with_reducible exact (CB.new w _ _ _ _).alloc _
      rw [show res = (hr, mi, se, 8, true) from E8.out (by simp)]
      exact ⟨rfl, hb⟩
    · have h9s := Sm.dig_in E.out
      go_wp2_with fail
      go_loop [12] (fun k => ∃ j : Nat, 9 ≤ j ∧ j ≤ s.size ∧ k = .int .i64 (j : Int) ∧ (∀ i, 9 ≤ i → i < j → Sm.dig s i = true)) (fun k => s.size - (intOf k).toNat)
      case atStart => exact ⟨9, by omega, by omega, rfl, fun i a b => by omega⟩
      case round =>
        obtain ⟨j, h9j, hj, rfl, hr'⟩ := hrel
        have HR := Lib.hid hr'
        clear hr'
        have fin : ∀ hd : Sm.dig s j = false, res = (hr, mi, se, j, true) := fun hd => by
          rw [YES.out]
          by_cases e : j = 9
          · subst e; rw [E.out] at hd; cases hd
          · rw [Sm.endN_exit s j (by have := F.out; simpa using this) (by omega) hj HR.out hd]
        have FIN := Lib.hid fin
        clear fin
        by_cases hlt : j < s.size
        · have hidx := byte_at s j hlt
          have hlt' : (j : Int) < s.size := by omega
          obtain ⟨c, hc⟩ : ∃ c : Int, c = (Sm.B s j : Int) := ⟨_, rfl⟩
          rw [← hc] at hidx
          have HC := Lib.hid hc
          clear hc
          by_cases h1 : c < 48
          · have h1' : ¬ (48 ≤ c) := by omega
            go_wp2_with fail
            refine rclk_ret _ _ w hr mi se j true rfl rfl rfl ?_ _ (fun hb => ?_)
            · with_reducible exact (CB.new w _ _ _ _).alloc _
            rw [show res = (hr, mi, se, j, true) from FIN.out (by have := HC.out; unfold Sm.dig; simp; omega)]
            exact ⟨rfl, hb⟩
          · have h1' : 48 ≤ c := by omega
            by_cases h2 : 57 < c
            · have h2' : ¬ (c ≤ 57) := by omega
              go_wp2_with fail
              refine rclk_ret _ _ w hr mi se j true rfl rfl rfl ?_ _ (fun hb => ?_)
              · with_reducible exact (CB.new w _ _ _ _).alloc _
              rw [show res = (hr, mi, se, j, true) from FIN.out (by have := HC.out; unfold Sm.dig; simp; omega)]
              exact ⟨rfl, hb⟩
            · have h2' : c ≤ 57 := by omega
              go_wp2_with fail
              go_round
              case rel =>
                refine ⟨j + 1, by omega, by omega, by push_cast; try go_num, fun i a b => ?_⟩
                by_cases e : i = j
                · subst e; have := HC.out; unfold Sm.dig; simp; omega
                · exact HR.out i a (by omega)
              case measure => simp [intOf]; omega
        · have hd : Sm.dig s j = false := Sm.dig_out s j (by omega)
          have hlt' : ¬ (j : Int) < s.size := by omega
          go_wp2_with fail
          refine rclk_ret _ _ w hr mi se j true rfl rfl rfl ?_ _ (fun hb => ?_)
          · with_reducible exact (CB.new w _ _ _ _).alloc _
          rw [show res = (hr, mi, se, j, true) from FIN.out hd]
          exact ⟨rfl, hb⟩
end Go.Proofs.Ytcdnjaefijjliaa
