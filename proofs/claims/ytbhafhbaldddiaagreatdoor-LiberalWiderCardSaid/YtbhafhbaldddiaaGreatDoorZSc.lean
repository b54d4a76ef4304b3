/- The walks of the document's stamp: digits, is. The walk of the document's Clock. The walk of the document's Zone. -/
import Derived.Test.YtbhafhbaldddiaaGreatDoorZSa
import Derived.Test.YtbhafhbaldddiaaGreatDoorZA
import Derived.Test.YtbhafhbaldddiaaGreatDoorZSb
namespace Go.Proofs.YtbhafhbaldddiaaGreatDoor
open Go.RowKit
open Go
set_option linter.unusedVariables false
theorem sbyte_at (s : ByteArray) (i : Nat) (h : i < s.size) : ((s[i]'h).toNat : Int) = (Sm.B s i : Int) := by rw [Sm.B_at s i h]
set_option maxHeartbeats 1000000 in
theorem digits_out (s : ByteArray) (a n : Nat) (h : s.size < a + n) (ha : a ≤ 1000) (hn : n ≤ 4) (w : World) : Calls Tryz.prog 88 #[.string s, .int .i64 a, .int .i64 n] w (fun e w' => e = .returned (.tuple #[.int .i64 0, .bool false]) ∧ w = w') := by
  have h' : (s.size : Int) < a + n := by omega
  go_enter Tryz.func88, Tryz.ntmps88
  go_wp2
  go_ret2
  exact ⟨rfl, rfl⟩
set_option maxHeartbeats 1000000 in
theorem digits_in (s : ByteArray) (a n : Nat) (h : a + n ≤ s.size) (hs : s.size ≤ 1000) (hn : n ≤ 4) (b : Bool) (hb : (∀ i, i < n → Sm.dig s (a + i) = true) ↔ b = true) (w : World) : Calls Tryz.prog 88 #[.string s, .int .i64 a, .int .i64 n] w (fun e w' => e = .returned (.tuple #[.int .i64 (if b = true then Sm.numA s a n else 0), .bool b]) ∧ w = w') := by
  generalize hF : (if b = true then Sm.numA s a n else 0) = res
  have HF := Lib.hid hF
  have HB := Lib.hid hb
  clear hF hb
  have h' : ¬ (s.size : Int) < a + n := by omega
  go_enter Tryz.func88, Tryz.ntmps88
  go_wp2_with fail
  go_loop [8, 9] (fun x k => ∃ j : Nat, j ≤ n ∧ k = .int .i64 (((a + j : Nat) : Int)) ∧ x = .int .i64 (Sm.numA s a j) ∧ (∀ i, i < j → Sm.dig s (a + i) = true)) (fun _ k => a + n - (intOf k).toNat)
  case atStart => exact ⟨0, by omega, rfl, rfl, fun i h => by omega⟩
  case round =>
    obtain ⟨j, hj, rfl, rfl, hr⟩ := hrel
    obtain ⟨hx0, hx1⟩ := Sm.numA_small s a j (by omega) hr
    have HR := Lib.hid hr
    clear hr
    by_cases hlt : j < n
    · have hk : a + j < s.size := by omega
      have hidx := sbyte_at s (a + j) hk
      have hst : Sm.numA s a (j + 1) = Sm.numA s a j * 10 + Sm.v s (a + j) := rfl
      have HST := Lib.hid hst
      clear hst
      obtain ⟨c, hc⟩ : ∃ c : Int, c = (Sm.B s (a + j) : Int) := ⟨_, rfl⟩
      rw [← hc] at hidx
      have hlo : 0 ≤ c := by omega
      have hkk : ((a : Int) + j) < s.size := by omega
      have hkk0 : (0 : Int) ≤ (a : Int) + j := by omega
      have no : Sm.dig s (a + j) = false → res = 0 ∧ b = false := fun e => by
        have hb : b = false := by
          cases hq : b
          · rfl
          · exfalso
            have := (HB.out.2 hq) j hlt
            rw [e] at this; cases this
        refine ⟨?_, hb⟩
        rw [← HF.out, hb]; rfl
      have NO := Lib.hid no
      clear no
      have HC := Lib.hid hc
      clear hc
      by_cases h1 : c < 48
      · obtain ⟨e1, e2⟩ := NO.out (by have := HC.out; unfold Sm.dig; simp; omega)
        go_wp2
        go_ret2
        exact ⟨rfl, rfl⟩
      · by_cases h2 : 57 < c
        · obtain ⟨e1, e2⟩ := NO.out (by have := HC.out; unfold Sm.dig; simp; omega)
          go_wp2
          go_ret2
          exact ⟨rfl, rfl⟩
        · have hw : IntKind.u8.wrap (c - 48) = c - 48 := by simp [IntKind.wrap, IntKind.bits, IntKind.signed]; omega
          generalize hX : Sm.numA s a j = x at *
          have HX := Lib.hid hX
          clear hX
          go_wp2
          go_round
          case rel =>
            refine ⟨j + 1, by omega, by push_cast; try go_num, ?_, fun i hi => ?_⟩
            · rw [HST.out]; unfold Sm.v; rw [← HC.out]
            · by_cases e : i = j
              · subst e; have := HC.out; unfold Sm.dig; simp; omega
              · exact HR.out i (by omega)
          case measure => simp [intOf]; omega
    · obtain rfl : j = n := by omega
      go_wp2
      go_ret2
      rw [← HF.out, (HB.out.1 HR.out)]
      exact ⟨rfl, rfl⟩
/-- What 'digits' says. -/
def sDigPost (v : Int) (b : Bool) (w : World) (e : Ending) (w' : World) : Prop := e = .returned (.tuple #[.int .i64 (if b = true then v else 0), .bool b]) ∧ w = w'
theorem dig_any (s : ByteArray) (a n : Nat) (hs : s.size ≤ 1000) (ha : a ≤ 1000) (hn : n ≤ 4) (h0 : 0 < n) (b : Bool) (hb : (∀ i, i < n → Sm.dig s (a + i) = true) ↔ b = true) (w : World) : Calls Tryz.prog 88 #[.string s, .int .i64 a, .int .i64 n] w (sDigPost (Sm.numA s a n) b w) := by
  by_cases h : a + n ≤ s.size
  · exact digits_in s a n h hs hn b hb w
  · have hbf : b = false := by
      cases hq : b
      · rfl
      · exfalso
        have := Sm.dig_in ((hb.2 hq) (n - 1) (by omega))
        omega
    subst hbf
    exact digits_out s a n (by omega) ha hn w
theorem dig2 (s : ByteArray) (a : Nat) (hs : s.size ≤ 1000) (ha : a ≤ 1000) (w : World) : Calls Tryz.prog 88 #[.string s, .int .i64 a, .int .i64 2] w (sDigPost (Sm.n2 s a) (Sm.d2 s a) w) := by
  have := dig_any s a 2 hs ha (by omega) (by omega) (Sm.d2 s a) (Sm.all_2 s a) w
  rw [Sm.numA_2] at this; exact this
theorem dig4 (s : ByteArray) (a : Nat) (hs : s.size ≤ 1000) (ha : a ≤ 1000) (w : World) : Calls Tryz.prog 88 #[.string s, .int .i64 a, .int .i64 4] w (sDigPost (Sm.n4 s a) (Sm.d4 s a) w) := by
  have := dig_any s a 4 hs ha (by omega) (by omega) (Sm.d4 s a) (Sm.all_4 s a) w
  rw [Sm.numA_4] at this; exact this
theorem dig1 (s : ByteArray) (a : Nat) (hs : s.size ≤ 1000) (ha : a ≤ 1000) (w : World) : Calls Tryz.prog 88 #[.string s, .int .i64 a, .int .i64 1] w (sDigPost (Sm.numA s a 1) (Sm.dig s a) w) :=
  dig_any s a 1 hs ha (by omega) (by omega) (Sm.dig s a) (Sm.all_1 s a) w
set_option maxHeartbeats 1000000 in
theorem is_any (s : ByteArray) (a c : Nat) (hs : s.size ≤ 1000) (hc : 0 < c) (b : Bool) (hb : decide (Sm.B s a = c) = b) (w : World) : Calls Tryz.prog 92 #[.string s, .int .i64 a, .int .u8 c] w (fun e w' => e = .returned (.bool b) ∧ w = w') := by
  by_cases h : a < s.size
  · have hidx := sbyte_at s a h
    have hB : ((Sm.B s a : Int) == (c : Int)) = b := by
      rw [← hb, Bool.eq_iff_iff, beq_iff_eq, decide_eq_true_iff]; omega
    have hlt : (a : Int) < s.size := by omega
    have h0 : (0 : Int) ≤ a := by omega
    generalize (Sm.B s a : Int) = x at *
    go_enter Tryz.func92, Tryz.ntmps92
    go_wp2
    go_ret
    exact ⟨rfl, rfl⟩
  · have hbf : b = false := by
      rw [← hb, decide_eq_false_iff_not]
      intro k
      have := Sm.B_in (s := s) (i := a) (by omega)
      omega
    subst hbf
    have hlt : ¬ (a : Int) < s.size := by omega
    go_enter Tryz.func92, Tryz.ntmps92
    go_wp2
    go_ret
    exact ⟨rfl, rfl⟩
end Go.Proofs.YtbhafhbaldddiaaGreatDoor
namespace Go.Proofs.YtbhafhbaldddiaaGreatDoor
open Go.RowKit
open Go
set_option linter.unusedVariables false
theorem dg2 (s : ByteArray) (a : Nat) (hs : s.size ≤ 1000) (ha : a ≤ 1000) (b : Bool) (hb : Sm.d2 s a = b) (w : World) : Calls Tryz.prog 88 #[.string s, .int .i64 a, .int .i64 2] w (fun e w' => e = .returned (.tuple #[.int .i64 (bif b then Sm.n2 s a else 0), .bool b]) ∧ w = w') := by
  have := dig2 s a hs ha w
  rw [hb] at this
  cases b <;> exact this
theorem dg4 (s : ByteArray) (a : Nat) (hs : s.size ≤ 1000) (ha : a ≤ 1000) (b : Bool) (hb : Sm.d4 s a = b) (w : World) : Calls Tryz.prog 88 #[.string s, .int .i64 a, .int .i64 4] w (fun e w' => e = .returned (.tuple #[.int .i64 (bif b then Sm.n4 s a else 0), .bool b]) ∧ w = w') := by
  have := dig4 s a hs ha w
  rw [hb] at this
  cases b <;> exact this
theorem clk_no (s : ByteArray) (h : ¬ (Sm.hmB s = true ∧ Sm.n2 s 0 ≤ 23 ∧ Sm.n2 s 3 ≤ 59)) : Sm.clkF s = (0, 0, 0, 0, false) := by unfold Sm.clkF; rw [if_neg h]
theorem rclk_ret (tmps : Array Value) (W w : World) (h m x n : Int) (ok : Bool) (h2 : tmps[2]?.getD undef = .pointer (some ⟨w.heap.size, 0, none⟩)) (h3 : tmps[3]?.getD undef = .int .i64 n) (h4 : tmps[4]?.getD undef = .bool ok)
    (hc : CB w W (.int .i64 h) (.int .i64 m) (.int .i64 x)) (Q : Ending → World → Prop) (hQ : Below w.heap.size w W → Q (.returned (.tuple #[clkV h m x, .int .i64 n, .bool ok])) W) :
    bodyPost Tryz.prog Tryz.f93 Q Exit.ret ⟨tmps, []⟩ W := by
  obtain ⟨⟨k0, k1, k2, k3, k4, k5⟩, _, _, hb⟩ := hc
  exact bodyPost_ret (v := .tuple #[clkV h m x, .int .i64 n, .bool ok]) (by unfold clkV; simp [results, go_sem, h2, h3, h4, k0, k1, k2, k3, k4, k5]) rfl (hQ hb)
theorem CB.alloc {w W : World} {v3 v4 v5 : Value} (h : CB w W v3 v4 v5) (o : Obj) : CB w (W.alloc o) v3 v4 v5 := h.step ((Below.refl _ _).alloc (Nat.le_refl _) o)
theorem CB.new (w : World) (t : TypeId) (v3 v4 v5 : Value) : CB w (w.alloc (.cells #[.int .i64 0, .int .i64 0, .int .i64 0, v3, v4, v5] t)) v3 v4 v5 :=
  ⟨⟨by simp, by simp, by simp, by simp, by simp, by simp⟩, fun o => by simp, by simp, bbox (Below.refl _ _) _⟩
set_option maxHeartbeats 2000000 in
theorem srclock_any (s : ByteArray) (hs : s.size ≤ 1000) (w : World) : Calls Tryz.prog 93 #[.string s] w (ClkPost (Sm.clkF s) w) := by
  obtain ⟨a, ha⟩ : ∃ a, Sm.d2 s 0 = a := ⟨_, rfl⟩
  obtain ⟨b, hb⟩ : ∃ a, Sm.d2 s 3 = a := ⟨_, rfl⟩
  obtain ⟨c, hc⟩ : ∃ a, decide (Sm.B s 2 = 58) = a := ⟨_, rfl⟩
  have D0 := fun w => dg2 s 0 hs (by omega) a ha w
  have D3 := fun w => dg2 s 3 hs (by omega) b hb w
  have I2 := fun w => is_any s 2 58 hs (by omega) c hc w
  have hhm : Sm.hmB s = (a && c && b) := by unfold Sm.hmB; rw [ha, hb, hc]
  have NO := Lib.hid (clk_no s)
  obtain ⟨res, hres⟩ : ∃ r, Sm.clkF s = r := ⟨_, rfl⟩
  have HRES := Lib.hid hres
  rw [hres]
  clear hres
  have HHM := Lib.hid hhm
  clear hhm
  go_enter Tryz.func93, Tryz.ntmps93
  go_wp2_with fail
  refine (D0 _).mono ?_
  rintro e w1 ⟨rfl, rfl⟩
  clear D0
  go_wp2_with fail
  refine (D3 _).mono ?_
  rintro e w1 ⟨rfl, rfl⟩
  clear D3
  cases a
  · go_wp2_with fail
    refine rclk_ret _ _ w 0 0 0 0 false rfl rfl rfl (CB.new w _ _ _ _) _ (fun hb => ?_)
    rw [show res = (0, 0, 0, 0, false) by rw [← HRES.out]; exact NO.out (fun k => by rw [HHM.out] at k; simp at k)]
    exact ⟨rfl, hb⟩
  cases b
  · go_wp2_with fail
    refine rclk_ret _ _ w 0 0 0 0 false rfl rfl rfl (CB.new w _ _ _ _) _ (fun hb => ?_)
    rw [show res = (0, 0, 0, 0, false) by rw [← HRES.out]; exact NO.out (fun k => by rw [HHM.out] at k; simp at k)]
    exact ⟨rfl, hb⟩
  go_wp2_with fail
  refine (I2 _).mono ?_
  rintro e w1 ⟨rfl, rfl⟩
  clear I2
  cases c
  · go_wp2_with fail
    refine rclk_ret _ _ w 0 0 0 0 false rfl rfl rfl (CB.new w _ _ _ _) _ (fun hb => ?_)
    rw [show res = (0, 0, 0, 0, false) by rw [← HRES.out]; exact NO.out (fun k => by rw [HHM.out] at k; simp at k)]
    exact ⟨rfl, hb⟩
  by_cases h23 : 23 < Sm.n2 s 0
  · go_wp2_with fail
    refine rclk_ret _ _ w 0 0 0 0 false rfl rfl rfl (CB.new w _ _ _ _) _ (fun hb => ?_)
    rw [show res = (0, 0, 0, 0, false) by rw [← HRES.out]; exact NO.out (fun k => by omega)]
    exact ⟨rfl, hb⟩
  by_cases h59 : 59 < Sm.n2 s 3
  · go_wp2_with fail
    refine rclk_ret _ _ w 0 0 0 0 false rfl rfl rfl (CB.new w _ _ _ _) _ (fun hb => ?_)
    rw [show res = (0, 0, 0, 0, false) by rw [← HRES.out]; exact NO.out (fun k => by omega)]
    exact ⟨rfl, hb⟩
  have yes : res = if Sm.seB s = true ∧ Sm.n2 s 6 ≤ 59 then (Sm.n2 s 0, Sm.n2 s 3, Sm.n2 s 6, Sm.endN s, true) else (Sm.n2 s 0, Sm.n2 s 3, 0, 5, true) := by
    rw [← HRES.out]; unfold Sm.clkF; rw [if_pos ⟨by rw [HHM.out]; rfl, by omega, by omega⟩]
  obtain ⟨a6, ha6⟩ : ∃ a, Sm.d2 s 6 = a := ⟨_, rfl⟩
  obtain ⟨c5, hc5⟩ : ∃ a, decide (Sm.B s 5 = 58) = a := ⟨_, rfl⟩
  have D6 := fun w => dg2 s 6 hs (by omega) a6 ha6 w
  have I5 := fun w => is_any s 5 58 hs (by omega) c5 hc5 w
  have hse : Sm.seB s = (c5 && a6) := by unfold Sm.seB; rw [ha6, hc5]
  rw [hse] at yes
  have YES := Lib.hid yes
  clear yes hse ha6 hc5 NO HRES HHM
  generalize Sm.n2 s 0 = hr at *
  generalize Sm.n2 s 3 = mi at *
  generalize Sm.n2 s 6 = se at *
  go_wp2_with fail
  refine (D6 _).mono ?_
  rintro e w1 ⟨rfl, rfl⟩
  clear D6
  cases a6
  · go_wp2_with fail
    refine rclk_ret _ _ w hr mi 0 5 true rfl rfl rfl ?_ _ (fun hb => ?_)
    · with_reducible exact (CB.new w _ _ _ _).alloc _
    rw [show res = (hr, mi, 0, 5, true) by rw [YES.out]; simp]
    exact ⟨rfl, hb⟩
  go_wp2_with fail
  refine (I5 _).mono ?_
  rintro e w1 ⟨rfl, rfl⟩
  clear I5
  cases c5
  · go_wp2_with fail
    refine rclk_ret _ _ w hr mi 0 5 true rfl rfl rfl ?_ _ (fun hb => ?_)
    · with_reducible exact (CB.new w _ _ _ _).alloc _
    rw [show res = (hr, mi, 0, 5, true) by rw [YES.out]; simp]
    exact ⟨rfl, hb⟩
  by_cases hx59 : 59 < se
  · go_wp2_with fail
    refine rclk_ret _ _ w hr mi 0 5 true rfl rfl rfl ?_ _ (fun hb => ?_)
    · with_reducible exact (CB.new w _ _ _ _).alloc _
    rw [show res = (hr, mi, 0, 5, true) by rw [YES.out, if_neg (by omega)]]
    exact ⟨rfl, hb⟩
  have YES := Lib.hid (show res = (hr, mi, se, Sm.endN s, true) from by rw [YES.out, if_pos ⟨rfl, by omega⟩])
  obtain ⟨d9, hd9⟩ : ∃ a, Sm.dig s 9 = a := ⟨_, rfl⟩
  obtain ⟨c8, hc8⟩ : ∃ a, decide (Sm.B s 8 = 46) = a := ⟨_, rfl⟩
  have D9 := fun w => dig1 s 9 hs (by omega) w
  unfold sDigPost at D9
  rw [hd9] at D9
  have I8 := fun w => is_any s 8 46 hs (by omega) c8 hc8 w
  generalize Sm.numA s 9 1 = xx at D9
  have E := Lib.hid hd9
  have F := Lib.hid hc8
  clear hd9 hc8
  have e8 : c8 = false ∨ d9 = false → res = (hr, mi, se, 8, true) := fun q => by
    rw [YES.out]; unfold Sm.endN
    rw [if_neg]
    rintro ⟨k1, k2⟩
    have f := F.out
    have e := E.out
    rcases q with q | q
    · rw [q] at f; exact (decide_eq_false_iff_not.1 f) k1
    · rw [q, k2] at e; cases e
  have E8 := Lib.hid e8
  clear e8
  cases d9
  · go_wp2_with fail
    refine (D9 _).mono ?_
    rintro e w1 ⟨rfl, rfl⟩
    go_wp2_with fail
    refine (I8 _).mono ?_
    rintro e w1 ⟨rfl, rfl⟩
    cases c8
    · go_wp2_with fail
      refine rclk_ret _ _ w hr mi se 8 true rfl rfl rfl ?_ _ (fun hb => ?_)
      · with_reducible exact (CB.new w _ _ _ _).alloc _
      rw [show res = (hr, mi, se, 8, true) from E8.out (by simp)]
      exact ⟨rfl, hb⟩
    · go_wp2_with fail
      refine rclk_ret _ _ w hr mi se 8 true rfl rfl rfl ?_ _ (fun hb => ?_)
      · with_reducible exact (CB.new w _ _ _ _).alloc _
      rw [show res = (hr, mi, se, 8, true) from E8.out (by simp)]
      exact ⟨rfl, hb⟩
  · go_wp2_with fail
    refine (D9 _).mono ?_
    rintro e w1 ⟨rfl, rfl⟩
    go_wp2_with fail
    refine (I8 _).mono ?_
    rintro e w1 ⟨rfl, rfl⟩
    clear D9 I8
    cases c8
    · go_wp2_with fail
      refine rclk_ret _ _ w hr mi se 8 true rfl rfl rfl ?_ _ (fun hb => ?_)
      · with_reducible exact (CB.new w _ _ _ _).alloc _
      rw [show res = (hr, mi, se, 8, true) from E8.out (by simp)]
      exact ⟨rfl, hb⟩
    · have h9s := Sm.dig_in E.out
      go_wp2_with fail
      go_loop [12] (fun k => ∃ j : Nat, 9 ≤ j ∧ j ≤ s.size ∧ k = .int .i64 (j : Int) ∧ (∀ i, 9 ≤ i → i < j → Sm.dig s i = true)) (fun k => s.size - (intOf k).toNat)
      case atStart => exact ⟨9, by omega, by omega, rfl, fun i a b => by omega⟩
      case round =>
        obtain ⟨j, h9j, hj, rfl, hr'⟩ := hrel
        have HR := Lib.hid hr'
        clear hr'
        have fin : ∀ hd : Sm.dig s j = false, res = (hr, mi, se, j, true) := fun hd => by
          rw [YES.out]
          by_cases e : j = 9
          · subst e; rw [E.out] at hd; cases hd
          · rw [Sm.endN_exit s j (by have := F.out; simpa using this) (by omega) hj HR.out hd]
        have FIN := Lib.hid fin
        clear fin
        by_cases hlt : j < s.size
        · have hidx := sbyte_at s j hlt
          have hlt' : (j : Int) < s.size := by omega
          obtain ⟨c, hc⟩ : ∃ c : Int, c = (Sm.B s j : Int) := ⟨_, rfl⟩
          rw [← hc] at hidx
          have HC := Lib.hid hc
          clear hc
          by_cases h1 : c < 48
          · have h1' : ¬ (48 ≤ c) := by omega
            go_wp2_with fail
            refine rclk_ret _ _ w hr mi se j true rfl rfl rfl ?_ _ (fun hb => ?_)
            · with_reducible exact (CB.new w _ _ _ _).alloc _
            rw [show res = (hr, mi, se, j, true) from FIN.out (by have := HC.out; unfold Sm.dig; simp; omega)]
            exact ⟨rfl, hb⟩
          · have h1' : 48 ≤ c := by omega
            by_cases h2 : 57 < c
            · have h2' : ¬ (c ≤ 57) := by omega
              go_wp2_with fail
              refine rclk_ret _ _ w hr mi se j true rfl rfl rfl ?_ _ (fun hb => ?_)
              · with_reducible exact (CB.new w _ _ _ _).alloc _
              rw [show res = (hr, mi, se, j, true) from FIN.out (by have := HC.out; unfold Sm.dig; simp; omega)]
              exact ⟨rfl, hb⟩
            · have h2' : c ≤ 57 := by omega
              go_wp2_with fail
              go_round
              case rel =>
                refine ⟨j + 1, by omega, by omega, by push_cast; try go_num, fun i a b => ?_⟩
                by_cases e : i = j
                · subst e; have := HC.out; unfold Sm.dig; simp; omega
                · exact HR.out i a (by omega)
              case measure => simp [intOf]; omega
        · have hd : Sm.dig s j = false := Sm.dig_out s j (by omega)
          have hlt' : ¬ (j : Int) < s.size := by omega
          go_wp2_with fail
          refine rclk_ret _ _ w hr mi se j true rfl rfl rfl ?_ _ (fun hb => ?_)
          · with_reducible exact (CB.new w _ _ _ _).alloc _
          rw [show res = (hr, mi, se, j, true) from FIN.out hd]
          exact ⟨rfl, hb⟩
end Go.Proofs.YtbhafhbaldddiaaGreatDoor
namespace Go.Proofs.YtbhafhbaldddiaaGreatDoor
open Go.RowKit
open Go
set_option linter.unusedVariables false
set_option maxHeartbeats 1000000 in
theorem rzone_z (w : World) : Calls Tryz.prog 94 #[.string ⟨#[90]⟩] w (ZonPost (0, true) w) := by
  go_enter Tryz.func94, Tryz.ntmps94
  go_wp2_with fail
  go_ret2
  exact ⟨rfl, Below.refl _ _⟩
set_option maxHeartbeats 1000000 in
theorem rzone_len (s : ByteArray) (hz : (s.toList == [90]) = false) (h6 : s.size ≠ 6) (w : World) : Calls Tryz.prog 94 #[.string s] w (ZonPost (0, false) w) := by
  have hz' : ¬ s.toList = [90] := by simpa using hz
  have h6' : ¬ (s.size : Int) = 6 := by omega
  go_enter Tryz.func94, Tryz.ntmps94
  go_wp2_with fail
  go_ret2
  exact ⟨rfl, Below.refl _ _⟩
set_option maxHeartbeats 2000000 in
theorem rzone_6 (s : ByteArray) (hz : (s.toList == [90]) = false) (h6 : s.size = 6) (w : World) : Calls Tryz.prog 94 #[.string s] w (ZonPost (Sm.zonF s) w) := by
  have hne : s ≠ ⟨#[90]⟩ := fun e => by rw [e] at h6; cases h6
  have hF : Sm.zonF s = if (Sm.B s 0 = 43 ∨ Sm.B s 0 = 45) ∧ Sm.d2 s 1 = true ∧ Sm.B s 3 = 58 ∧ Sm.d2 s 4 = true ∧ Sm.n2 s 1 ≤ 23 ∧ Sm.n2 s 4 ≤ 59 then
        ((if Sm.B s 0 = 45 then -(Sm.n2 s 1 * 60 + Sm.n2 s 4) else Sm.n2 s 1 * 60 + Sm.n2 s 4), true) else (0, false) := by
    unfold Sm.zonF; rw [if_neg hne]; simp only [h6, true_and]
  obtain ⟨p, hp⟩ : ∃ c : Int, c = (Sm.B s 0 : Int) := ⟨_, rfl⟩
  obtain ⟨q, hq⟩ : ∃ c : Int, c = (Sm.B s 3 : Int) := ⟨_, rfl⟩
  have i0 : ((s[0]'(by omega)).toNat : Int) = p := by rw [hp]; exact sbyte_at s 0 (by omega)
  have i3 : ((s[3]'(by omega)).toNat : Int) = q := by rw [hq]; exact sbyte_at s 3 (by omega)
  obtain ⟨a, ha⟩ : ∃ a, Sm.d2 s 1 = a := ⟨_, rfl⟩
  obtain ⟨b, hb⟩ : ∃ a, Sm.d2 s 4 = a := ⟨_, rfl⟩
  have D1 := fun w => dg2 s 1 (by omega) (by omega) a ha w
  have D4 := fun w => dg2 s 4 (by omega) (by omega) b hb w
  have bd1 : a = true → 0 ≤ Sm.n2 s 1 ∧ Sm.n2 s 1 ≤ 99 := fun k => Sm.n2_bd (ha.trans k)
  have bd4 : b = true → 0 ≤ Sm.n2 s 4 ∧ Sm.n2 s 4 ≤ 99 := fun k => Sm.n2_bd (hb.trans k)
  have e0 : Sm.B s 0 = 43 ↔ p = 43 := by omega
  have e00 : Sm.B s 0 = 45 ↔ p = 45 := by omega
  have e3 : Sm.B s 3 = 58 ↔ q = 58 := by omega
  rw [ha, hb] at hF
  simp only [e0, e00, e3] at hF
  generalize Sm.zonF s = res at *
  have HF := Lib.hid hF
  clear hF hp hq e0 e00 e3 ha hb hne
  generalize Sm.n2 s 1 = h at *
  generalize Sm.n2 s 4 = m at *
  have hz' : ¬ s.toList = [90] := by simpa using hz
  have h6' : (s.size : Int) = 6 := by omega
  have BD1 := Lib.hid bd1
  have BD4 := Lib.hid bd4
  clear bd1 bd4
  have fin : res = (0, false) → Calls Tryz.prog 94 #[.string s] w (ZonPost (0, false) w) → Calls Tryz.prog 94 #[.string s] w (ZonPost res w) := fun e k => by rw [e]; exact k
  by_cases k0 : p = 43 ∨ p = 45
  · by_cases k3 : q = 58
    · subst k3
      cases a
      · refine fin (by rw [HF.out]; simp) ?_
        clear fin HF
        rcases k0 with rfl | rfl
        all_goals
          go_enter Tryz.func94, Tryz.ntmps94
          go_wp2_with fail
          refine (D1 _).mono ?_
          rintro e w1 ⟨rfl, rfl⟩
          go_wp2_with fail
          refine (D4 _).mono ?_
          rintro e w1 ⟨rfl, rfl⟩
          go_wp2_with fail
          go_ret2
          exact ⟨rfl, Below.refl _ _⟩
      cases b
      · refine fin (by rw [HF.out]; simp) ?_
        clear fin HF
        rcases k0 with rfl | rfl
        all_goals
          go_enter Tryz.func94, Tryz.ntmps94
          go_wp2_with fail
          refine (D1 _).mono ?_
          rintro e w1 ⟨rfl, rfl⟩
          go_wp2_with fail
          refine (D4 _).mono ?_
          rintro e w1 ⟨rfl, rfl⟩
          go_wp2_with fail
          go_ret2
          exact ⟨rfl, Below.refl _ _⟩
      have g1 := BD1.out rfl
      have g4 := BD4.out rfl
      obtain ⟨g10, g11⟩ := g1
      obtain ⟨g40, g41⟩ := g4
      by_cases hh : 23 < h
      · refine fin (by rw [HF.out, if_neg (by omega)]) ?_
        clear fin HF
        rcases k0 with rfl | rfl
        all_goals
          go_enter Tryz.func94, Tryz.ntmps94
          go_wp2_with fail
          refine (D1 _).mono ?_
          rintro e w1 ⟨rfl, rfl⟩
          go_wp2_with fail
          refine (D4 _).mono ?_
          rintro e w1 ⟨rfl, rfl⟩
          go_wp2_with fail
          go_ret2
          exact ⟨rfl, Below.refl _ _⟩
      by_cases hm : 59 < m
      · refine fin (by rw [HF.out, if_neg (by omega)]) ?_
        clear fin HF
        rcases k0 with rfl | rfl
        all_goals
          go_enter Tryz.func94, Tryz.ntmps94
          go_wp2_with fail
          refine (D1 _).mono ?_
          rintro e w1 ⟨rfl, rfl⟩
          go_wp2_with fail
          refine (D4 _).mono ?_
          rintro e w1 ⟨rfl, rfl⟩
          go_wp2_with fail
          go_ret2
          exact ⟨rfl, Below.refl _ _⟩
      clear fin
      rcases k0 with rfl | rfl
      · rw [show res = (h * 60 + m, true) by rw [HF.out, if_pos ⟨by decide, by first | rfl | trivial, by first | rfl | trivial, by first | rfl | trivial, by omega, by omega⟩, if_neg (by decide)]]
        clear HF
        go_enter Tryz.func94, Tryz.ntmps94
        go_wp2_with fail
        refine (D1 _).mono ?_
        rintro e w1 ⟨rfl, rfl⟩
        go_wp2_with fail
        refine (D4 _).mono ?_
        rintro e w1 ⟨rfl, rfl⟩
        go_wp2_with fail
        go_ret2
        exact ⟨rfl, Below.refl _ _⟩
      · rw [show res = (-(h * 60 + m), true) by rw [HF.out, if_pos ⟨by decide, by first | rfl | trivial, by first | rfl | trivial, by first | rfl | trivial, by omega, by omega⟩, if_pos rfl]]
        clear HF
        go_enter Tryz.func94, Tryz.ntmps94
        go_wp2_with fail
        refine (D1 _).mono ?_
        rintro e w1 ⟨rfl, rfl⟩
        go_wp2_with fail
        refine (D4 _).mono ?_
        rintro e w1 ⟨rfl, rfl⟩
        go_wp2_with fail
        go_ret2
        exact ⟨rfl, Below.refl _ _⟩
    · refine fin (by rw [HF.out, if_neg (fun k => k3 k.2.2.1)]) ?_
      clear fin HF
      have k3' : (q != 58) = true := by simpa using k3
      rcases k0 with rfl | rfl
      all_goals
        go_enter Tryz.func94, Tryz.ntmps94
        go_wp2_with fail
        go_ret2
        exact ⟨rfl, Below.refl _ _⟩
  · refine fin (by rw [HF.out, if_neg (fun k => k0 k.1)]) ?_
    clear fin HF
    have k1 : (p != 43) = true := by rw [bne_iff_ne]; omega
    have k2 : (p != 45) = true := by rw [bne_iff_ne]; omega
    go_enter Tryz.func94, Tryz.ntmps94
    go_wp2_with fail
    go_ret2
    exact ⟨rfl, Below.refl _ _⟩
theorem srzone_any (s : ByteArray) (w : World) : Calls Tryz.prog 94 #[.string s] w (ZonPost (Sm.zonF s) w) := by
  by_cases hs : s = ⟨#[90]⟩
  · subst hs
    have : Sm.zonF ⟨#[90]⟩ = (0, true) := by unfold Sm.zonF; rw [if_pos rfl]
    rw [this]; exact rzone_z w
  · have hz : (s.toList == [90]) = false := by
      rw [beq_eq_false_iff_ne]
      intro e
      exact hs (eq_list.1 (e.trans (by rw [ByteArray.toList_eq])))
    by_cases h6 : s.size = 6
    · exact rzone_6 s hz h6 w
    · have : Sm.zonF s = (0, false) := by unfold Sm.zonF; rw [if_neg hs, if_neg (fun k => h6 k.1)]
      rw [this]; exact rzone_len s hz h6 w
end Go.Proofs.YtbhafhbaldddiaaGreatDoor
