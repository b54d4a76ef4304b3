/- The walks of the document's stamp: digits, is. -/
import Derived.Test.YtcdnjaefijjliaaStC
import Derived.Test.YtcdnjaefijjliaaSmF
namespace Go.Proofs.Ytcdnjaefijjliaa
open Go.RowKit
open Go
set_option linter.unusedVariables false
theorem byte_at (s : ByteArray) (i : Nat) (h : i < s.size) : ((s[i]'h).toNat : Int) = (Sm.B s i : Int) := by rw [Sm.B_at s i h]
set_option maxHeartbeats 1000000 in
theorem digits_out (s : ByteArray) (a n : Nat) (h : s.size < a + n) (ha : a ≤ 1000) (hn : n ≤ 4) (w : World) : Calls Try.prog 26 #[.string s, .int .i64 a, .int .i64 n] w (fun e w' => e = .returned (.tuple #[.int .i64 0, .bool false]) ∧ w = w') := by
  have h' : (s.size : Int) < a + n := by omega
  go_enter Try.func26, Try.ntmps26
  go_wp2
  go_ret2
  exact ⟨rfl, rfl⟩
set_option maxHeartbeats 1000000 in
theorem digits_in (s : ByteArray) (a n : Nat) (h : a + n ≤ s.size) (hs : s.size ≤ 1000) (hn : n ≤ 4) (b : Bool) (hb : (∀ i, i < n → Sm.dig s (a + i) = true) ↔ b = true) (w : World) : Calls Try.prog 26 #[.string s, .int .i64 a, .int .i64 n] w (fun e w' => e = .returned (.tuple #[.int .i64 (if b = true then Sm.numA s a n else 0), .bool b]) ∧ w = w') := by
  generalize hF : (if b = true then Sm.numA s a n else 0) = res
  have HF := Lib.hid hF
  have HB := Lib.hid hb
  clear hF hb
  have h' : ¬ (s.size : Int) < a + n := by omega
  go_enter Try.func26, Try.ntmps26
  go_wp2_with fail
  go_loop [8, 9] (fun x k => ∃ j : Nat, j ≤ n ∧ k = .int .i64 (((a + j : Nat) : Int)) ∧ x = .int .i64 (Sm.numA s a j) ∧ (∀ i, i < j → Sm.dig s (a + i) = true)) (fun _ k => a + n - (intOf k).toNat)
  case atStart => exact ⟨0, by omega, rfl, rfl, fun i h => by omega⟩
  case round =>
    obtain ⟨j, hj, rfl, rfl, hr⟩ := hrel
    obtain ⟨hx0, hx1⟩ := Sm.numA_small s a j (by omega) hr
    have HR := Lib.hid hr
    clear hr
    by_cases hlt : j < n
    · have hk : a + j < s.size := by omega
      have hidx := byte_at s (a + j) hk
      have hst : Sm.numA s a (j + 1) = Sm.numA s a j * 10 + Sm.v s (a + j) := rfl
      have HST := Lib.hid hst
      clear hst
      obtain ⟨c, hc⟩ : ∃ c : Int, c = (Sm.B s (a + j) : Int) := ⟨_, rfl⟩
      rw [← hc] at hidx
      have hlo : 0 ≤ c := by omega
      have hkk : ((a : Int) + j) < s.size := by omega
      have hkk0 : (0 : Int) ≤ (a : Int) + j := by omega
      have no : Sm.dig s (a + j) = false → res = 0 ∧ b = false := fun e => by
        have hb : b = false := by
          cases hq : b
          · rfl
          · exfalso
            have := (HB.out.2 hq) j hlt
            rw [e] at this; cases this
        refine ⟨?_, hb⟩
        rw [← HF.out, hb]; rfl
      have NO := Lib.hid no
      clear no
      have HC := Lib.hid hc
      clear hc
      by_cases h1 : c < 48
      · obtain ⟨e1, e2⟩ := NO.out (by have := HC.out; unfold Sm.dig; simp; omega)
        go_wp2
        go_ret2
        exact ⟨rfl, rfl⟩
      · by_cases h2 : 57 < c
        · obtain ⟨e1, e2⟩ := NO.out (by have := HC.out; unfold Sm.dig; simp; omega)
          go_wp2
          go_ret2
          exact ⟨rfl, rfl⟩
        · have hw : IntKind.u8.wrap (c - 48) = c - 48 := by simp [IntKind.wrap, IntKind.bits, IntKind.signed]; omega
          generalize hX : Sm.numA s a j = x at *
          have HX := Lib.hid hX
          clear hX
          go_wp2
          go_round
          case rel =>
            refine ⟨j + 1, by omega, by push_cast; try go_num, ?_, fun i hi => ?_⟩
            · rw [HST.out]; unfold Sm.v; rw [← HC.out]
            · by_cases e : i = j
              · subst e; have := HC.out; unfold Sm.dig; simp; omega
              · exact HR.out i (by omega)
          case measure => simp [intOf]; omega
    · obtain rfl : j = n := by omega
      go_wp2
      go_ret2
      rw [← HF.out, (HB.out.1 HR.out)]
      exact ⟨rfl, rfl⟩
/-- What 'digits' says. -/
def DigPost (v : Int) (b : Bool) (w : World) (e : Ending) (w' : World) : Prop := e = .returned (.tuple #[.int .i64 (if b = true then v else 0), .bool b]) ∧ w = w'
theorem dig_any (s : ByteArray) (a n : Nat) (hs : s.size ≤ 1000) (ha : a ≤ 1000) (hn : n ≤ 4) (h0 : 0 < n) (b : Bool) (hb : (∀ i, i < n → Sm.dig s (a + i) = true) ↔ b = true) (w : World) : Calls Try.prog 26 #[.string s, .int .i64 a, .int .i64 n] w (DigPost (Sm.numA s a n) b w) := by
  by_cases h : a + n ≤ s.size
  · exact digits_in s a n h hs hn b hb w
  · have hbf : b = false := by
      cases hq : b
      · rfl
      · exfalso
        have := Sm.dig_in ((hb.2 hq) (n - 1) (by omega))
        omega
    subst hbf
    exact digits_out s a n (by omega) ha hn w
theorem dig2 (s : ByteArray) (a : Nat) (hs : s.size ≤ 1000) (ha : a ≤ 1000) (w : World) : Calls Try.prog 26 #[.string s, .int .i64 a, .int .i64 2] w (DigPost (Sm.n2 s a) (Sm.d2 s a) w) := by
  have := dig_any s a 2 hs ha (by omega) (by omega) (Sm.d2 s a) (Sm.all_2 s a) w
  rw [Sm.numA_2] at this; exact this
theorem dig4 (s : ByteArray) (a : Nat) (hs : s.size ≤ 1000) (ha : a ≤ 1000) (w : World) : Calls Try.prog 26 #[.string s, .int .i64 a, .int .i64 4] w (DigPost (Sm.n4 s a) (Sm.d4 s a) w) := by
  have := dig_any s a 4 hs ha (by omega) (by omega) (Sm.d4 s a) (Sm.all_4 s a) w
  rw [Sm.numA_4] at this; exact this
theorem dig1 (s : ByteArray) (a : Nat) (hs : s.size ≤ 1000) (ha : a ≤ 1000) (w : World) : Calls Try.prog 26 #[.string s, .int .i64 a, .int .i64 1] w (DigPost (Sm.numA s a 1) (Sm.dig s a) w) :=
  dig_any s a 1 hs ha (by omega) (by omega) (Sm.dig s a) (Sm.all_1 s a) w
set_option maxHeartbeats 1000000 in
theorem is_any (s : ByteArray) (a c : Nat) (hs : s.size ≤ 1000) (hc : 0 < c) (b : Bool) (hb : decide (Sm.B s a = c) = b) (w : World) : Calls Try.prog 29 #[.string s, .int .i64 a, .int .u8 c] w (fun e w' => e = .returned (.bool b) ∧ w = w') := by
  by_cases h : a < s.size
  · have hidx := byte_at s a h
    have hB : ((Sm.B s a : Int) == (c : Int)) = b := by
      rw [← hb, Bool.eq_iff_iff, beq_iff_eq, decide_eq_true_iff]; omega
    have hlt : (a : Int) < s.size := by omega
    have h0 : (0 : Int) ≤ a := by omega
    generalize (Sm.B s a : Int) = x at *
    go_enter Try.func29, Try.ntmps29
    go_wp2
    go_ret
    exact ⟨rfl, rfl⟩
  · have hbf : b = false := by
      rw [← hb, decide_eq_false_iff_not]
      intro k
      have := Sm.B_in (s := s) (i := a) (by omega)
      omega
    subst hbf
    have hlt : ¬ (a : Int) < s.size := by omega
    go_enter Try.func29, Try.ntmps29
    go_wp2
    go_ret
    exact ⟨rfl, rfl⟩
end Go.Proofs.Ytcdnjaefijjliaa
