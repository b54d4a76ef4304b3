/- The walks of the document's disk: check. -/
import Derived.Test.YtehgnlocekcakaaDkI
namespace Go.Proofs.Ytehgnlocekcakaa
open Go.RowKit
open Go
set_option linter.unusedVariables false
set_option maxHeartbeats 1000000 in
theorem rcheck_any (b0 : ByteArray) (s0 : Int) (b1 : ByteArray) (s1 cap left : Int) (down : Bool) (w : World) :
    Calls Try.prog 24 #[.agg #[.string b0, .int .i64 s0, .string b1, .int .i64 s1, .int .i64 cap, .int .i64 left, .bool down]] w (ChkPost b0 s0 b1 s1 cap w) := by
  by_cases c1 : cap < 0 ∨ 131072 < cap
  · have hno : ¬ dOk b0 s0 b1 s1 cap := fun h => by have := h.1; omega
    have H := Lib.hid hno
    clear hno
    rcases c1 with c1 | c1
    · go_enter Try.func24, Try.ntmps24
      go_wp2
      go_ret
      exact ⟨Or.inr ⟨H.out, rfl⟩, bbox (Below.refl _ _) _⟩
    · have c2 : 0 ≤ cap := by omega
      go_enter Try.func24, Try.ntmps24
      go_wp2
      go_ret
      exact ⟨Or.inr ⟨H.out, rfl⟩, bbox (Below.refl _ _) _⟩
  · have c2 : 0 ≤ cap := by omega
    have c3 : cap ≤ 131072 := by omega
    clear c1
    go_enter Try.func24, Try.ntmps24
    go_wp2
    go_loopw [3] (fun k wr => ∃ j : Int, (j = 0 ∨ j = 1 ∨ j = 2) ∧ k = .int .i64 j ∧ zErr j cap b0 s0 b1 s1 ∧ Seven wr w.heap.size (.string b0) (.int .i64 s0) (.string b1) (.int .i64 s1) (.int .i64 cap) (.int .i64 left) (.bool down) ∧ w.heap.size < wr.heap.size ∧ Below w.heap.size w wr) (fun k _ => (2 - intOf k).toNat)
    case atStart => exact ⟨0, by omega, rfl, ⟨fun h => by omega, fun h => by omega⟩, ⟨by simp, by simp, by simp, by simp, by simp, by simp, by simp⟩, by simp, bbox (Below.refl _ _) _⟩
    case round =>
      obtain ⟨j, hj, rfl, hz, hD, hs, hb⟩ := hrel
      obtain ⟨q0, q1, q2, q3, q4, q5, q6⟩ := id hD
      rcases hj with rfl | rfl | rfl
      · skip
        by_cases a1 : (b0.size : Int) ≤ cap
        · by_cases a2 : 0 ≤ s0
          · by_cases a3 : s0 ≤ b0.size
            · go_wp2
              go_roundw
              case rel => exact ⟨1, by omega, rfl, ⟨fun _ => ⟨a1, a2, a3⟩, fun h => by omega⟩, hD.alloc1 hs _, by simp; omega, bbox hb _⟩
              case measure => simp [intOf]
            · go_wp2
              go_ret
              exact ⟨Or.inr ⟨fun h => absurd h.2.1.2.2 (by omega), rfl⟩, bbox hb _⟩
          · go_wp2
            go_ret
            exact ⟨Or.inr ⟨fun h => absurd h.2.1.2.1 (by omega), rfl⟩, bbox hb _⟩
        · go_wp2
          go_ret
          exact ⟨Or.inr ⟨fun h => absurd h.2.1.1 (by omega), rfl⟩, bbox hb _⟩
      · skip
        by_cases a1 : (b1.size : Int) ≤ cap
        · by_cases a2 : 0 ≤ s1
          · by_cases a3 : s1 ≤ b1.size
            · go_wp2
              go_roundw
              case rel => exact ⟨2, by omega, rfl, ⟨fun _ => hz.1 (by omega), fun _ => ⟨a1, a2, a3⟩⟩, hD.alloc1 hs _, by simp; omega, bbox hb _⟩
              case measure => simp [intOf]
            · go_wp2
              go_ret
              exact ⟨Or.inr ⟨fun h => absurd h.2.2.2.2 (by omega), rfl⟩, bbox hb _⟩
          · go_wp2
            go_ret
            exact ⟨Or.inr ⟨fun h => absurd h.2.2.2.1 (by omega), rfl⟩, bbox hb _⟩
        · go_wp2
          go_ret
          exact ⟨Or.inr ⟨fun h => absurd h.2.2.1 (by omega), rfl⟩, bbox hb _⟩
      · skip
        go_wp2
        go_ret
        exact ⟨Or.inl ⟨⟨⟨c2, c3⟩, hz.1 (by omega), hz.2 (by omega)⟩, rfl⟩, hb⟩
theorem rcheck_yes (b0 : ByteArray) (s0 : Int) (b1 : ByteArray) (s1 cap left : Int) (down : Bool) (w : World) (h : dOk b0 s0 b1 s1 cap) :
    Calls Try.prog 24 #[.agg #[.string b0, .int .i64 s0, .string b1, .int .i64 s1, .int .i64 cap, .int .i64 left, .bool down]] w fun e w' => e = .returned (.int .i64 0) ∧ Below w.heap.size w w' :=
  (rcheck_any b0 s0 b1 s1 cap left down w).mono fun _ _ ⟨hk, hb⟩ => by
    rcases hk with hk | hk
    · exact ⟨hk.2, hb⟩
    · exact absurd h hk.1
theorem rcheck_no (b0 : ByteArray) (s0 : Int) (b1 : ByteArray) (s1 cap left : Int) (down : Bool) (w : World) (h : ¬ dOk b0 s0 b1 s1 cap) :
    Calls Try.prog 24 #[.agg #[.string b0, .int .i64 s0, .string b1, .int .i64 s1, .int .i64 cap, .int .i64 left, .bool down]] w fun e w' => e = .returned (.int .i64 2) ∧ Below w.heap.size w w' :=
  (rcheck_any b0 s0 b1 s1 cap left down w).mono fun _ _ ⟨hk, hb⟩ => by
    rcases hk with hk | hk
    · exact absurd hk.1 h
    · exact ⟨hk.2, hb⟩
end Go.Proofs.Ytehgnlocekcakaa
