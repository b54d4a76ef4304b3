/- The walks of the disk: check. -/
import Derived.Test.YtehgnlocekcakaaBase
namespace Go.Proofs.Ytehgnlocekcakaa
open Go.RowKit
open Go
def zOk (cap : Int) (b : ByteArray) (s : Int) : Prop := (b.size : Int) ≤ cap ∧ 0 ≤ s ∧ s ≤ b.size
def dOk (b0 : ByteArray) (s0 : Int) (b1 : ByteArray) (s1 cap : Int) : Prop := (0 ≤ cap ∧ cap ≤ 131072) ∧ zOk cap b0 s0 ∧ zOk cap b1 s1
def Errs (k : Int) (w : World) (e : Ending) (w' : World) : Prop := e = .returned (.int .i64 k) ∧ Below w.heap.size w w'
def zErr (j : Int) (cap : Int) (b0 : ByteArray) (s0 : Int) (b1 : ByteArray) (s1 : Int) : Prop := (1 ≤ j → zOk cap b0 s0) ∧ (2 ≤ j → zOk cap b1 s1)
theorem index0 (b0 : ByteArray) (s0 : Int) (b1 : ByteArray) (s1 : Int) : ∀ w, (Instr.index 24 (.agg #[.string b0, .int .i64 s0, .string b1, .int .i64 s1]) (.int .i64 0)).run Try.prog w = .ok (.agg #[.string b0, .int .i64 s0]) w := fun _ => by kernel_rfl
theorem index1 (b0 : ByteArray) (s0 : Int) (b1 : ByteArray) (s1 : Int) : ∀ w, (Instr.index 24 (.agg #[.string b0, .int .i64 s0, .string b1, .int .i64 s1]) (.int .i64 1)).run Try.prog w = .ok (.agg #[.string b1, .int .i64 s1]) w := fun _ => by kernel_rfl
/-- Check answers 0 where the disk may be, else 2. -/
def ChkPost (b0 : ByteArray) (s0 : Int) (b1 : ByteArray) (s1 cap : Int) (w : World) (e : Ending) (w' : World) : Prop :=
  ((dOk b0 s0 b1 s1 cap ∧ e = .returned (.int .i64 0)) ∨ (¬ dOk b0 s0 b1 s1 cap ∧ e = .returned (.int .i64 2))) ∧ Below w.heap.size w w'
set_option maxHeartbeats 1000000 in
theorem check_any (b0 : ByteArray) (s0 : Int) (b1 : ByteArray) (s1 cap left : Int) (down : Bool) (w : World) :
    Calls Try.prog 17 #[.agg #[.string b0, .int .i64 s0, .string b1, .int .i64 s1, .int .i64 cap, .int .i64 left, .bool down]] w (ChkPost b0 s0 b1 s1 cap w) := by
  by_cases c1 : cap < 0 ∨ 131072 < cap
  · have hno : ¬ dOk b0 s0 b1 s1 cap := fun h => by have := h.1; omega
    have H := Lib.hid hno
    clear hno
    rcases c1 with c1 | c1
    · go_enter Try.func17, Try.ntmps17
      go_wp2
      go_ret
      exact ⟨Or.inr ⟨H.out, rfl⟩, bbox (Below.refl _ _) _⟩
    · have c2 : 0 ≤ cap := by omega
      go_enter Try.func17, Try.ntmps17
      go_wp2
      go_ret
      exact ⟨Or.inr ⟨H.out, rfl⟩, bbox (Below.refl _ _) _⟩
  · have c2 : 0 ≤ cap := by omega
    have c3 : cap ≤ 131072 := by omega
    clear c1
    have i0 := index0 b0 s0 b1 s1
    have i1 := index1 b0 s0 b1 s1
    go_enter Try.func17, Try.ntmps17
    go_wp2
    go_loopw [15] (fun k wr => ∃ j : Int, (j = 0 ∨ j = 1 ∨ j = 2) ∧ k = .int .i64 j ∧ zErr j cap b0 s0 b1 s1 ∧ wr.cell? ⟨w.heap.size, 4, none⟩ = some (.int .i64 cap) ∧ w.heap.size < wr.heap.size ∧ Below w.heap.size w wr) (fun k _ => (2 - intOf k).toNat)
    case atStart => exact ⟨0, by omega, rfl, ⟨fun h => by omega, fun h => by omega⟩, by simp, by simp, bbox (Below.refl _ _) _⟩
    case round =>
      obtain ⟨j, hj, rfl, hz, hc, hs, hb⟩ := hrel
      rcases hj with rfl | rfl | rfl
      · skip
        by_cases a1 : (b0.size : Int) ≤ cap
        · by_cases a2 : 0 ≤ s0
          · by_cases a3 : s0 ≤ b0.size
            · go_wp2
              go_roundw
              case rel => exact ⟨1, by omega, rfl, ⟨fun _ => ⟨a1, a2, a3⟩, fun h => by omega⟩, (World.cell?_alloc_lt _ _ _ hs).trans hc, by simp; omega, bbox hb _⟩
              case measure => simp [intOf]
            · go_wp2
              go_ret
              exact ⟨Or.inr ⟨fun h => absurd h.2.1.2.2 (by omega), rfl⟩, bbox hb _⟩
          · go_wp2
            go_ret
            exact ⟨Or.inr ⟨fun h => absurd h.2.1.2.1 (by omega), rfl⟩, bbox hb _⟩
        · go_wp2
          go_ret
          exact ⟨Or.inr ⟨fun h => absurd h.2.1.1 (by omega), rfl⟩, bbox hb _⟩
      · skip
        by_cases a1 : (b1.size : Int) ≤ cap
        · by_cases a2 : 0 ≤ s1
          · by_cases a3 : s1 ≤ b1.size
            · go_wp2
              go_roundw
              case rel => exact ⟨2, by omega, rfl, ⟨fun _ => hz.1 (by omega), fun _ => ⟨a1, a2, a3⟩⟩, (World.cell?_alloc_lt _ _ _ hs).trans hc, by simp; omega, bbox hb _⟩
              case measure => simp [intOf]
            · go_wp2
              go_ret
              exact ⟨Or.inr ⟨fun h => absurd h.2.2.2.2 (by omega), rfl⟩, bbox hb _⟩
          · go_wp2
            go_ret
            exact ⟨Or.inr ⟨fun h => absurd h.2.2.2.1 (by omega), rfl⟩, bbox hb _⟩
        · go_wp2
          go_ret
          exact ⟨Or.inr ⟨fun h => absurd h.2.2.1 (by omega), rfl⟩, bbox hb _⟩
      · skip
        go_wp2
        go_ret
        exact ⟨Or.inl ⟨⟨⟨c2, c3⟩, hz.1 (by omega), hz.2 (by omega)⟩, rfl⟩, hb⟩
theorem check_yes (b0 : ByteArray) (s0 : Int) (b1 : ByteArray) (s1 cap left : Int) (down : Bool) (w : World) (h : dOk b0 s0 b1 s1 cap) :
    Calls Try.prog 17 #[.agg #[.string b0, .int .i64 s0, .string b1, .int .i64 s1, .int .i64 cap, .int .i64 left, .bool down]] w fun e w' => e = .returned (.int .i64 0) ∧ Below w.heap.size w w' :=
  (check_any b0 s0 b1 s1 cap left down w).mono fun _ _ ⟨hk, hb⟩ => by
    rcases hk with hk | hk
    · exact ⟨hk.2, hb⟩
    · exact absurd h hk.1
theorem check_no (b0 : ByteArray) (s0 : Int) (b1 : ByteArray) (s1 cap left : Int) (down : Bool) (w : World) (h : ¬ dOk b0 s0 b1 s1 cap) :
    Calls Try.prog 17 #[.agg #[.string b0, .int .i64 s0, .string b1, .int .i64 s1, .int .i64 cap, .int .i64 left, .bool down]] w fun e w' => e = .returned (.int .i64 2) ∧ Below w.heap.size w w' :=
  (check_any b0 s0 b1 s1 cap left down w).mono fun _ _ ⟨hk, hb⟩ => by
    rcases hk with hk | hk
    · exact absurd hk.1 h
    · exact ⟨hk.2, hb⟩
end Go.Proofs.Ytehgnlocekcakaa
