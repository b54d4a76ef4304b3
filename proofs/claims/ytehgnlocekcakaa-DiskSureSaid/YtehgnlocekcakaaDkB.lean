/- The walks of the disk: may. -/
import Derived.Test.YtehgnlocekcakaaDkA
namespace Go.Proofs.Ytehgnlocekcakaa
open Go.RowKit
open Go
def mayP (op n : Int) (b zb : ByteArray) : Prop :=
  (op = 0 ∧ b.toList ≠ [] ∧ n = 0) ∨ (op = 1 ∧ b.toList = [] ∧ n = 0) ∨ (op = 2 ∧ b.toList = [] ∧ 0 ≤ n ∧ n ≤ zb.size)
def MayPost (op n : Int) (b zb : ByteArray) (w : World) (e : Ending) (w' : World) : Prop :=
  ∃ r : Bool, e = .returned (.bool r) ∧ (r = true ↔ mayP op n b zb) ∧ Below w.heap.size w w'
theorem may0 {n : Int} {b zb : ByteArray} {r : Bool} (h : r = true ↔ (b.toList ≠ [] ∧ n = 0)) : r = true ↔ mayP 0 n b zb := by
  rw [h]; constructor
  · intro k; exact Or.inl ⟨rfl, k⟩
  · rintro (k | k | k)
    · exact k.2
    · exact absurd k.1 (by decide)
    · exact absurd k.1 (by decide)
theorem may1 {n : Int} {b zb : ByteArray} {r : Bool} (h : r = true ↔ (b.toList = [] ∧ n = 0)) : r = true ↔ mayP 1 n b zb := by
  rw [h]; constructor
  · intro k; exact Or.inr (Or.inl ⟨rfl, k⟩)
  · rintro (k | k | k)
    · exact absurd k.1 (by decide)
    · exact k.2
    · exact absurd k.1 (by decide)
theorem may2 {n : Int} {b zb : ByteArray} {r : Bool} (h : r = true ↔ (b.toList = [] ∧ 0 ≤ n ∧ n ≤ zb.size)) : r = true ↔ mayP 2 n b zb := by
  rw [h]; constructor
  · intro k; exact Or.inr (Or.inr ⟨rfl, k⟩)
  · rintro (k | k | k)
    · exact absurd k.1 (by decide)
    · exact absurd k.1 (by decide)
    · exact k.2
theorem mayN {op n : Int} {b zb : ByteArray} (h0 : op ≠ 0) (h1 : op ≠ 1) (h2 : op ≠ 2) : false = true ↔ mayP op n b zb := by
  constructor
  · intro h; cases h
  · rintro (k | k | k)
    · exact absurd k.1 h0
    · exact absurd k.1 h1
    · exact absurd k.1 h2
set_option maxHeartbeats 1000000 in
theorem may_any (bw bz oz : Nat) (op n : Int) (b zb : ByteArray) (w : World) (hw0 : w.cell? ⟨bw, 0, none⟩ = some (.int .i8 op)) (hw2 : w.cell? ⟨bw, 2, none⟩ = some (.string b)) (hw3 : w.cell? ⟨bw, 3, none⟩ = some (.int .i64 n))
    (hz0 : w.cell? ⟨bz, oz, none⟩ = some (.string zb)) :
    Calls Try.prog 25 #[.pointer (some ⟨bw, 0, none⟩), .pointer (some ⟨bz, oz, none⟩)] w (MayPost op n b zb w) := by
  by_cases o0 : op = 0
  · subst o0
    go_enter Try.func25, Try.ntmps25
    go_wp2
    all_goals go_ret
    · exact ⟨_, rfl, may0 (by simp [‹b.toList = []›]), Below.refl _ _⟩
    · exact ⟨_, rfl, may0 (by simp [‹¬ b.toList = []›]), Below.refl _ _⟩
  · by_cases o1 : op = 1
    · subst o1
      go_enter Try.func25, Try.ntmps25
      go_wp2
      all_goals go_ret
      · exact ⟨_, rfl, may1 (by simp [‹b.toList = []›]), Below.refl _ _⟩
      · exact ⟨_, rfl, may1 (by simp [‹¬ b.toList = []›]), Below.refl _ _⟩
    · by_cases o2 : op = 2
      · subst o2
        clear o0 o1
        by_cases hb : b.toList = []
        · by_cases hn : 0 ≤ n
          · go_enter Try.func25, Try.ntmps25
            go_wp2
            go_quiet (fail)
            go_wp2
            go_ret
            exact ⟨_, rfl, may2 (by simp [hb, hn]), below_drewN (Below.refl _ _) _⟩
          · have HN := Lib.hid hn
            have hn' : decide (0 ≤ n) = false := decide_eq_false hn
            clear hn
            go_enter Try.func25, Try.ntmps25
            go_wp2
            go_quiet (fail)
            go_wp2
            go_ret
            exact ⟨_, rfl, may2 (by have := HN.out; simp [hb]; omega), below_drewN (Below.refl _ _) _⟩
        · have hb' : b.toList.isEmpty = false := by simpa using hb
          have HB := Lib.hid hb
          clear hb
          go_enter Try.func25, Try.ntmps25
          go_wp2
          go_quiet (fail)
          go_wp2
          go_ret
          exact ⟨_, rfl, may2 (by simp [HB.out]), below_drewN (Below.refl _ _) _⟩
      · have H0 := Lib.hid o0
        have H1 := Lib.hid o1
        have H2 := Lib.hid o2
        have e0 : (op == 0) = false := by simpa using o0
        have e1 : (op == 1) = false := by simpa using o1
        have e2 : (op == 2) = false := by simpa using o2
        clear o0 o1 o2
        go_enter Try.func25, Try.ntmps25
        go_wp2
        go_ret
        exact ⟨_, rfl, mayN H0.out H1.out H2.out, Below.refl _ _⟩
end Go.Proofs.Ytehgnlocekcakaa
