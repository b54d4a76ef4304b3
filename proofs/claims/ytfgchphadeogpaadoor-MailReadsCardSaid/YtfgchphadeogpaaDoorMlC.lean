/- The walks of the letters' digits, and of a letter's next and take. -/
import Derived.Test.YtfgchphadeogpaaDoorMlA
import Derived.Test.YtfgchphadeogpaaDoorMlB
namespace Go.Proofs.YtfgchphadeogpaaDoor
open Go.RowKit
open Go
set_option linter.unusedVariables false
theorem byte_at (s : ByteArray) (i : Nat) (h : i < s.size) : ((s[i]'h).toNat : Int) = (Sm.B s i : Int) := by rw [Sm.B_at s i h]
def DigPost (s : ByteArray) (n : Nat) (w : World) (e : Ending) (w' : World) : Prop := e = .returned (.tuple #[.int .i64 (Ml.digV s n), .bool (Ml.digO s n)]) ∧ w = w'
theorem dig_no {s : ByteArray} {n : Nat} (h : Ml.digO s n = false) : Ml.digV s n = 0 := by unfold Ml.digV; rw [h]; simp
theorem dig_yes {s : ByteArray} {n : Nat} (h : Ml.digO s n = true) : Ml.digV s n = Sm.numA s 0 n := by unfold Ml.digV; rw [h]; simp
theorem dig_false {s : ByteArray} {n : Nat} (h : ¬ (s.size = n ∧ ∀ i, i < n → Sm.dig s i = true)) : Ml.digO s n = false := by unfold Ml.digO; simpa using h
set_option maxHeartbeats 1000000 in
theorem digits_any (s : ByteArray) (n : Nat) (hn : n ≤ 4) (hs : s.size ≤ 100000) (w : World) : Calls Tryd.prog 23 #[.string s, .int .i64 n] w (DigPost s n w) := by
  obtain ⟨v, hv⟩ : ∃ v, Ml.digV s n = v := ⟨_, rfl⟩
  obtain ⟨o, ho⟩ : ∃ o, Ml.digO s n = o := ⟨_, rfl⟩
  unfold DigPost
  rw [hv, ho]
  have HV := Lib.hid hv
  have HO := Lib.hid ho
  clear hv ho
  by_cases hsz : s.size = n
  · have HS := Lib.hid hsz
    have hne : ((s.size : Int) == (n : Int)) = true := by simp [hsz]
    have hne2 : ((s.size : Int) != (n : Int)) = false := by simp [hsz]
    clear hsz
    go_enter Tryd.func23, Tryd.ntmps23
    go_wp2
    go_loop [4, 13] (fun x k => ∃ i : Nat, i ≤ n ∧ k = .int .i64 i ∧ x = .int .i64 (Sm.numA s 0 i) ∧ ∀ j, j < i → Sm.dig s j = true) (fun _ k => n - (intOf k).toNat)
    case atStart => exact ⟨0, by omega, rfl, rfl, fun j h => absurd h (by omega)⟩
    case round =>
      obtain ⟨i, hi, rfl, rfl, hd⟩ := hrel
      have HD := Lib.hid hd
      clear hd
      have hbd := Sm.numA_small s 0 i (by omega) (fun j hj => by rw [Nat.zero_add]; exact HD.out j hj)
      by_cases hlt : i < n
      · have hin : i < s.size := by have := HS.out; omega
        have hstep : Sm.dig s i = true → Sm.numA s 0 (i + 1) = Sm.numA s 0 i * 10 + ((Sm.B s i : Int) - 48) := fun _ => by
          show Sm.numA s 0 i * 10 + Sm.v s (0 + i) = _
          rw [Nat.zero_add]
          rfl
        have HST := Lib.hid hstep
        clear hstep
        obtain ⟨a, ha⟩ : ∃ a : Int, Sm.numA s 0 i = a := ⟨_, rfl⟩
        rw [ha] at hbd
        have HA := Lib.hid ha
        have hb : Sm.B s i < 256 := Sm.B_lt s i
        have hidx := byte_at s i hin
        have hdi := Sm.dig_iff s i
        have HDI := Lib.hid hdi
        clear hdi
        obtain ⟨c, hc⟩ : ∃ c : Nat, Sm.B s i = c := ⟨_, rfl⟩
        rw [hc] at hidx hb
        have HC := Lib.hid hc
        clear hc
        rw [ha]
        clear ha
        have i1 : (i : Int) < (n : Int) := by omega
        have i2 : (0 : Int) ≤ (i : Int) := by omega
        have i3 : (i : Int) < (s.size : Int) := by omega
        by_cases h1 : 48 ≤ c ∧ c ≤ 57
        · have hw : IntKind.u8.wrap ((c : Int) - 48) = (c : Int) - 48 := by simp [IntKind.wrap, IntKind.bits, IntKind.signed]; omega
          have hg : ¬ (9 : Int) < (c : Int) - 48 := by omega
          have hdig : Sm.dig s i = true := HDI.out.2 (by rw [HC.out]; exact h1)
          have HDG := Lib.hid hdig
          clear hdig
          go_wp2
          go_round
          case rel =>
            refine ⟨i + 1, by omega, by go_num, ?_, fun j hj => ?_⟩
            · rw [HST.out HDG.out, HA.out, HC.out]
            · by_cases e : j = i
              · rw [e]; exact HDG.out
              · exact HD.out j (by omega)
          case measure => simp [intOf] <;> omega
        · have hg : (9 : Int) < IntKind.u8.wrap ((c : Int) - 48) := by
            simp [IntKind.wrap, IntKind.bits, IntKind.signed]
            omega
          have hno : Ml.digO s n = false := dig_false (fun h => h1 (by
            have := (HDI.out).1 (h.2 i hlt)
            rw [HC.out] at this
            exact this))
          have e1 : v = 0 := by rw [← HV.out, dig_no hno]
          have e2 : o = false := by rw [← HO.out, hno]
          subst e1
          subst e2
          clear hno
          go_wp2
          go_ret2
          exact ⟨rfl, rfl⟩
      · obtain rfl : i = n := by omega
        have hyes : Ml.digO s i = true := (Ml.digO_iff s i).2 ⟨HS.out, HD.out⟩
        have e1 : Sm.numA s 0 i = v := by rw [← HV.out, dig_yes hyes]
        have e2 : o = true := by rw [← HO.out, hyes]
        rw [e1]
        subst e2
        clear hyes e1
        go_wp2
        go_ret2
        exact ⟨rfl, rfl⟩
  · have hne : ((s.size : Int) == (n : Int)) = false := by simp; omega
    have hne2 : ((s.size : Int) != (n : Int)) = true := by simp; omega
    have hno : Ml.digO s n = false := dig_false (fun h => hsz h.1)
    have e1 : v = 0 := by rw [← HV.out, dig_no hno]
    have e2 : o = false := by rw [← HO.out, hno]
    subst e1
    subst e2
    clear hno hsz
    go_enter Tryd.func23, Tryd.ntmps23
    go_wp2
    go_ret2
    exact ⟨rfl, rfl⟩
/-- A letter in the block L. -/
def LT (W : World) (L : Nat) (rest : Value) (bad : Bool) : Prop := W.cell? ⟨L, 0, none⟩ = some rest ∧ W.cell? ⟨L, 1, none⟩ = some (.bool bad) ∧ W.frozen? ⟨L, 0, none⟩ = false ∧ W.frozen? ⟨L, 1, none⟩ = false ∧ L < W.heap.size
theorem LT.far {W W' : World} {L : Nat} {rest : Value} {bad : Bool} {row : Option Nat} (h : LT W L rest bad) (hg : W.grownBy W' row) (hne : some L ≠ row) : LT W' L rest bad :=
  ⟨(gb_cell hg h.2.2.2.2 hne).trans h.1, (gb_cell hg h.2.2.2.2 hne).trans h.2.1, (gb_frozen hg h.2.2.2.2 hne).trans h.2.2.1, (gb_frozen hg h.2.2.2.2 hne).trans h.2.2.2.1, by have := hg.size; have := h.2.2.2.2; omega⟩
theorem LT.drew {W : World} {L : Nat} {rest : Value} {bad : Bool} (h : LT W L rest bad) : LT W.drew L rest bad := h
theorem gb_set (w : World) (a : Addr) (v : Value) : w.grownBy (w.setCell a v) (some a.block) := ⟨rfl, rfl, rfl, by simp, fun k _ hk => Below.heap_setCell w a v k (fun e => hk (by rw [e]))⟩
theorem gb_of_below {w w' : World} (h : Below w.heap.size w w') (row : Option Nat) : w.grownBy w' row := ⟨h.os, h.tape, h.output, h.size, fun k hk _ => h.block k hk⟩
def LetPost (v : Value) (L : Nat) (rest : Value) (bad : Bool) (w : World) (e : Ending) (w' : World) : Prop := e = .returned v ∧ LT w' L rest bad ∧ w.grownBy w' (some L)
set_option maxHeartbeats 1000000 in
theorem take_any (w : World) (L : Nat) (rest : Value) (bad ok : Bool) (n : Int) (h : LT w L rest bad) : Calls Tryd.prog 22 #[.pointer (some ⟨L, 0, none⟩), .int .i64 n, .bool ok] w (LetPost (.int .i64 n) L rest (bad || !ok) w) := by
  obtain ⟨k0, k1, f0, f1, hl⟩ := h
  cases bad <;> cases ok
  all_goals
    go_enter Tryd.func22, Tryd.ntmps22
    go_wp2
    go_ret
    exact ⟨rfl, ⟨by go_simp, by go_simp, by rw [World.frozen?_setCell]; exact f0, by rw [World.frozen?_setCell]; exact f1, by simpa using hl⟩, gb_set _ _ _⟩
/-- What is left of a row of n words in the block g behind i of them. -/
def restV (g i n c : Nat) : Value := .slice (some ⟨g, i, none⟩) (n - i) (c - i)
set_option maxHeartbeats 1000000 in
theorem next_any (w : World) (L g i n : Nat) (bad : Bool) (s : ByteArray) (hi : i + 1 < n) (hn : n ≤ 1000000) (h : LT w L (.slice (some ⟨g, i, none⟩) (n - i) (n - i)) bad) (hs : w.cell? ⟨g, i, none⟩ = some (.string s)) :
    Calls Tryd.prog 20 #[.pointer (some ⟨L, 0, none⟩)] w (LetPost (.string s) L (.slice (some ⟨g, i + 1, none⟩) (n - (i + 1)) (n - (i + 1))) bad w) := by
  obtain ⟨k0, k1, f0, f1, hl⟩ := h
  obtain ⟨m, rfl⟩ : ∃ m, n = i + m + 2 := ⟨n - i - 2, by omega⟩
  have e1 : i + m + 2 - i = m + 2 := by omega
  have e2 : i + m + 2 - (i + 1) = m + 1 := by omega
  rw [e1] at k0
  rw [e2]
  clear e1 e2
  go_enter Tryd.func20, Tryd.ntmps20
  go_wp2_with fail
  go_ret
  exact ⟨rfl, ⟨by go_simp, by go_simp, by rw [World.frozen?_setCell]; exact f0, by rw [World.frozen?_setCell]; exact f1, by simpa using hl⟩, gb_set _ _ _⟩
set_option maxHeartbeats 1000000 in
theorem next_last (w : World) (L g i : Nat) (bad : Bool) (s : ByteArray) (h : LT w L (.slice (some ⟨g, i, none⟩) 1 1) bad) (hs : w.cell? ⟨g, i, none⟩ = some (.string s)) :
    Calls Tryd.prog 20 #[.pointer (some ⟨L, 0, none⟩)] w (LetPost (.string s) L (.slice (some ⟨g, i, none⟩) 0 0) bad w) := by
  obtain ⟨k0, k1, f0, f1, hl⟩ := h
  go_enter Tryd.func20, Tryd.ntmps20
  go_wp2_with fail
  go_ret
  exact ⟨rfl, ⟨by go_simp, by go_simp, by rw [World.frozen?_setCell]; exact f0, by rw [World.frozen?_setCell]; exact f1, by simpa using hl⟩, gb_set _ _ _⟩
end Go.Proofs.YtfgchphadeogpaaDoor
