/- The walks of the mail statements' wakes and of MailZones. -/
import Derived.Test.YtfgchphadeogpaaDoorMlK
import Derived.Test.YtfgchphadeogpaaDoorMlPd
import Derived.Test.YtfgchphadeogpaaDoorMlW
namespace Go.Proofs.YtfgchphadeogpaaDoor
open Go.RowKit
open Go
set_option linter.unusedVariables false
def TwoPost (x k : Int) (w : World) (e : Ending) (w' : World) : Prop := e = .returned (.tuple #[.int .i64 x, .int .i64 k]) ∧ Below w.heap.size w w'
theorem parse_some {s : ByteArray} {v : Int} (hs : s.size ≤ 100000) (h : Ml.parseF s = some v) (w : World) : Calls Tryd.prog 9 #[.string s] w (TwoPost v 0 w) := by
  have := parse_any s hs w
  rw [h] at this
  exact this
theorem parse_none {s : ByteArray} (hs : s.size ≤ 100000) (h : Ml.parseF s = none) (w : World) : Calls Tryd.prog 9 #[.string s] w (TwoPost 0 70 w) := by
  have := parse_any s hs w
  rw [h] at this
  exact this
set_option maxHeartbeats 1000000 in
theorem wakes_any (w : World) : Calls Tryd.prog 8 #[] w (LawTrue w) := by
  have P0 := parse_some (by decide) Ml.parse_w0
  have P1 := parse_some (by decide) Ml.parse_w1
  have T := text_yes 1970 1 1 0 0 0 Ml.may_w0
  rw [Ml.text_w0, Ml.sec_w0] at T
  go_enter Tryd.func8, Tryd.ntmps8
  go_wp2_with fail
  refine (P0 _).mono ?_
  rintro e w1 ⟨rfl, b1⟩
  go_wp2_with fail
  refine (P1 _).mono ?_
  rintro e w2 ⟨rfl, b2⟩
  go_wp2_with fail
  refine (T _).mono ?_
  rintro e w3 ⟨rfl, b3⟩
  clear P0 P1 T
  go_wp2_with fail
  go_ret
  have := b1.size
  have := b2.size
  exact ⟨rfl, (b1.trans (b2.mono (by omega))).trans (b3.mono (by omega))⟩
def OptP (o : Option Int) (w : World) (e : Ending) (w' : World) : Prop := e = .returned (.tuple #[.int .i64 (o.getD 0), .bool o.isSome]) ∧ Below w.heap.size w w'
theorem size_add (a b : ByteArray) : (a ++ b).size = a.size + b.size := by simp
set_option maxRecDepth 100000 in
set_option maxHeartbeats 2000000 in
theorem zones_walk (s a b : ByteArray) (hs : s.size ≤ 60) (ha : a.size ≤ 20) (hb : b.size ≤ 20) (w : World) (o1 o2 u v : Option Int)
    (h1 : Ml.parseF (s ++ ⟨#[32]⟩ ++ a) = o1) (h2 : Ml.parseF (s ++ ⟨#[32]⟩ ++ b) = o2) (h3 : Ml.zneF a = u) (h4 : Ml.zneF b = v) : Calls Tryd.prog 6 #[.string s, .string a, .string b] w (LawTrue w) := by
  have z1 : (s ++ ⟨#[32]⟩ ++ a).size = s.size + 1 + a.size := by rw [size_add, size_add]; rfl
  have z2 : (s ++ ⟨#[32]⟩ ++ b).size = s.size + 1 + b.size := by rw [size_add, size_add]; rfl
  have z3 : (s ++ ⟨#[32]⟩).size = s.size + 1 := by rw [size_add]; rfl
  have W := wakes_any
  have c1 := parse_any (s ++ ⟨#[32]⟩ ++ a) (by omega)
  have c2 := parse_any (s ++ ⟨#[32]⟩ ++ b) (by omega)
  have c3 := zone_any a (by omega)
  have c4 := zone_any b (by omega)
  unfold ErrPost at c1 c2
  unfold OptPost optV at c3 c4
  rw [h1] at c1
  rw [h2] at c2
  rw [h3] at c3
  rw [h4] at c4
  have g1 : ((s.size : Int) > 60) = False := by simp; omega
  have g2 : ((a.size : Int) > 20) = False := by simp; omega
  have g3 : ((b.size : Int) > 20) = False := by simp; omega
  have hz : w.heap.size ≤ w.heap.size := Nat.le_refl _
  have hB : Below w.heap.size w w := Below.refl _ _
  rcases o1 with _ | x
  · clear h1 h2 h3 h4
    go_enter Tryd.func6, Tryd.ntmps6
    go_wp2_with (first | (go_at_call 9; (first | (with_reducible refine (c1 _).mono ?_) | (with_reducible refine (c2 _).mono ?_)); rintro e w9 ⟨rfl, hb9⟩; replace hB := hB.trans (hb9.mono hz); replace hz := Nat.le_trans hz hb9.size; clear hb9) | (go_at_call 15; (first | (with_reducible refine (c3 _).mono ?_) | (with_reducible refine (c4 _).mono ?_)); rintro e w9 ⟨rfl, hb9⟩; replace hB := hB.trans (hb9.mono hz); replace hz := Nat.le_trans hz hb9.size; clear hb9) | (go_at_call 8; (first | (with_reducible refine (W _).mono ?_)); rintro e w9 ⟨rfl, hb9⟩; replace hB := hB.trans (hb9.mono hz); replace hz := Nat.le_trans hz hb9.size; clear hb9))
    all_goals
      go_ret
      exact ⟨rfl, hB⟩
  rcases o2 with _ | y
  · clear h1 h2 h3 h4
    go_enter Tryd.func6, Tryd.ntmps6
    go_wp2_with (first | (go_at_call 9; (first | (with_reducible refine (c1 _).mono ?_) | (with_reducible refine (c2 _).mono ?_)); rintro e w9 ⟨rfl, hb9⟩; replace hB := hB.trans (hb9.mono hz); replace hz := Nat.le_trans hz hb9.size; clear hb9) | (go_at_call 15; (first | (with_reducible refine (c3 _).mono ?_) | (with_reducible refine (c4 _).mono ?_)); rintro e w9 ⟨rfl, hb9⟩; replace hB := hB.trans (hb9.mono hz); replace hz := Nat.le_trans hz hb9.size; clear hb9) | (go_at_call 8; (first | (with_reducible refine (W _).mono ?_)); rintro e w9 ⟨rfl, hb9⟩; replace hB := hB.trans (hb9.mono hz); replace hz := Nat.le_trans hz hb9.size; clear hb9))
    all_goals
      go_ret
      exact ⟨rfl, hB⟩
  rcases u with _ | u
  · clear h1 h2 h3 h4
    go_enter Tryd.func6, Tryd.ntmps6
    go_wp2_with (first | (go_at_call 9; (first | (with_reducible refine (c1 _).mono ?_) | (with_reducible refine (c2 _).mono ?_)); rintro e w9 ⟨rfl, hb9⟩; replace hB := hB.trans (hb9.mono hz); replace hz := Nat.le_trans hz hb9.size; clear hb9) | (go_at_call 15; (first | (with_reducible refine (c3 _).mono ?_) | (with_reducible refine (c4 _).mono ?_)); rintro e w9 ⟨rfl, hb9⟩; replace hB := hB.trans (hb9.mono hz); replace hz := Nat.le_trans hz hb9.size; clear hb9) | (go_at_call 8; (first | (with_reducible refine (W _).mono ?_)); rintro e w9 ⟨rfl, hb9⟩; replace hB := hB.trans (hb9.mono hz); replace hz := Nat.le_trans hz hb9.size; clear hb9))
    all_goals
      go_ret
      exact ⟨rfl, hB⟩
  rcases v with _ | v
  · clear h1 h2 h3 h4
    go_enter Tryd.func6, Tryd.ntmps6
    go_wp2_with (first | (go_at_call 9; (first | (with_reducible refine (c1 _).mono ?_) | (with_reducible refine (c2 _).mono ?_)); rintro e w9 ⟨rfl, hb9⟩; replace hB := hB.trans (hb9.mono hz); replace hz := Nat.le_trans hz hb9.size; clear hb9) | (go_at_call 15; (first | (with_reducible refine (c3 _).mono ?_) | (with_reducible refine (c4 _).mono ?_)); rintro e w9 ⟨rfl, hb9⟩; replace hB := hB.trans (hb9.mono hz); replace hz := Nat.le_trans hz hb9.size; clear hb9) | (go_at_call 8; (first | (with_reducible refine (W _).mono ?_)); rintro e w9 ⟨rfl, hb9⟩; replace hB := hB.trans (hb9.mono hz); replace hz := Nat.le_trans hz hb9.size; clear hb9))
    all_goals
      go_ret
      exact ⟨rfl, hB⟩
  have hzz := Ml.zones h1 h2 h3 h4
  have hzb : ((x + 60 * u : Int) == y + 60 * v) = true := by simp [hzz]
  have k1 := Ml.parse_bd h1
  have k2 := Ml.parse_bd h2
  have k3 := Ml.zne_bd h3
  have k4 := Ml.zne_bd h4
  clear h1 h2 h3 h4
  have w1 : IntKind.i64.wrap (60 * u) = 60 * u := by simp [IntKind.wrap, IntKind.bits, IntKind.signed]; omega
  have w2 : IntKind.i64.wrap (60 * v) = 60 * v := by simp [IntKind.wrap, IntKind.bits, IntKind.signed]; omega
  have w3 : IntKind.i64.wrap (x + 60 * u) = x + 60 * u := by simp [IntKind.wrap, IntKind.bits, IntKind.signed]; omega
  have w4 : IntKind.i64.wrap (y + 60 * v) = y + 60 * v := by simp [IntKind.wrap, IntKind.bits, IntKind.signed]; omega
  have HZ := Lib.hid hzz
  clear hzz k1 k2 k3 k4
  go_enter Tryd.func6, Tryd.ntmps6
  go_wp2_with (first | (go_at_call 9; (first | (with_reducible refine (c1 _).mono ?_) | (with_reducible refine (c2 _).mono ?_)); rintro e w9 ⟨rfl, hb9⟩; replace hB := hB.trans (hb9.mono hz); replace hz := Nat.le_trans hz hb9.size; clear hb9) | (go_at_call 15; (first | (with_reducible refine (c3 _).mono ?_) | (with_reducible refine (c4 _).mono ?_)); rintro e w9 ⟨rfl, hb9⟩; replace hB := hB.trans (hb9.mono hz); replace hz := Nat.le_trans hz hb9.size; clear hb9) | (go_at_call 8; (first | (with_reducible refine (W _).mono ?_)); rintro e w9 ⟨rfl, hb9⟩; replace hB := hB.trans (hb9.mono hz); replace hz := Nat.le_trans hz hb9.size; clear hb9))
  go_ret
  exact ⟨rfl, hB⟩
set_option maxHeartbeats 1000000 in
theorem mailZones_walk {w : World} (s : ByteArray) (_ : s.size ≤ Go.maxLen) (a : ByteArray) (_ : a.size ≤ Go.maxLen) (b : ByteArray) (_ : b.size ≤ Go.maxLen) : Calls Tryd.prog 6 #[.string s, .string a, .string b] w (LawTrue w) := by
  by_cases hs : s.size ≤ 60
  · by_cases ha : a.size ≤ 20
    · by_cases hb : b.size ≤ 20
      · exact zones_walk s a b hs ha hb w _ _ _ _ rfl rfl rfl rfl
      · have W := wakes_any
        go_enter Tryd.func6, Tryd.ntmps6
        go_wp2_with fail
        refine (W _).mono ?_
        rintro e w1 ⟨rfl, b1⟩
        go_wp2_with fail
        go_ret
        exact ⟨rfl, b1⟩
    · have W := wakes_any
      go_enter Tryd.func6, Tryd.ntmps6
      go_wp2_with fail
      refine (W _).mono ?_
      rintro e w1 ⟨rfl, b1⟩
      go_wp2_with fail
      go_ret
      exact ⟨rfl, b1⟩
  · have W := wakes_any
    go_enter Tryd.func6, Tryd.ntmps6
    go_wp2_with fail
    refine (W _).mono ?_
    rintro e w1 ⟨rfl, b1⟩
    go_wp2_with fail
    go_ret
    exact ⟨rfl, b1⟩
end Go.Proofs.YtfgchphadeogpaaDoor
