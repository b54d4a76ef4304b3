/- The walk of the disk's statement on an armed disk. -/
import Derived.Test.YtehgnlocekcakaaDkP
import Derived.Test.YtehgnlocekcakaaDkO
import Derived.Test.YtehgnlocekcakaaDkApart
namespace Go.Proofs.Ytehgnlocekcakaa
open Go.RowKit
open Go
set_option linter.unusedVariables false
theorem eq_arrT (a0 b0 a1 b1 : ByteArray) (s0 t0 s1 t1 : Int) (w : World) :
    (Op.equalIn 10000 24 (.agg #[.string a0, .int .i64 s0, .string a1, .int .i64 s1]) (.agg #[.string b0, .int .i64 t0, .string b1, .int .i64 t1])).run Try.prog w = .ok (zEq a0 b0 s0 t0 && zEq a1 b1 s1 t1) w :=
  eq_arr 9997 a0 b0 a1 b1 s0 t0 s1 t1 w
theorem tmod50 (n : Int) : -49 ≤ n.tmod 50 ∧ n.tmod 50 ≤ 49 ∧ 0 ≤ n.tmod 50 % 50 ∧ n.tmod 50 % 50 < 50 := by
  have h2 := Int.tmod_lt_of_pos n (show (0 : Int) < 50 by omega)
  have h3 := Int.lt_tmod_of_pos n (show (0 : Int) < 50 by omega)
  omega
set_option maxHeartbeats 400000 in
theorem left_great (v : Value) (n : Int) (w : World) (cW : Calls Try.prog 9 #[v] w fun e w' => e = .returned (.bool true) ∧ w = w') :
    Calls Try.prog 6 #[v, .int .i64 n] w (LawTrue w) := by
  have CW := Lib.hid cW
  clear cW
  go_enter Try.func6, Try.ntmps6
  go_wp2_with fail
  refine CW.out.mono ?_
  rintro e w1 ⟨rfl, rfl⟩
  go_wp2_with fail
  refine (wakes_any _).mono ?_
  rintro e w9 ⟨rfl, hb9⟩
  go_wp2
  go_ret
  exact ⟨rfl, hb9⟩
set_option maxRecDepth 100000 in
set_option maxHeartbeats 400000 in
theorem left_A1 (v : Value) (n : Int) (ab0 : ByteArray) (as0 : Int) (ab1 : ByteArray) (as1 acap aleft : Int) (adown : Bool) (done f : Int) (xb0 : ByteArray) (xs0 : Int) (xb1 : ByteArray) (xs1 xcap xleft : Int) (xdown : Bool)  (w : World)
    (cW : Calls Try.prog 9 #[v] w fun e w' => e = .returned (.bool false) ∧ w = w')
    (cN : ∀ w', Calls Try.prog 14 #[.int .i64 131072] w' fun e w'' => e = .returned (.tuple #[.agg #[.string ⟨#[]⟩, .int .i64 0, .string ⟨#[]⟩, .int .i64 0, .int .i64 131072, .int .i64 (-1), .bool false], .int .i64 0]) ∧ Below w'.heap.size w' w'')
    (cA : ∀ w', Below w.heap.size w w' → Calls Try.prog 11 #[.agg #[.string ⟨#[]⟩, .int .i64 0, .string ⟨#[]⟩, .int .i64 0, .int .i64 131072, .int .i64 (-1), .bool false], v] w' fun e w'' => e = .returned (.tuple #[.agg #[.string ab0, .int .i64 as0, .string ab1, .int .i64 as1, .int .i64 acap, .int .i64 aleft, .bool adown], .int .i64 done, .int .i64 f]) ∧ Below w'.heap.size w' w'')
    (cR : ∀ k w', k = n.tmod 50 % 50 → Calls Try.prog 19 #[.agg #[.string ⟨#[]⟩, .int .i64 0, .string ⟨#[]⟩, .int .i64 0, .int .i64 131072, .int .i64 (-1), .bool false], .int .i64 k] w' fun e w'' => e = .returned (.tuple #[.agg #[.string ⟨#[]⟩, .int .i64 0, .string ⟨#[]⟩, .int .i64 0, .int .i64 131072, .int .i64 k, .bool false], .int .i64 0]) ∧ Below w'.heap.size w' w'')
    (cB : ∀ k w', k = n.tmod 50 % 50 → Below w.heap.size w w' → Calls Try.prog 11 #[.agg #[.string ⟨#[]⟩, .int .i64 0, .string ⟨#[]⟩, .int .i64 0, .int .i64 131072, .int .i64 k, .bool false], v] w' fun e w'' => e = .returned (.tuple #[.agg #[.string xb0, .int .i64 xs0, .string xb1, .int .i64 xs1, .int .i64 xcap, .int .i64 xleft, .bool xdown], .int .i64 done, .int .i64 f]) ∧ Below w'.heap.size w' w'') (hz : (zEq xb0 ab0 xs0 as0 && zEq xb1 ab1 xs1 as1) = true) (hd : done < n.tmod 50 % 50) :
    Calls Try.prog 6 #[v, .int .i64 n] w (LawTrue w) := by
  obtain ⟨t1, t2, t3, t4⟩ := tmod50 n
  have CW := Lib.hid cW
  clear cW
  go_enter Try.func6, Try.ntmps6
  go_wp2_with fail
  refine CW.out.mono ?_
  rintro e w1 ⟨rfl, rfl⟩
  go_wp2_with fail
  refine (cN _).mono ?_
  rintro e w1 ⟨rfl, hb1⟩
  clear cN
  have p1 : Seven (w1.alloc (.cells #[.string ⟨#[]⟩, .int .i64 0, .string ⟨#[]⟩, .int .i64 0, .int .i64 131072, .int .i64 (-1), .bool false] 26)) w1.heap.size (.string ⟨#[]⟩) (.int .i64 0) (.string ⟨#[]⟩) (.int .i64 0) (.int .i64 131072) (.int .i64 (-1)) (.bool false) := ⟨by simp, by simp, by simp, by simp, by simp, by simp, by simp⟩
  go_wp2_with fail
  refine (cA _ (bbox hb1 _)).mono ?_
  rintro e w2 ⟨rfl, hb2⟩
  clear cA
  have hs2 : w1.heap.size < w2.heap.size := by have := hb2.size; simp at this; omega
  have q1 := p1.below hb2 (by simp)
  have hB2 : Below w.heap.size w w2 := bn (bbox hb1 _) hb2
  clear hb1 hb2 p1
  obtain ⟨d0, d1, d2, d3, d4, d5, d6⟩ := q1
  have p2 : Seven (w2.alloc (.cells #[.string ab0, .int .i64 as0, .string ab1, .int .i64 as1, .int .i64 acap, .int .i64 aleft, .bool adown] 26)) w2.heap.size (.string ab0) (.int .i64 as0) (.string ab1) (.int .i64 as1) (.int .i64 acap) (.int .i64 aleft) (.bool adown) := ⟨by simp, by simp, by simp, by simp, by simp, by simp, by simp⟩
  go_wp2_with fail
  refine (cR _ _ rfl).mono ?_
  rintro e w3 ⟨rfl, hb3⟩
  clear cR
  have hs3 : w2.heap.size < w3.heap.size := by have := hb3.size; simp at this; omega
  have q2 := p2.below hb3 (by simp)
  have hB3 : Below w.heap.size w w3 := bn (bbox hB2 _) hb3
  clear hb3 p2 hB2 d0 d1 d2 d3 d4 d5 d6 hs2
  generalize hk : n.tmod 50 % 50 = k at *
  have p3 : Seven (w3.alloc (.cells #[.string ⟨#[]⟩, .int .i64 0, .string ⟨#[]⟩, .int .i64 0, .int .i64 131072, .int .i64 k, .bool false] 26)) w3.heap.size (.string ⟨#[]⟩) (.int .i64 0) (.string ⟨#[]⟩) (.int .i64 0) (.int .i64 131072) (.int .i64 k) (.bool false) := ⟨by simp, by simp, by simp, by simp, by simp, by simp, by simp⟩
  have p2 := q2.alloc1 hs3 (.cells #[.string ⟨#[]⟩, .int .i64 0, .string ⟨#[]⟩, .int .i64 0, .int .i64 131072, .int .i64 k, .bool false] 26)
  go_wp2_with fail
  refine (cB _ _ rfl (bbox hB3 _)).mono ?_
  rintro e w4 ⟨rfl, hb4⟩
  clear cB
  have hs4 : w3.heap.size < w4.heap.size := by have := hb4.size; simp at this; omega
  have r2 := p2.below hb4 (by simp; omega)
  have hB4 : Below w.heap.size w w4 := bn (bbox hB3 _) hb4
  have hs4' : w2.heap.size < w4.heap.size := by omega
  clear hb4 p2 p3 q2 hB3 hs3 hs4
  obtain ⟨a0, a1, a2, a3, a4, a5, a6⟩ := r2
  have he := eq_arrT xb0 ab0 xb1 ab1 xs0 as0 xs1 as1
  rw [hz] at he
  go_wp2_with fail
  refine (wakes_any _).mono ?_
  rintro e w9 ⟨rfl, hb9⟩
  go_wp2
  go_ret
  exact ⟨rfl, bn (bbox hB4 _) hb9⟩
set_option maxRecDepth 100000 in
set_option maxHeartbeats 400000 in
theorem left_A2 (v : Value) (n : Int) (ab0 : ByteArray) (as0 : Int) (ab1 : ByteArray) (as1 acap aleft : Int) (adown : Bool) (done f : Int) (xb0 : ByteArray) (xs0 : Int) (xb1 : ByteArray) (xs1 xcap xleft : Int) (xdown : Bool)  (w : World)
    (cW : Calls Try.prog 9 #[v] w fun e w' => e = .returned (.bool false) ∧ w = w')
    (cN : ∀ w', Calls Try.prog 14 #[.int .i64 131072] w' fun e w'' => e = .returned (.tuple #[.agg #[.string ⟨#[]⟩, .int .i64 0, .string ⟨#[]⟩, .int .i64 0, .int .i64 131072, .int .i64 (-1), .bool false], .int .i64 0]) ∧ Below w'.heap.size w' w'')
    (cA : ∀ w', Below w.heap.size w w' → Calls Try.prog 11 #[.agg #[.string ⟨#[]⟩, .int .i64 0, .string ⟨#[]⟩, .int .i64 0, .int .i64 131072, .int .i64 (-1), .bool false], v] w' fun e w'' => e = .returned (.tuple #[.agg #[.string ab0, .int .i64 as0, .string ab1, .int .i64 as1, .int .i64 acap, .int .i64 aleft, .bool adown], .int .i64 done, .int .i64 f]) ∧ Below w'.heap.size w' w'')
    (cR : ∀ k w', k = n.tmod 50 % 50 → Calls Try.prog 19 #[.agg #[.string ⟨#[]⟩, .int .i64 0, .string ⟨#[]⟩, .int .i64 0, .int .i64 131072, .int .i64 (-1), .bool false], .int .i64 k] w' fun e w'' => e = .returned (.tuple #[.agg #[.string ⟨#[]⟩, .int .i64 0, .string ⟨#[]⟩, .int .i64 0, .int .i64 131072, .int .i64 k, .bool false], .int .i64 0]) ∧ Below w'.heap.size w' w'')
    (cB : ∀ k w', k = n.tmod 50 % 50 → Below w.heap.size w w' → Calls Try.prog 11 #[.agg #[.string ⟨#[]⟩, .int .i64 0, .string ⟨#[]⟩, .int .i64 0, .int .i64 131072, .int .i64 k, .bool false], v] w' fun e w'' => e = .returned (.tuple #[.agg #[.string xb0, .int .i64 xs0, .string xb1, .int .i64 xs1, .int .i64 xcap, .int .i64 xleft, .bool xdown], .int .i64 done, .int .i64 f]) ∧ Below w'.heap.size w' w'') (hz : (zEq xb0 ab0 xs0 as0 && zEq xb1 ab1 xs1 as1) = true) (hd : done = n.tmod 50 % 50) (hf : (f == 31) = false) :
    Calls Try.prog 6 #[v, .int .i64 n] w (LawTrue w) := by
  obtain ⟨t1, t2, t3, t4⟩ := tmod50 n
  have CW := Lib.hid cW
  clear cW
  subst hd
  go_enter Try.func6, Try.ntmps6
  go_wp2_with fail
  refine CW.out.mono ?_
  rintro e w1 ⟨rfl, rfl⟩
  go_wp2_with fail
  refine (cN _).mono ?_
  rintro e w1 ⟨rfl, hb1⟩
  clear cN
  have p1 : Seven (w1.alloc (.cells #[.string ⟨#[]⟩, .int .i64 0, .string ⟨#[]⟩, .int .i64 0, .int .i64 131072, .int .i64 (-1), .bool false] 26)) w1.heap.size (.string ⟨#[]⟩) (.int .i64 0) (.string ⟨#[]⟩) (.int .i64 0) (.int .i64 131072) (.int .i64 (-1)) (.bool false) := ⟨by simp, by simp, by simp, by simp, by simp, by simp, by simp⟩
  go_wp2_with fail
  refine (cA _ (bbox hb1 _)).mono ?_
  rintro e w2 ⟨rfl, hb2⟩
  clear cA
  have hs2 : w1.heap.size < w2.heap.size := by have := hb2.size; simp at this; omega
  have q1 := p1.below hb2 (by simp)
  have hB2 : Below w.heap.size w w2 := bn (bbox hb1 _) hb2
  clear hb1 hb2 p1
  obtain ⟨d0, d1, d2, d3, d4, d5, d6⟩ := q1
  have p2 : Seven (w2.alloc (.cells #[.string ab0, .int .i64 as0, .string ab1, .int .i64 as1, .int .i64 acap, .int .i64 aleft, .bool adown] 26)) w2.heap.size (.string ab0) (.int .i64 as0) (.string ab1) (.int .i64 as1) (.int .i64 acap) (.int .i64 aleft) (.bool adown) := ⟨by simp, by simp, by simp, by simp, by simp, by simp, by simp⟩
  go_wp2_with fail
  refine (cR _ _ rfl).mono ?_
  rintro e w3 ⟨rfl, hb3⟩
  clear cR
  have hs3 : w2.heap.size < w3.heap.size := by have := hb3.size; simp at this; omega
  have q2 := p2.below hb3 (by simp)
  have hB3 : Below w.heap.size w w3 := bn (bbox hB2 _) hb3
  clear hb3 p2 hB2 d0 d1 d2 d3 d4 d5 d6 hs2
  generalize hk : n.tmod 50 % 50 = k at *
  have p3 : Seven (w3.alloc (.cells #[.string ⟨#[]⟩, .int .i64 0, .string ⟨#[]⟩, .int .i64 0, .int .i64 131072, .int .i64 k, .bool false] 26)) w3.heap.size (.string ⟨#[]⟩) (.int .i64 0) (.string ⟨#[]⟩) (.int .i64 0) (.int .i64 131072) (.int .i64 k) (.bool false) := ⟨by simp, by simp, by simp, by simp, by simp, by simp, by simp⟩
  have p2 := q2.alloc1 hs3 (.cells #[.string ⟨#[]⟩, .int .i64 0, .string ⟨#[]⟩, .int .i64 0, .int .i64 131072, .int .i64 k, .bool false] 26)
  go_wp2_with fail
  refine (cB _ _ rfl (bbox hB3 _)).mono ?_
  rintro e w4 ⟨rfl, hb4⟩
  clear cB
  have hs4 : w3.heap.size < w4.heap.size := by have := hb4.size; simp at this; omega
  have r2 := p2.below hb4 (by simp; omega)
  have hB4 : Below w.heap.size w w4 := bn (bbox hB3 _) hb4
  have hs4' : w2.heap.size < w4.heap.size := by omega
  clear hb4 p2 p3 q2 hB3 hs3 hs4
  obtain ⟨a0, a1, a2, a3, a4, a5, a6⟩ := r2
  have he := eq_arrT xb0 ab0 xb1 ab1 xs0 as0 xs1 as1
  rw [hz] at he
  go_wp2_with fail
  refine (wakes_any _).mono ?_
  rintro e w9 ⟨rfl, hb9⟩
  go_wp2
  go_ret
  exact ⟨rfl, bn (bbox hB4 _) hb9⟩
set_option maxRecDepth 100000 in
set_option maxHeartbeats 400000 in
theorem left_B1 (v : Value) (n : Int) (ab0 : ByteArray) (as0 : Int) (ab1 : ByteArray) (as1 acap aleft : Int) (adown : Bool) (done f : Int) (xb0 : ByteArray) (xs0 : Int) (xb1 : ByteArray) (xs1 xcap xleft : Int)  (w : World)
    (cW : Calls Try.prog 9 #[v] w fun e w' => e = .returned (.bool false) ∧ w = w')
    (cN : ∀ w', Calls Try.prog 14 #[.int .i64 131072] w' fun e w'' => e = .returned (.tuple #[.agg #[.string ⟨#[]⟩, .int .i64 0, .string ⟨#[]⟩, .int .i64 0, .int .i64 131072, .int .i64 (-1), .bool false], .int .i64 0]) ∧ Below w'.heap.size w' w'')
    (cA : ∀ w', Below w.heap.size w w' → Calls Try.prog 11 #[.agg #[.string ⟨#[]⟩, .int .i64 0, .string ⟨#[]⟩, .int .i64 0, .int .i64 131072, .int .i64 (-1), .bool false], v] w' fun e w'' => e = .returned (.tuple #[.agg #[.string ab0, .int .i64 as0, .string ab1, .int .i64 as1, .int .i64 acap, .int .i64 aleft, .bool adown], .int .i64 done, .int .i64 f]) ∧ Below w'.heap.size w' w'')
    (cR : ∀ k w', k = n.tmod 50 % 50 → Calls Try.prog 19 #[.agg #[.string ⟨#[]⟩, .int .i64 0, .string ⟨#[]⟩, .int .i64 0, .int .i64 131072, .int .i64 (-1), .bool false], .int .i64 k] w' fun e w'' => e = .returned (.tuple #[.agg #[.string ⟨#[]⟩, .int .i64 0, .string ⟨#[]⟩, .int .i64 0, .int .i64 131072, .int .i64 k, .bool false], .int .i64 0]) ∧ Below w'.heap.size w' w'')
    (cB : ∀ k w', k = n.tmod 50 % 50 → Below w.heap.size w w' → Calls Try.prog 11 #[.agg #[.string ⟨#[]⟩, .int .i64 0, .string ⟨#[]⟩, .int .i64 0, .int .i64 131072, .int .i64 k, .bool false], v] w' fun e w'' => e = .returned (.tuple #[.agg #[.string xb0, .int .i64 xs0, .string xb1, .int .i64 xs1, .int .i64 xcap, .int .i64 xleft, .bool true], .int .i64 (n.tmod 50 % 50), .int .i64 30]) ∧ Below w'.heap.size w' w'') (cb0 : ByteArray) (cs0 : Int) (cb1 : ByteArray) (cs1 ccap : Int)
    (cD : ∀ w', Calls Try.prog 15 #[.agg #[.string xb0, .int .i64 xs0, .string xb1, .int .i64 xs1, .int .i64 xcap, .int .i64 xleft, .bool true], .agg #[.int .i8 0, .int .i64 0, .string ⟨#[97]⟩, .int .i64 0]] w' fun e w'' => e = .returned (.tuple #[.agg #[.string ⟨#[]⟩, .int .i64 0, .string ⟨#[]⟩, .int .i64 0, .int .i64 0, .int .i64 0, .bool false], .int .i64 30]) ∧ Below w'.heap.size w' w'')
    (cC : ∀ w', Calls Try.prog 16 #[.agg #[.string xb0, .int .i64 xs0, .string xb1, .int .i64 xs1, .int .i64 xcap, .int .i64 xleft, .bool true], .int .i64 0, .int .i64 0] w' fun e w'' => e = .returned (.tuple #[.agg #[.string cb0, .int .i64 cs0, .string cb1, .int .i64 cs1, .int .i64 ccap, .int .i64 (-1), .bool false], .int .i64 0]) ∧ Below w'.heap.size w' w'') (hd : n.tmod 50 % 50 < done) :
    Calls Try.prog 6 #[v, .int .i64 n] w (LawTrue w) := by
  obtain ⟨t1, t2, t3, t4⟩ := tmod50 n
  have CW := Lib.hid cW
  clear cW
  go_enter Try.func6, Try.ntmps6
  go_wp2_with fail
  refine CW.out.mono ?_
  rintro e w1 ⟨rfl, rfl⟩
  go_wp2_with fail
  refine (cN _).mono ?_
  rintro e w1 ⟨rfl, hb1⟩
  clear cN
  have p1 : Seven (w1.alloc (.cells #[.string ⟨#[]⟩, .int .i64 0, .string ⟨#[]⟩, .int .i64 0, .int .i64 131072, .int .i64 (-1), .bool false] 26)) w1.heap.size (.string ⟨#[]⟩) (.int .i64 0) (.string ⟨#[]⟩) (.int .i64 0) (.int .i64 131072) (.int .i64 (-1)) (.bool false) := ⟨by simp, by simp, by simp, by simp, by simp, by simp, by simp⟩
  go_wp2_with fail
  refine (cA _ (bbox hb1 _)).mono ?_
  rintro e w2 ⟨rfl, hb2⟩
  clear cA
  have hs2 : w1.heap.size < w2.heap.size := by have := hb2.size; simp at this; omega
  have q1 := p1.below hb2 (by simp)
  have hB2 : Below w.heap.size w w2 := bn (bbox hb1 _) hb2
  clear hb1 hb2 p1
  obtain ⟨d0, d1, d2, d3, d4, d5, d6⟩ := q1
  have p2 : Seven (w2.alloc (.cells #[.string ab0, .int .i64 as0, .string ab1, .int .i64 as1, .int .i64 acap, .int .i64 aleft, .bool adown] 26)) w2.heap.size (.string ab0) (.int .i64 as0) (.string ab1) (.int .i64 as1) (.int .i64 acap) (.int .i64 aleft) (.bool adown) := ⟨by simp, by simp, by simp, by simp, by simp, by simp, by simp⟩
  go_wp2_with fail
  refine (cR _ _ rfl).mono ?_
  rintro e w3 ⟨rfl, hb3⟩
  clear cR
  have hs3 : w2.heap.size < w3.heap.size := by have := hb3.size; simp at this; omega
  have q2 := p2.below hb3 (by simp)
  have hB3 : Below w.heap.size w w3 := bn (bbox hB2 _) hb3
  clear hb3 p2 hB2 d0 d1 d2 d3 d4 d5 d6 hs2
  generalize hk : n.tmod 50 % 50 = k at *
  have p3 : Seven (w3.alloc (.cells #[.string ⟨#[]⟩, .int .i64 0, .string ⟨#[]⟩, .int .i64 0, .int .i64 131072, .int .i64 k, .bool false] 26)) w3.heap.size (.string ⟨#[]⟩) (.int .i64 0) (.string ⟨#[]⟩) (.int .i64 0) (.int .i64 131072) (.int .i64 k) (.bool false) := ⟨by simp, by simp, by simp, by simp, by simp, by simp, by simp⟩
  have p2 := q2.alloc1 hs3 (.cells #[.string ⟨#[]⟩, .int .i64 0, .string ⟨#[]⟩, .int .i64 0, .int .i64 131072, .int .i64 k, .bool false] 26)
  go_wp2_with fail
  refine (cB _ _ rfl (bbox hB3 _)).mono ?_
  rintro e w4 ⟨rfl, hb4⟩
  clear cB
  have hs4 : w3.heap.size < w4.heap.size := by have := hb4.size; simp at this; omega
  have r2 := p2.below hb4 (by simp; omega)
  have hB4 : Below w.heap.size w w4 := bn (bbox hB3 _) hb4
  have hs4' : w2.heap.size < w4.heap.size := by omega
  clear hb4 p2 p3 q2 hB3 hs3 hs4
  obtain ⟨a0, a1, a2, a3, a4, a5, a6⟩ := r2
  clear a0 a1 a2 a3 a4 a5 a6 hs4'
  have p4 : Seven (w4.alloc (.cells #[.string xb0, .int .i64 xs0, .string xb1, .int .i64 xs1, .int .i64 xcap, .int .i64 xleft, .bool true] 26)) w4.heap.size (.string xb0) (.int .i64 xs0) (.string xb1) (.int .i64 xs1) (.int .i64 xcap) (.int .i64 xleft) (.bool true) := ⟨by simp, by simp, by simp, by simp, by simp, by simp, by simp⟩
  go_wp2_with fail
  refine (cD _).mono ?_
  rintro e w5 ⟨rfl, hb5⟩
  clear cD
  have hs5 : w4.heap.size < w5.heap.size := by have := hb5.size; simp at this; omega
  have q4 := p4.below hb5 (by simp)
  have hB5 : Below w.heap.size w w5 := bn (bbox hB4 _) hb5
  clear hb5 p4
  obtain ⟨x0, x1, x2, x3, x4, x5, x6⟩ := id q4
  go_wp2_with fail
  refine (cC _).mono ?_
  rintro e w6 ⟨rfl, hb6⟩
  clear cC
  have hs6 : w4.heap.size < w6.heap.size := by have := hb6.size; simp at this; omega
  have q5 := (q4.alloc1 hs5 _).below hb6 (by simp; omega)
  have hB6 : Below w.heap.size w w6 := bn (bbox hB5 _) hb6
  clear hb6 q4 x0 x1 x2 x3 x4 x5 x6
  obtain ⟨x0, x1, x2, x3, x4, x5, x6⟩ := id q5
  go_wp2_with fail
  refine (wakes_any _).mono ?_
  rintro e w9 ⟨rfl, hb9⟩
  go_wp2
  go_ret
  exact ⟨rfl, bn (bbox hB6 _) hb9⟩
set_option maxRecDepth 100000 in
set_option maxHeartbeats 400000 in
theorem left_B2 (v : Value) (n : Int) (ab0 : ByteArray) (as0 : Int) (ab1 : ByteArray) (as1 acap aleft : Int) (adown : Bool) (done : Int) (xb0 : ByteArray) (xs0 : Int) (xb1 : ByteArray) (xs1 xcap xleft : Int)  (w : World)
    (cW : Calls Try.prog 9 #[v] w fun e w' => e = .returned (.bool false) ∧ w = w')
    (cN : ∀ w', Calls Try.prog 14 #[.int .i64 131072] w' fun e w'' => e = .returned (.tuple #[.agg #[.string ⟨#[]⟩, .int .i64 0, .string ⟨#[]⟩, .int .i64 0, .int .i64 131072, .int .i64 (-1), .bool false], .int .i64 0]) ∧ Below w'.heap.size w' w'')
    (cA : ∀ w', Below w.heap.size w w' → Calls Try.prog 11 #[.agg #[.string ⟨#[]⟩, .int .i64 0, .string ⟨#[]⟩, .int .i64 0, .int .i64 131072, .int .i64 (-1), .bool false], v] w' fun e w'' => e = .returned (.tuple #[.agg #[.string ab0, .int .i64 as0, .string ab1, .int .i64 as1, .int .i64 acap, .int .i64 aleft, .bool adown], .int .i64 done, .int .i64 31]) ∧ Below w'.heap.size w' w'')
    (cR : ∀ k w', k = n.tmod 50 % 50 → Calls Try.prog 19 #[.agg #[.string ⟨#[]⟩, .int .i64 0, .string ⟨#[]⟩, .int .i64 0, .int .i64 131072, .int .i64 (-1), .bool false], .int .i64 k] w' fun e w'' => e = .returned (.tuple #[.agg #[.string ⟨#[]⟩, .int .i64 0, .string ⟨#[]⟩, .int .i64 0, .int .i64 131072, .int .i64 k, .bool false], .int .i64 0]) ∧ Below w'.heap.size w' w'')
    (cB : ∀ k w', k = n.tmod 50 % 50 → Below w.heap.size w w' → Calls Try.prog 11 #[.agg #[.string ⟨#[]⟩, .int .i64 0, .string ⟨#[]⟩, .int .i64 0, .int .i64 131072, .int .i64 k, .bool false], v] w' fun e w'' => e = .returned (.tuple #[.agg #[.string xb0, .int .i64 xs0, .string xb1, .int .i64 xs1, .int .i64 xcap, .int .i64 xleft, .bool true], .int .i64 (n.tmod 50 % 50), .int .i64 30]) ∧ Below w'.heap.size w' w'') (cb0 : ByteArray) (cs0 : Int) (cb1 : ByteArray) (cs1 ccap : Int)
    (cD : ∀ w', Calls Try.prog 15 #[.agg #[.string xb0, .int .i64 xs0, .string xb1, .int .i64 xs1, .int .i64 xcap, .int .i64 xleft, .bool true], .agg #[.int .i8 0, .int .i64 0, .string ⟨#[97]⟩, .int .i64 0]] w' fun e w'' => e = .returned (.tuple #[.agg #[.string ⟨#[]⟩, .int .i64 0, .string ⟨#[]⟩, .int .i64 0, .int .i64 0, .int .i64 0, .bool false], .int .i64 30]) ∧ Below w'.heap.size w' w'')
    (cC : ∀ w', Calls Try.prog 16 #[.agg #[.string xb0, .int .i64 xs0, .string xb1, .int .i64 xs1, .int .i64 xcap, .int .i64 xleft, .bool true], .int .i64 0, .int .i64 0] w' fun e w'' => e = .returned (.tuple #[.agg #[.string cb0, .int .i64 cs0, .string cb1, .int .i64 cs1, .int .i64 ccap, .int .i64 (-1), .bool false], .int .i64 0]) ∧ Below w'.heap.size w' w'') (hd : done = n.tmod 50 % 50) :
    Calls Try.prog 6 #[v, .int .i64 n] w (LawTrue w) := by
  obtain ⟨t1, t2, t3, t4⟩ := tmod50 n
  have CW := Lib.hid cW
  clear cW
  subst hd
  go_enter Try.func6, Try.ntmps6
  go_wp2_with fail
  refine CW.out.mono ?_
  rintro e w1 ⟨rfl, rfl⟩
  go_wp2_with fail
  refine (cN _).mono ?_
  rintro e w1 ⟨rfl, hb1⟩
  clear cN
  have p1 : Seven (w1.alloc (.cells #[.string ⟨#[]⟩, .int .i64 0, .string ⟨#[]⟩, .int .i64 0, .int .i64 131072, .int .i64 (-1), .bool false] 26)) w1.heap.size (.string ⟨#[]⟩) (.int .i64 0) (.string ⟨#[]⟩) (.int .i64 0) (.int .i64 131072) (.int .i64 (-1)) (.bool false) := ⟨by simp, by simp, by simp, by simp, by simp, by simp, by simp⟩
  go_wp2_with fail
  refine (cA _ (bbox hb1 _)).mono ?_
  rintro e w2 ⟨rfl, hb2⟩
  clear cA
  have hs2 : w1.heap.size < w2.heap.size := by have := hb2.size; simp at this; omega
  have q1 := p1.below hb2 (by simp)
  have hB2 : Below w.heap.size w w2 := bn (bbox hb1 _) hb2
  clear hb1 hb2 p1
  obtain ⟨d0, d1, d2, d3, d4, d5, d6⟩ := q1
  have p2 : Seven (w2.alloc (.cells #[.string ab0, .int .i64 as0, .string ab1, .int .i64 as1, .int .i64 acap, .int .i64 aleft, .bool adown] 26)) w2.heap.size (.string ab0) (.int .i64 as0) (.string ab1) (.int .i64 as1) (.int .i64 acap) (.int .i64 aleft) (.bool adown) := ⟨by simp, by simp, by simp, by simp, by simp, by simp, by simp⟩
  go_wp2_with fail
  refine (cR _ _ rfl).mono ?_
  rintro e w3 ⟨rfl, hb3⟩
  clear cR
  have hs3 : w2.heap.size < w3.heap.size := by have := hb3.size; simp at this; omega
  have q2 := p2.below hb3 (by simp)
  have hB3 : Below w.heap.size w w3 := bn (bbox hB2 _) hb3
  clear hb3 p2 hB2 d0 d1 d2 d3 d4 d5 d6 hs2
  generalize hk : n.tmod 50 % 50 = k at *
  have p3 : Seven (w3.alloc (.cells #[.string ⟨#[]⟩, .int .i64 0, .string ⟨#[]⟩, .int .i64 0, .int .i64 131072, .int .i64 k, .bool false] 26)) w3.heap.size (.string ⟨#[]⟩) (.int .i64 0) (.string ⟨#[]⟩) (.int .i64 0) (.int .i64 131072) (.int .i64 k) (.bool false) := ⟨by simp, by simp, by simp, by simp, by simp, by simp, by simp⟩
  have p2 := q2.alloc1 hs3 (.cells #[.string ⟨#[]⟩, .int .i64 0, .string ⟨#[]⟩, .int .i64 0, .int .i64 131072, .int .i64 k, .bool false] 26)
  go_wp2_with fail
  refine (cB _ _ rfl (bbox hB3 _)).mono ?_
  rintro e w4 ⟨rfl, hb4⟩
  clear cB
  have hs4 : w3.heap.size < w4.heap.size := by have := hb4.size; simp at this; omega
  have r2 := p2.below hb4 (by simp; omega)
  have hB4 : Below w.heap.size w w4 := bn (bbox hB3 _) hb4
  have hs4' : w2.heap.size < w4.heap.size := by omega
  clear hb4 p2 p3 q2 hB3 hs3 hs4
  obtain ⟨a0, a1, a2, a3, a4, a5, a6⟩ := r2
  clear a0 a1 a2 a3 a4 a5 a6 hs4'
  have p4 : Seven (w4.alloc (.cells #[.string xb0, .int .i64 xs0, .string xb1, .int .i64 xs1, .int .i64 xcap, .int .i64 xleft, .bool true] 26)) w4.heap.size (.string xb0) (.int .i64 xs0) (.string xb1) (.int .i64 xs1) (.int .i64 xcap) (.int .i64 xleft) (.bool true) := ⟨by simp, by simp, by simp, by simp, by simp, by simp, by simp⟩
  go_wp2_with fail
  refine (cD _).mono ?_
  rintro e w5 ⟨rfl, hb5⟩
  clear cD
  have hs5 : w4.heap.size < w5.heap.size := by have := hb5.size; simp at this; omega
  have q4 := p4.below hb5 (by simp)
  have hB5 : Below w.heap.size w w5 := bn (bbox hB4 _) hb5
  clear hb5 p4
  obtain ⟨x0, x1, x2, x3, x4, x5, x6⟩ := id q4
  go_wp2_with fail
  refine (cC _).mono ?_
  rintro e w6 ⟨rfl, hb6⟩
  clear cC
  have hs6 : w4.heap.size < w6.heap.size := by have := hb6.size; simp at this; omega
  have q5 := (q4.alloc1 hs5 _).below hb6 (by simp; omega)
  have hB6 : Below w.heap.size w w6 := bn (bbox hB5 _) hb6
  clear hb6 q4 x0 x1 x2 x3 x4 x5 x6
  obtain ⟨x0, x1, x2, x3, x4, x5, x6⟩ := id q5
  go_wp2_with fail
  refine (wakes_any _).mono ?_
  rintro e w9 ⟨rfl, hb9⟩
  go_wp2
  go_ret
  exact ⟨rfl, bn (bbox hB6 _) hb9⟩
end Go.Proofs.Ytehgnlocekcakaa

