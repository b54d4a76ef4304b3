/- The walk of the disk's statement on rows of operations. -/
import Derived.Test.YtehgnlocekcakaaDkApart
import Derived.Test.YtehgnlocekcakaaDkP
import Derived.Test.YtehgnlocekcakaaDkRf
import Derived.Test.YtehgnlocekcakaaDkRh
namespace Go.Proofs.Ytehgnlocekcakaa
open Go.RowKit
open Go
set_option linter.unusedVariables false
set_option maxHeartbeats 400000 in
theorem rall_empty (d0 : Dm.Dk) (a : Option Addr) (cap : Nat) (w : World) : Calls Try.prog 12 #[dv d0, .slice a 0 cap] w (AllPost (Dm.allF d0 [] 0) w) := by
  obtain ⟨b0, s0, b1, s1, cp, left, down⟩ := d0
  show Calls Try.prog 12 #[.agg #[.string b0, .int .i64 s0, .string b1, .int .i64 s1, .int .i64 cp, .int .i64 left, .bool down], .slice a 0 cap] w fun e w' => e = .returned (.tuple #[.agg #[.string b0, .int .i64 s0, .string b1, .int .i64 s1, .int .i64 cp, .int .i64 left, .bool down], .int .i64 0, .int .i64 0]) ∧ Below w.heap.size w w'
  go_enter Try.func12, Try.ntmps12
  go_wp2_with fail
  go_loop [7] (fun k => k = .int .i64 0) (fun _ => 0)
  case atStart => rfl
  case round =>
    obtain rfl := hrel
    go_wp2
    refine disk_ret3 (fn := Try.f12) (p := 4) (u := 5) (v := 6) rfl _ _ w (w.heap.size + 1) (.string b0) (.int .i64 s0) (.string b1) (.int .i64 s1) (.int .i64 cp) (.int .i64 left) (.bool down) (.int .i64 0) (.int .i64 0) rfl rfl rfl ?_ ?_ _ (fun hb => ⟨rfl, hb⟩)
    · exact ⟨by go_simp, by go_simp, by go_simp, by go_simp, by go_simp, by go_simp, by go_simp⟩
    · exact bbox (bbox (Below.refl _ _) _) _
theorem rall_row (d0 : Dm.Dk) (v : Value) (xs : List Dm.Wr) (w : World) (hv : IsRow w v xs) (hl : Is64 d0.left) (hm : xs.length ≤ 1000000) (hsz : ∀ x ∈ xs, (x.b.size : Int) ≤ 9000000000000000000) :
    Calls Try.prog 12 #[dv d0, v] w (AllPost (Dm.allF d0 xs 0) w) := by
  rcases hv with ⟨a, cap, rfl, rfl⟩ | ⟨b, off, cap, rfl, hr, hlt, _⟩
  · exact rall_empty d0 a cap w
  · exact rall_some d0 xs b off cap w hl hr hlt hm hsz
set_option maxRecDepth 100000 in
set_option maxHeartbeats 1000000 in
theorem plays_g1 (b0 : ByteArray) (s0 : Int) (b1 : ByteArray) (s1 cap left : Int) (down : Bool) (v : Value) (w : World) (cG : ∀ w, Calls Try.prog 8 #[.agg #[.string b0, .int .i64 s0, .string b1, .int .i64 s1, .int .i64 cap, .int .i64 left, .bool down]] w fun e w' => e = .returned (.bool true) ∧ Below w.heap.size w w') :
    Calls Try.prog 3 #[.agg #[.string b0, .int .i64 s0, .string b1, .int .i64 s1, .int .i64 cap, .int .i64 left, .bool down], v] w (LawTrue w) := by
  go_enter Try.func3, Try.ntmps3
  go_wp2_with fail
  refine (cG _).mono ?_
  rintro e w1 ⟨rfl, hb1⟩
  go_wp2_with fail
  refine (wakes_any _).mono ?_
  rintro e w2 ⟨rfl, hb2⟩
  go_wp2
  go_ret
  exact ⟨rfl, bn (bn (bbox (Below.refl _ _) _) hb1) hb2⟩
set_option maxRecDepth 100000 in
set_option maxHeartbeats 1000000 in
theorem plays_g2 (b0 : ByteArray) (s0 : Int) (b1 : ByteArray) (s1 cap left : Int) (down : Bool) (v : Value) (w : World) (cG : ∀ w, Calls Try.prog 8 #[.agg #[.string b0, .int .i64 s0, .string b1, .int .i64 s1, .int .i64 cap, .int .i64 left, .bool down]] w fun e w' => e = .returned (.bool false) ∧ Below w.heap.size w w')
    (cW : ∀ w', Below w.heap.size w w' → Calls Try.prog 9 #[v] w' fun e w'' => e = .returned (.bool true) ∧ w' = w'') :
    Calls Try.prog 3 #[.agg #[.string b0, .int .i64 s0, .string b1, .int .i64 s1, .int .i64 cap, .int .i64 left, .bool down], v] w (LawTrue w) := by
  go_enter Try.func3, Try.ntmps3
  go_wp2_with fail
  refine (cG _).mono ?_
  rintro e w1 ⟨rfl, hb1⟩
  have hB1 : Below w.heap.size w w1 := bn (bbox (Below.refl _ _) _) hb1
  go_wp2_with fail
  refine (cW _ hB1).mono ?_
  rintro e w2 ⟨rfl, rfl⟩
  go_wp2_with fail
  refine (wakes_any _).mono ?_
  rintro e w2 ⟨rfl, hb2⟩
  go_wp2
  go_ret
  exact ⟨rfl, bn hB1 hb2⟩
set_option maxRecDepth 100000 in
set_option maxHeartbeats 1000000 in
theorem plays_main (b0 : ByteArray) (s0 : Int) (b1 : ByteArray) (s1 cap left : Int) (down : Bool) (v : Value) (w : World) (cG : ∀ w, Calls Try.prog 8 #[.agg #[.string b0, .int .i64 s0, .string b1, .int .i64 s1, .int .i64 cap, .int .i64 left, .bool down]] w fun e w' => e = .returned (.bool false) ∧ Below w.heap.size w w')
    (cW : ∀ w', Below w.heap.size w w' → Calls Try.prog 9 #[v] w' fun e w'' => e = .returned (.bool false) ∧ w' = w'')
    (e0 : ByteArray) (p0 : Int) (e1 : ByteArray) (p1 ec el : Int) (ed : Bool) (n f : Int)
    (cA : ∀ w', Below w.heap.size w w' → Calls Try.prog 11 #[.agg #[.string b0, .int .i64 s0, .string b1, .int .i64 s1, .int .i64 cap, .int .i64 left, .bool down], v] w' fun e w'' => e = .returned (.tuple #[.agg #[.string e0, .int .i64 p0, .string e1, .int .i64 p1, .int .i64 ec, .int .i64 el, .bool ed], .int .i64 n, .int .i64 f]) ∧ Below w'.heap.size w' w'')
    (cB : ∀ w', Below w.heap.size w w' → Calls Try.prog 12 #[.agg #[.string b0, .int .i64 s0, .string b1, .int .i64 s1, .int .i64 cap, .int .i64 left, .bool down], v] w' fun e w'' => e = .returned (.tuple #[.agg #[.string e0, .int .i64 p0, .string e1, .int .i64 p1, .int .i64 ec, .int .i64 el, .bool ed], .int .i64 n, .int .i64 f]) ∧ Below w'.heap.size w' w'')
    (cS : ∀ w, Calls Try.prog 13 #[.agg #[.string e0, .int .i64 p0, .string e1, .int .i64 p1, .int .i64 ec, .int .i64 el, .bool ed], .agg #[.string e0, .int .i64 p0, .string e1, .int .i64 p1, .int .i64 ec, .int .i64 el, .bool ed]] w fun e w' => e = .returned (.bool true) ∧ Below w.heap.size w w') :
    Calls Try.prog 3 #[.agg #[.string b0, .int .i64 s0, .string b1, .int .i64 s1, .int .i64 cap, .int .i64 left, .bool down], v] w (LawTrue w) := by
  go_enter Try.func3, Try.ntmps3
  go_wp2_with fail
  refine (cG _).mono ?_
  rintro e w1 ⟨rfl, hb1⟩
  have hB1 : Below w.heap.size w w1 := bn (bbox (Below.refl _ _) _) hb1
  have hz1 : w.heap.size < w1.heap.size := by have := hb1.size; simp at this; omega
  have hD1 : Seven w1 w.heap.size (.string b0) (.int .i64 s0) (.string b1) (.int .i64 s1) (.int .i64 cap) (.int .i64 left) (.bool down) := Seven.below (W := _) ⟨by go_simp, by go_simp, by go_simp, by go_simp, by go_simp, by go_simp, by go_simp⟩ hb1 (by simp <;> omega)
  clear hb1 cG
  go_wp2_with fail
  refine (cW _ hB1).mono ?_
  rintro e w2 ⟨rfl, rfl⟩
  clear cW
  obtain ⟨q0, q1, q2, q3, q4, q5, q6⟩ := id hD1
  go_wp2_with fail
  refine (cA _ ?_).mono ?_
  · first | exact hB1 | exact bbox hB1 _ | exact bbox (bbox hB1 _) _ | exact hB1.drew
  rintro e w2 ⟨rfl, hb2⟩
  clear cA
  have hB2 : Below w.heap.size w w2 := bn hB1 hb2
  have hD2 := Seven.below hD1 hb2 hz1
  have hz2 : w.heap.size < w2.heap.size := by have := hb2.size; omega
  clear hb2 q0 q1 q2 q3 q4 q5 q6 hD1
  obtain ⟨q0, q1, q2, q3, q4, q5, q6⟩ := id hD2
  go_wp2_with fail
  refine (cB _ (bbox hB2 _)).mono ?_
  rintro e w3 ⟨rfl, hb3⟩
  clear cB
  have hB3 : Below w.heap.size w w3 := bn (bbox hB2 _) hb3
  have hX3 : Seven w3 w2.heap.size (.string e0) (.int .i64 p0) (.string e1) (.int .i64 p1) (.int .i64 ec) (.int .i64 el) (.bool ed) := Seven.below (W := _) ⟨by go_simp, by go_simp, by go_simp, by go_simp, by go_simp, by go_simp, by go_simp⟩ hb3 (by simp <;> omega)
  have hz3 : w2.heap.size < w3.heap.size := by have := hb3.size; simp at this; omega
  clear hb3 q0 q1 q2 q3 q4 q5 q6 hD2
  obtain ⟨q0, q1, q2, q3, q4, q5, q6⟩ := id hX3
  go_wp2_with fail
  refine (cS _).mono ?_
  rintro e w4 ⟨rfl, hb4⟩
  clear cS
  have hB4 : Below w.heap.size w w4 := bn (bbox hB3 _) hb4
  go_wp2_with fail
  refine (wakes_any _).mono ?_
  rintro e w5 ⟨rfl, hb5⟩
  go_wp2
  go_ret
  exact ⟨rfl, bn hB4 hb5⟩
theorem diskPlays_walk {w : World} (d : Dm.Dk) (hl : Is64 d.left) (v : Value) (xs : List Dm.Wr) (hv : IsRow w v xs) : Calls Try.prog 3 #[dv d, v] w (LawTrue w) := by
  cases hgd : Dm.greatB d
  · have cG := fun w => cGreat d false hgd w
    cases hg : Dm.greatW xs
    · have cW : ∀ w', Below w.heap.size w w' → Calls Try.prog 9 #[v] w' fun e w'' => e = .returned (.bool false) ∧ w' = w'' := fun w' hb => by
        have := greatW_row v xs w' (hv.below hb); rw [hg] at this; exact this
      have hlen : xs.length ≤ 100 := by
        have h := hg
        unfold Dm.greatW at h
        simp only [Bool.or_eq_false_iff, decide_eq_false_iff_not] at h
        omega
      have hsz : ∀ x ∈ xs, (x.b.size : Int) ≤ 9000000000000000000 := fun x hx => by have := greatW_small hg hx; omega
      exact plays_main d.b0 d.s0 d.b1 d.s1 d.cap d.left d.down v w cG cW
        (Dm.allF d xs 0).1.b0 (Dm.allF d xs 0).1.s0 (Dm.allF d xs 0).1.b1 (Dm.allF d xs 0).1.s1 (Dm.allF d xs 0).1.cap (Dm.allF d xs 0).1.left (Dm.allF d xs 0).1.down (Dm.allF d xs 0).2.1 (Dm.allF d xs 0).2.2
        (fun w' hb => all_row d v xs w' (hv.below hb) hl (by omega) hsz) (fun w' hb => rall_row d v xs w' (hv.below hb) hl (by omega) hsz)
        (fun w => by have := rsame_any (Dm.allF d xs 0).1 (Dm.allF d xs 0).1 w; rw [sameB_refl] at this; exact this)
    · exact plays_g2 d.b0 d.s0 d.b1 d.s1 d.cap d.left d.down v w cG (fun w' hb => by have := greatW_row v xs w' (hv.below hb); rw [hg] at this; exact this)
  · exact plays_g1 d.b0 d.s0 d.b1 d.s1 d.cap d.left d.down v w (fun w => cGreat d true hgd w)
end Go.Proofs.Ytehgnlocekcakaa
