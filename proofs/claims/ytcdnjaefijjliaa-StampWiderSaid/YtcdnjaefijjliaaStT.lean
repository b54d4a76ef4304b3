/- The walk of the stamp's statement on the wider grammar and fractions. -/
import Derived.Test.YtcdnjaefijjliaaStR
namespace Go.Proofs.Ytcdnjaefijjliaa
open Go.RowKit
open Go
set_option linter.unusedVariables false
theorem tmod20 (n : Int) : -19 ≤ n.tmod 20 ∧ n.tmod 20 ≤ 19 ∧ 0 ≤ n.tmod 20 % 20 ∧ n.tmod 20 % 20 < 20 := by
  have h2 := Int.tmod_lt_of_pos n (show (0 : Int) < 20 by omega)
  have h3 := Int.lt_tmod_of_pos n (show (0 : Int) < 20 by omega)
  omega
theorem app_assoc3 (a b c : ByteArray) : a ++ b ++ c = a ++ (b ++ c) := by
  apply ByteArray.ext
  simp [ByteArray.data_append]
set_option maxRecDepth 100000 in
set_option maxHeartbeats 1000000 in
theorem wider_long {w : World} (s : ByteArray) (sec digits : Int) (h : 300 < s.size) : Calls Try.prog 7 #[.string s, .int .i64 sec, .int .i64 digits] w (LawTrue w) := by
  have h' : (300 : Int) < s.size := by omega
  go_enter Try.func7, Try.ntmps7
  go_wp2_with fail
  refine (wakes_any _).mono ?_
  rintro e w3 ⟨rfl, hb3⟩
  go_wp2_with fail
  go_ret
  exact ⟨rfl, hb3⟩
/-- What the two grammars answer, as the law's first test wants it. -/
def Two (a : Int) (ok : Bool) (b : Int) (is : Bool) : Prop := ok = false ∨ (ok = true ∧ is = true ∧ a = b ∧ -62135596800 ≤ a ∧ a ≤ 253402300799)
set_option maxRecDepth 100000 in
set_option maxHeartbeats 2000000 in
theorem wider_core {w : World} (s : ByteArray) (sec digits : Int) (h : s.size ≤ 300) (a b : Int) (ok is : Bool) (htwo : Two a ok b is)
    (c1 : ∀ w, Calls Try.prog 10 #[.string s] w (ZonPost (a, ok) w))
    (c2 : ∀ w, Calls Try.prog 12 #[.string s] w (ZonPost (b, is) w))
    (t : ByteArray) (made : Bool) (ht : made = true → t.size = 20)
    (c3 : ∀ w, Calls Try.prog 18 #[.int .i64 sec] w (TexPost (t, made) w))
    (c4 : made = true → ∀ k : Nat, 1 ≤ k → k ≤ 20 → ∀ w, Calls Try.prog 10 #[.string (t.extract 0 19 ++ Sm.frac k ++ ⟨#[90]⟩)] w (ZonPost (sec, true) w))
    (y m d hh mi x : Int) (hy : made = true → 1 ≤ y)
    (c5 : made = true → ∀ w, Calls Try.prog 21 #[.int .i64 sec] w fun e w' => e = .returned (.tuple #[.agg #[.int .i64 y, .int .i64 m, .int .i64 d, .int .i64 hh, .int .i64 mi, .int .i64 x], .int .i64 0]) ∧ Below w.heap.size w w') :
    Calls Try.prog 7 #[.string s, .int .i64 sec, .int .i64 digits] w (LawTrue w) := by
  have h' : ¬ (300 : Int) < s.size := by omega
  have HT := Lib.hid ht
  have H4 := Lib.hid c4
  have H5 := Lib.hid c5
  have HY := Lib.hid hy
  clear ht c4 c5 hy
  obtain ⟨t1, t2, t3, t4⟩ := tmod20 digits
  have two' : (ok = false) ∨ (ok = true ∧ is = true ∧ a = b ∧ ¬ a < -62135596800 ∧ ¬ 253402300799 < a) := by
    rcases htwo with k | ⟨k1, k2, k3, k4, k5⟩
    · exact Or.inl k
    · exact Or.inr ⟨k1, k2, k3, by omega, by omega⟩
  clear htwo
  rcases two' with rfl | ⟨rfl, rfl, rfl, k4, k5⟩
  all_goals
    go_enter Try.func7, Try.ntmps7
    go_wp2_with fail
    refine (c1 _).mono ?_
    rintro e1 w1 ⟨rfl, hb1⟩
    clear c1
    go_wp2_with fail
    refine (c2 _).mono ?_
    rintro e1 w2 ⟨rfl, hb2⟩
    clear c2
    go_wp2_with fail
    refine (c3 _).mono ?_
    rintro e1 w3 ⟨rfl, hb3⟩
    clear c3
    have hB3 := bn (bn hb1 hb2) hb3
    clear hb1 hb2 hb3
    cases made
    · go_wp2_with fail
      refine (wakes_any _).mono ?_
      rintro e1 w4 ⟨rfl, hb4⟩
      go_wp2_with fail
      go_ret
      exact ⟨rfl, bn hB3 hb4⟩
    have ht := HT.out rfl
    have ht' : (t.size : Int) = 20 := by omega
    have H44 := H4.out rfl
    have H55 := H5.out rfl
    have hy := HY.out rfl
    clear HT H4 H5 HY
    have hx : (t.extract 0 19).size = 19 := by rw [Sm.size_extract, ht]; rfl
    have hone : (ByteArray.mk #[90]).size = 1 := rfl
    have H4 := Lib.hid H44
    have H5 := Lib.hid H55
    clear H44 H55
    go_wp2_with fail
    go_loop [13, 14] (fun f i => ∃ j : Nat, (j : Int) ≤ 1 + digits.tmod 20 % 20 ∧ i = .int .i64 (j : Int) ∧ f = .string (Sm.frac j)) (fun _ i => 21 - (intOf i).toNat)
    case atStart => exact ⟨0, by omega, rfl, rfl⟩
    case round =>
      obtain ⟨j, hj, rfl, rfl⟩ := hrel
      have hsz := Sm.frac_size j
      by_cases hlt : (j : Int) < 1 + digits.tmod 20 % 20
      · have hst := Sm.frac_step j
        go_wp2
        go_round
        case rel => exact ⟨j + 1, by omega, by push_cast; try go_num, by first | rfl | rw [hst]⟩
        case measure => simp [intOf]; omega
      · have C4 := H4.out j (by omega) (by omega)
        have C5 := H5.out
        go_wp2_with fail
        refine (C4 _).mono ?_
        rintro e1 w4 ⟨rfl, hb4⟩
        go_wp2_with fail
        refine (C5 _).mono ?_
        rintro e1 w5 ⟨rfl, hb5⟩
        have hy' : 1 ≤ y := hy
        go_wp2_with fail
        refine (wakes_any _).mono ?_
        rintro e1 w6 ⟨rfl, hb6⟩
        go_wp2_with fail
        go_ret
        exact ⟨rfl, bn (bbox (bn (bn hB3 hb4) hb5) _) hb6⟩
theorem stampWider_walk {w : World} (s : ByteArray) (_ : s.size ≤ maxLen) (sec : Int) (_ : Is64 sec) (digits : Int) (_ : Is64 digits) : Calls Try.prog 7 #[.string s, .int .i64 sec, .int .i64 digits] w (LawTrue w) := by
  by_cases h : 300 < s.size
  · exact wider_long s sec digits h
  · have two : Two (Sm.fullF s 8).1 (Sm.fullF s 8).2 (Sm.w3cF s).1 (Sm.w3cF s).2 := by
      cases k : (Sm.fullF s 8).2
      · exact Or.inl rfl
      · obtain ⟨e, r0, r1⟩ := Sm.full_w3c s k
        exact Or.inr ⟨rfl, by rw [e, k], by rw [e], r0, r1⟩
    have c1 := fun w => stamp_any s (by omega) w
    have c2 := fun w => w3c_any s (by omega) w
    obtain ⟨r, hr⟩ := text_exists sec
    have c3 := fun w => text_any sec r hr w
    rcases hr with ⟨_, rfl⟩ | ⟨y, m, d, hh, mi, x, hm, rfl, rfl⟩
    · exact wider_core s sec digits (by omega) _ _ _ _ two c1 c2 _ _ (fun q => by cases q) c3 (fun q => by cases q) 0 0 0 0 0 0 (fun q => by cases q) (fun q => by cases q)
    · refine wider_core s _ digits (by omega) _ _ _ _ two c1 c2 _ _ (fun _ => rfl) c3 (fun _ k k1 k2 w => ?_) y m d hh mi x (fun _ => (may_bds hm).1.1) (fun _ w => rciv_yes y m d hh mi x w hm)
      rw [app_assoc3]
      have := stamp_any ((Sm.textB y m d hh mi x).extract 0 19 ++ (Sm.frac k ++ ⟨#[90]⟩)) (by
        rw [Sm.size_app, Sm.cut_size, Sm.size_app, Sm.frac_size]
        have : (ByteArray.mk #[90]).size = 1 := rfl
        omega) w
      rw [Sm.full_frac hm k k1] at this
      exact this
end Go.Proofs.Ytcdnjaefijjliaa
