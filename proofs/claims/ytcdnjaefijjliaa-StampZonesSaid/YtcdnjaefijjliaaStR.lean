/- The walks of the stamp's statements: written and read; order. -/
import Derived.Test.YtcdnjaefijjliaaStQ
import Derived.Test.YtcdnjaefijjliaaSmH
import Derived.Test.YtcdnjaefijjliaaSmO
namespace Go.Proofs.Ytcdnjaefijjliaa
open Go.RowKit
open Go
set_option linter.unusedVariables false
theorem list_text (y m d h mi x : Int) : (Sm.textB y m d h mi x).toList = Sm.textL y m d h mi x := by rw [ByteArray.toList_eq]; rfl
set_option maxRecDepth 100000 in
set_option maxHeartbeats 1000000 in
theorem back_no {w : World} (sec other : Int) (h : sec < -62135596800 ∨ 253402300799 < sec) : Calls Try.prog 5 #[.int .i64 sec, .int .i64 other] w (LawTrue w) := by
  have c1 := fun w => text_no sec h w
  rcases h with h | h
  · go_enter Try.func5, Try.ntmps5
    go_wp2_with fail
    refine (c1 _).mono ?_
    rintro e w1 ⟨rfl, hb1⟩
    have h' : ¬ (-62135596800 ≤ sec) := by omega
    go_wp2_with fail
    refine (wakes_any _).mono ?_
    rintro e w2 ⟨rfl, hb2⟩
    go_wp2_with fail
    go_ret
    exact ⟨rfl, bn hb1 hb2⟩
  · go_enter Try.func5, Try.ntmps5
    go_wp2_with fail
    refine (c1 _).mono ?_
    rintro e w1 ⟨rfl, hb1⟩
    have h' : ¬ (sec ≤ 253402300799) := by omega
    have h'' : -62135596800 ≤ sec := by omega
    go_wp2_with fail
    refine (wakes_any _).mono ?_
    rintro e w2 ⟨rfl, hb2⟩
    go_wp2_with fail
    go_ret
    exact ⟨rfl, bn hb1 hb2⟩
set_option maxRecDepth 100000 in
set_option maxHeartbeats 1000000 in
theorem back_yes {w : World} (sec other : Int) (t : ByteArray) (hs : t.size = 20) (h0 : -62135596800 ≤ sec) (h1 : sec ≤ 253402300799)
    (c1 : ∀ w, Calls Try.prog 18 #[.int .i64 sec] w (TexPost (t, true) w))
    (c2 : ∀ w, Calls Try.prog 10 #[.string t] w (ZonPost (sec, true) w))
    (c3 : ∀ w, Calls Try.prog 12 #[.string t] w (ZonPost (sec, true) w))
    (u : ByteArray) (is : Bool) (c4 : ∀ w, Calls Try.prog 18 #[.int .i64 other] w (TexPost (u, is) w))
    (he : is = true → (u.toList == t.toList) = (other == sec)) : Calls Try.prog 5 #[.int .i64 sec, .int .i64 other] w (LawTrue w) := by
  have hs' : (t.size : Int) = 20 := by omega
  have HE := Lib.hid he
  clear he
  go_enter Try.func5, Try.ntmps5
  go_wp2_with fail
  refine (c1 _).mono ?_
  rintro e w1 ⟨rfl, hb1⟩
  go_wp2_with fail
  refine (c2 _).mono ?_
  rintro e w2 ⟨rfl, hb2⟩
  go_wp2_with fail
  refine (c3 _).mono ?_
  rintro e w3 ⟨rfl, hb3⟩
  go_wp2_with fail
  refine (c4 _).mono ?_
  rintro e w4 ⟨rfl, hb4⟩
  have hB4 := bn (bn (bn hb1 hb2) hb3) hb4
  clear hb1 hb2 hb3 hb4 c1 c2 c3 c4
  cases is
  · go_wp2_with fail
    refine (wakes_any _).mono ?_
    rintro e w5 ⟨rfl, hb5⟩
    go_wp2_with fail
    go_ret
    exact ⟨rfl, bn hB4 hb5⟩
  · have e := HE.out rfl
    go_wp2_with fail
    refine (wakes_any _).mono ?_
    rintro e w5 ⟨rfl, hb5⟩
    go_wp2_with fail
    go_ret
    exact ⟨rfl, bn hB4 hb5⟩
theorem stampBack_walk {w : World} (sec : Int) (_ : Is64 sec) (other : Int) (_ : Is64 other) : Calls Try.prog 5 #[.int .i64 sec, .int .i64 other] w (LawTrue w) := by
  obtain ⟨r, hr⟩ := text_exists sec
  rcases id hr with ⟨h, rfl⟩ | ⟨y, m, d, h, mi, x, hm, rfl, rfl⟩
  · exact back_no sec other h
  · obtain ⟨q, hq⟩ := text_exists other
    have rg := Sm.sec_rng hm
    refine back_yes _ other (Sm.textB y m d h mi x) rfl rg.1 rg.2 (fun w => text_any _ _ hr w) (fun w => ?_) (fun w => ?_) q.1 q.2 (fun w => text_any other q hq w) (fun hq2 => ?_)
    · have := stamp_any (Sm.textB y m d h mi x) (by rw [Sm.text_size]; omega) w
      rw [Sm.full_text hm 8 (by omega)] at this; exact this
    · have := w3c_any (Sm.textB y m d h mi x) (by rw [Sm.text_size]; omega) w
      rw [Sm.w3c_text hm] at this; exact this
    · rcases hq with ⟨_, rfl⟩ | ⟨y', m', d', h', mi', x', hm', rfl, rfl⟩
      · cases hq2
      · rw [Bool.eq_iff_iff, beq_iff_eq, beq_iff_eq, eq_list]
        exact Sm.text_inj hm' hm
set_option maxRecDepth 100000 in
set_option maxHeartbeats 1000000 in
theorem order_core {w : World} (a b : Int) (s t : ByteArray) (x y : Bool)
    (c1 : ∀ w, Calls Try.prog 18 #[.int .i64 a] w (TexPost (s, x) w))
    (c2 : ∀ w, Calls Try.prog 18 #[.int .i64 b] w (TexPost (t, y) w))
    (he : x = true → y = true → Op.bytesLess s.toList t.toList = decide (a < b) ∧ (s.toList == t.toList) = (a == b)) : Calls Try.prog 8 #[.int .i64 a, .int .i64 b] w (LawTrue w) := by
  have HE := Lib.hid he
  clear he
  go_enter Try.func8, Try.ntmps8
  go_wp2_with fail
  refine (c1 _).mono ?_
  rintro e w1 ⟨rfl, hb1⟩
  go_wp2_with fail
  refine (c2 _).mono ?_
  rintro e w2 ⟨rfl, hb2⟩
  have hB := bn hb1 hb2
  clear hb1 hb2 c1 c2
  cases x
  · go_wp2_with fail
    refine (wakes_any _).mono ?_
    rintro e w5 ⟨rfl, hb5⟩
    go_wp2_with fail
    go_ret
    exact ⟨rfl, bn hB hb5⟩
  cases y
  · go_wp2_with fail
    refine (wakes_any _).mono ?_
    rintro e w5 ⟨rfl, hb5⟩
    go_wp2_with fail
    go_ret
    exact ⟨rfl, bn hB hb5⟩
  obtain ⟨e1, e2⟩ := HE.out rfl rfl
  go_wp2_with fail
  refine (wakes_any _).mono ?_
  rintro e w5 ⟨rfl, hb5⟩
  go_wp2_with fail
  go_ret
  exact ⟨rfl, bn hB hb5⟩
theorem stampOrder_walk {w : World} (a : Int) (_ : Is64 a) (b : Int) (_ : Is64 b) : Calls Try.prog 8 #[.int .i64 a, .int .i64 b] w (LawTrue w) := by
  obtain ⟨r, hr⟩ := text_exists a
  obtain ⟨q, hq⟩ := text_exists b
  refine order_core a b r.1 q.1 r.2 q.2 (fun w => text_any a r hr w) (fun w => text_any b q hq w) (fun k1 k2 => ?_)
  rcases hr with ⟨_, rfl⟩ | ⟨y, m, d, h, mi, x, hm, rfl, rfl⟩
  · cases k1
  rcases hq with ⟨_, rfl⟩ | ⟨y', m', d', h', mi', x', hm', rfl, rfl⟩
  · cases k2
  refine ⟨?_, ?_⟩
  · rw [list_text, list_text]; exact Sm.text_order hm hm'
  · rw [Bool.eq_iff_iff, beq_iff_eq, beq_iff_eq, eq_list]
    exact Sm.text_inj hm hm'
end Go.Proofs.Ytcdnjaefijjliaa
