/- Text, both, whole; what the document says of two dates (wakes). -/
import Derived.Test.YtcdnjaefijjliaaStO
namespace Go.Proofs.Ytcdnjaefijjliaa
open Go.RowKit
open Go
set_option linter.unusedVariables false
/-- A second's text, or none. -/
def TextIs (sec : Int) (r : ByteArray × Bool) : Prop := ((sec < -62135596800 ∨ 253402300799 < sec) ∧ r = (⟨#[]⟩, false)) ∨
  ∃ y m d h mi x : Int, Cv.mayB y m d h mi x = true ∧ Cv.secV y m d h mi x 0 = sec ∧ r = (Sm.textB y m d h mi x, true)
theorem text_exists (sec : Int) : ∃ r, TextIs sec r := by
  by_cases h : sec < -62135596800 ∨ 253402300799 < sec
  · exact ⟨_, Or.inl ⟨h, rfl⟩⟩
  · obtain ⟨y, m, d, _, _, h1, h2⟩ := Cv.sec_split sec (by omega) (by omega)
    exact ⟨_, Or.inr ⟨y, m, d, _, _, _, h1, h2, rfl⟩⟩
def TexPost (r : ByteArray × Bool) (w : World) (e : Ending) (w' : World) : Prop := e = .returned (.tuple #[.string r.1, .bool r.2]) ∧ Below w.heap.size w w'
theorem may_bds {y m d h mi x : Int} (hm : Cv.mayB y m d h mi x = true) : (1 ≤ y ∧ y ≤ 9999) ∧ (0 ≤ m ∧ m ≤ 99) ∧ (0 ≤ d ∧ d ≤ 99) ∧ (0 ≤ h ∧ h ≤ 99) ∧ (0 ≤ mi ∧ mi ≤ 99) ∧ (0 ≤ x ∧ x ≤ 99) := by
  obtain ⟨hv, h1⟩ := (Cv.may_iff y m d h mi x).1 hm
  have := Cv.vld_bd hv
  omega
set_option maxHeartbeats 400000 in
theorem text_no (sec : Int) (h : sec < -62135596800 ∨ 253402300799 < sec) (w : World) : Calls Try.prog 18 #[.int .i64 sec] w (TexPost (⟨#[]⟩, false) w) := by
  have C := fun w => civ_no sec w h
  go_enter Try.func18, Try.ntmps18
  go_wp2_with fail
  refine (C _).mono ?_
  rintro e w1 ⟨rfl, hb1⟩
  go_wp2_with fail
  go_ret2
  exact ⟨rfl, bbox hb1 _⟩
set_option maxHeartbeats 400000 in
theorem rtext_no (sec : Int) (h : sec < -62135596800 ∨ 253402300799 < sec) (w : World) : Calls Try.prog 19 #[.int .i64 sec] w (TexPost (⟨#[]⟩, false) w) := by
  have C := fun w => rciv_no sec w h
  go_enter Try.func19, Try.ntmps19
  go_wp2_with fail
  refine (C _).mono ?_
  rintro e w1 ⟨rfl, hb1⟩
  go_wp2_with fail
  go_ret2
  exact ⟨rfl, bbox hb1 _⟩
theorem text_any (sec : Int) (r : ByteArray × Bool) (hr : TextIs sec r) (w : World) : Calls Try.prog 18 #[.int .i64 sec] w (TexPost r w) := by
  rcases hr with ⟨h, rfl⟩ | ⟨y, m, d, h, mi, x, hm, rfl, rfl⟩
  · exact text_no sec h w
  · obtain ⟨b0, b1, b2, b3, b4, b5⟩ := may_bds hm
    exact text_yes _ y m d h mi x ⟨by omega, b0.2⟩ b1 b2 b3 b4 b5 (fun w => civ_yes y m d h mi x w hm) w
theorem puts (y m d h mi x : Int) : (ByteArray.mk (Sm.putL y 4).toArray) ++ ⟨#[45]⟩ ++ ⟨(Sm.putL m 2).toArray⟩ ++ ⟨#[45]⟩ ++ ⟨(Sm.putL d 2).toArray⟩ ++ ⟨#[84]⟩ ++ ⟨(Sm.putL h 2).toArray⟩ ++ ⟨#[58]⟩ ++ ⟨(Sm.putL mi 2).toArray⟩ ++ ⟨#[58]⟩ ++ ⟨(Sm.putL x 2).toArray⟩ ++ ⟨#[90]⟩ = Sm.textB y m d h mi x := by
  have e4 : ∀ n : Int, Sm.putL n 4 = [Sm.c (n / 1000), Sm.c (n / 100), Sm.c (n / 10), Sm.c n] := fun n => by simp [Sm.putL, List.range, List.range.loop]
  have e2 : ∀ n : Int, Sm.putL n 2 = [Sm.c (n / 10), Sm.c n] := fun n => by simp [Sm.putL, List.range, List.range.loop]
  rw [e4, e2, e2, e2, e2, e2]
  apply ByteArray.ext
  simp [Sm.textB, Sm.textL, ByteArray.data_append]
theorem put_sz (n : Int) (z : Nat) : (ByteArray.mk (Sm.putL n z).toArray).size = z := by
  show (Sm.putL n z).toArray.size = z
  rw [List.size_toArray, Sm.putL_len]
theorem rtext_any (sec : Int) (r : ByteArray × Bool) (hr : TextIs sec r) (w : World) : Calls Try.prog 19 #[.int .i64 sec] w (TexPost r w) := by
  rcases hr with ⟨h, rfl⟩ | ⟨y, m, d, h, mi, x, hm, rfl, rfl⟩
  · exact rtext_no sec h w
  · obtain ⟨b0, b1, b2, b3, b4, b5⟩ := may_bds hm
    have := rtext_core (Cv.secV y m d h mi x 0) y m d h mi x ⟨(Sm.putL y 4).toArray⟩ ⟨(Sm.putL m 2).toArray⟩ ⟨(Sm.putL d 2).toArray⟩ ⟨(Sm.putL h 2).toArray⟩ ⟨(Sm.putL mi 2).toArray⟩ ⟨(Sm.putL x 2).toArray⟩ (put_sz y 4) (put_sz m 2) (put_sz d 2) (put_sz h 2) (put_sz mi 2) (put_sz x 2) (fun w => rciv_yes y m d h mi x w hm)
      (fun w => put_c y 4 4 rfl (by omega) (by omega) (by omega) (by omega) _ rfl w) (fun w => put_c m 2 2 rfl (by omega) (by omega) (by omega) (by omega) _ rfl w) (fun w => put_c d 2 2 rfl (by omega) (by omega) (by omega) (by omega) _ rfl w)
      (fun w => put_c h 2 2 rfl (by omega) (by omega) (by omega) (by omega) _ rfl w) (fun w => put_c mi 2 2 rfl (by omega) (by omega) (by omega) (by omega) _ rfl w) (fun w => put_c x 2 2 rfl (by omega) (by omega) (by omega) (by omega) _ rfl w) w
    rw [puts] at this
    exact this
theorem wk1 : Sm.fullF ⟨#[49, 57, 55, 48, 45, 48, 49, 45, 48, 49, 84, 48, 49, 58, 48, 48, 58, 48, 48, 43, 48, 49, 58, 48, 48]⟩ 8 = (0, true) := by kernel_rfl
theorem wk2 : Sm.w3cF ⟨#[49, 57, 55, 48, 45, 48, 49, 45, 48, 50]⟩ = (86400, true) := by kernel_rfl
theorem wk3 : Sm.fullF ⟨#[49, 57, 55, 48, 45, 48, 49, 45, 48, 50]⟩ 8 = (0, false) := by kernel_rfl
theorem wk4 : TextIs 0 (⟨#[49, 57, 55, 48, 45, 48, 49, 45, 48, 49, 84, 48, 48, 58, 48, 48, 58, 48, 48, 90]⟩, true) := Or.inr ⟨1970, 1, 1, 0, 0, 0, by kernel_rfl, by kernel_rfl, by kernel_rfl⟩
set_option maxHeartbeats 1000000 in
theorem wakes_any (w : World) : Calls Try.prog 9 #[] w fun e w' => e = .returned (.bool true) ∧ Below w.heap.size w w' := by
  have c1 := fun w => stamp_any ⟨#[49, 57, 55, 48, 45, 48, 49, 45, 48, 49, 84, 48, 49, 58, 48, 48, 58, 48, 48, 43, 48, 49, 58, 48, 48]⟩ (by decide) w
  have c2 := fun w => w3c_any ⟨#[49, 57, 55, 48, 45, 48, 49, 45, 48, 50]⟩ (by decide) w
  have c3 := fun w => stamp_any ⟨#[49, 57, 55, 48, 45, 48, 49, 45, 48, 50]⟩ (by decide) w
  have c4 := fun w => text_any 0 _ wk4 w
  rw [wk1] at c1
  rw [wk2] at c2
  rw [wk3] at c3
  go_enter Try.func9, Try.ntmps9
  go_wp2_with fail
  refine (c1 _).mono ?_
  rintro e w1 ⟨rfl, hb1⟩
  go_wp2_with fail
  refine (c2 _).mono ?_
  rintro e w2 ⟨rfl, hb2⟩
  go_wp2_with fail
  refine (c3 _).mono ?_
  rintro e w3 ⟨rfl, hb3⟩
  go_wp2_with fail
  refine (c4 _).mono ?_
  rintro e w4 ⟨rfl, hb4⟩
  go_wp2_with fail
  go_ret
  exact ⟨rfl, bn (bn (bn hb1 hb2) hb3) hb4⟩
end Go.Proofs.Ytcdnjaefijjliaa
