/- The walks of civil: times and seconds. -/
import Derived.Test.YtbhafhbaldddiaaCivB
import Derived.Laws.Bits64
namespace Go.Proofs.Ytbhafhbaldddiaa
open Go.RowKit
open Go
theorem u64_small (h k : Int) (b : Is64 h) (hk : k ≤ 100) : IntKind.u64.wrap h < k ↔ (0 ≤ h ∧ h < k) := by
  obtain ⟨b1, b2⟩ := b
  rw [IntKind.wrap_u64]; omega
set_option maxHeartbeats 400000 in
theorem may_any (y m d h mi s : Int) (w : World) (bh : Is64 h) (bm : Is64 mi) (bs : Is64 s) :
    Calls Try.prog 38 #[.agg #[.int .i64 y, .int .i64 m, .int .i64 d, .int .i64 h, .int .i64 mi, .int .i64 s]] w fun e w' => e = .returned (.bool (Cv.mayB y m d h mi s)) ∧ Below w.heap.size w w' := by
  have e1 := Lib.hid (u64_small h 24 bh (by decide))
  have e2 := Lib.hid (u64_small mi 60 bm (by decide))
  have e3 := Lib.hid (u64_small s 60 bs (by decide))
  go_enter Try.func38, Try.ntmps38
  go_wp2_with (go_at_call 47; refine (date_any _ _ _ _).mono ?_; rintro e w' ⟨rfl, hb⟩)
  all_goals go_ret
  all_goals (have e1 := e1.out; have e2 := e2.out; have e3 := e3.out)
  · exact ⟨ret_bool (Cv.may_yes (by omega)), ((Below.refl _ _).alloc (Nat.le_refl _) _).trans (hb.mono (by simp))⟩
  all_goals exact ⟨ret_bool (Cv.may_no (by omega)), (Below.refl _ _).alloc (Nat.le_refl _) _⟩
set_option maxHeartbeats 400000 in
theorem sec_may (y m d h mi s east : Int) (w : World) (bh : Is64 h) (bm : Is64 mi) (bs : Is64 s) (hm : Cv.mayB y m d h mi s = false) :
    Calls Try.prog 20 #[.agg #[.int .i64 y, .int .i64 m, .int .i64 d, .int .i64 h, .int .i64 mi, .int .i64 s], .int .i64 east] w fun e w' => e = .returned (.tuple #[.int .i64 0, .int .i64 2]) ∧ Below w.heap.size w w' := by
  have c1 := fun w => may_any y m d h mi s w bh bm bs
  rw [hm] at c1
  clear hm
  go_enter Try.func20, Try.ntmps20
  go_wp2_with (go_at_call 38; refine (c1 _).mono ?_; rintro e w' ⟨rfl, hb⟩; clear c1)
  go_ret2
  exact ⟨rfl, ((Below.refl _ _).alloc (Nat.le_refl _) _).trans (hb.mono (by simp))⟩
set_option maxHeartbeats 400000 in
theorem sec_east (y m d h mi s east : Int) (w : World) (bh : Is64 h) (bm : Is64 mi) (bs : Is64 s) (hm : Cv.mayB y m d h mi s = true) (he : east < -1439 ∨ 1439 < east) :
    Calls Try.prog 20 #[.agg #[.int .i64 y, .int .i64 m, .int .i64 d, .int .i64 h, .int .i64 mi, .int .i64 s], .int .i64 east] w fun e w' => e = .returned (.tuple #[.int .i64 0, .int .i64 2]) ∧ Below w.heap.size w w' := by
  have c1 := fun w => may_any y m d h mi s w bh bm bs
  rw [hm] at c1
  clear hm
  rcases he with he | he
  · go_enter Try.func20, Try.ntmps20
    go_wp2_with (go_at_call 38; refine (c1 _).mono ?_; rintro e w' ⟨rfl, hb⟩; clear c1)
    go_ret2
    exact ⟨rfl, ((Below.refl _ _).alloc (Nat.le_refl _) _).trans (hb.mono (by simp))⟩
  · have he2 : -1439 ≤ east := by omega
    go_enter Try.func20, Try.ntmps20
    go_wp2_with (go_at_call 38; refine (c1 _).mono ?_; rintro e w' ⟨rfl, hb⟩; clear c1)
    go_ret2
    exact ⟨rfl, ((Below.refl _ _).alloc (Nat.le_refl _) _).trans (hb.mono (by simp))⟩
set_option maxHeartbeats 400000 in
theorem sec_in (y m d h mi s east : Int) (w : World) (bh : Is64 h) (bm : Is64 mi) (bs : Is64 s) (hm : Cv.mayB y m d h mi s = true) (he : -1439 ≤ east) (he' : east ≤ 1439)
    (r1 : -62135596800 ≤ Cv.num y m d * 86400 + (h * 3600 + mi * 60 + s) - east * 60) (r2 : Cv.num y m d * 86400 + (h * 3600 + mi * 60 + s) - east * 60 ≤ 253402300799) :
    Calls Try.prog 20 #[.agg #[.int .i64 y, .int .i64 m, .int .i64 d, .int .i64 h, .int .i64 mi, .int .i64 s], .int .i64 east] w fun e w' => e = .returned (.tuple #[.int .i64 (Cv.secV y m d h mi s east), .int .i64 0]) ∧ Below w.heap.size w w' := by
  have c1 := fun w => may_any y m d h mi s w bh bm bs
  rw [hm] at c1
  obtain ⟨hv, k1, k2, k3, k4, k5, k6⟩ := (Cv.may_iff y m d h mi s).1 hm
  have hn := Cv.num_bd hv
  have HV := Lib.hid hv
  clear hm hv
  go_enter Try.func20, Try.ntmps20
  go_wp2_with (go_at_call 38; refine (c1 _).mono ?_; rintro e w' ⟨rfl, hb⟩; clear c1)
  obtain ⟨hc, hf⟩ := bcell hb
  go_quiet ((go_at_call 39; exact Calls.quiet_of_same ((count_any _ _ _ _ HV.out).mono fun _ _ h => ⟨h.1, h.2.symm⟩)))
  go_wp2
  go_ret2
  exact ⟨ret_fst (by unfold Cv.secV; omega), below_drewN (((Below.refl _ _).alloc (Nat.le_refl _) _).trans (hb.mono (by simp))) _⟩
set_option maxHeartbeats 400000 in
theorem sec_lo (y m d h mi s east : Int) (w : World) (bh : Is64 h) (bm : Is64 mi) (bs : Is64 s) (hm : Cv.mayB y m d h mi s = true) (he : -1439 ≤ east) (he' : east ≤ 1439)
    (r1 : Cv.num y m d * 86400 + (h * 3600 + mi * 60 + s) - east * 60 < -62135596800) :
    Calls Try.prog 20 #[.agg #[.int .i64 y, .int .i64 m, .int .i64 d, .int .i64 h, .int .i64 mi, .int .i64 s], .int .i64 east] w fun e w' => e = .returned (.tuple #[.int .i64 0, .int .i64 2]) ∧ Below w.heap.size w w' := by
  have c1 := fun w => may_any y m d h mi s w bh bm bs
  rw [hm] at c1
  obtain ⟨hv, k1, k2, k3, k4, k5, k6⟩ := (Cv.may_iff y m d h mi s).1 hm
  have hn := Cv.num_bd hv
  have HV := Lib.hid hv
  clear hm hv
  go_enter Try.func20, Try.ntmps20
  go_wp2_with (go_at_call 38; refine (c1 _).mono ?_; rintro e w' ⟨rfl, hb⟩; clear c1)
  obtain ⟨hc, hf⟩ := bcell hb
  go_quiet ((go_at_call 39; exact Calls.quiet_of_same ((count_any _ _ _ _ HV.out).mono fun _ _ h => ⟨h.1, h.2.symm⟩)))
  go_wp2
  go_ret2
  exact ⟨rfl, below_drewN (((Below.refl _ _).alloc (Nat.le_refl _) _).trans (hb.mono (by simp))) _⟩
set_option maxHeartbeats 400000 in
theorem sec_hi (y m d h mi s east : Int) (w : World) (bh : Is64 h) (bm : Is64 mi) (bs : Is64 s) (hm : Cv.mayB y m d h mi s = true) (he : -1439 ≤ east) (he' : east ≤ 1439)
    (r0 : -62135596800 ≤ Cv.num y m d * 86400 + (h * 3600 + mi * 60 + s) - east * 60) (r1 : 253402300799 < Cv.num y m d * 86400 + (h * 3600 + mi * 60 + s) - east * 60) :
    Calls Try.prog 20 #[.agg #[.int .i64 y, .int .i64 m, .int .i64 d, .int .i64 h, .int .i64 mi, .int .i64 s], .int .i64 east] w fun e w' => e = .returned (.tuple #[.int .i64 0, .int .i64 2]) ∧ Below w.heap.size w w' := by
  have c1 := fun w => may_any y m d h mi s w bh bm bs
  rw [hm] at c1
  obtain ⟨hv, k1, k2, k3, k4, k5, k6⟩ := (Cv.may_iff y m d h mi s).1 hm
  have hn := Cv.num_bd hv
  have HV := Lib.hid hv
  clear hm hv
  go_enter Try.func20, Try.ntmps20
  go_wp2_with (go_at_call 38; refine (c1 _).mono ?_; rintro e w' ⟨rfl, hb⟩; clear c1)
  obtain ⟨hc, hf⟩ := bcell hb
  go_quiet ((go_at_call 39; exact Calls.quiet_of_same ((count_any _ _ _ _ HV.out).mono fun _ _ h => ⟨h.1, h.2.symm⟩)))
  go_wp2
  go_ret2
  exact ⟨rfl, below_drewN (((Below.refl _ _).alloc (Nat.le_refl _) _).trans (hb.mono (by simp))) _⟩
theorem sec_yes (y m d h mi s east : Int) (w : World) (bh : Is64 h) (bm : Is64 mi) (bs : Is64 s) (hk : Cv.secOk y m d h mi s east = true) :
    Calls Try.prog 20 #[.agg #[.int .i64 y, .int .i64 m, .int .i64 d, .int .i64 h, .int .i64 mi, .int .i64 s], .int .i64 east] w fun e w' => e = .returned (.tuple #[.int .i64 (Cv.secV y m d h mi s east), .int .i64 0]) ∧ Below w.heap.size w w' := by
  obtain ⟨hm, h1, h2, h3, h4⟩ := (Cv.secOk_iff y m d h mi s east).1 hk
  unfold Cv.secV at h3 h4
  exact sec_in y m d h mi s east w bh bm bs hm h1 h2 (by omega) (by omega)
theorem sec_no (y m d h mi s east : Int) (w : World) (bh : Is64 h) (bm : Is64 mi) (bs : Is64 s) (hk : Cv.secOk y m d h mi s east = false) :
    Calls Try.prog 20 #[.agg #[.int .i64 y, .int .i64 m, .int .i64 d, .int .i64 h, .int .i64 mi, .int .i64 s], .int .i64 east] w fun e w' => e = .returned (.tuple #[.int .i64 0, .int .i64 2]) ∧ Below w.heap.size w w' := by
  have hk' : ¬ (Cv.mayB y m d h mi s = true ∧ -1439 ≤ east ∧ east ≤ 1439 ∧ -62135596800 ≤ Cv.secV y m d h mi s east ∧ Cv.secV y m d h mi s east ≤ 253402300799) := by
    rw [← Cv.secOk_iff, hk]; decide
  cases hm : Cv.mayB y m d h mi s
  · exact sec_may y m d h mi s east w bh bm bs hm
  · by_cases he : east < -1439 ∨ 1439 < east
    · exact sec_east y m d h mi s east w bh bm bs hm he
    · by_cases r1 : Cv.num y m d * 86400 + (h * 3600 + mi * 60 + s) - east * 60 < -62135596800
      · exact sec_lo y m d h mi s east w bh bm bs hm (by omega) (by omega) r1
      · by_cases r2 : 253402300799 < Cv.num y m d * 86400 + (h * 3600 + mi * 60 + s) - east * 60
        · exact sec_hi y m d h mi s east w bh bm bs hm (by omega) (by omega) (by omega) r2
        · exact absurd ⟨hm, by omega, by omega, by unfold Cv.secV; omega, by unfold Cv.secV; omega⟩ hk'
end Go.Proofs.Ytbhafhbaldddiaa
