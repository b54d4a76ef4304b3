/- The walks of civil: times and seconds. The walks of the document's seconds; a second's time, in both. -/
import Derived.Test.YtbhafhbaldddiaaGreatDoorZB
import Derived.Laws.Bits64
namespace Go.Proofs.YtbhafhbaldddiaaGreatDoor
open Go.RowKit
open Go
theorem u64_small (h k : Int) (b : Is64 h) (hk : k ≤ 100) : IntKind.u64.wrap h < k ↔ (0 ≤ h ∧ h < k) := by
  obtain ⟨b1, b2⟩ := b
  rw [IntKind.wrap_u64]; omega
set_option maxHeartbeats 400000 in
theorem may_any (y m d h mi s : Int) (w : World) (bh : Is64 h) (bm : Is64 mi) (bs : Is64 s) :
    Calls Tryz.prog 64 #[.agg #[.int .i64 y, .int .i64 m, .int .i64 d, .int .i64 h, .int .i64 mi, .int .i64 s]] w fun e w' => e = .returned (.bool (Cv.mayB y m d h mi s)) ∧ Below w.heap.size w w' := by
  have e1 := Lib.hid (u64_small h 24 bh (by decide))
  have e2 := Lib.hid (u64_small mi 60 bm (by decide))
  have e3 := Lib.hid (u64_small s 60 bs (by decide))
  go_enter Tryz.func64, Tryz.ntmps64
  go_wp2_with (go_at_call 101; refine (date_any _ _ _ _).mono ?_; rintro e w' ⟨rfl, hb⟩)
  all_goals go_ret
  all_goals (have e1 := e1.out; have e2 := e2.out; have e3 := e3.out)
  · exact ⟨ret_bool (Cv.may_yes (by omega)), ((Below.refl _ _).alloc (Nat.le_refl _) _).trans (hb.mono (by simp))⟩
  all_goals exact ⟨ret_bool (Cv.may_no (by omega)), (Below.refl _ _).alloc (Nat.le_refl _) _⟩
set_option maxHeartbeats 400000 in
theorem rmay_any (y m d h mi s : Int) (w : World) :
    Calls Tryz.prog 96 #[.agg #[.int .i64 y, .int .i64 m, .int .i64 d, .int .i64 h, .int .i64 mi, .int .i64 s]] w fun e w' => e = .returned (.bool (Cv.mayB y m d h mi s)) ∧ Below w.heap.size w w' := by
  go_enter Tryz.func96, Tryz.ntmps96
  go_wp2_with (go_at_call 97; refine (rdate_any _ _ _ _).mono ?_; rintro e w' ⟨rfl, rfl⟩)
  all_goals go_ret
  all_goals refine ⟨ret_bool ?_, (Below.refl _ _).alloc (Nat.le_refl _) _⟩
  all_goals first | exact Cv.may_inv ‹_› | exact Cv.may_no (by omega) | skip
  by_cases hs : s ≤ 59
  · rw [decide_eq_true hs]; exact Cv.may_true ‹_› (by omega)
  · rw [decide_eq_false hs]; exact Cv.may_no (by omega)
set_option maxHeartbeats 400000 in
theorem sec_may (y m d h mi s east : Int) (w : World) (bh : Is64 h) (bm : Is64 mi) (bs : Is64 s) (hm : Cv.mayB y m d h mi s = false) :
    Calls Tryz.prog 26 #[.agg #[.int .i64 y, .int .i64 m, .int .i64 d, .int .i64 h, .int .i64 mi, .int .i64 s], .int .i64 east] w fun e w' => e = .returned (.tuple #[.int .i64 0, .int .i64 2]) ∧ Below w.heap.size w w' := by
  have c1 := fun w => may_any y m d h mi s w bh bm bs
  rw [hm] at c1
  clear hm
  go_enter Tryz.func26, Tryz.ntmps26
  go_wp2_with (go_at_call 64; refine (c1 _).mono ?_; rintro e w' ⟨rfl, hb⟩; clear c1)
  go_ret2
  exact ⟨rfl, ((Below.refl _ _).alloc (Nat.le_refl _) _).trans (hb.mono (by simp))⟩
set_option maxHeartbeats 400000 in
theorem sec_east (y m d h mi s east : Int) (w : World) (bh : Is64 h) (bm : Is64 mi) (bs : Is64 s) (hm : Cv.mayB y m d h mi s = true) (he : east < -1439 ∨ 1439 < east) :
    Calls Tryz.prog 26 #[.agg #[.int .i64 y, .int .i64 m, .int .i64 d, .int .i64 h, .int .i64 mi, .int .i64 s], .int .i64 east] w fun e w' => e = .returned (.tuple #[.int .i64 0, .int .i64 2]) ∧ Below w.heap.size w w' := by
  have c1 := fun w => may_any y m d h mi s w bh bm bs
  rw [hm] at c1
  clear hm
  rcases he with he | he
  · go_enter Tryz.func26, Tryz.ntmps26
    go_wp2_with (go_at_call 64; refine (c1 _).mono ?_; rintro e w' ⟨rfl, hb⟩; clear c1)
    go_ret2
    exact ⟨rfl, ((Below.refl _ _).alloc (Nat.le_refl _) _).trans (hb.mono (by simp))⟩
  · have he2 : -1439 ≤ east := by omega
    go_enter Tryz.func26, Tryz.ntmps26
    go_wp2_with (go_at_call 64; refine (c1 _).mono ?_; rintro e w' ⟨rfl, hb⟩; clear c1)
    go_ret2
    exact ⟨rfl, ((Below.refl _ _).alloc (Nat.le_refl _) _).trans (hb.mono (by simp))⟩
set_option maxHeartbeats 400000 in
theorem sec_in (y m d h mi s east : Int) (w : World) (bh : Is64 h) (bm : Is64 mi) (bs : Is64 s) (hm : Cv.mayB y m d h mi s = true) (he : -1439 ≤ east) (he' : east ≤ 1439)
    (r1 : -62135596800 ≤ Cv.num y m d * 86400 + (h * 3600 + mi * 60 + s) - east * 60) (r2 : Cv.num y m d * 86400 + (h * 3600 + mi * 60 + s) - east * 60 ≤ 253402300799) :
    Calls Tryz.prog 26 #[.agg #[.int .i64 y, .int .i64 m, .int .i64 d, .int .i64 h, .int .i64 mi, .int .i64 s], .int .i64 east] w fun e w' => e = .returned (.tuple #[.int .i64 (Cv.secV y m d h mi s east), .int .i64 0]) ∧ Below w.heap.size w w' := by
  have c1 := fun w => may_any y m d h mi s w bh bm bs
  rw [hm] at c1
  obtain ⟨hv, k1, k2, k3, k4, k5, k6⟩ := (Cv.may_iff y m d h mi s).1 hm
  have hn := Cv.num_bd hv
  have HV := Lib.hid hv
  clear hm hv
  go_enter Tryz.func26, Tryz.ntmps26
  go_wp2_with (go_at_call 64; refine (c1 _).mono ?_; rintro e w' ⟨rfl, hb⟩; clear c1)
  obtain ⟨hc, hf⟩ := bcell hb
  go_quiet ((go_at_call 65; exact Calls.quiet_of_same ((count_any _ _ _ _ HV.out).mono fun _ _ h => ⟨h.1, h.2.symm⟩)))
  go_wp2
  go_ret2
  exact ⟨ret_fst (by unfold Cv.secV; omega), below_drewN (((Below.refl _ _).alloc (Nat.le_refl _) _).trans (hb.mono (by simp))) _⟩
set_option maxHeartbeats 400000 in
theorem sec_lo (y m d h mi s east : Int) (w : World) (bh : Is64 h) (bm : Is64 mi) (bs : Is64 s) (hm : Cv.mayB y m d h mi s = true) (he : -1439 ≤ east) (he' : east ≤ 1439)
    (r1 : Cv.num y m d * 86400 + (h * 3600 + mi * 60 + s) - east * 60 < -62135596800) :
    Calls Tryz.prog 26 #[.agg #[.int .i64 y, .int .i64 m, .int .i64 d, .int .i64 h, .int .i64 mi, .int .i64 s], .int .i64 east] w fun e w' => e = .returned (.tuple #[.int .i64 0, .int .i64 2]) ∧ Below w.heap.size w w' := by
  have c1 := fun w => may_any y m d h mi s w bh bm bs
  rw [hm] at c1
  obtain ⟨hv, k1, k2, k3, k4, k5, k6⟩ := (Cv.may_iff y m d h mi s).1 hm
  have hn := Cv.num_bd hv
  have HV := Lib.hid hv
  clear hm hv
  go_enter Tryz.func26, Tryz.ntmps26
  go_wp2_with (go_at_call 64; refine (c1 _).mono ?_; rintro e w' ⟨rfl, hb⟩; clear c1)
  obtain ⟨hc, hf⟩ := bcell hb
  go_quiet ((go_at_call 65; exact Calls.quiet_of_same ((count_any _ _ _ _ HV.out).mono fun _ _ h => ⟨h.1, h.2.symm⟩)))
  go_wp2
  go_ret2
  exact ⟨rfl, below_drewN (((Below.refl _ _).alloc (Nat.le_refl _) _).trans (hb.mono (by simp))) _⟩
set_option maxHeartbeats 400000 in
theorem sec_hi (y m d h mi s east : Int) (w : World) (bh : Is64 h) (bm : Is64 mi) (bs : Is64 s) (hm : Cv.mayB y m d h mi s = true) (he : -1439 ≤ east) (he' : east ≤ 1439)
    (r0 : -62135596800 ≤ Cv.num y m d * 86400 + (h * 3600 + mi * 60 + s) - east * 60) (r1 : 253402300799 < Cv.num y m d * 86400 + (h * 3600 + mi * 60 + s) - east * 60) :
    Calls Tryz.prog 26 #[.agg #[.int .i64 y, .int .i64 m, .int .i64 d, .int .i64 h, .int .i64 mi, .int .i64 s], .int .i64 east] w fun e w' => e = .returned (.tuple #[.int .i64 0, .int .i64 2]) ∧ Below w.heap.size w w' := by
  have c1 := fun w => may_any y m d h mi s w bh bm bs
  rw [hm] at c1
  obtain ⟨hv, k1, k2, k3, k4, k5, k6⟩ := (Cv.may_iff y m d h mi s).1 hm
  have hn := Cv.num_bd hv
  have HV := Lib.hid hv
  clear hm hv
  go_enter Tryz.func26, Tryz.ntmps26
  go_wp2_with (go_at_call 64; refine (c1 _).mono ?_; rintro e w' ⟨rfl, hb⟩; clear c1)
  obtain ⟨hc, hf⟩ := bcell hb
  go_quiet ((go_at_call 65; exact Calls.quiet_of_same ((count_any _ _ _ _ HV.out).mono fun _ _ h => ⟨h.1, h.2.symm⟩)))
  go_wp2
  go_ret2
  exact ⟨rfl, below_drewN (((Below.refl _ _).alloc (Nat.le_refl _) _).trans (hb.mono (by simp))) _⟩
theorem sec_yes (y m d h mi s east : Int) (w : World) (bh : Is64 h) (bm : Is64 mi) (bs : Is64 s) (hk : Cv.secOk y m d h mi s east = true) :
    Calls Tryz.prog 26 #[.agg #[.int .i64 y, .int .i64 m, .int .i64 d, .int .i64 h, .int .i64 mi, .int .i64 s], .int .i64 east] w fun e w' => e = .returned (.tuple #[.int .i64 (Cv.secV y m d h mi s east), .int .i64 0]) ∧ Below w.heap.size w w' := by
  obtain ⟨hm, h1, h2, h3, h4⟩ := (Cv.secOk_iff y m d h mi s east).1 hk
  unfold Cv.secV at h3 h4
  exact sec_in y m d h mi s east w bh bm bs hm h1 h2 (by omega) (by omega)
theorem sec_no (y m d h mi s east : Int) (w : World) (bh : Is64 h) (bm : Is64 mi) (bs : Is64 s) (hk : Cv.secOk y m d h mi s east = false) :
    Calls Tryz.prog 26 #[.agg #[.int .i64 y, .int .i64 m, .int .i64 d, .int .i64 h, .int .i64 mi, .int .i64 s], .int .i64 east] w fun e w' => e = .returned (.tuple #[.int .i64 0, .int .i64 2]) ∧ Below w.heap.size w w' := by
  have hk' : ¬ (Cv.mayB y m d h mi s = true ∧ -1439 ≤ east ∧ east ≤ 1439 ∧ -62135596800 ≤ Cv.secV y m d h mi s east ∧ Cv.secV y m d h mi s east ≤ 253402300799) := by
    rw [← Cv.secOk_iff, hk]; decide
  cases hm : Cv.mayB y m d h mi s
  · exact sec_may y m d h mi s east w bh bm bs hm
  · by_cases he : east < -1439 ∨ 1439 < east
    · exact sec_east y m d h mi s east w bh bm bs hm he
    · by_cases r1 : Cv.num y m d * 86400 + (h * 3600 + mi * 60 + s) - east * 60 < -62135596800
      · exact sec_lo y m d h mi s east w bh bm bs hm (by omega) (by omega) r1
      · by_cases r2 : 253402300799 < Cv.num y m d * 86400 + (h * 3600 + mi * 60 + s) - east * 60
        · exact sec_hi y m d h mi s east w bh bm bs hm (by omega) (by omega) (by omega) r2
        · exact absurd ⟨hm, by omega, by omega, by unfold Cv.secV; omega, by unfold Cv.secV; omega⟩ hk'
end Go.Proofs.YtbhafhbaldddiaaGreatDoor
namespace Go.Proofs.YtbhafhbaldddiaaGreatDoor
open Go.RowKit
open Go
set_option maxHeartbeats 400000 in
theorem rsec_may (y m d h mi s east : Int) (w : World) (hm : Cv.mayB y m d h mi s = false) :
    Calls Tryz.prog 50 #[.agg #[.int .i64 y, .int .i64 m, .int .i64 d, .int .i64 h, .int .i64 mi, .int .i64 s], .int .i64 east] w fun e w' => e = .returned (.tuple #[.int .i64 0, .int .i64 2]) ∧ Below w.heap.size w w' := by
  have c1 := fun w => rmay_any y m d h mi s w
  rw [hm] at c1
  clear hm
  go_enter Tryz.func50, Tryz.ntmps50
  go_wp2_with (go_at_call 96; refine (c1 _).mono ?_; rintro e w' ⟨rfl, hb⟩; clear c1)
  go_ret2
  exact ⟨rfl, ((Below.refl _ _).alloc (Nat.le_refl _) _).trans (hb.mono (by simp))⟩
set_option maxHeartbeats 400000 in
theorem rsec_east (y m d h mi s east : Int) (w : World) (hm : Cv.mayB y m d h mi s = true) (he : east < -1439 ∨ 1439 < east) :
    Calls Tryz.prog 50 #[.agg #[.int .i64 y, .int .i64 m, .int .i64 d, .int .i64 h, .int .i64 mi, .int .i64 s], .int .i64 east] w fun e w' => e = .returned (.tuple #[.int .i64 0, .int .i64 2]) ∧ Below w.heap.size w w' := by
  have c1 := fun w => rmay_any y m d h mi s w
  rw [hm] at c1
  clear hm
  rcases he with he | he
  · go_enter Tryz.func50, Tryz.ntmps50
    go_wp2_with (go_at_call 96; refine (c1 _).mono ?_; rintro e w' ⟨rfl, hb⟩; clear c1)
    go_ret2
    exact ⟨rfl, ((Below.refl _ _).alloc (Nat.le_refl _) _).trans (hb.mono (by simp))⟩
  · have he2 : -1439 ≤ east := by omega
    go_enter Tryz.func50, Tryz.ntmps50
    go_wp2_with (go_at_call 96; refine (c1 _).mono ?_; rintro e w' ⟨rfl, hb⟩; clear c1)
    go_ret2
    exact ⟨rfl, ((Below.refl _ _).alloc (Nat.le_refl _) _).trans (hb.mono (by simp))⟩
set_option maxHeartbeats 400000 in
theorem rsec_in (y m d h mi s east : Int) (w : World) (hm : Cv.mayB y m d h mi s = true) (he : -1439 ≤ east) (he' : east ≤ 1439)
    (r1 : -62135596800 ≤ Cv.num y m d * 86400 + h * 3600 + mi * 60 + s - east * 60) (r2 : Cv.num y m d * 86400 + h * 3600 + mi * 60 + s - east * 60 ≤ 253402300799) :
    Calls Tryz.prog 50 #[.agg #[.int .i64 y, .int .i64 m, .int .i64 d, .int .i64 h, .int .i64 mi, .int .i64 s], .int .i64 east] w fun e w' => e = .returned (.tuple #[.int .i64 (Cv.secV y m d h mi s east), .int .i64 0]) ∧ Below w.heap.size w w' := by
  have c1 := fun w => rmay_any y m d h mi s w
  rw [hm] at c1
  obtain ⟨hv, k1, k2, k3, k4, k5, k6⟩ := (Cv.may_iff y m d h mi s).1 hm
  have hn := Cv.num_bd hv
  have HV := Lib.hid hv
  clear hm hv
  go_enter Tryz.func50, Tryz.ntmps50
  go_wp2_with fail
  refine (c1 _).mono ?_
  rintro e w' ⟨rfl, hb⟩
  clear c1
  obtain ⟨hc, hf⟩ := bcell hb
  go_wp2_with (go_at_call 51; refine (rdays_yes _ _ _ _ HV.out).mono ?_; rintro e w' ⟨rfl, rfl⟩)
  go_ret2
  exact ⟨ret_fst (by unfold Cv.secV; omega), ((Below.refl _ _).alloc (Nat.le_refl _) _).trans (hb.mono (by simp))⟩
set_option maxHeartbeats 400000 in
theorem rsec_lo (y m d h mi s east : Int) (w : World) (hm : Cv.mayB y m d h mi s = true) (he : -1439 ≤ east) (he' : east ≤ 1439)
    (r1 : Cv.num y m d * 86400 + h * 3600 + mi * 60 + s - east * 60 < -62135596800) :
    Calls Tryz.prog 50 #[.agg #[.int .i64 y, .int .i64 m, .int .i64 d, .int .i64 h, .int .i64 mi, .int .i64 s], .int .i64 east] w fun e w' => e = .returned (.tuple #[.int .i64 0, .int .i64 2]) ∧ Below w.heap.size w w' := by
  have c1 := fun w => rmay_any y m d h mi s w
  rw [hm] at c1
  obtain ⟨hv, k1, k2, k3, k4, k5, k6⟩ := (Cv.may_iff y m d h mi s).1 hm
  have hn := Cv.num_bd hv
  have HV := Lib.hid hv
  clear hm hv
  go_enter Tryz.func50, Tryz.ntmps50
  go_wp2_with fail
  refine (c1 _).mono ?_
  rintro e w' ⟨rfl, hb⟩
  clear c1
  obtain ⟨hc, hf⟩ := bcell hb
  go_wp2_with (go_at_call 51; refine (rdays_yes _ _ _ _ HV.out).mono ?_; rintro e w' ⟨rfl, rfl⟩)
  go_ret2
  exact ⟨rfl, ((Below.refl _ _).alloc (Nat.le_refl _) _).trans (hb.mono (by simp))⟩
set_option maxHeartbeats 400000 in
theorem rsec_hi (y m d h mi s east : Int) (w : World) (hm : Cv.mayB y m d h mi s = true) (he : -1439 ≤ east) (he' : east ≤ 1439)
    (r0 : -62135596800 ≤ Cv.num y m d * 86400 + h * 3600 + mi * 60 + s - east * 60) (r1 : 253402300799 < Cv.num y m d * 86400 + h * 3600 + mi * 60 + s - east * 60) :
    Calls Tryz.prog 50 #[.agg #[.int .i64 y, .int .i64 m, .int .i64 d, .int .i64 h, .int .i64 mi, .int .i64 s], .int .i64 east] w fun e w' => e = .returned (.tuple #[.int .i64 0, .int .i64 2]) ∧ Below w.heap.size w w' := by
  have c1 := fun w => rmay_any y m d h mi s w
  rw [hm] at c1
  obtain ⟨hv, k1, k2, k3, k4, k5, k6⟩ := (Cv.may_iff y m d h mi s).1 hm
  have hn := Cv.num_bd hv
  have HV := Lib.hid hv
  clear hm hv
  go_enter Tryz.func50, Tryz.ntmps50
  go_wp2_with fail
  refine (c1 _).mono ?_
  rintro e w' ⟨rfl, hb⟩
  clear c1
  obtain ⟨hc, hf⟩ := bcell hb
  go_wp2_with (go_at_call 51; refine (rdays_yes _ _ _ _ HV.out).mono ?_; rintro e w' ⟨rfl, rfl⟩)
  go_ret2
  exact ⟨rfl, ((Below.refl _ _).alloc (Nat.le_refl _) _).trans (hb.mono (by simp))⟩
theorem rsec_yes (y m d h mi s east : Int) (w : World) (hk : Cv.secOk y m d h mi s east = true) :
    Calls Tryz.prog 50 #[.agg #[.int .i64 y, .int .i64 m, .int .i64 d, .int .i64 h, .int .i64 mi, .int .i64 s], .int .i64 east] w fun e w' => e = .returned (.tuple #[.int .i64 (Cv.secV y m d h mi s east), .int .i64 0]) ∧ Below w.heap.size w w' := by
  obtain ⟨hm, h1, h2, h3, h4⟩ := (Cv.secOk_iff y m d h mi s east).1 hk
  unfold Cv.secV at h3 h4
  exact rsec_in y m d h mi s east w hm h1 h2 (by omega) (by omega)
theorem rsec_no (y m d h mi s east : Int) (w : World) (hk : Cv.secOk y m d h mi s east = false) :
    Calls Tryz.prog 50 #[.agg #[.int .i64 y, .int .i64 m, .int .i64 d, .int .i64 h, .int .i64 mi, .int .i64 s], .int .i64 east] w fun e w' => e = .returned (.tuple #[.int .i64 0, .int .i64 2]) ∧ Below w.heap.size w w' := by
  have hk' : ¬ (Cv.mayB y m d h mi s = true ∧ -1439 ≤ east ∧ east ≤ 1439 ∧ -62135596800 ≤ Cv.secV y m d h mi s east ∧ Cv.secV y m d h mi s east ≤ 253402300799) := by
    rw [← Cv.secOk_iff, hk]; decide
  cases hm : Cv.mayB y m d h mi s
  · exact rsec_may y m d h mi s east w hm
  · by_cases he : east < -1439 ∨ 1439 < east
    · exact rsec_east y m d h mi s east w hm he
    · by_cases r1 : Cv.num y m d * 86400 + h * 3600 + mi * 60 + s - east * 60 < -62135596800
      · exact rsec_lo y m d h mi s east w hm (by omega) (by omega) r1
      · by_cases r2 : 253402300799 < Cv.num y m d * 86400 + h * 3600 + mi * 60 + s - east * 60
        · exact rsec_hi y m d h mi s east w hm (by omega) (by omega) (by omega) r2
        · exact absurd ⟨hm, by omega, by omega, by unfold Cv.secV; omega, by unfold Cv.secV; omega⟩ hk'

set_option maxHeartbeats 400000 in
theorem rciv_no (n : Int) (w : World) (h : n < -62135596800 ∨ 253402300799 < n) :
    Calls Tryz.prog 53 #[.int .i64 n] w fun e w' => e = .returned (.tuple #[.agg #[.int .i64 0, .int .i64 0, .int .i64 0, .int .i64 0, .int .i64 0, .int .i64 0], .int .i64 2]) ∧ Below w.heap.size w w' := by
  rcases h with h | h
  · go_enter Tryz.func53, Tryz.ntmps53
    go_wp2
    exact bodyPost_ret (v := .tuple #[.agg #[.int .i64 0, .int .i64 0, .int .i64 0, .int .i64 0, .int .i64 0, .int .i64 0], .int .i64 2]) (by simp [results, Tryz.results53, go_sem]) rfl ⟨rfl, (Below.refl _ _).alloc (Nat.le_refl _) _⟩
  · have h' : ¬ n < -62135596800 := by omega
    go_enter Tryz.func53, Tryz.ntmps53
    go_wp2
    exact bodyPost_ret (v := .tuple #[.agg #[.int .i64 0, .int .i64 0, .int .i64 0, .int .i64 0, .int .i64 0, .int .i64 0], .int .i64 2]) (by simp [results, Tryz.results53, go_sem]) rfl ⟨rfl, (Below.refl _ _).alloc (Nat.le_refl _) _⟩
def Six (W : World) (b : Nat) (v0 v1 v2 v3 v4 v5 : Value) : Prop :=
  W.cell? ⟨b, 0, none⟩ = some v0 ∧ W.cell? ⟨b, 1, none⟩ = some v1 ∧ W.cell? ⟨b, 2, none⟩ = some v2 ∧ W.cell? ⟨b, 3, none⟩ = some v3 ∧ W.cell? ⟨b, 4, none⟩ = some v4 ∧ W.cell? ⟨b, 5, none⟩ = some v5
theorem Six.s0 {W : World} {b : Nat} {v0 v1 v2 v3 v4 v5 : Value} (h : Six W b v0 v1 v2 v3 v4 v5) (x : Value) : Six (W.setCell ⟨b, 0, none⟩ x) b x v1 v2 v3 v4 v5 :=
  ⟨World.cell?_setCell_same _ _ _ h.1, (World.cell?_setCell_other _ _ _ _ (by simp)).trans h.2.1, (World.cell?_setCell_other _ _ _ _ (by simp)).trans h.2.2.1, (World.cell?_setCell_other _ _ _ _ (by simp)).trans h.2.2.2.1, (World.cell?_setCell_other _ _ _ _ (by simp)).trans h.2.2.2.2.1, (World.cell?_setCell_other _ _ _ _ (by simp)).trans h.2.2.2.2.2⟩
theorem Six.s1 {W : World} {b : Nat} {v0 v1 v2 v3 v4 v5 : Value} (h : Six W b v0 v1 v2 v3 v4 v5) (x : Value) : Six (W.setCell ⟨b, 1, none⟩ x) b v0 x v2 v3 v4 v5 :=
  ⟨(World.cell?_setCell_other _ _ _ _ (by simp)).trans h.1, World.cell?_setCell_same _ _ _ h.2.1, (World.cell?_setCell_other _ _ _ _ (by simp)).trans h.2.2.1, (World.cell?_setCell_other _ _ _ _ (by simp)).trans h.2.2.2.1, (World.cell?_setCell_other _ _ _ _ (by simp)).trans h.2.2.2.2.1, (World.cell?_setCell_other _ _ _ _ (by simp)).trans h.2.2.2.2.2⟩
theorem Six.s2 {W : World} {b : Nat} {v0 v1 v2 v3 v4 v5 : Value} (h : Six W b v0 v1 v2 v3 v4 v5) (x : Value) : Six (W.setCell ⟨b, 2, none⟩ x) b v0 v1 x v3 v4 v5 :=
  ⟨(World.cell?_setCell_other _ _ _ _ (by simp)).trans h.1, (World.cell?_setCell_other _ _ _ _ (by simp)).trans h.2.1, World.cell?_setCell_same _ _ _ h.2.2.1, (World.cell?_setCell_other _ _ _ _ (by simp)).trans h.2.2.2.1, (World.cell?_setCell_other _ _ _ _ (by simp)).trans h.2.2.2.2.1, (World.cell?_setCell_other _ _ _ _ (by simp)).trans h.2.2.2.2.2⟩
theorem Six.s3 {W : World} {b : Nat} {v0 v1 v2 v3 v4 v5 : Value} (h : Six W b v0 v1 v2 v3 v4 v5) (x : Value) : Six (W.setCell ⟨b, 3, none⟩ x) b v0 v1 v2 x v4 v5 :=
  ⟨(World.cell?_setCell_other _ _ _ _ (by simp)).trans h.1, (World.cell?_setCell_other _ _ _ _ (by simp)).trans h.2.1, (World.cell?_setCell_other _ _ _ _ (by simp)).trans h.2.2.1, World.cell?_setCell_same _ _ _ h.2.2.2.1, (World.cell?_setCell_other _ _ _ _ (by simp)).trans h.2.2.2.2.1, (World.cell?_setCell_other _ _ _ _ (by simp)).trans h.2.2.2.2.2⟩
theorem Six.s4 {W : World} {b : Nat} {v0 v1 v2 v3 v4 v5 : Value} (h : Six W b v0 v1 v2 v3 v4 v5) (x : Value) : Six (W.setCell ⟨b, 4, none⟩ x) b v0 v1 v2 v3 x v5 :=
  ⟨(World.cell?_setCell_other _ _ _ _ (by simp)).trans h.1, (World.cell?_setCell_other _ _ _ _ (by simp)).trans h.2.1, (World.cell?_setCell_other _ _ _ _ (by simp)).trans h.2.2.1, (World.cell?_setCell_other _ _ _ _ (by simp)).trans h.2.2.2.1, World.cell?_setCell_same _ _ _ h.2.2.2.2.1, (World.cell?_setCell_other _ _ _ _ (by simp)).trans h.2.2.2.2.2⟩
theorem Six.s5 {W : World} {b : Nat} {v0 v1 v2 v3 v4 v5 : Value} (h : Six W b v0 v1 v2 v3 v4 v5) (x : Value) : Six (W.setCell ⟨b, 5, none⟩ x) b v0 v1 v2 v3 v4 x :=
  ⟨(World.cell?_setCell_other _ _ _ _ (by simp)).trans h.1, (World.cell?_setCell_other _ _ _ _ (by simp)).trans h.2.1, (World.cell?_setCell_other _ _ _ _ (by simp)).trans h.2.2.1, (World.cell?_setCell_other _ _ _ _ (by simp)).trans h.2.2.2.1, (World.cell?_setCell_other _ _ _ _ (by simp)).trans h.2.2.2.2.1, World.cell?_setCell_same _ _ _ h.2.2.2.2.2⟩
set_option maxHeartbeats 1000000 in
theorem rciv_core (n y m d : Int) (w : World) (h1 : -62135596800 ≤ n) (h2 : n ≤ 253402300799) (hv : Cv.vldB y m d = true) (hq : Cv.num y m d = (n + 62135596800) / 86400 + -719162) :
    Calls Tryz.prog 53 #[.int .i64 n] w fun e w' => e = .returned (.tuple #[.agg #[.int .i64 y, .int .i64 m, .int .i64 d, .int .i64 ((n + 62135596800) / 3600 % 24), .int .i64 ((n + 62135596800) / 60 % 60), .int .i64 ((n + 62135596800) % 60)], .int .i64 0]) ∧ Below w.heap.size w w' := by
  have c2 := fun w => rdate_yes y m d w hv
  rw [hq] at c2
  clear hq hv
  go_enter Tryz.func53, Tryz.ntmps53
  go_wp2_with fail
  refine (c2 _).mono ?_
  rintro e w' ⟨rfl, rfl⟩
  clear c2
  go_wp2
  exact bodyPost_ret (v := .tuple #[.agg #[.int .i64 y, .int .i64 m, .int .i64 d, .int .i64 ((n + 62135596800) / 3600 % 24), .int .i64 ((n + 62135596800) / 60 % 60), .int .i64 ((n + 62135596800) % 60)], .int .i64 0]) (by simp [results, Tryz.results53, go_sem]) rfl ⟨rfl, ((Below.refl _ _).alloc (Nat.le_refl _) _).alloc (by simp) _⟩
theorem ret_civ {h h' mi mi' s s' : Int} {y m d v : Value} (e1 : h = h') (e2 : mi = mi') (e3 : s = s') : Ending.returned (.tuple #[.agg #[y, m, d, .int .i64 h, .int .i64 mi, .int .i64 s], v]) = .returned (.tuple #[.agg #[y, m, d, .int .i64 h', .int .i64 mi', .int .i64 s'], v]) := by rw [e1, e2, e3]
theorem rciv_yes (y m d h mi s : Int) (w : World) (hm : Cv.mayB y m d h mi s = true) :
    Calls Tryz.prog 53 #[.int .i64 (Cv.secV y m d h mi s 0)] w fun e w' => e = .returned (.tuple #[.agg #[.int .i64 y, .int .i64 m, .int .i64 d, .int .i64 h, .int .i64 mi, .int .i64 s], .int .i64 0]) ∧ Below w.heap.size w w' := by
  obtain ⟨hv, hb⟩ := (Cv.may_iff y m d h mi s).1 hm
  have hn := Cv.num_bd hv
  refine (rciv_core _ y m d w (by unfold Cv.secV; omega) (by unfold Cv.secV; omega) hv (by unfold Cv.secV; omega)).mono ?_
  rintro e w' ⟨rfl, hbw⟩
  exact ⟨ret_civ (by unfold Cv.secV; omega) (by unfold Cv.secV; omega) (by unfold Cv.secV; omega), hbw⟩
end Go.Proofs.YtbhafhbaldddiaaGreatDoor
