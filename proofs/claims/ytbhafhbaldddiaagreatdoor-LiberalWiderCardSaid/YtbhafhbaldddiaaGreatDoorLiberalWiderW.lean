/- The walk of the statement that what is strict is read as the same, and that Any is no narrower. -/
import Derived.Test.YtbhafhbaldddiaaGreatDoorZY
import Derived.Test.YtbhafhbaldddiaaGreatDoorZWa
import Derived.Test.YtbhafhbaldddiaaGreatDoorZWb
import Derived.Test.YtbhafhbaldddiaaGreatDoorZMf
namespace Lb
open Go
/-- A second within the years. -/
def In (v : Int) : Prop := -62135596800 ≤ v ∧ v ≤ 253402300799
theorem secR_in {y m d h mi x e v : Int} (h0 : Sm.secR y m d h mi x e = (v, true)) : In v := by
  unfold Sm.secR at h0
  by_cases hk : Cv.secOk y m d h mi x e = true
  · rw [if_pos hk] at h0
    have hv := congrArg Prod.fst h0
    simp only at hv
    obtain ⟨_, _, _, h3, h4⟩ := (Cv.secOk_iff _ _ _ _ _ _ _).1 hk
    exact ⟨by omega, by omega⟩
  · rw [if_neg hk] at h0
    exact absurd (congrArg Prod.snd h0) (by simp)
theorem tail_in {s r : ByteArray} {n : Nat} {v : Int} (h : Sm.tailF s r n = (v, true)) : In v := by
  unfold Sm.tailF at h
  split at h
  · split at h
    · exact secR_in h
    · exact absurd (congrArg Prod.snd h) (by simp)
  · exact absurd (congrArg Prod.snd h) (by simp)
theorem full_in {s : ByteArray} {n : Nat} {v : Int} (h : Sm.fullF s n = (v, true)) : In v := by
  unfold Sm.fullF at h
  split at h
  · exact tail_in h
  · exact absurd (congrArg Prod.snd h) (by simp)
theorem w3c_in {s : ByteArray} {v : Int} (h : Sm.w3cF s = (v, true)) : In v := by
  unfold Sm.w3cF at h
  split at h
  · exact secR_in h
  · split at h
    · exact secR_in h
    · split at h
      · exact secR_in h
      · exact full_in h
theorem res_in {r : R} {v : Int} (h : resR r = some v) : In v := by
  unfold resR at h
  by_cases hk : okR r = true
  · rw [if_pos hk] at h
    have hv := Option.some.inj h
    unfold okR at hk
    simp only [Bool.and_eq_true] at hk
    obtain ⟨_, _, _, h3, h4⟩ := (Cv.secOk_iff _ _ _ _ _ _ _).1 hk.2
    exact ⟨by omega, by omega⟩
  · rw [if_neg hk] at h
    cases h
theorem parse_in {l : Wd} {v : Int} (h : parse l = some v) : In v := by
  unfold parse parseL at h
  split at h
  · rename_i e
    rw [Option.some.inj h] at e
    exact res_in e
  · split at h
    · rename_i e
      rw [Option.some.inj h] at e
      exact res_in e
    · exact res_in h
theorem any_in {l : Wd} {v : Int} (h : anyF l = some v) : In v := by
  unfold anyF at h
  split at h
  · rename_i hw
    exact w3c_in (Prod.ext (Option.some.inj h) hw)
  · split at h
    · rename_i v2 e
      rw [Option.some.inj h] at e
      exact Ml.parse_bd e
    · exact parse_in h
/-- What the liberal reader takes, Any takes. -/
theorem any_wide {l : Wd} (h : (parse l).isSome = true) : (anyF l).isSome = true := by
  unfold anyF
  split
  · rfl
  · split
    · rfl
    · exact h
theorem any_stamp {l : Wd} {v : Int} (h : Sm.fullF (Ml.mk l) 8 = (v, true)) : anyF l = some v := by
  have h2 := (Sm.full_w3c (Ml.mk l) (by rw [h])).1
  exact any_w3c (h2.trans h)
theorem parse_text {y m d h mi x : Int} (hm : Cv.mayB y m d h mi x = true) : ∃ l, Sm.textB y m d h mi x = Ml.mk l ∧ l.length ≤ 100 ∧ parse l = some (Cv.secV y m d h mi x 0) :=
  ⟨Sm.textL y m d h mi x, rfl, by show 20 ≤ 100; decide, stamp_parse (by show 20 ≤ 100000; decide) (Sm.full_text hm 8 (Nat.le_refl _))⟩
theorem parse_mail {y m d h mi x : Int} (hm : Cv.mayB y m d h mi x = true) : ∃ l, Ml.txB y m d h mi x = Ml.mk l ∧ l.length ≤ 100 ∧ parse l = some (Cv.secV y m d h mi x 0) := by
  have hb := Ml.back_all hm
  have hp : Ml.parseF (Ml.txB y m d h mi x) = some (Cv.secV y m d h mi x 0) := hb.all
  refine ⟨(Ml.txB y m d h mi x).data.toList, (Ml.mk_list _).symm, ?_, mail_parse (by rw [Ml.mk_list]; exact hp)⟩
  have h1 := Ml.parse_short hp
  rw [Array.length_toList]
  exact Nat.le_trans h1 (by decide)
end Lb
namespace Go.Proofs.YtbhafhbaldddiaaGreatDoor
open Go.RowKit
open Go
open Lb (R Wd)
set_option linter.unusedVariables false
set_option maxRecDepth 100000 in
set_option maxHeartbeats 4000000 in
theorem wider_w1_in {w : World} (T : ByteArray) (z : Nat) (hz : T.size = z) (h300 : ¬ (300 : Int) < (z : Int)) (a : Int) (hi : Lb.In a) (sec : Int)
    (c1 : (∀ w, Calls Tryz.prog 17 #[.string T] w fun e w' => e = .returned (.tuple #[(.int .i64 a), .bool true]) ∧ Below w.heap.size w w')) (c2 : (∀ w, Calls Tryz.prog 6 #[.string T] w fun e w' => e = .returned (.tuple #[(.int .i64 a), .bool true]) ∧ Below w.heap.size w w')) (c3 : (∀ w, Calls Tryz.prog 18 #[.string T] w fun e w' => e = .returned (.tuple #[(.int .i64 0), (.int .i64 70)]) ∧ Below w.heap.size w w')) (c4 : (∀ w, Calls Tryz.prog 8 #[.string T] w fun e w' => e = .returned (.tuple #[(.int .i64 a), .bool true]) ∧ Below w.heap.size w w'))
    (k9 : ∀ w, Calls Tryz.prog 5 #[] w fun e w' => e = .returned (.bool true) ∧ Below w.heap.size w w')
    (t u : ByteArray) (c5 : (∀ w, Calls Tryz.prog 19 #[.int .i64 sec] w fun e w' => e = .returned (.tuple #[.string t, .bool true]) ∧ Below w.heap.size w w')) (c6 : (∀ w, Calls Tryz.prog 20 #[.int .i64 sec] w fun e w' => e = .returned (.tuple #[.string u, .int .i64 0]) ∧ Below w.heap.size w w')) (c7 : (∀ w, Calls Tryz.prog 6 #[.string t] w fun e w' => e = .returned (.tuple #[.int .i64 sec, .bool true]) ∧ Below w.heap.size w w')) (c8 : (∀ w, Calls Tryz.prog 6 #[.string u] w fun e w' => e = .returned (.tuple #[.int .i64 sec, .bool true]) ∧ Below w.heap.size w w')) :
    Calls Tryz.prog 4 #[.string T, .int .i64 sec] w (fun e w' => e = .returned (.bool true) ∧ Below w.heap.size w w') := by
  obtain ⟨i1, i2⟩ := hi
  have l1 : ¬ a < -62135596800 := by omega
  have l2 : ¬ 253402300799 < a := by omega
  go_enter Tryz.func4, Tryz.ntmps4
  go_wp2_with fail
  refine (c1 _).mono ?_
  rintro e v0 ⟨rfl, hb⟩
  have B0 := Lib.hid hb
  clear hb
  go_wp2_with fail
  refine (c2 _).mono ?_
  rintro e v1 ⟨rfl, hb⟩
  have B1 := Lib.hid (bn B0.out hb)
  clear hb B0
  go_wp2_with fail
  refine (c3 _).mono ?_
  rintro e v2 ⟨rfl, hb⟩
  have B2 := Lib.hid (bn B1.out hb)
  clear hb B1
  go_wp2_with fail
  refine (c4 _).mono ?_
  rintro e v3 ⟨rfl, hb⟩
  have B3 := Lib.hid (bn B2.out hb)
  clear hb B2
  go_wp2_with fail
  refine (c5 _).mono ?_
  rintro e v4 ⟨rfl, hb⟩
  have B4 := Lib.hid (bn B3.out hb)
  clear hb B3
  go_wp2_with fail
  refine (c6 _).mono ?_
  rintro e v5 ⟨rfl, hb⟩
  have B5 := Lib.hid (bn B4.out hb)
  clear hb B4
  go_wp2_with fail
  refine (c7 _).mono ?_
  rintro e v6 ⟨rfl, hb⟩
  have B6 := Lib.hid (bn B5.out hb)
  clear hb B5
  go_wp2_with fail
  refine (c8 _).mono ?_
  rintro e v7 ⟨rfl, hb⟩
  have B7 := Lib.hid (bn B6.out hb)
  clear hb B6
  go_wp2_with fail
  refine (k9 _).mono ?_
  rintro e v8 ⟨rfl, hb⟩
  have B8 := Lib.hid (bn B7.out hb)
  clear hb B7
  go_wp2_with fail
  go_ret
  exact ⟨rfl, B8.out⟩
set_option maxRecDepth 100000 in
set_option maxHeartbeats 4000000 in
theorem wider_w1_out {w : World} (T : ByteArray) (z : Nat) (hz : T.size = z) (h300 : ¬ (300 : Int) < (z : Int)) (a : Int) (hi : Lb.In a) (sec : Int)
    (c1 : (∀ w, Calls Tryz.prog 17 #[.string T] w fun e w' => e = .returned (.tuple #[(.int .i64 a), .bool true]) ∧ Below w.heap.size w w')) (c2 : (∀ w, Calls Tryz.prog 6 #[.string T] w fun e w' => e = .returned (.tuple #[(.int .i64 a), .bool true]) ∧ Below w.heap.size w w')) (c3 : (∀ w, Calls Tryz.prog 18 #[.string T] w fun e w' => e = .returned (.tuple #[(.int .i64 0), (.int .i64 70)]) ∧ Below w.heap.size w w')) (c4 : (∀ w, Calls Tryz.prog 8 #[.string T] w fun e w' => e = .returned (.tuple #[(.int .i64 a), .bool true]) ∧ Below w.heap.size w w'))
    (k9 : ∀ w, Calls Tryz.prog 5 #[] w fun e w' => e = .returned (.bool true) ∧ Below w.heap.size w w')
    (c5 : (∀ w, Calls Tryz.prog 19 #[.int .i64 sec] w fun e w' => e = .returned (.tuple #[.string ⟨#[]⟩, .bool false]) ∧ Below w.heap.size w w')) (c6 : (∀ w, Calls Tryz.prog 20 #[.int .i64 sec] w fun e w' => e = .returned (.tuple #[.string ⟨#[]⟩, .int .i64 2]) ∧ Below w.heap.size w w')) :
    Calls Tryz.prog 4 #[.string T, .int .i64 sec] w (fun e w' => e = .returned (.bool true) ∧ Below w.heap.size w w') := by
  obtain ⟨i1, i2⟩ := hi
  have l1 : ¬ a < -62135596800 := by omega
  have l2 : ¬ 253402300799 < a := by omega
  go_enter Tryz.func4, Tryz.ntmps4
  go_wp2_with fail
  refine (c1 _).mono ?_
  rintro e v0 ⟨rfl, hb⟩
  have B0 := Lib.hid hb
  clear hb
  go_wp2_with fail
  refine (c2 _).mono ?_
  rintro e v1 ⟨rfl, hb⟩
  have B1 := Lib.hid (bn B0.out hb)
  clear hb B0
  go_wp2_with fail
  refine (c3 _).mono ?_
  rintro e v2 ⟨rfl, hb⟩
  have B2 := Lib.hid (bn B1.out hb)
  clear hb B1
  go_wp2_with fail
  refine (c4 _).mono ?_
  rintro e v3 ⟨rfl, hb⟩
  have B3 := Lib.hid (bn B2.out hb)
  clear hb B2
  go_wp2_with fail
  refine (c5 _).mono ?_
  rintro e v4 ⟨rfl, hb⟩
  have B4 := Lib.hid (bn B3.out hb)
  clear hb B3
  go_wp2_with fail
  refine (c6 _).mono ?_
  rintro e v5 ⟨rfl, hb⟩
  have B5 := Lib.hid (bn B4.out hb)
  clear hb B4
  go_wp2_with fail
  refine (k9 _).mono ?_
  rintro e v6 ⟨rfl, hb⟩
  have B6 := Lib.hid (bn B5.out hb)
  clear hb B5
  go_wp2_with fail
  go_ret
  exact ⟨rfl, B6.out⟩
set_option maxRecDepth 100000 in
set_option maxHeartbeats 4000000 in
theorem wider_w2_in {w : World} (T : ByteArray) (z : Nat) (hz : T.size = z) (h300 : ¬ (300 : Int) < (z : Int)) (a : Int) (hi : Lb.In a) (sec : Int)
    (c1 : (∀ w, Calls Tryz.prog 17 #[.string T] w fun e w' => e = .returned (.tuple #[(.int .i64 a), .bool true]) ∧ Below w.heap.size w w')) (c2 : (∀ w, Calls Tryz.prog 6 #[.string T] w fun e w' => e = .returned (.tuple #[(.int .i64 a), .bool true]) ∧ Below w.heap.size w w')) (c3 : (∀ w, Calls Tryz.prog 18 #[.string T] w fun e w' => e = .returned (.tuple #[(.int .i64 a), (.int .i64 0)]) ∧ Below w.heap.size w w')) (c4 : (∀ w, Calls Tryz.prog 8 #[.string T] w fun e w' => e = .returned (.tuple #[(.int .i64 a), .bool true]) ∧ Below w.heap.size w w'))
    (k9 : ∀ w, Calls Tryz.prog 5 #[] w fun e w' => e = .returned (.bool true) ∧ Below w.heap.size w w')
    (t u : ByteArray) (c5 : (∀ w, Calls Tryz.prog 19 #[.int .i64 sec] w fun e w' => e = .returned (.tuple #[.string t, .bool true]) ∧ Below w.heap.size w w')) (c6 : (∀ w, Calls Tryz.prog 20 #[.int .i64 sec] w fun e w' => e = .returned (.tuple #[.string u, .int .i64 0]) ∧ Below w.heap.size w w')) (c7 : (∀ w, Calls Tryz.prog 6 #[.string t] w fun e w' => e = .returned (.tuple #[.int .i64 sec, .bool true]) ∧ Below w.heap.size w w')) (c8 : (∀ w, Calls Tryz.prog 6 #[.string u] w fun e w' => e = .returned (.tuple #[.int .i64 sec, .bool true]) ∧ Below w.heap.size w w')) :
    Calls Tryz.prog 4 #[.string T, .int .i64 sec] w (fun e w' => e = .returned (.bool true) ∧ Below w.heap.size w w') := by
  obtain ⟨i1, i2⟩ := hi
  have l1 : ¬ a < -62135596800 := by omega
  have l2 : ¬ 253402300799 < a := by omega
  go_enter Tryz.func4, Tryz.ntmps4
  go_wp2_with fail
  refine (c1 _).mono ?_
  rintro e v0 ⟨rfl, hb⟩
  have B0 := Lib.hid hb
  clear hb
  go_wp2_with fail
  refine (c2 _).mono ?_
  rintro e v1 ⟨rfl, hb⟩
  have B1 := Lib.hid (bn B0.out hb)
  clear hb B0
  go_wp2_with fail
  refine (c3 _).mono ?_
  rintro e v2 ⟨rfl, hb⟩
  have B2 := Lib.hid (bn B1.out hb)
  clear hb B1
  go_wp2_with fail
  refine (c4 _).mono ?_
  rintro e v3 ⟨rfl, hb⟩
  have B3 := Lib.hid (bn B2.out hb)
  clear hb B2
  go_wp2_with fail
  refine (c5 _).mono ?_
  rintro e v4 ⟨rfl, hb⟩
  have B4 := Lib.hid (bn B3.out hb)
  clear hb B3
  go_wp2_with fail
  refine (c6 _).mono ?_
  rintro e v5 ⟨rfl, hb⟩
  have B5 := Lib.hid (bn B4.out hb)
  clear hb B4
  go_wp2_with fail
  refine (c7 _).mono ?_
  rintro e v6 ⟨rfl, hb⟩
  have B6 := Lib.hid (bn B5.out hb)
  clear hb B5
  go_wp2_with fail
  refine (c8 _).mono ?_
  rintro e v7 ⟨rfl, hb⟩
  have B7 := Lib.hid (bn B6.out hb)
  clear hb B6
  go_wp2_with fail
  refine (k9 _).mono ?_
  rintro e v8 ⟨rfl, hb⟩
  have B8 := Lib.hid (bn B7.out hb)
  clear hb B7
  go_wp2_with fail
  go_ret
  exact ⟨rfl, B8.out⟩
set_option maxRecDepth 100000 in
set_option maxHeartbeats 4000000 in
theorem wider_w2_out {w : World} (T : ByteArray) (z : Nat) (hz : T.size = z) (h300 : ¬ (300 : Int) < (z : Int)) (a : Int) (hi : Lb.In a) (sec : Int)
    (c1 : (∀ w, Calls Tryz.prog 17 #[.string T] w fun e w' => e = .returned (.tuple #[(.int .i64 a), .bool true]) ∧ Below w.heap.size w w')) (c2 : (∀ w, Calls Tryz.prog 6 #[.string T] w fun e w' => e = .returned (.tuple #[(.int .i64 a), .bool true]) ∧ Below w.heap.size w w')) (c3 : (∀ w, Calls Tryz.prog 18 #[.string T] w fun e w' => e = .returned (.tuple #[(.int .i64 a), (.int .i64 0)]) ∧ Below w.heap.size w w')) (c4 : (∀ w, Calls Tryz.prog 8 #[.string T] w fun e w' => e = .returned (.tuple #[(.int .i64 a), .bool true]) ∧ Below w.heap.size w w'))
    (k9 : ∀ w, Calls Tryz.prog 5 #[] w fun e w' => e = .returned (.bool true) ∧ Below w.heap.size w w')
    (c5 : (∀ w, Calls Tryz.prog 19 #[.int .i64 sec] w fun e w' => e = .returned (.tuple #[.string ⟨#[]⟩, .bool false]) ∧ Below w.heap.size w w')) (c6 : (∀ w, Calls Tryz.prog 20 #[.int .i64 sec] w fun e w' => e = .returned (.tuple #[.string ⟨#[]⟩, .int .i64 2]) ∧ Below w.heap.size w w')) :
    Calls Tryz.prog 4 #[.string T, .int .i64 sec] w (fun e w' => e = .returned (.bool true) ∧ Below w.heap.size w w') := by
  obtain ⟨i1, i2⟩ := hi
  have l1 : ¬ a < -62135596800 := by omega
  have l2 : ¬ 253402300799 < a := by omega
  go_enter Tryz.func4, Tryz.ntmps4
  go_wp2_with fail
  refine (c1 _).mono ?_
  rintro e v0 ⟨rfl, hb⟩
  have B0 := Lib.hid hb
  clear hb
  go_wp2_with fail
  refine (c2 _).mono ?_
  rintro e v1 ⟨rfl, hb⟩
  have B1 := Lib.hid (bn B0.out hb)
  clear hb B0
  go_wp2_with fail
  refine (c3 _).mono ?_
  rintro e v2 ⟨rfl, hb⟩
  have B2 := Lib.hid (bn B1.out hb)
  clear hb B1
  go_wp2_with fail
  refine (c4 _).mono ?_
  rintro e v3 ⟨rfl, hb⟩
  have B3 := Lib.hid (bn B2.out hb)
  clear hb B2
  go_wp2_with fail
  refine (c5 _).mono ?_
  rintro e v4 ⟨rfl, hb⟩
  have B4 := Lib.hid (bn B3.out hb)
  clear hb B3
  go_wp2_with fail
  refine (c6 _).mono ?_
  rintro e v5 ⟨rfl, hb⟩
  have B5 := Lib.hid (bn B4.out hb)
  clear hb B4
  go_wp2_with fail
  refine (k9 _).mono ?_
  rintro e v6 ⟨rfl, hb⟩
  have B6 := Lib.hid (bn B5.out hb)
  clear hb B5
  go_wp2_with fail
  go_ret
  exact ⟨rfl, B6.out⟩
set_option maxRecDepth 100000 in
set_option maxHeartbeats 4000000 in
theorem wider_w3_in {w : World} (T : ByteArray) (z : Nat) (hz : T.size = z) (h300 : ¬ (300 : Int) < (z : Int)) (a c d : Int) (hi : Lb.In d) (sec : Int)
    (c1 : (∀ w, Calls Tryz.prog 17 #[.string T] w fun e w' => e = .returned (.tuple #[(.int .i64 a), .bool false]) ∧ Below w.heap.size w w')) (c2 : (∀ w, Calls Tryz.prog 6 #[.string T] w fun e w' => e = .returned (.tuple #[(.int .i64 c), .bool true]) ∧ Below w.heap.size w w')) (c3 : (∀ w, Calls Tryz.prog 18 #[.string T] w fun e w' => e = .returned (.tuple #[(.int .i64 c), (.int .i64 0)]) ∧ Below w.heap.size w w')) (c4 : (∀ w, Calls Tryz.prog 8 #[.string T] w fun e w' => e = .returned (.tuple #[(.int .i64 d), .bool true]) ∧ Below w.heap.size w w'))
    (k9 : ∀ w, Calls Tryz.prog 5 #[] w fun e w' => e = .returned (.bool true) ∧ Below w.heap.size w w')
    (t u : ByteArray) (c5 : (∀ w, Calls Tryz.prog 19 #[.int .i64 sec] w fun e w' => e = .returned (.tuple #[.string t, .bool true]) ∧ Below w.heap.size w w')) (c6 : (∀ w, Calls Tryz.prog 20 #[.int .i64 sec] w fun e w' => e = .returned (.tuple #[.string u, .int .i64 0]) ∧ Below w.heap.size w w')) (c7 : (∀ w, Calls Tryz.prog 6 #[.string t] w fun e w' => e = .returned (.tuple #[.int .i64 sec, .bool true]) ∧ Below w.heap.size w w')) (c8 : (∀ w, Calls Tryz.prog 6 #[.string u] w fun e w' => e = .returned (.tuple #[.int .i64 sec, .bool true]) ∧ Below w.heap.size w w')) :
    Calls Tryz.prog 4 #[.string T, .int .i64 sec] w (fun e w' => e = .returned (.bool true) ∧ Below w.heap.size w w') := by
  obtain ⟨i1, i2⟩ := hi
  have l1 : ¬ d < -62135596800 := by omega
  have l2 : ¬ 253402300799 < d := by omega
  go_enter Tryz.func4, Tryz.ntmps4
  go_wp2_with fail
  refine (c1 _).mono ?_
  rintro e v0 ⟨rfl, hb⟩
  have B0 := Lib.hid hb
  clear hb
  go_wp2_with fail
  refine (c2 _).mono ?_
  rintro e v1 ⟨rfl, hb⟩
  have B1 := Lib.hid (bn B0.out hb)
  clear hb B0
  go_wp2_with fail
  refine (c3 _).mono ?_
  rintro e v2 ⟨rfl, hb⟩
  have B2 := Lib.hid (bn B1.out hb)
  clear hb B1
  go_wp2_with fail
  refine (c4 _).mono ?_
  rintro e v3 ⟨rfl, hb⟩
  have B3 := Lib.hid (bn B2.out hb)
  clear hb B2
  go_wp2_with fail
  refine (c5 _).mono ?_
  rintro e v4 ⟨rfl, hb⟩
  have B4 := Lib.hid (bn B3.out hb)
  clear hb B3
  go_wp2_with fail
  refine (c6 _).mono ?_
  rintro e v5 ⟨rfl, hb⟩
  have B5 := Lib.hid (bn B4.out hb)
  clear hb B4
  go_wp2_with fail
  refine (c7 _).mono ?_
  rintro e v6 ⟨rfl, hb⟩
  have B6 := Lib.hid (bn B5.out hb)
  clear hb B5
  go_wp2_with fail
  refine (c8 _).mono ?_
  rintro e v7 ⟨rfl, hb⟩
  have B7 := Lib.hid (bn B6.out hb)
  clear hb B6
  go_wp2_with fail
  refine (k9 _).mono ?_
  rintro e v8 ⟨rfl, hb⟩
  have B8 := Lib.hid (bn B7.out hb)
  clear hb B7
  go_wp2_with fail
  go_ret
  exact ⟨rfl, B8.out⟩
set_option maxRecDepth 100000 in
set_option maxHeartbeats 4000000 in
theorem wider_w3_out {w : World} (T : ByteArray) (z : Nat) (hz : T.size = z) (h300 : ¬ (300 : Int) < (z : Int)) (a c d : Int) (hi : Lb.In d) (sec : Int)
    (c1 : (∀ w, Calls Tryz.prog 17 #[.string T] w fun e w' => e = .returned (.tuple #[(.int .i64 a), .bool false]) ∧ Below w.heap.size w w')) (c2 : (∀ w, Calls Tryz.prog 6 #[.string T] w fun e w' => e = .returned (.tuple #[(.int .i64 c), .bool true]) ∧ Below w.heap.size w w')) (c3 : (∀ w, Calls Tryz.prog 18 #[.string T] w fun e w' => e = .returned (.tuple #[(.int .i64 c), (.int .i64 0)]) ∧ Below w.heap.size w w')) (c4 : (∀ w, Calls Tryz.prog 8 #[.string T] w fun e w' => e = .returned (.tuple #[(.int .i64 d), .bool true]) ∧ Below w.heap.size w w'))
    (k9 : ∀ w, Calls Tryz.prog 5 #[] w fun e w' => e = .returned (.bool true) ∧ Below w.heap.size w w')
    (c5 : (∀ w, Calls Tryz.prog 19 #[.int .i64 sec] w fun e w' => e = .returned (.tuple #[.string ⟨#[]⟩, .bool false]) ∧ Below w.heap.size w w')) (c6 : (∀ w, Calls Tryz.prog 20 #[.int .i64 sec] w fun e w' => e = .returned (.tuple #[.string ⟨#[]⟩, .int .i64 2]) ∧ Below w.heap.size w w')) :
    Calls Tryz.prog 4 #[.string T, .int .i64 sec] w (fun e w' => e = .returned (.bool true) ∧ Below w.heap.size w w') := by
  obtain ⟨i1, i2⟩ := hi
  have l1 : ¬ d < -62135596800 := by omega
  have l2 : ¬ 253402300799 < d := by omega
  go_enter Tryz.func4, Tryz.ntmps4
  go_wp2_with fail
  refine (c1 _).mono ?_
  rintro e v0 ⟨rfl, hb⟩
  have B0 := Lib.hid hb
  clear hb
  go_wp2_with fail
  refine (c2 _).mono ?_
  rintro e v1 ⟨rfl, hb⟩
  have B1 := Lib.hid (bn B0.out hb)
  clear hb B0
  go_wp2_with fail
  refine (c3 _).mono ?_
  rintro e v2 ⟨rfl, hb⟩
  have B2 := Lib.hid (bn B1.out hb)
  clear hb B1
  go_wp2_with fail
  refine (c4 _).mono ?_
  rintro e v3 ⟨rfl, hb⟩
  have B3 := Lib.hid (bn B2.out hb)
  clear hb B2
  go_wp2_with fail
  refine (c5 _).mono ?_
  rintro e v4 ⟨rfl, hb⟩
  have B4 := Lib.hid (bn B3.out hb)
  clear hb B3
  go_wp2_with fail
  refine (c6 _).mono ?_
  rintro e v5 ⟨rfl, hb⟩
  have B5 := Lib.hid (bn B4.out hb)
  clear hb B4
  go_wp2_with fail
  refine (k9 _).mono ?_
  rintro e v6 ⟨rfl, hb⟩
  have B6 := Lib.hid (bn B5.out hb)
  clear hb B5
  go_wp2_with fail
  go_ret
  exact ⟨rfl, B6.out⟩
set_option maxRecDepth 100000 in
set_option maxHeartbeats 4000000 in
theorem wider_w4_in {w : World} (T : ByteArray) (z : Nat) (hz : T.size = z) (h300 : ¬ (300 : Int) < (z : Int)) (a c d : Int) (hi : Lb.In d) (sec : Int)
    (c1 : (∀ w, Calls Tryz.prog 17 #[.string T] w fun e w' => e = .returned (.tuple #[(.int .i64 a), .bool false]) ∧ Below w.heap.size w w')) (c2 : (∀ w, Calls Tryz.prog 6 #[.string T] w fun e w' => e = .returned (.tuple #[(.int .i64 c), .bool true]) ∧ Below w.heap.size w w')) (c3 : (∀ w, Calls Tryz.prog 18 #[.string T] w fun e w' => e = .returned (.tuple #[(.int .i64 0), (.int .i64 70)]) ∧ Below w.heap.size w w')) (c4 : (∀ w, Calls Tryz.prog 8 #[.string T] w fun e w' => e = .returned (.tuple #[(.int .i64 d), .bool true]) ∧ Below w.heap.size w w'))
    (k9 : ∀ w, Calls Tryz.prog 5 #[] w fun e w' => e = .returned (.bool true) ∧ Below w.heap.size w w')
    (t u : ByteArray) (c5 : (∀ w, Calls Tryz.prog 19 #[.int .i64 sec] w fun e w' => e = .returned (.tuple #[.string t, .bool true]) ∧ Below w.heap.size w w')) (c6 : (∀ w, Calls Tryz.prog 20 #[.int .i64 sec] w fun e w' => e = .returned (.tuple #[.string u, .int .i64 0]) ∧ Below w.heap.size w w')) (c7 : (∀ w, Calls Tryz.prog 6 #[.string t] w fun e w' => e = .returned (.tuple #[.int .i64 sec, .bool true]) ∧ Below w.heap.size w w')) (c8 : (∀ w, Calls Tryz.prog 6 #[.string u] w fun e w' => e = .returned (.tuple #[.int .i64 sec, .bool true]) ∧ Below w.heap.size w w')) :
    Calls Tryz.prog 4 #[.string T, .int .i64 sec] w (fun e w' => e = .returned (.bool true) ∧ Below w.heap.size w w') := by
  obtain ⟨i1, i2⟩ := hi
  have l1 : ¬ d < -62135596800 := by omega
  have l2 : ¬ 253402300799 < d := by omega
  go_enter Tryz.func4, Tryz.ntmps4
  go_wp2_with fail
  refine (c1 _).mono ?_
  rintro e v0 ⟨rfl, hb⟩
  have B0 := Lib.hid hb
  clear hb
  go_wp2_with fail
  refine (c2 _).mono ?_
  rintro e v1 ⟨rfl, hb⟩
  have B1 := Lib.hid (bn B0.out hb)
  clear hb B0
  go_wp2_with fail
  refine (c3 _).mono ?_
  rintro e v2 ⟨rfl, hb⟩
  have B2 := Lib.hid (bn B1.out hb)
  clear hb B1
  go_wp2_with fail
  refine (c4 _).mono ?_
  rintro e v3 ⟨rfl, hb⟩
  have B3 := Lib.hid (bn B2.out hb)
  clear hb B2
  go_wp2_with fail
  refine (c5 _).mono ?_
  rintro e v4 ⟨rfl, hb⟩
  have B4 := Lib.hid (bn B3.out hb)
  clear hb B3
  go_wp2_with fail
  refine (c6 _).mono ?_
  rintro e v5 ⟨rfl, hb⟩
  have B5 := Lib.hid (bn B4.out hb)
  clear hb B4
  go_wp2_with fail
  refine (c7 _).mono ?_
  rintro e v6 ⟨rfl, hb⟩
  have B6 := Lib.hid (bn B5.out hb)
  clear hb B5
  go_wp2_with fail
  refine (c8 _).mono ?_
  rintro e v7 ⟨rfl, hb⟩
  have B7 := Lib.hid (bn B6.out hb)
  clear hb B6
  go_wp2_with fail
  refine (k9 _).mono ?_
  rintro e v8 ⟨rfl, hb⟩
  have B8 := Lib.hid (bn B7.out hb)
  clear hb B7
  go_wp2_with fail
  go_ret
  exact ⟨rfl, B8.out⟩
set_option maxRecDepth 100000 in
set_option maxHeartbeats 4000000 in
theorem wider_w4_out {w : World} (T : ByteArray) (z : Nat) (hz : T.size = z) (h300 : ¬ (300 : Int) < (z : Int)) (a c d : Int) (hi : Lb.In d) (sec : Int)
    (c1 : (∀ w, Calls Tryz.prog 17 #[.string T] w fun e w' => e = .returned (.tuple #[(.int .i64 a), .bool false]) ∧ Below w.heap.size w w')) (c2 : (∀ w, Calls Tryz.prog 6 #[.string T] w fun e w' => e = .returned (.tuple #[(.int .i64 c), .bool true]) ∧ Below w.heap.size w w')) (c3 : (∀ w, Calls Tryz.prog 18 #[.string T] w fun e w' => e = .returned (.tuple #[(.int .i64 0), (.int .i64 70)]) ∧ Below w.heap.size w w')) (c4 : (∀ w, Calls Tryz.prog 8 #[.string T] w fun e w' => e = .returned (.tuple #[(.int .i64 d), .bool true]) ∧ Below w.heap.size w w'))
    (k9 : ∀ w, Calls Tryz.prog 5 #[] w fun e w' => e = .returned (.bool true) ∧ Below w.heap.size w w')
    (c5 : (∀ w, Calls Tryz.prog 19 #[.int .i64 sec] w fun e w' => e = .returned (.tuple #[.string ⟨#[]⟩, .bool false]) ∧ Below w.heap.size w w')) (c6 : (∀ w, Calls Tryz.prog 20 #[.int .i64 sec] w fun e w' => e = .returned (.tuple #[.string ⟨#[]⟩, .int .i64 2]) ∧ Below w.heap.size w w')) :
    Calls Tryz.prog 4 #[.string T, .int .i64 sec] w (fun e w' => e = .returned (.bool true) ∧ Below w.heap.size w w') := by
  obtain ⟨i1, i2⟩ := hi
  have l1 : ¬ d < -62135596800 := by omega
  have l2 : ¬ 253402300799 < d := by omega
  go_enter Tryz.func4, Tryz.ntmps4
  go_wp2_with fail
  refine (c1 _).mono ?_
  rintro e v0 ⟨rfl, hb⟩
  have B0 := Lib.hid hb
  clear hb
  go_wp2_with fail
  refine (c2 _).mono ?_
  rintro e v1 ⟨rfl, hb⟩
  have B1 := Lib.hid (bn B0.out hb)
  clear hb B0
  go_wp2_with fail
  refine (c3 _).mono ?_
  rintro e v2 ⟨rfl, hb⟩
  have B2 := Lib.hid (bn B1.out hb)
  clear hb B1
  go_wp2_with fail
  refine (c4 _).mono ?_
  rintro e v3 ⟨rfl, hb⟩
  have B3 := Lib.hid (bn B2.out hb)
  clear hb B2
  go_wp2_with fail
  refine (c5 _).mono ?_
  rintro e v4 ⟨rfl, hb⟩
  have B4 := Lib.hid (bn B3.out hb)
  clear hb B3
  go_wp2_with fail
  refine (c6 _).mono ?_
  rintro e v5 ⟨rfl, hb⟩
  have B5 := Lib.hid (bn B4.out hb)
  clear hb B4
  go_wp2_with fail
  refine (k9 _).mono ?_
  rintro e v6 ⟨rfl, hb⟩
  have B6 := Lib.hid (bn B5.out hb)
  clear hb B5
  go_wp2_with fail
  go_ret
  exact ⟨rfl, B6.out⟩
set_option maxRecDepth 100000 in
set_option maxHeartbeats 4000000 in
theorem wider_w5_in {w : World} (T : ByteArray) (z : Nat) (hz : T.size = z) (h300 : ¬ (300 : Int) < (z : Int)) (a d : Int) (hi : Lb.In d) (sec : Int)
    (c1 : (∀ w, Calls Tryz.prog 17 #[.string T] w fun e w' => e = .returned (.tuple #[(.int .i64 a), .bool false]) ∧ Below w.heap.size w w')) (c2 : (∀ w, Calls Tryz.prog 6 #[.string T] w fun e w' => e = .returned (.tuple #[(.int .i64 0), .bool false]) ∧ Below w.heap.size w w')) (c3 : (∀ w, Calls Tryz.prog 18 #[.string T] w fun e w' => e = .returned (.tuple #[(.int .i64 0), (.int .i64 70)]) ∧ Below w.heap.size w w')) (c4 : (∀ w, Calls Tryz.prog 8 #[.string T] w fun e w' => e = .returned (.tuple #[(.int .i64 d), .bool true]) ∧ Below w.heap.size w w'))
    (k9 : ∀ w, Calls Tryz.prog 5 #[] w fun e w' => e = .returned (.bool true) ∧ Below w.heap.size w w')
    (t u : ByteArray) (c5 : (∀ w, Calls Tryz.prog 19 #[.int .i64 sec] w fun e w' => e = .returned (.tuple #[.string t, .bool true]) ∧ Below w.heap.size w w')) (c6 : (∀ w, Calls Tryz.prog 20 #[.int .i64 sec] w fun e w' => e = .returned (.tuple #[.string u, .int .i64 0]) ∧ Below w.heap.size w w')) (c7 : (∀ w, Calls Tryz.prog 6 #[.string t] w fun e w' => e = .returned (.tuple #[.int .i64 sec, .bool true]) ∧ Below w.heap.size w w')) (c8 : (∀ w, Calls Tryz.prog 6 #[.string u] w fun e w' => e = .returned (.tuple #[.int .i64 sec, .bool true]) ∧ Below w.heap.size w w')) :
    Calls Tryz.prog 4 #[.string T, .int .i64 sec] w (fun e w' => e = .returned (.bool true) ∧ Below w.heap.size w w') := by
  obtain ⟨i1, i2⟩ := hi
  have l1 : ¬ d < -62135596800 := by omega
  have l2 : ¬ 253402300799 < d := by omega
  go_enter Tryz.func4, Tryz.ntmps4
  go_wp2_with fail
  refine (c1 _).mono ?_
  rintro e v0 ⟨rfl, hb⟩
  have B0 := Lib.hid hb
  clear hb
  go_wp2_with fail
  refine (c2 _).mono ?_
  rintro e v1 ⟨rfl, hb⟩
  have B1 := Lib.hid (bn B0.out hb)
  clear hb B0
  go_wp2_with fail
  refine (c3 _).mono ?_
  rintro e v2 ⟨rfl, hb⟩
  have B2 := Lib.hid (bn B1.out hb)
  clear hb B1
  go_wp2_with fail
  refine (c4 _).mono ?_
  rintro e v3 ⟨rfl, hb⟩
  have B3 := Lib.hid (bn B2.out hb)
  clear hb B2
  go_wp2_with fail
  refine (c5 _).mono ?_
  rintro e v4 ⟨rfl, hb⟩
  have B4 := Lib.hid (bn B3.out hb)
  clear hb B3
  go_wp2_with fail
  refine (c6 _).mono ?_
  rintro e v5 ⟨rfl, hb⟩
  have B5 := Lib.hid (bn B4.out hb)
  clear hb B4
  go_wp2_with fail
  refine (c7 _).mono ?_
  rintro e v6 ⟨rfl, hb⟩
  have B6 := Lib.hid (bn B5.out hb)
  clear hb B5
  go_wp2_with fail
  refine (c8 _).mono ?_
  rintro e v7 ⟨rfl, hb⟩
  have B7 := Lib.hid (bn B6.out hb)
  clear hb B6
  go_wp2_with fail
  refine (k9 _).mono ?_
  rintro e v8 ⟨rfl, hb⟩
  have B8 := Lib.hid (bn B7.out hb)
  clear hb B7
  go_wp2_with fail
  go_ret
  exact ⟨rfl, B8.out⟩
set_option maxRecDepth 100000 in
set_option maxHeartbeats 4000000 in
theorem wider_w5_out {w : World} (T : ByteArray) (z : Nat) (hz : T.size = z) (h300 : ¬ (300 : Int) < (z : Int)) (a d : Int) (hi : Lb.In d) (sec : Int)
    (c1 : (∀ w, Calls Tryz.prog 17 #[.string T] w fun e w' => e = .returned (.tuple #[(.int .i64 a), .bool false]) ∧ Below w.heap.size w w')) (c2 : (∀ w, Calls Tryz.prog 6 #[.string T] w fun e w' => e = .returned (.tuple #[(.int .i64 0), .bool false]) ∧ Below w.heap.size w w')) (c3 : (∀ w, Calls Tryz.prog 18 #[.string T] w fun e w' => e = .returned (.tuple #[(.int .i64 0), (.int .i64 70)]) ∧ Below w.heap.size w w')) (c4 : (∀ w, Calls Tryz.prog 8 #[.string T] w fun e w' => e = .returned (.tuple #[(.int .i64 d), .bool true]) ∧ Below w.heap.size w w'))
    (k9 : ∀ w, Calls Tryz.prog 5 #[] w fun e w' => e = .returned (.bool true) ∧ Below w.heap.size w w')
    (c5 : (∀ w, Calls Tryz.prog 19 #[.int .i64 sec] w fun e w' => e = .returned (.tuple #[.string ⟨#[]⟩, .bool false]) ∧ Below w.heap.size w w')) (c6 : (∀ w, Calls Tryz.prog 20 #[.int .i64 sec] w fun e w' => e = .returned (.tuple #[.string ⟨#[]⟩, .int .i64 2]) ∧ Below w.heap.size w w')) :
    Calls Tryz.prog 4 #[.string T, .int .i64 sec] w (fun e w' => e = .returned (.bool true) ∧ Below w.heap.size w w') := by
  obtain ⟨i1, i2⟩ := hi
  have l1 : ¬ d < -62135596800 := by omega
  have l2 : ¬ 253402300799 < d := by omega
  go_enter Tryz.func4, Tryz.ntmps4
  go_wp2_with fail
  refine (c1 _).mono ?_
  rintro e v0 ⟨rfl, hb⟩
  have B0 := Lib.hid hb
  clear hb
  go_wp2_with fail
  refine (c2 _).mono ?_
  rintro e v1 ⟨rfl, hb⟩
  have B1 := Lib.hid (bn B0.out hb)
  clear hb B0
  go_wp2_with fail
  refine (c3 _).mono ?_
  rintro e v2 ⟨rfl, hb⟩
  have B2 := Lib.hid (bn B1.out hb)
  clear hb B1
  go_wp2_with fail
  refine (c4 _).mono ?_
  rintro e v3 ⟨rfl, hb⟩
  have B3 := Lib.hid (bn B2.out hb)
  clear hb B2
  go_wp2_with fail
  refine (c5 _).mono ?_
  rintro e v4 ⟨rfl, hb⟩
  have B4 := Lib.hid (bn B3.out hb)
  clear hb B3
  go_wp2_with fail
  refine (c6 _).mono ?_
  rintro e v5 ⟨rfl, hb⟩
  have B5 := Lib.hid (bn B4.out hb)
  clear hb B4
  go_wp2_with fail
  refine (k9 _).mono ?_
  rintro e v6 ⟨rfl, hb⟩
  have B6 := Lib.hid (bn B5.out hb)
  clear hb B5
  go_wp2_with fail
  go_ret
  exact ⟨rfl, B6.out⟩
set_option maxRecDepth 100000 in
set_option maxHeartbeats 4000000 in
theorem wider_w6_in {w : World} (T : ByteArray) (z : Nat) (hz : T.size = z) (h300 : ¬ (300 : Int) < (z : Int)) (a : Int)  (sec : Int)
    (c1 : (∀ w, Calls Tryz.prog 17 #[.string T] w fun e w' => e = .returned (.tuple #[(.int .i64 a), .bool false]) ∧ Below w.heap.size w w')) (c2 : (∀ w, Calls Tryz.prog 6 #[.string T] w fun e w' => e = .returned (.tuple #[(.int .i64 0), .bool false]) ∧ Below w.heap.size w w')) (c3 : (∀ w, Calls Tryz.prog 18 #[.string T] w fun e w' => e = .returned (.tuple #[(.int .i64 0), (.int .i64 70)]) ∧ Below w.heap.size w w')) (c4 : (∀ w, Calls Tryz.prog 8 #[.string T] w fun e w' => e = .returned (.tuple #[(.int .i64 0), .bool false]) ∧ Below w.heap.size w w'))
    (k9 : ∀ w, Calls Tryz.prog 5 #[] w fun e w' => e = .returned (.bool true) ∧ Below w.heap.size w w')
    (t u : ByteArray) (c5 : (∀ w, Calls Tryz.prog 19 #[.int .i64 sec] w fun e w' => e = .returned (.tuple #[.string t, .bool true]) ∧ Below w.heap.size w w')) (c6 : (∀ w, Calls Tryz.prog 20 #[.int .i64 sec] w fun e w' => e = .returned (.tuple #[.string u, .int .i64 0]) ∧ Below w.heap.size w w')) (c7 : (∀ w, Calls Tryz.prog 6 #[.string t] w fun e w' => e = .returned (.tuple #[.int .i64 sec, .bool true]) ∧ Below w.heap.size w w')) (c8 : (∀ w, Calls Tryz.prog 6 #[.string u] w fun e w' => e = .returned (.tuple #[.int .i64 sec, .bool true]) ∧ Below w.heap.size w w')) :
    Calls Tryz.prog 4 #[.string T, .int .i64 sec] w (fun e w' => e = .returned (.bool true) ∧ Below w.heap.size w w') := by
  go_enter Tryz.func4, Tryz.ntmps4
  go_wp2_with fail
  refine (c1 _).mono ?_
  rintro e v0 ⟨rfl, hb⟩
  have B0 := Lib.hid hb
  clear hb
  go_wp2_with fail
  refine (c2 _).mono ?_
  rintro e v1 ⟨rfl, hb⟩
  have B1 := Lib.hid (bn B0.out hb)
  clear hb B0
  go_wp2_with fail
  refine (c3 _).mono ?_
  rintro e v2 ⟨rfl, hb⟩
  have B2 := Lib.hid (bn B1.out hb)
  clear hb B1
  go_wp2_with fail
  refine (c4 _).mono ?_
  rintro e v3 ⟨rfl, hb⟩
  have B3 := Lib.hid (bn B2.out hb)
  clear hb B2
  go_wp2_with fail
  refine (c5 _).mono ?_
  rintro e v4 ⟨rfl, hb⟩
  have B4 := Lib.hid (bn B3.out hb)
  clear hb B3
  go_wp2_with fail
  refine (c6 _).mono ?_
  rintro e v5 ⟨rfl, hb⟩
  have B5 := Lib.hid (bn B4.out hb)
  clear hb B4
  go_wp2_with fail
  refine (c7 _).mono ?_
  rintro e v6 ⟨rfl, hb⟩
  have B6 := Lib.hid (bn B5.out hb)
  clear hb B5
  go_wp2_with fail
  refine (c8 _).mono ?_
  rintro e v7 ⟨rfl, hb⟩
  have B7 := Lib.hid (bn B6.out hb)
  clear hb B6
  go_wp2_with fail
  refine (k9 _).mono ?_
  rintro e v8 ⟨rfl, hb⟩
  have B8 := Lib.hid (bn B7.out hb)
  clear hb B7
  go_wp2_with fail
  go_ret
  exact ⟨rfl, B8.out⟩
set_option maxRecDepth 100000 in
set_option maxHeartbeats 4000000 in
theorem wider_w6_out {w : World} (T : ByteArray) (z : Nat) (hz : T.size = z) (h300 : ¬ (300 : Int) < (z : Int)) (a : Int)  (sec : Int)
    (c1 : (∀ w, Calls Tryz.prog 17 #[.string T] w fun e w' => e = .returned (.tuple #[(.int .i64 a), .bool false]) ∧ Below w.heap.size w w')) (c2 : (∀ w, Calls Tryz.prog 6 #[.string T] w fun e w' => e = .returned (.tuple #[(.int .i64 0), .bool false]) ∧ Below w.heap.size w w')) (c3 : (∀ w, Calls Tryz.prog 18 #[.string T] w fun e w' => e = .returned (.tuple #[(.int .i64 0), (.int .i64 70)]) ∧ Below w.heap.size w w')) (c4 : (∀ w, Calls Tryz.prog 8 #[.string T] w fun e w' => e = .returned (.tuple #[(.int .i64 0), .bool false]) ∧ Below w.heap.size w w'))
    (k9 : ∀ w, Calls Tryz.prog 5 #[] w fun e w' => e = .returned (.bool true) ∧ Below w.heap.size w w')
    (c5 : (∀ w, Calls Tryz.prog 19 #[.int .i64 sec] w fun e w' => e = .returned (.tuple #[.string ⟨#[]⟩, .bool false]) ∧ Below w.heap.size w w')) (c6 : (∀ w, Calls Tryz.prog 20 #[.int .i64 sec] w fun e w' => e = .returned (.tuple #[.string ⟨#[]⟩, .int .i64 2]) ∧ Below w.heap.size w w')) :
    Calls Tryz.prog 4 #[.string T, .int .i64 sec] w (fun e w' => e = .returned (.bool true) ∧ Below w.heap.size w w') := by
  go_enter Tryz.func4, Tryz.ntmps4
  go_wp2_with fail
  refine (c1 _).mono ?_
  rintro e v0 ⟨rfl, hb⟩
  have B0 := Lib.hid hb
  clear hb
  go_wp2_with fail
  refine (c2 _).mono ?_
  rintro e v1 ⟨rfl, hb⟩
  have B1 := Lib.hid (bn B0.out hb)
  clear hb B0
  go_wp2_with fail
  refine (c3 _).mono ?_
  rintro e v2 ⟨rfl, hb⟩
  have B2 := Lib.hid (bn B1.out hb)
  clear hb B1
  go_wp2_with fail
  refine (c4 _).mono ?_
  rintro e v3 ⟨rfl, hb⟩
  have B3 := Lib.hid (bn B2.out hb)
  clear hb B2
  go_wp2_with fail
  refine (c5 _).mono ?_
  rintro e v4 ⟨rfl, hb⟩
  have B4 := Lib.hid (bn B3.out hb)
  clear hb B3
  go_wp2_with fail
  refine (c6 _).mono ?_
  rintro e v5 ⟨rfl, hb⟩
  have B5 := Lib.hid (bn B4.out hb)
  clear hb B4
  go_wp2_with fail
  refine (k9 _).mono ?_
  rintro e v6 ⟨rfl, hb⟩
  have B6 := Lib.hid (bn B5.out hb)
  clear hb B5
  go_wp2_with fail
  go_ret
  exact ⟨rfl, B6.out⟩
set_option maxHeartbeats 4000000 in
theorem liberalWider_walk {w : World} (s : ByteArray) (_ : s.size ≤ Go.maxLen) (sec : Int) (_ : Is64 sec) : Calls Tryz.prog 4 #[.string s, .int .i64 sec] w (LawTrue w) := by
  have k9 := lwakes_any
  unfold LawTrue at k9 ⊢
  obtain ⟨l, rfl⟩ : ∃ l, s = Ml.mk l := ⟨s.data.toList, (Ml.mk_list s).symm⟩
  have z1 : (Ml.mk l).size = l.length := rfl
  by_cases h1 : (300 : Int) < (l.length : Int)
  · generalize Ml.mk l = T at *
    go_enter Tryz.func4, Tryz.ntmps4
    go_wp2_with fail
    refine (k9 _).mono ?_
    rintro e w1 ⟨rfl, hb⟩
    go_wp2_with fail
    go_ret
    exact ⟨rfl, hb⟩
  have c1 := rstamp_any (Ml.mk l) (by show l.length ≤ 1000; omega)
  have c2 := lparse_any l (by omega)
  have c3 := rparse_any (Ml.mk l) (by show l.length ≤ 100000; omega)
  have c4 := pany_any l (by omega)
  unfold ZonPost at c1
  unfold ParPost at c2
  unfold ErrPost at c3
  unfold AnyPost at c4
  have hst := fun v => Lb.stamp_parse (l := l) (v := v) (by omega)
  have hml := fun v => Lb.mail_parse (l := l) (v := v)
  have hwd := Lb.any_wide (l := l)
  have has := fun v => Lb.any_stamp (l := l) (v := v)
  have hin := fun v => Lb.any_in (l := l) (v := v)
  generalize Sm.fullF (Ml.mk l) 8 = f at c1 hst has
  generalize Ml.parseF (Ml.mk l) = o at c3 hml
  generalize Lb.parse l = p at c2 hst hml hwd
  generalize Lb.anyF l = r at c4 has hin hwd
  generalize Ml.mk l = T at *
  generalize l.length = z at *
  obtain ⟨a, ok⟩ := f
  simp only at c1
  by_cases hr : sec < -62135596800 ∨ 253402300799 < sec
  · have c5 := fun w => T19.rtext_any sec (⟨#[]⟩, false) (Or.inl ⟨hr, rfl⟩) w
    have c6 := fun w => T20.rtext_no sec hr w
    unfold T19.TexPost at c5
    unfold T20.TxtPost at c6
    cases ok with
    | true =>
      have e1 := hst a rfl
      have e2 := has a rfl
      subst e1 e2
      cases o with
      | none => exact wider_w1_out T z z1 h1 a (hin a rfl) sec c1 c2 c3 c4 k9 c5 c6
      | some c =>
        have e3 := hml c rfl
        obtain rfl : a = c := Option.some.inj e3
        exact wider_w2_out T z z1 h1 a (hin a rfl) sec c1 c2 c3 c4 k9 c5 c6
    | false =>
      cases o with
      | some c =>
        have e1 := hml c rfl
        subst e1
        cases r with
        | none => exact absurd (hwd rfl) (by decide)
        | some d => exact wider_w3_out T z z1 h1 a c d (hin d rfl) sec c1 c2 c3 c4 k9 c5 c6
      | none =>
        cases p with
        | some c =>
          cases r with
          | none => exact absurd (hwd rfl) (by decide)
          | some d => exact wider_w4_out T z z1 h1 a c d (hin d rfl) sec c1 c2 c3 c4 k9 c5 c6
        | none =>
          cases r with
          | some d => exact wider_w5_out T z z1 h1 a d (hin d rfl) sec c1 c2 c3 c4 k9 c5 c6
          | none => exact wider_w6_out T z z1 h1 a sec c1 c2 c3 c4 k9 c5 c6
  · obtain ⟨y, m, d0, _, _, hm, hsec⟩ := Cv.sec_split sec (by omega) (by omega)
    have c5 := fun w => T19.rtext_any sec _ (Or.inr ⟨y, m, d0, _, _, _, hm, hsec, rfl⟩) w
    have c6 := fun w => T20.rtext_yes y m d0 _ _ _ hm w
    obtain ⟨lt, e5, z5, p5⟩ := Lb.parse_text hm
    obtain ⟨lu, e6, z6, p6⟩ := Lb.parse_mail hm
    have c7 := lparse_any lt (by omega)
    have c8 := lparse_any lu (by omega)
    unfold ParPost at c7 c8
    rw [p5, ← e5, hsec] at c7
    rw [p6, ← e6, hsec] at c8
    unfold T19.TexPost at c5
    unfold T20.TxtPost at c6
    rw [hsec] at c6
    cases ok with
    | true =>
      have e1 := hst a rfl
      have e2 := has a rfl
      subst e1 e2
      cases o with
      | none => exact wider_w1_in T z z1 h1 a (hin a rfl) sec c1 c2 c3 c4 k9 _ _ c5 c6 c7 c8
      | some c =>
        have e3 := hml c rfl
        obtain rfl : a = c := Option.some.inj e3
        exact wider_w2_in T z z1 h1 a (hin a rfl) sec c1 c2 c3 c4 k9 _ _ c5 c6 c7 c8
    | false =>
      cases o with
      | some c =>
        have e1 := hml c rfl
        subst e1
        cases r with
        | none => exact absurd (hwd rfl) (by decide)
        | some d => exact wider_w3_in T z z1 h1 a c d (hin d rfl) sec c1 c2 c3 c4 k9 _ _ c5 c6 c7 c8
      | none =>
        cases p with
        | some c =>
          cases r with
          | none => exact absurd (hwd rfl) (by decide)
          | some d => exact wider_w4_in T z z1 h1 a c d (hin d rfl) sec c1 c2 c3 c4 k9 _ _ c5 c6 c7 c8
        | none =>
          cases r with
          | some d => exact wider_w5_in T z z1 h1 a d (hin d rfl) sec c1 c2 c3 c4 k9 _ _ c5 c6 c7 c8
          | none => exact wider_w6_in T z z1 h1 a sec c1 c2 c3 c4 k9 _ _ c5 c6 c7 c8
end Go.Proofs.YtbhafhbaldddiaaGreatDoor
