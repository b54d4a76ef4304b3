/- The walks of the tables' statements without the document's answer: back, and the end. -/
import Derived.Test.YtgodpjopcengmaaTbI
namespace Go.Proofs.Ytgodpjopcengmaa
open Go.RowKit
open Go
set_option linter.unusedVariables false
theorem prs_small : (Tb.prs.all fun p => decide (0 ≤ p.1 ∧ p.1 ≤ 100000 ∧ 0 ≤ p.2.1 ∧ p.2.1 ≤ 100000 ∧ 0 ≤ p.2.2 ∧ p.2.2 ≤ 100000)) = true := by kernel_rfl
theorem made_small {r a b : Int} (h : Tb.madeF r = some (a, b)) : 0 ≤ a ∧ a ≤ 100000 ∧ 0 ≤ b ∧ b ≤ 100000 := by
  unfold Tb.madeF at h
  split at h
  · rename_i hh
    have h1 := (Tb.hang_iff r).1 hh
    split at h
    all_goals
      simp only [Option.some.injEq, Prod.mk.injEq] at h
      omega
  · have := of_decide_eq_true (List.all_eq_true.1 prs_small _ (Tb.look_mem h))
    simp only at this
    omega
theorem whole_small {a b w : Int} (h : Tb.wholeF a b = some w) : 0 ≤ w ∧ w ≤ 100000 := by
  unfold Tb.wholeF at h
  split at h
  · simp only [Option.some.injEq] at h
    omega
  · split at h
    · rename_i h2
      have h3 := (Tb.hang_iff a).1 h2.1
      simp only [Option.some.injEq] at h
      omega
    · have := of_decide_eq_true (List.all_eq_true.1 prs_small _ (Tb.lookP_mem h).1)
      simp only at this
      omega
theorem made_at {r : Int} (hr : Is64 r) {o : Option (Int × Int)} (h : Tb.madeF r = o) (w : World) : Calls Try.prog 7 #[.int .i64 r] w fun e w' => e = .returned (madeV o) ∧ Below w.heap.size w w' := by
  rw [← h]
  exact made_any r hr w
theorem whole_at {a b : Int} (ha : Is64 a) (hb : Is64 b) {o : Option Int} (h : Tb.wholeF a b = o) (w : World) : Calls Try.prog 11 #[.int .i64 a, .int .i64 b] w fun e w' => e = .returned (wholeV o) ∧ Below w.heap.size w w' := by
  rw [← h]
  exact whole_any a b ha hb w
set_option maxRecDepth 100000 in
set_option maxHeartbeats 2000000 in
theorem tablesBack_walk {w : World} (r : Int) (hr : Is64 r) (a : Int) (ha : Is64 a) (b : Int) (hb : Is64 b) : Calls Try.prog 4 #[.int .i64 r, .int .i64 a, .int .i64 b] w (LawTrue w) := by
  have c1 := fun (o : Option (Int × Int)) (h : Tb.madeF r = o) w => made_at hr h w
  have c2 := fun (o : Option Int) (h : Tb.wholeF a b = o) w => whole_at ha hb h w
  cases h1 : Tb.madeF r with
  | none =>
    replace c1 := c1 _ h1
    cases h2 : Tb.wholeF a b with
    | none =>
      replace c2 := c2 _ h2
      clear h1 h2
      simp only [madeV, wholeV, Option.getD_none, Option.isSome_none] at c1 c2
      go_enter Try.func4, Try.ntmps4
      go_wp2_with fail
      refine (c1 _).mono ?_
      rintro e w1 ⟨rfl, hb1⟩
      go_wp2_with fail
      refine (c2 _).mono ?_
      rintro e w2 ⟨rfl, hb2⟩
      go_wp2_with fail
      refine (wakes_any _).mono ?_
      rintro e w3 ⟨rfl, hb3⟩
      go_wp2_with fail
      go_ret
      exact ⟨rfl, bn (bn hb1 hb2) hb3⟩
    | some x =>
      replace c2 := c2 _ h2
      obtain ⟨h3, h4⟩ := Tb.back2 h2
      have h5 := whole_small h2
      have c3 := fun w => made_at (small64 (by omega) (by omega)) h3 w
      have e1 : (b == 0) = false := by simpa using h4
      clear h1 h2 h3 h4
      simp only [madeV, wholeV, Option.getD_none, Option.isSome_none, Option.getD_some, Option.isSome_some] at c1 c2 c3
      go_enter Try.func4, Try.ntmps4
      go_wp2_with fail
      refine (c1 _).mono ?_
      rintro e w1 ⟨rfl, hb1⟩
      go_wp2_with fail
      refine (c2 _).mono ?_
      rintro e w2 ⟨rfl, hb2⟩
      go_wp2_with fail
      refine (c3 _).mono ?_
      rintro e w3 ⟨rfl, hb3⟩
      go_wp2_with fail
      refine (wakes_any _).mono ?_
      rintro e w4 ⟨rfl, hb4⟩
      go_wp2_with fail
      go_ret
      exact ⟨rfl, bn (bn (bn hb1 hb2) hb3) hb4⟩
  | some y =>
    obtain ⟨p, q⟩ := y
    replace c1 := c1 _ h1
    have hne := Tb.back3 h1
    have hs := made_small h1
    have e0 : (p == r) = false := by simpa using hne
    by_cases hq : q = 0
    · have e2 : (q != 0) = false := by simp [hq]
      have e3 : (q == 0) = true := by simp [hq]
      clear hq hne
      cases h2 : Tb.wholeF a b with
      | none =>
        replace c2 := c2 _ h2
        clear h1 h2
        simp only [madeV, wholeV, Option.getD_none, Option.isSome_none, Option.getD_some, Option.isSome_some] at c1 c2
        go_enter Try.func4, Try.ntmps4
        go_wp2_with fail
        refine (c1 _).mono ?_
        rintro e w1 ⟨rfl, hb1⟩
        go_wp2_with fail
        refine (c2 _).mono ?_
        rintro e w2 ⟨rfl, hb2⟩
        go_wp2_with fail
        refine (wakes_any _).mono ?_
        rintro e w3 ⟨rfl, hb3⟩
        go_wp2_with fail
        go_ret
        exact ⟨rfl, bn (bn hb1 hb2) hb3⟩
      | some x =>
        replace c2 := c2 _ h2
        obtain ⟨h3, h4⟩ := Tb.back2 h2
        have h5 := whole_small h2
        have c3 := fun w => made_at (small64 (by omega) (by omega)) h3 w
        have e1 : (b == 0) = false := by simpa using h4
        clear h1 h2 h3 h4
        simp only [madeV, wholeV, Option.getD_some, Option.isSome_some] at c1 c2 c3
        go_enter Try.func4, Try.ntmps4
        go_wp2_with fail
        refine (c1 _).mono ?_
        rintro e w1 ⟨rfl, hb1⟩
        go_wp2_with fail
        refine (c2 _).mono ?_
        rintro e w2 ⟨rfl, hb2⟩
        go_wp2_with fail
        refine (c3 _).mono ?_
        rintro e w3 ⟨rfl, hb3⟩
        go_wp2_with fail
        refine (wakes_any _).mono ?_
        rintro e w4 ⟨rfl, hb4⟩
        go_wp2_with fail
        go_ret
        exact ⟨rfl, bn (bn (bn hb1 hb2) hb3) hb4⟩
    · have e2 : (q != 0) = true := by simp [hq]
      have e3 : (q == 0) = false := by simp [hq]
      have h6 := Tb.back1 h1 hq
      have c4 := fun w => whole_at (small64 (by omega) (by omega)) (small64 (by omega) (by omega)) h6 w
      clear hq hne h6
      cases h2 : Tb.wholeF a b with
      | none =>
        replace c2 := c2 _ h2
        clear h1 h2
        simp only [madeV, wholeV, Option.getD_none, Option.isSome_none, Option.getD_some, Option.isSome_some] at c1 c2 c4
        go_enter Try.func4, Try.ntmps4
        go_wp2_with fail
        refine (c1 _).mono ?_
        rintro e w1 ⟨rfl, hb1⟩
        go_wp2_with fail
        refine (c4 _).mono ?_
        rintro e w0 ⟨rfl, hb0⟩
        go_wp2_with fail
        refine (c2 _).mono ?_
        rintro e w2 ⟨rfl, hb2⟩
        go_wp2_with fail
        refine (wakes_any _).mono ?_
        rintro e w3 ⟨rfl, hb3⟩
        go_wp2_with fail
        go_ret
        exact ⟨rfl, bn (bn (bn hb1 hb0) hb2) hb3⟩
      | some x =>
        replace c2 := c2 _ h2
        obtain ⟨h3, h4⟩ := Tb.back2 h2
        have h5 := whole_small h2
        have c3 := fun w => made_at (small64 (by omega) (by omega)) h3 w
        have e1 : (b == 0) = false := by simpa using h4
        clear h1 h2 h3 h4
        simp only [madeV, wholeV, Option.getD_some, Option.isSome_some] at c1 c2 c3 c4
        go_enter Try.func4, Try.ntmps4
        go_wp2_with fail
        refine (c1 _).mono ?_
        rintro e w1 ⟨rfl, hb1⟩
        go_wp2_with fail
        refine (c4 _).mono ?_
        rintro e w0 ⟨rfl, hb0⟩
        go_wp2_with fail
        refine (c2 _).mono ?_
        rintro e w2 ⟨rfl, hb2⟩
        go_wp2_with fail
        refine (c3 _).mono ?_
        rintro e w3 ⟨rfl, hb3⟩
        go_wp2_with fail
        refine (wakes_any _).mono ?_
        rintro e w4 ⟨rfl, hb4⟩
        go_wp2_with fail
        go_ret
        exact ⟨rfl, bn (bn (bn (bn hb1 hb0) hb2) hb3) hb4⟩
set_option maxRecDepth 100000 in
set_option maxHeartbeats 2000000 in
theorem tablesEnd_walk {w : World} (r : Int) (hr : Is64 r) : Calls Try.prog 3 #[.int .i64 r] w (LawTrue w) := by
  have h5 := Lib.hid (Tb.ch5 r)
  go_enter Try.func3, Try.ntmps3
  go_wp2_with fail
  go_loopw [0, 3] (fun x k wr => ∃ (n : Nat) (y : Int), n ≤ 5 ∧ k = .int .i64 n ∧ x = .int .i64 y ∧ Is64 y ∧ Hid (Tb.chB (5 - n) y = true) ∧ Below w.heap.size w wr) (fun _ k _ => 5 - (intOf k).toNat)
  case atStart => exact ⟨0, r, by omega, rfl, rfl, hr, h5, Below.refl _ _⟩
  case round =>
    obtain ⟨n, y, hn, rfl, rfl, hy, hc, hB⟩ := hrel
    clear h5 hr
    by_cases hlt : n < 5
    · have hc2 := hc.out
      obtain ⟨k, hk⟩ : ∃ k, 5 - n = k + 1 := ⟨4 - n, by omega⟩
      have hk2 : 5 - (n + 1) = k := by omega
      rw [hk] at hc2
      unfold Tb.chB at hc2
      clear hc hk
      have hln : (n : Int) < 5 := by omega
      cases h1 : Tb.madeF y with
      | none =>
        have c1 := fun w => made_at hy h1 w
        clear h1 hc2 hk2
        simp only [madeV, Option.getD_none, Option.isSome_none] at c1
        go_wp2_with fail
        refine (c1 _).mono ?_
        rintro e w1 ⟨rfl, hb1⟩
        go_wp2_with fail
        refine (wakes_any _).mono ?_
        rintro e w3 ⟨rfl, hb3⟩
        go_wp2_with fail
        go_ret
        exact ⟨rfl, bn (bn hB hb1) hb3⟩
      | some x =>
        obtain ⟨p, q⟩ := x
        have c1 := fun w => made_at hy h1 w
        have hs := made_small h1
        rw [h1] at hc2
        simp only [Bool.and_eq_true] at hc2
        obtain ⟨hcd, hch⟩ := hc2
        have HCH : Hid (Tb.chB (5 - (n + 1)) p = true) := Lib.hid (by rw [hk2]; exact hch)
        clear h1 hch hk2
        simp only [madeV, Option.getD_some, Option.isSome_some] at c1
        have c2 := fun w => hang_any y w
        have c3 := fun w => mark_any q w
        have c4 := fun w => mark_any p w
        unfold Tb.condB at hcd
        simp only [Bool.not_eq_true', Bool.or_eq_false_iff, decide_eq_false_iff_not] at hcd
        obtain ⟨⟨⟨d1, d2⟩, d3⟩, d4⟩ := hcd
        have hp64 : Is64 p := small64 (by omega) (by omega)
        generalize Tb.hangB y = hh at *
        generalize Tb.markB q = mq at *
        generalize Tb.markB p = mp at *
        cases e2 : (q != 0) with
        | false =>
          have e3 : (q == 0) = true := by simpa using e2
          clear d3 d4
          go_wp2_with fail
          refine (c1 _).mono ?_
          rintro e w1 ⟨rfl, hb1⟩
          go_wp2_with (go_at_call 9; refine (c2 _).mono ?_; rintro e w2 ⟨rfl, rfl⟩)
          all_goals exact ⟨⟨n + 1, p, by omega, by go_num, rfl, hp64, HCH, bn hB hb1⟩, by simp [intOf]; omega⟩
        | true =>
          have e3 : (q == 0) = false := by simpa using e2
          rw [e2] at d3 d4
          have d5 : ¬ q < 768 := by simpa using d3
          cases hh with
          | true =>
            clear d3 d4
            go_wp2_with fail
            refine (c1 _).mono ?_
            rintro e w1 ⟨rfl, hb1⟩
            go_wp2_with (go_at_call 9; refine (c2 _).mono ?_; rintro e w2 ⟨rfl, rfl⟩)
            all_goals exact ⟨⟨n + 1, p, by omega, by go_num, rfl, hp64, HCH, bn hB hb1⟩, by simp [intOf]; omega⟩
          | false =>
            have d6 : mq = true ∧ mp = false := by
              cases mq <;> cases mp <;> simp at d4 ⊢
            obtain ⟨rfl, rfl⟩ := d6
            clear d3 d4
            go_wp2_with fail
            refine (c1 _).mono ?_
            rintro e w1 ⟨rfl, hb1⟩
            go_wp2_with fail
            refine (c2 _).mono ?_
            rintro e w2 ⟨rfl, rfl⟩
            go_wp2_with fail
            refine (c3 _).mono ?_
            rintro e w2 ⟨rfl, rfl⟩
            go_wp2_with fail
            refine (c4 _).mono ?_
            rintro e w2 ⟨rfl, rfl⟩
            go_wp2_with fail
            all_goals exact ⟨⟨n + 1, p, by omega, by go_num, rfl, hp64, HCH, bn hB hb1⟩, by simp [intOf]; omega⟩
    · obtain rfl : n = 5 := by omega
      have := hc.out
      exact absurd this (by unfold Tb.chB; simp)
end Go.Proofs.Ytgodpjopcengmaa
