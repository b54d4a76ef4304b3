/- The walk of the document's full, Stamp and W3c. The walk of the document's W3c. -/
import Derived.Test.YtbhafhbaldddiaaGreatDoorZSc
import Derived.Test.YtbhafhbaldddiaaGreatDoorZSb
namespace Go.Proofs.YtbhafhbaldddiaaGreatDoor
open Go.RowKit
open Go
set_option linter.unusedVariables false
theorem rsecR_call (y m d h mi x east : Int) : ∃ k ok, (k == 0) = ok ∧ ((Sm.secR y m d h mi x east).2 = ok) ∧
    ∀ w, Calls Tryz.prog 50 #[.agg #[.int .i64 y, .int .i64 m, .int .i64 d, .int .i64 h, .int .i64 mi, .int .i64 x], .int .i64 east] w fun e w' => e = .returned (.tuple #[.int .i64 (Sm.secR y m d h mi x east).1, .int .i64 k]) ∧ Below w.heap.size w w' := by
  unfold Sm.secR
  cases hk : Cv.secOk y m d h mi x east
  · exact ⟨2, false, rfl, rfl, fun w => rsec_no y m d h mi x east w hk⟩
  · exact ⟨0, true, rfl, rfl, fun w => rsec_yes y m d h mi x east w hk⟩
set_option maxHeartbeats 1000000 in
theorem rfull_core (s : ByteArray) (sb : Bool) (w : World) (yv mv dv : Int) (a b d i4 i7 i10 : Bool)
    (D0 : ∀ w, Calls Tryz.prog 88 #[.string s, .int .i64 0, .int .i64 4] w (fun e w' => e = .returned (.tuple #[.int .i64 (bif a then yv else 0), .bool a]) ∧ w = w'))
    (D5 : ∀ w, Calls Tryz.prog 88 #[.string s, .int .i64 5, .int .i64 2] w (fun e w' => e = .returned (.tuple #[.int .i64 (bif b then mv else 0), .bool b]) ∧ w = w'))
    (D8 : ∀ w, Calls Tryz.prog 88 #[.string s, .int .i64 8, .int .i64 2] w (fun e w' => e = .returned (.tuple #[.int .i64 (bif d then dv else 0), .bool d]) ∧ w = w'))
    (I4 : ∀ w, Calls Tryz.prog 92 #[.string s, .int .i64 4, .int .u8 45] w (fun e w' => e = .returned (.bool i4) ∧ w = w'))
    (I7 : ∀ w, Calls Tryz.prog 92 #[.string s, .int .i64 7, .int .u8 45] w (fun e w' => e = .returned (.bool i7) ∧ w = w'))
    (I10 : ∀ w, Calls Tryz.prog 92 #[.string s, .int .i64 10, .int .u8 84] w (fun e w' => e = .returned (.bool i10) ∧ w = w'))
    (h11 : i10 = true → 11 ≤ s.size) (hs : s.size ≤ 1000)
    (hh mi x : Int) (n : Nat) (ok : Bool) (hn : 11 ≤ s.size → 11 + n ≤ s.size) (K : ∀ w, Calls Tryz.prog 93 #[.string (s.extract 11 s.size)] w (fun e w' => e = .returned (.tuple #[.agg #[.int .i64 0, .int .i64 0, .int .i64 0, .int .i64 hh, .int .i64 mi, .int .i64 x], .int .i64 n, .bool ok]) ∧ Below w.heap.size w w'))
    (east : Int) (zok : Bool) (Z : ∀ w, Calls Tryz.prog 94 #[.string (s.extract (11 + n) s.size)] w (ZonPost (east, zok) w))
    (v k : Int) (vok : Bool) (hk : (k == 0) = vok) (S : ∀ w, Calls Tryz.prog 50 #[.agg #[.int .i64 yv, .int .i64 mv, .int .i64 dv, .int .i64 hh, .int .i64 mi, .int .i64 x], .int .i64 east] w fun e w' => e = .returned (.tuple #[.int .i64 v, .int .i64 k]) ∧ Below w.heap.size w w') :
    Calls Tryz.prog 42 #[.string s, .bool sb] w (ZonPost (if (a && b && d && i4 && i7 && i10) = true then (if ok = true ∧ (sb = true → 8 ≤ n) then (if zok = true then (v, vok) else (0, false)) else (0, false)) else (0, false)) w) := by
  generalize hF : (if (a && b && d && i4 && i7 && i10) = true then (if ok = true ∧ (sb = true → 8 ≤ n) then (if zok = true then (v, vok) else (0, false)) else (0, false)) else (0, false)) = res
  have HF := Lib.hid hF
  have H11 := Lib.hid h11
  have HN := Lib.hid hn
  clear hF h11 hn
  go_enter Tryz.func42, Tryz.ntmps42
  go_wp2_with fail
  refine (D0 _).mono ?_
  rintro e w1 ⟨rfl, rfl⟩
  clear D0
  go_wp2_with fail
  refine (D5 _).mono ?_
  rintro e w1 ⟨rfl, rfl⟩
  clear D5
  go_wp2_with fail
  refine (D8 _).mono ?_
  rintro e w1 ⟨rfl, rfl⟩
  clear D8
  cases a
  · go_wp2_with fail
    go_ret2
    rw [show res = (0, false) by rw [← HF.out]; simp]
    exact ⟨rfl, Below.refl _ _⟩
  cases b
  · go_wp2_with fail
    go_ret2
    rw [show res = (0, false) by rw [← HF.out]; simp]
    exact ⟨rfl, Below.refl _ _⟩
  cases d
  · go_wp2_with fail
    go_ret2
    rw [show res = (0, false) by rw [← HF.out]; simp]
    exact ⟨rfl, Below.refl _ _⟩
  go_wp2_with fail
  refine (I4 _).mono ?_
  rintro e w1 ⟨rfl, rfl⟩
  cases i4
  · go_wp2_with fail
    go_ret2
    rw [show res = (0, false) by rw [← HF.out]; simp]
    exact ⟨rfl, Below.refl _ _⟩
  go_wp2_with fail
  refine (I7 _).mono ?_
  rintro e w1 ⟨rfl, rfl⟩
  cases i7
  · go_wp2_with fail
    go_ret2
    rw [show res = (0, false) by rw [← HF.out]; simp]
    exact ⟨rfl, Below.refl _ _⟩
  go_wp2_with fail
  refine (I10 _).mono ?_
  rintro e w1 ⟨rfl, rfl⟩
  cases i10
  · go_wp2_with fail
    go_ret2
    rw [show res = (0, false) by rw [← HF.out]; simp]
    exact ⟨rfl, Below.refl _ _⟩
  clear I4 I7 I10
  have hs11 := H11.out rfl
  have hs11' : (11 : Int) ≤ s.size := by omega
  have hsn := HN.out hs11
  have hsn' : (11 : Int) + n ≤ s.size := by omega
  have hsn0 : (0 : Int) ≤ 11 + n := by omega
  have HF := Lib.hid (show (if ok = true ∧ (sb = true → 8 ≤ n) then (if zok = true then (v, vok) else (0, false)) else (0, false)) = res from by rw [← HF.out]; rfl)
  go_wp2_with fail
  refine (K _).mono ?_
  rintro e w3 ⟨rfl, hb3⟩
  clear K
  cases ok
  · go_wp2_with fail
    go_ret2
    rw [show res = (0, false) by rw [← HF.out]; simp]
    exact ⟨rfl, bbox hb3 _⟩
  by_cases h8 : sb = true ∧ (n : Int) < 8
  · obtain ⟨rfl, h8⟩ := h8
    go_wp2_with fail
    go_ret2
    rw [show res = (0, false) by rw [← HF.out, if_neg (by simp; omega)]]
    exact ⟨rfl, bbox hb3 _⟩
  have hq : true = true ∧ (sb = true → 8 ≤ n) := ⟨rfl, fun k => by have : ¬ ((n : Int) < 8) := fun q => h8 ⟨k, q⟩; omega⟩
  have hF2 := HF.out
  rw [if_pos hq] at hF2
  clear hq HF
  have HG := Lib.hid hF2
  clear hF2
  have go8 : sb = false ∨ (sb = true ∧ ¬ ((n : Int) < 8)) := by
    cases sb
    · exact Or.inl rfl
    · exact Or.inr ⟨rfl, fun q => h8 ⟨rfl, q⟩⟩
  clear h8
  rcases go8 with rfl | ⟨rfl, h8⟩
  all_goals
    go_wp2_with fail
    refine (Z _).mono ?_
    rintro e w4 ⟨rfl, hb4⟩
    have hc := (BX.first w3 _ _ _ _ _ _ _).step hb4
    clear hb4 Z
    obtain ⟨⟨q0, q1, q2, q3, q4, q5⟩, hf, hz, hB⟩ := id hc
    cases zok
    · go_wp2_with fail
      go_ret2
      rw [show res = (0, false) by rw [← HG.out]; simp]
      exact ⟨rfl, bn hb3 hB⟩
    go_wp2_with fail
    refine (S _).mono ?_
    rintro e w5 ⟨rfl, hb5⟩
    have hc2 := (((hc.s0 (.int .i64 yv)).s1 (.int .i64 mv)).s2 (.int .i64 dv)).step hb5
    go_wp2_with fail
    go_ret2
    rw [show res = (v, vok) by rw [← HG.out]; simp]
    exact ⟨rfl, bn hb3 hc2.2.2.2⟩
set_option maxHeartbeats 1000000 in
theorem rfull_any (s : ByteArray) (hs : s.size ≤ 1000) (sb : Bool) (l : Nat) (hl : l = (bif sb then 8 else 5)) (w : World) : Calls Tryz.prog 42 #[.string s, .bool sb] w (ZonPost (Sm.fullF s l) w) := by
  obtain ⟨a, ha⟩ : ∃ a, Sm.d4 s 0 = a := ⟨_, rfl⟩
  obtain ⟨b, hb⟩ : ∃ a, Sm.d2 s 5 = a := ⟨_, rfl⟩
  obtain ⟨d, hd⟩ : ∃ a, Sm.d2 s 8 = a := ⟨_, rfl⟩
  obtain ⟨i4, h4⟩ : ∃ a, decide (Sm.B s 4 = 45) = a := ⟨_, rfl⟩
  obtain ⟨i7, h7⟩ : ∃ a, decide (Sm.B s 7 = 45) = a := ⟨_, rfl⟩
  obtain ⟨i10, h10⟩ : ∃ a, decide (Sm.B s 10 = 84) = a := ⟨_, rfl⟩
  have h11 : i10 = true → 11 ≤ s.size := fun k => by
    rw [k, decide_eq_true_iff] at h10
    exact Sm.B_in (by omega)
  have hrs : (s.extract 11 s.size).size ≤ 1000 := by simp; omega
  have hF : Sm.fullF s l = if (a && b && d && i4 && i7 && i10) = true then Sm.tailF s (s.extract 11 s.size) l else (0, false) := by
    unfold Sm.fullF
    have : (Sm.dayB s = true ∧ Sm.B s 10 = 84) ↔ (a && b && d && i4 && i7 && i10) = true := by
      unfold Sm.dayB
      rw [ha, hb, hd, h4, h7, ← h10]
      simp only [Bool.and_eq_true, decide_eq_true_iff]
      constructor
      · rintro ⟨⟨⟨⟨⟨k1, k2⟩, k3⟩, k4⟩, k5⟩, k6⟩; exact ⟨⟨⟨⟨⟨k1, k3⟩, k5⟩, k2⟩, k4⟩, k6⟩
      · rintro ⟨⟨⟨⟨⟨k1, k3⟩, k5⟩, k2⟩, k4⟩, k6⟩; exact ⟨⟨⟨⟨⟨k1, k2⟩, k3⟩, k4⟩, k5⟩, k6⟩
    by_cases q : (a && b && d && i4 && i7 && i10) = true
    · rw [if_pos q, if_pos (this.2 q)]
    · rw [if_neg q, if_neg (fun k => q (this.1 k))]
  rw [hF]
  have D0 := fun w => dg4 s 0 hs (by omega) a ha w
  have D5 := fun w => dg2 s 5 hs (by omega) b hb w
  have D8 := fun w => dg2 s 8 hs (by omega) d hd w
  have I4 := fun w => is_any s 4 45 hs (by omega) i4 h4 w
  have I7 := fun w => is_any s 7 45 hs (by omega) i7 h7 w
  have I10 := fun w => is_any s 10 84 hs (by omega) i10 h10 w
  have hle := Sm.clk_le (s.extract 11 s.size)
  have h5 := Sm.clk_5 (s.extract 11 s.size)
  have K := fun w => srclock_any (s.extract 11 s.size) hrs w
  unfold Sm.tailF
  rw [Sm.extract_extract]
  generalize Sm.clkF (s.extract 11 s.size) = ck at *
  obtain ⟨hh, mi, x, n, ok⟩ := ck
  simp only at hle h5 K ⊢
  have Z := fun w => srzone_any (s.extract (11 + n) s.size) w
  generalize Sm.zonF (s.extract (11 + n) s.size) = zk at *
  obtain ⟨east, zok⟩ := zk
  simp only at Z ⊢
  obtain ⟨kk, sok, g1, g2, g3⟩ := rsecR_call (Sm.n4 s 0) (Sm.n2 s 5) (Sm.n2 s 8) hh mi x east
  generalize Sm.secR (Sm.n4 s 0) (Sm.n2 s 5) (Sm.n2 s 8) hh mi x east = sr at *
  obtain ⟨v, vok⟩ := sr
  simp only at g2 g3 ⊢
  subst g2
  have := rfull_core s sb w (Sm.n4 s 0) (Sm.n2 s 5) (Sm.n2 s 8) a b d i4 i7 i10 D0 D5 D8 I4 I7 I10 h11 hs hh mi x n ok (fun k => by simp only [Sm.size_extract] at hle; omega) K east zok Z v kk vok g1 g3
  have e : (ok = true ∧ (sb = true → 8 ≤ n)) ↔ (ok = true ∧ l ≤ n) := by
    subst hl
    cases sb
    · simp only [cond_false]
      constructor
      · rintro ⟨k, _⟩; exact ⟨k, h5 k⟩
      · rintro ⟨k, _⟩; exact ⟨k, fun q => by cases q⟩
    · simp
  by_cases q : (a && b && d && i4 && i7 && i10) = true
  · rw [if_pos q] at this ⊢
    by_cases q2 : ok = true ∧ l ≤ n
    · rw [if_pos (e.2 q2)] at this; rw [if_pos q2]; exact this
    · rw [if_neg (fun k => q2 (e.1 k))] at this; rw [if_neg q2]; exact this
  · rw [if_neg q] at this ⊢; exact this
set_option maxHeartbeats 400000 in
theorem rstamp_any (s : ByteArray) (hs : s.size ≤ 1000) (w : World) : Calls Tryz.prog 17 #[.string s] w (ZonPost (Sm.fullF s 8) w) := by
  have C := fun w => rfull_any s hs true 8 rfl w
  go_enter Tryz.func17, Tryz.ntmps17
  go_wp2_with fail
  refine (C _).mono ?_
  rintro e w1 ⟨rfl, hb1⟩
  go_wp2_with fail
  go_ret2
  exact ⟨rfl, hb1⟩
end Go.Proofs.YtbhafhbaldddiaaGreatDoor
namespace Go.Proofs.YtbhafhbaldddiaaGreatDoor
open Go.RowKit
open Go
set_option linter.unusedVariables false
set_option maxHeartbeats 400000 in
theorem rw3c_long (s : ByteArray) (hs : s.size ≤ 1000) (h : 10 < s.size) (w : World) : Calls Tryz.prog 32 #[.string s] w (ZonPost (Sm.fullF s 5) w) := by
  have C := fun w => rfull_any s hs false 5 rfl w
  have h' : (10 : Int) < s.size := by omega
  go_enter Tryz.func32, Tryz.ntmps32
  go_wp2_with fail
  refine (C _).mono ?_
  rintro e w1 ⟨rfl, hb1⟩
  go_wp2_with fail
  go_ret2
  exact ⟨rfl, hb1⟩
set_option maxHeartbeats 2000000 in
theorem rw3c_core (s : ByteArray) (w : World) (h10 : s.size ≤ 10) (yv mv dv : Int) (a b d : Bool) (i4 i7 : Int)
    (H4 : ∀ h : 4 < s.size, ((s[4]'h).toNat : Int) = i4) (H7 : ∀ h : 7 < s.size, ((s[7]'h).toNat : Int) = i7)
    (D0 : ∀ w, Calls Tryz.prog 88 #[.string s, .int .i64 0, .int .i64 4] w (fun e w' => e = .returned (.tuple #[.int .i64 (bif a then yv else 0), .bool a]) ∧ w = w'))
    (D5 : ∀ w, Calls Tryz.prog 88 #[.string s, .int .i64 5, .int .i64 2] w (fun e w' => e = .returned (.tuple #[.int .i64 (bif b then mv else 0), .bool b]) ∧ w = w'))
    (D8 : ∀ w, Calls Tryz.prog 88 #[.string s, .int .i64 8, .int .i64 2] w (fun e w' => e = .returned (.tuple #[.int .i64 (bif d then dv else 0), .bool d]) ∧ w = w'))
    (r : Nat) (hr : (r = 1 ∧ s.size = 4 ∧ a = true) ∨ (r = 2 ∧ s.size = 7 ∧ a = true ∧ b = true ∧ i4 = 45) ∨ (r = 3 ∧ s.size = 10 ∧ a = true ∧ b = true ∧ d = true ∧ i4 = 45 ∧ i7 = 45) ∨
      (r = 0 ∧ (s.size = 4 → a = false) ∧ (s.size = 7 → a = false ∨ b = false ∨ i4 ≠ 45) ∧ (s.size = 10 → a = false ∨ b = false ∨ d = false ∨ i4 ≠ 45 ∨ i7 ≠ 45)))
    (v k : Int) (vok : Bool) (hk : (k == 0) = vok) (hz : r = 0 → (v = 0 ∧ vok = false)) (S : r ≠ 0 → ∀ w, Calls Tryz.prog 50 #[.agg #[.int .i64 yv, .int .i64 (if r = 1 then 1 else mv), .int .i64 (if r = 3 then dv else 1), .int .i64 0, .int .i64 0, .int .i64 0], .int .i64 0] w fun e w' => e = .returned (.tuple #[.int .i64 v, .int .i64 k]) ∧ Below w.heap.size w w') :
    Calls Tryz.prog 32 #[.string s] w (ZonPost (v, vok) w) := by
  have h' : ¬ (10 : Int) < s.size := by omega
  have HH4 := Lib.hid H4
  have HH7 := Lib.hid H7
  have HZ := Lib.hid hz
  have HS := Lib.hid S
  clear H4 H7 hz S
  rcases hr with ⟨rfl, hn, rfl⟩ | ⟨rfl, hn, rfl, rfl, rfl⟩ | ⟨rfl, hn, rfl, rfl, rfl, rfl, rfl⟩ | ⟨rfl, q4, q7, q10⟩
  · have hn' : (s.size : Int) = 4 := by omega
    have S := HS.out (by decide)
    simp only [if_true, if_neg (show ¬ (1 : Nat) = 3 by decide)] at S
    go_enter Tryz.func32, Tryz.ntmps32
    go_wp2_with fail
    refine (D0 _).mono ?_
    rintro e w1 ⟨rfl, rfl⟩
    go_wp2_with fail
    refine (D5 _).mono ?_
    rintro e w1 ⟨rfl, rfl⟩
    go_wp2_with fail
    refine (D8 _).mono ?_
    rintro e w1 ⟨rfl, rfl⟩
    clear D0 D5 D8
    go_wp2_with fail
    refine (S _).mono ?_
    rintro e w1 ⟨rfl, hb⟩
    go_wp2_with fail
    go_ret2
    exact ⟨rfl, bn (bbox (Below.refl _ _) _) hb⟩
  · have hn' : (s.size : Int) = 7 := by omega
    have S := HS.out (by decide)
    simp only [if_neg (show ¬ (2 : Nat) = 1 by decide), if_neg (show ¬ (2 : Nat) = 3 by decide)] at S
    have hi4 := HH4.out (by omega)
    go_enter Tryz.func32, Tryz.ntmps32
    go_wp2_with fail
    refine (D0 _).mono ?_
    rintro e w1 ⟨rfl, rfl⟩
    go_wp2_with fail
    refine (D5 _).mono ?_
    rintro e w1 ⟨rfl, rfl⟩
    go_wp2_with fail
    refine (D8 _).mono ?_
    rintro e w1 ⟨rfl, rfl⟩
    clear D0 D5 D8
    go_wp2_with fail
    refine (S _).mono ?_
    rintro e w1 ⟨rfl, hb⟩
    go_wp2_with fail
    go_ret2
    exact ⟨rfl, bn (bbox (Below.refl _ _) _) hb⟩
  · have hn' : (s.size : Int) = 10 := by omega
    have S := HS.out (by decide)
    simp only [if_neg (show ¬ (3 : Nat) = 1 by decide), if_true] at S
    have hi4 := HH4.out (by omega)
    have hi7 := HH7.out (by omega)
    go_enter Tryz.func32, Tryz.ntmps32
    go_wp2_with fail
    refine (D0 _).mono ?_
    rintro e w1 ⟨rfl, rfl⟩
    go_wp2_with fail
    refine (D5 _).mono ?_
    rintro e w1 ⟨rfl, rfl⟩
    go_wp2_with fail
    refine (D8 _).mono ?_
    rintro e w1 ⟨rfl, rfl⟩
    clear D0 D5 D8
    go_wp2_with fail
    refine (S _).mono ?_
    rintro e w1 ⟨rfl, hb⟩
    go_wp2_with fail
    go_ret2
    exact ⟨rfl, bn (bbox (Below.refl _ _) _) hb⟩
  · obtain ⟨rfl, rfl⟩ := HZ.out rfl
    clear HZ HS hk
    by_cases n4 : s.size = 4
    · have hn' : (s.size : Int) = 4 := by omega
      obtain rfl := q4 n4
      clear q4 q7 q10
      go_enter Tryz.func32, Tryz.ntmps32
      go_wp2_with fail
      refine (D0 _).mono ?_
      rintro e w1 ⟨rfl, rfl⟩
      go_wp2_with fail
      refine (D5 _).mono ?_
      rintro e w1 ⟨rfl, rfl⟩
      go_wp2_with fail
      refine (D8 _).mono ?_
      rintro e w1 ⟨rfl, rfl⟩
      clear D0 D5 D8
      go_wp2_with fail
      go_ret2
      exact ⟨rfl, bbox (Below.refl _ _) _⟩
    by_cases n7 : s.size = 7
    · have hn' : (s.size : Int) = 7 := by omega
      have q := q7 n7
      have hi4 := HH4.out (by omega)
      clear q4 q7 q10
      have q' : a = false ∨ (a = true ∧ b = false) ∨ (a = true ∧ b = true ∧ (i4 == 45) = false) := by
        cases a
        · exact Or.inl rfl
        · cases b
          · exact Or.inr (Or.inl ⟨rfl, rfl⟩)
          · exact Or.inr (Or.inr ⟨rfl, rfl, by simpa using q⟩)
      clear q
      rcases q' with rfl | ⟨rfl, rfl⟩ | ⟨rfl, rfl, q'⟩
      all_goals
        go_enter Tryz.func32, Tryz.ntmps32
        go_wp2_with fail
        refine (D0 _).mono ?_
        rintro e w1 ⟨rfl, rfl⟩
        go_wp2_with fail
        refine (D5 _).mono ?_
        rintro e w1 ⟨rfl, rfl⟩
        go_wp2_with fail
        refine (D8 _).mono ?_
        rintro e w1 ⟨rfl, rfl⟩
        clear D0 D5 D8
        go_wp2_with fail
        go_ret2
        exact ⟨rfl, bbox (Below.refl _ _) _⟩
    by_cases n10 : s.size = 10
    · have hn' : (s.size : Int) = 10 := by omega
      have q := q10 n10
      have hi4 := HH4.out (by omega)
      have hi7 := HH7.out (by omega)
      clear q4 q7 q10
      have q' : a = false ∨ (a = true ∧ b = false) ∨ (a = true ∧ b = true ∧ d = false) ∨ (a = true ∧ b = true ∧ d = true ∧ (i4 == 45) = false) ∨ (a = true ∧ b = true ∧ d = true ∧ i4 = 45 ∧ (i7 == 45) = false) := by
        cases a
        · exact Or.inl rfl
        · cases b
          · exact Or.inr (Or.inl ⟨rfl, rfl⟩)
          · cases d
            · exact Or.inr (Or.inr (Or.inl ⟨rfl, rfl, rfl⟩))
            · by_cases e : i4 = 45
              · refine Or.inr (Or.inr (Or.inr (Or.inr ⟨rfl, rfl, rfl, e, ?_⟩)))
                have : i7 ≠ 45 := by simpa [e] using q
                simpa using this
              · exact Or.inr (Or.inr (Or.inr (Or.inl ⟨rfl, rfl, rfl, by simpa using e⟩)))
      clear q
      rcases q' with rfl | ⟨rfl, rfl⟩ | ⟨rfl, rfl, rfl⟩ | ⟨rfl, rfl, rfl, q'⟩ | ⟨rfl, rfl, rfl, rfl, q'⟩
      all_goals
        go_enter Tryz.func32, Tryz.ntmps32
        go_wp2_with fail
        refine (D0 _).mono ?_
        rintro e w1 ⟨rfl, rfl⟩
        go_wp2_with fail
        refine (D5 _).mono ?_
        rintro e w1 ⟨rfl, rfl⟩
        go_wp2_with fail
        refine (D8 _).mono ?_
        rintro e w1 ⟨rfl, rfl⟩
        clear D0 D5 D8
        go_wp2_with fail
        go_ret2
        exact ⟨rfl, bbox (Below.refl _ _) _⟩
    have m4 : ((s.size : Int) == 4) = false := by rw [beq_eq_false_iff_ne]; omega
    have m7 : ((s.size : Int) == 7) = false := by rw [beq_eq_false_iff_ne]; omega
    have m10 : ((s.size : Int) == 10) = false := by rw [beq_eq_false_iff_ne]; omega
    clear q4 q7 q10
    go_enter Tryz.func32, Tryz.ntmps32
    go_wp2_with fail
    refine (D0 _).mono ?_
    rintro e w1 ⟨rfl, rfl⟩
    go_wp2_with fail
    refine (D5 _).mono ?_
    rintro e w1 ⟨rfl, rfl⟩
    go_wp2_with fail
    refine (D8 _).mono ?_
    rintro e w1 ⟨rfl, rfl⟩
    clear D0 D5 D8
    go_wp2_with fail
    go_ret2
    exact ⟨rfl, bbox (Below.refl _ _) _⟩
set_option maxHeartbeats 1000000 in
theorem rw3c_any (s : ByteArray) (hs : s.size ≤ 1000) (w : World) : Calls Tryz.prog 32 #[.string s] w (ZonPost (Sm.w3cF s) w) := by
  by_cases h10 : 10 < s.size
  · have : Sm.w3cF s = Sm.fullF s 5 := by
      unfold Sm.w3cF
      rw [if_neg (by omega), if_neg (by omega), if_neg (by omega)]
    rw [this]; exact rw3c_long s hs h10 w
  · obtain ⟨a, ha⟩ : ∃ a, Sm.d4 s 0 = a := ⟨_, rfl⟩
    obtain ⟨b, hb⟩ : ∃ a, Sm.d2 s 5 = a := ⟨_, rfl⟩
    obtain ⟨d, hd⟩ : ∃ a, Sm.d2 s 8 = a := ⟨_, rfl⟩
    obtain ⟨i4, h4⟩ : ∃ c : Int, (Sm.B s 4 : Int) = c := ⟨_, rfl⟩
    obtain ⟨i7, h7⟩ : ∃ c : Int, (Sm.B s 7 : Int) = c := ⟨_, rfl⟩
    have D0 := fun w => dg4 s 0 hs (by omega) a ha w
    have D5 := fun w => dg2 s 5 hs (by omega) b hb w
    have D8 := fun w => dg2 s 8 hs (by omega) d hd w
    have core := fun r hr v k vok hk hz S => rw3c_core s w (by omega) (Sm.n4 s 0) (Sm.n2 s 5) (Sm.n2 s 8) a b d i4 i7 (fun h => (sbyte_at s 4 h).trans h4) (fun h => (sbyte_at s 7 h).trans h7) D0 D5 D8 r hr v k vok hk hz S
    by_cases q4 : s.size = 4 ∧ Sm.d4 s 0 = true
    · have e : Sm.w3cF s = Sm.secR (Sm.n4 s 0) 1 1 0 0 0 0 := by unfold Sm.w3cF; rw [if_pos q4]
      rw [e]
      obtain ⟨kk, sok, g1, g2, g3⟩ := rsecR_call (Sm.n4 s 0) 1 1 0 0 0 0
      generalize Sm.secR (Sm.n4 s 0) 1 1 0 0 0 0 = sr at *
      obtain ⟨v, vok⟩ := sr
      simp only at g2 g3
      subst g2
      exact core 1 (Or.inl ⟨rfl, q4.1, ha.symm.trans q4.2⟩) v kk vok g1 (fun k => by cases k) (fun _ => g3)
    · by_cases q7 : s.size = 7 ∧ Sm.d4 s 0 = true ∧ Sm.B s 4 = 45 ∧ Sm.d2 s 5 = true
      · have e : Sm.w3cF s = Sm.secR (Sm.n4 s 0) (Sm.n2 s 5) 1 0 0 0 0 := by unfold Sm.w3cF; rw [if_neg q4, if_pos q7]
        rw [e]
        obtain ⟨kk, sok, g1, g2, g3⟩ := rsecR_call (Sm.n4 s 0) (Sm.n2 s 5) 1 0 0 0 0
        generalize Sm.secR (Sm.n4 s 0) (Sm.n2 s 5) 1 0 0 0 0 = sr at *
        obtain ⟨v, vok⟩ := sr
        simp only at g2 g3
        subst g2
        exact core 2 (Or.inr (Or.inl ⟨rfl, q7.1, ha.symm.trans q7.2.1, hb.symm.trans q7.2.2.2, by have := q7.2.2.1; omega⟩)) v kk vok g1 (fun k => by cases k) (fun _ => g3)
      · by_cases q10 : s.size = 10 ∧ Sm.dayB s = true
        · have e : Sm.w3cF s = Sm.secR (Sm.n4 s 0) (Sm.n2 s 5) (Sm.n2 s 8) 0 0 0 0 := by unfold Sm.w3cF; rw [if_neg q4, if_neg q7, if_pos q10]
          rw [e]
          obtain ⟨c0, c4, c5, c7, c8⟩ := (Sm.dayB_iff s).1 q10.2
          obtain ⟨kk, sok, g1, g2, g3⟩ := rsecR_call (Sm.n4 s 0) (Sm.n2 s 5) (Sm.n2 s 8) 0 0 0 0
          generalize Sm.secR (Sm.n4 s 0) (Sm.n2 s 5) (Sm.n2 s 8) 0 0 0 0 = sr at *
          obtain ⟨v, vok⟩ := sr
          simp only at g2 g3
          subst g2
          exact core 3 (Or.inr (Or.inr (Or.inl ⟨rfl, q10.1, ha.symm.trans c0, hb.symm.trans c5, hd.symm.trans c8, by omega, by omega⟩))) v kk vok g1 (fun k => by cases k) (fun _ => g3)
        · have e : Sm.w3cF s = (0, false) := by
            unfold Sm.w3cF
            rw [if_neg q4, if_neg q7, if_neg q10]
            unfold Sm.fullF
            rw [if_neg]
            rintro ⟨_, k⟩
            have := Sm.B_in (s := s) (i := 10) (by omega)
            omega
          rw [e]
          refine core 0 (Or.inr (Or.inr (Or.inr ⟨rfl, fun k => ?_, fun k => ?_, fun k => ?_⟩))) 0 2 false rfl (fun _ => ⟨rfl, rfl⟩) (fun k => absurd rfl k)
          · cases a
            · rfl
            · exact absurd ⟨k, ha⟩ q4
          · cases a
            · exact Or.inl rfl
            · cases b
              · exact Or.inr (Or.inl rfl)
              · exact Or.inr (Or.inr (fun z => q7 ⟨k, ha, by omega, hb⟩))
          · cases a
            · exact Or.inl rfl
            · cases b
              · exact Or.inr (Or.inl rfl)
              · cases d
                · exact Or.inr (Or.inr (Or.inl rfl))
                · by_cases z4 : i4 = 45
                  · exact Or.inr (Or.inr (Or.inr (Or.inr (fun z7 => q10 ⟨k, (Sm.dayB_iff s).2 ⟨ha, by omega, hb, by omega, hd⟩⟩))))
                  · exact Or.inr (Or.inr (Or.inr (Or.inl z4)))
end Go.Proofs.YtbhafhbaldddiaaGreatDoor
