/- The walk of the document's full, Stamp and W3c. -/
import Derived.Test.YtcdnjaefijjliaaStK
import Derived.Test.YtcdnjaefijjliaaStF
namespace Go.Proofs.Ytcdnjaefijjliaa
open Go.RowKit
open Go
set_option linter.unusedVariables false
theorem rsecR_call (y m d h mi x east : Int) : ∃ k ok, (k == 0) = ok ∧ ((Sm.secR y m d h mi x east).2 = ok) ∧
    ∀ w, Calls Try.prog 27 #[.agg #[.int .i64 y, .int .i64 m, .int .i64 d, .int .i64 h, .int .i64 mi, .int .i64 x], .int .i64 east] w fun e w' => e = .returned (.tuple #[.int .i64 (Sm.secR y m d h mi x east).1, .int .i64 k]) ∧ Below w.heap.size w w' := by
  unfold Sm.secR
  cases hk : Cv.secOk y m d h mi x east
  · exact ⟨2, false, rfl, rfl, fun w => rsec_no y m d h mi x east w hk⟩
  · exact ⟨0, true, rfl, rfl, fun w => rsec_yes y m d h mi x east w hk⟩
set_option maxHeartbeats 1000000 in
theorem rfull_core (s : ByteArray) (sb : Bool) (w : World) (yv mv dv : Int) (a b d i4 i7 i10 : Bool)
    (D0 : ∀ w, Calls Try.prog 26 #[.string s, .int .i64 0, .int .i64 4] w (fun e w' => e = .returned (.tuple #[.int .i64 (bif a then yv else 0), .bool a]) ∧ w = w'))
    (D5 : ∀ w, Calls Try.prog 26 #[.string s, .int .i64 5, .int .i64 2] w (fun e w' => e = .returned (.tuple #[.int .i64 (bif b then mv else 0), .bool b]) ∧ w = w'))
    (D8 : ∀ w, Calls Try.prog 26 #[.string s, .int .i64 8, .int .i64 2] w (fun e w' => e = .returned (.tuple #[.int .i64 (bif d then dv else 0), .bool d]) ∧ w = w'))
    (I4 : ∀ w, Calls Try.prog 29 #[.string s, .int .i64 4, .int .u8 45] w (fun e w' => e = .returned (.bool i4) ∧ w = w'))
    (I7 : ∀ w, Calls Try.prog 29 #[.string s, .int .i64 7, .int .u8 45] w (fun e w' => e = .returned (.bool i7) ∧ w = w'))
    (I10 : ∀ w, Calls Try.prog 29 #[.string s, .int .i64 10, .int .u8 84] w (fun e w' => e = .returned (.bool i10) ∧ w = w'))
    (h11 : i10 = true → 11 ≤ s.size) (hs : s.size ≤ 1000)
    (hh mi x : Int) (n : Nat) (ok : Bool) (hn : 11 ≤ s.size → 11 + n ≤ s.size) (K : ∀ w, Calls Try.prog 17 #[.string (s.extract 11 s.size)] w (fun e w' => e = .returned (.tuple #[.agg #[.int .i64 0, .int .i64 0, .int .i64 0, .int .i64 hh, .int .i64 mi, .int .i64 x], .int .i64 n, .bool ok]) ∧ Below w.heap.size w w'))
    (east : Int) (zok : Bool) (Z : ∀ w, Calls Try.prog 15 #[.string (s.extract (11 + n) s.size)] w (ZonPost (east, zok) w))
    (v k : Int) (vok : Bool) (hk : (k == 0) = vok) (S : ∀ w, Calls Try.prog 27 #[.agg #[.int .i64 yv, .int .i64 mv, .int .i64 dv, .int .i64 hh, .int .i64 mi, .int .i64 x], .int .i64 east] w fun e w' => e = .returned (.tuple #[.int .i64 v, .int .i64 k]) ∧ Below w.heap.size w w') :
    Calls Try.prog 23 #[.string s, .bool sb] w (ZonPost (if (a && b && d && i4 && i7 && i10) = true then (if ok = true ∧ (sb = true → 8 ≤ n) then (if zok = true then (v, vok) else (0, false)) else (0, false)) else (0, false)) w) := by
  generalize hF : (if (a && b && d && i4 && i7 && i10) = true then (if ok = true ∧ (sb = true → 8 ≤ n) then (if zok = true then (v, vok) else (0, false)) else (0, false)) else (0, false)) = res
  have HF := Lib.hid hF
  have H11 := Lib.hid h11
  have HN := Lib.hid hn
  clear hF h11 hn
  go_enter Try.func23, Try.ntmps23
  go_wp2_with fail
  refine (D0 _).mono ?_
  rintro e w1 ⟨rfl, rfl⟩
  clear D0
  go_wp2_with fail
  refine (D5 _).mono ?_
  rintro e w1 ⟨rfl, rfl⟩
  clear D5
  go_wp2_with fail
  refine (D8 _).mono ?_
  rintro e w1 ⟨rfl, rfl⟩
  clear D8
  cases a
  · go_wp2_with fail
    go_ret2
    rw [show res = (0, false) by rw [← HF.out]; simp]
    exact ⟨rfl, Below.refl _ _⟩
  cases b
  · go_wp2_with fail
    go_ret2
    rw [show res = (0, false) by rw [← HF.out]; simp]
    exact ⟨rfl, Below.refl _ _⟩
  cases d
  · go_wp2_with fail
    go_ret2
    rw [show res = (0, false) by rw [← HF.out]; simp]
    exact ⟨rfl, Below.refl _ _⟩
  go_wp2_with fail
  refine (I4 _).mono ?_
  rintro e w1 ⟨rfl, rfl⟩
  cases i4
  · go_wp2_with fail
    go_ret2
    rw [show res = (0, false) by rw [← HF.out]; simp]
    exact ⟨rfl, Below.refl _ _⟩
  go_wp2_with fail
  refine (I7 _).mono ?_
  rintro e w1 ⟨rfl, rfl⟩
  cases i7
  · go_wp2_with fail
    go_ret2
    rw [show res = (0, false) by rw [← HF.out]; simp]
    exact ⟨rfl, Below.refl _ _⟩
  go_wp2_with fail
  refine (I10 _).mono ?_
  rintro e w1 ⟨rfl, rfl⟩
  cases i10
  · go_wp2_with fail
    go_ret2
    rw [show res = (0, false) by rw [← HF.out]; simp]
    exact ⟨rfl, Below.refl _ _⟩
  clear I4 I7 I10
  have hs11 := H11.out rfl
  have hs11' : (11 : Int) ≤ s.size := by omega
  have hsn := HN.out hs11
  have hsn' : (11 : Int) + n ≤ s.size := by omega
  have hsn0 : (0 : Int) ≤ 11 + n := by omega
  have HF := Lib.hid (show (if ok = true ∧ (sb = true → 8 ≤ n) then (if zok = true then (v, vok) else (0, false)) else (0, false)) = res from by rw [← HF.out]; rfl)
  go_wp2_with fail
  refine (K _).mono ?_
  rintro e w3 ⟨rfl, hb3⟩
  clear K
  cases ok
  · go_wp2_with fail
    go_ret2
    rw [show res = (0, false) by rw [← HF.out]; simp]
    exact ⟨rfl, bbox hb3 _⟩
  by_cases h8 : sb = true ∧ (n : Int) < 8
  · obtain ⟨rfl, h8⟩ := h8
    go_wp2_with fail
    go_ret2
    rw [show res = (0, false) by rw [← HF.out, if_neg (by simp; omega)]]
    exact ⟨rfl, bbox hb3 _⟩
  have hq : true = true ∧ (sb = true → 8 ≤ n) := ⟨rfl, fun k => by have : ¬ ((n : Int) < 8) := fun q => h8 ⟨k, q⟩; omega⟩
  have hF2 := HF.out
  rw [if_pos hq] at hF2
  clear hq HF
  have HG := Lib.hid hF2
  clear hF2
  have go8 : sb = false ∨ (sb = true ∧ ¬ ((n : Int) < 8)) := by
    cases sb
    · exact Or.inl rfl
    · exact Or.inr ⟨rfl, fun q => h8 ⟨rfl, q⟩⟩
  clear h8
  rcases go8 with rfl | ⟨rfl, h8⟩
  all_goals
    go_wp2_with fail
    refine (Z _).mono ?_
    rintro e w4 ⟨rfl, hb4⟩
    have hc := (BX.first w3 _ _ _ _ _ _ _).step hb4
    clear hb4 Z
    obtain ⟨⟨q0, q1, q2, q3, q4, q5⟩, hf, hz, hB⟩ := id hc
    cases zok
    · go_wp2_with fail
      go_ret2
      rw [show res = (0, false) by rw [← HG.out]; simp]
      exact ⟨rfl, bn hb3 hB⟩
    go_wp2_with fail
    refine (S _).mono ?_
    rintro e w5 ⟨rfl, hb5⟩
    have hc2 := (((hc.s0 (.int .i64 yv)).s1 (.int .i64 mv)).s2 (.int .i64 dv)).step hb5
    go_wp2_with fail
    go_ret2
    rw [show res = (v, vok) by rw [← HG.out]; simp]
    exact ⟨rfl, bn hb3 hc2.2.2.2⟩
set_option maxHeartbeats 1000000 in
theorem rfull_any (s : ByteArray) (hs : s.size ≤ 1000) (sb : Bool) (l : Nat) (hl : l = (bif sb then 8 else 5)) (w : World) : Calls Try.prog 23 #[.string s, .bool sb] w (ZonPost (Sm.fullF s l) w) := by
  obtain ⟨a, ha⟩ : ∃ a, Sm.d4 s 0 = a := ⟨_, rfl⟩
  obtain ⟨b, hb⟩ : ∃ a, Sm.d2 s 5 = a := ⟨_, rfl⟩
  obtain ⟨d, hd⟩ : ∃ a, Sm.d2 s 8 = a := ⟨_, rfl⟩
  obtain ⟨i4, h4⟩ : ∃ a, decide (Sm.B s 4 = 45) = a := ⟨_, rfl⟩
  obtain ⟨i7, h7⟩ : ∃ a, decide (Sm.B s 7 = 45) = a := ⟨_, rfl⟩
  obtain ⟨i10, h10⟩ : ∃ a, decide (Sm.B s 10 = 84) = a := ⟨_, rfl⟩
  have h11 : i10 = true → 11 ≤ s.size := fun k => by
    rw [k, decide_eq_true_iff] at h10
    exact Sm.B_in (by omega)
  have hrs : (s.extract 11 s.size).size ≤ 1000 := by simp; omega
  have hF : Sm.fullF s l = if (a && b && d && i4 && i7 && i10) = true then Sm.tailF s (s.extract 11 s.size) l else (0, false) := by
    unfold Sm.fullF
    have : (Sm.dayB s = true ∧ Sm.B s 10 = 84) ↔ (a && b && d && i4 && i7 && i10) = true := by
      unfold Sm.dayB
      rw [ha, hb, hd, h4, h7, ← h10]
      simp only [Bool.and_eq_true, decide_eq_true_iff]
      constructor
      · rintro ⟨⟨⟨⟨⟨k1, k2⟩, k3⟩, k4⟩, k5⟩, k6⟩; exact ⟨⟨⟨⟨⟨k1, k3⟩, k5⟩, k2⟩, k4⟩, k6⟩
      · rintro ⟨⟨⟨⟨⟨k1, k3⟩, k5⟩, k2⟩, k4⟩, k6⟩; exact ⟨⟨⟨⟨⟨k1, k2⟩, k3⟩, k4⟩, k5⟩, k6⟩
    by_cases q : (a && b && d && i4 && i7 && i10) = true
    · rw [if_pos q, if_pos (this.2 q)]
    · rw [if_neg q, if_neg (fun k => q (this.1 k))]
  rw [hF]
  have D0 := fun w => dg4 s 0 hs (by omega) a ha w
  have D5 := fun w => dg2 s 5 hs (by omega) b hb w
  have D8 := fun w => dg2 s 8 hs (by omega) d hd w
  have I4 := fun w => is_any s 4 45 hs (by omega) i4 h4 w
  have I7 := fun w => is_any s 7 45 hs (by omega) i7 h7 w
  have I10 := fun w => is_any s 10 84 hs (by omega) i10 h10 w
  have hle := Sm.clk_le (s.extract 11 s.size)
  have h5 := Sm.clk_5 (s.extract 11 s.size)
  have K := fun w => rclock_any (s.extract 11 s.size) hrs w
  unfold Sm.tailF
  rw [Sm.extract_extract]
  generalize Sm.clkF (s.extract 11 s.size) = ck at *
  obtain ⟨hh, mi, x, n, ok⟩ := ck
  simp only at hle h5 K ⊢
  have Z := fun w => rzone_any (s.extract (11 + n) s.size) w
  generalize Sm.zonF (s.extract (11 + n) s.size) = zk at *
  obtain ⟨east, zok⟩ := zk
  simp only at Z ⊢
  obtain ⟨kk, sok, g1, g2, g3⟩ := rsecR_call (Sm.n4 s 0) (Sm.n2 s 5) (Sm.n2 s 8) hh mi x east
  generalize Sm.secR (Sm.n4 s 0) (Sm.n2 s 5) (Sm.n2 s 8) hh mi x east = sr at *
  obtain ⟨v, vok⟩ := sr
  simp only at g2 g3 ⊢
  subst g2
  have := rfull_core s sb w (Sm.n4 s 0) (Sm.n2 s 5) (Sm.n2 s 8) a b d i4 i7 i10 D0 D5 D8 I4 I7 I10 h11 hs hh mi x n ok (fun k => by simp only [Sm.size_extract] at hle; omega) K east zok Z v kk vok g1 g3
  have e : (ok = true ∧ (sb = true → 8 ≤ n)) ↔ (ok = true ∧ l ≤ n) := by
    subst hl
    cases sb
    · simp only [cond_false]
      constructor
      · rintro ⟨k, _⟩; exact ⟨k, h5 k⟩
      · rintro ⟨k, _⟩; exact ⟨k, fun q => by cases q⟩
    · simp
  by_cases q : (a && b && d && i4 && i7 && i10) = true
  · rw [if_pos q] at this ⊢
    by_cases q2 : ok = true ∧ l ≤ n
    · rw [if_pos (e.2 q2)] at this; rw [if_pos q2]; exact this
    · rw [if_neg (fun k => q2 (e.1 k))] at this; rw [if_neg q2]; exact this
  · rw [if_neg q] at this ⊢; exact this
set_option maxHeartbeats 400000 in
theorem rstamp_any (s : ByteArray) (hs : s.size ≤ 1000) (w : World) : Calls Try.prog 11 #[.string s] w (ZonPost (Sm.fullF s 8) w) := by
  have C := fun w => rfull_any s hs true 8 rfl w
  go_enter Try.func11, Try.ntmps11
  go_wp2_with fail
  refine (C _).mono ?_
  rintro e w1 ⟨rfl, hb1⟩
  go_wp2_with fail
  go_ret2
  exact ⟨rfl, hb1⟩
end Go.Proofs.Ytcdnjaefijjliaa
