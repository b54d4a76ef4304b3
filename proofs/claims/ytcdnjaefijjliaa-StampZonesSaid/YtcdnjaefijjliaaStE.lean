/- The walk of the stamp's sec. -/
import Derived.Test.YtcdnjaefijjliaaStD
namespace Go.Proofs.Ytcdnjaefijjliaa
open Go.RowKit
open Go
set_option linter.unusedVariables false
theorem zone_any (s : ByteArray) (w : World) : Calls Try.prog 14 #[.string s] w (ZonPost (Sm.zonF s) w) := by
  by_cases hs : s = ⟨#[90]⟩
  · subst hs
    have : Sm.zonF ⟨#[90]⟩ = (0, true) := by unfold Sm.zonF; rw [if_pos rfl]
    rw [this]; exact zone_z w
  · have hz : (s.toList == [90]) = false := by
      rw [beq_eq_false_iff_ne]
      intro e
      exact hs (eq_list.1 (e.trans (by rw [ByteArray.toList_eq])))
    have hF : Sm.zonF s = if s.size = 6 ∧ (Sm.B s 0 = 43 ∨ Sm.B s 0 = 45) ∧ Sm.d2 s 1 = true ∧ Sm.B s 3 = 58 ∧ Sm.d2 s 4 = true ∧ Sm.n2 s 1 ≤ 23 ∧ Sm.n2 s 4 ≤ 59 then
        ((if Sm.B s 0 = 45 then -(Sm.n2 s 1 * 60 + Sm.n2 s 4) else Sm.n2 s 1 * 60 + Sm.n2 s 4), true) else (0, false) := by unfold Sm.zonF; rw [if_neg hs]
    by_cases h6 : s.size = 6
    · have f1 := Sm.form_zp s ⟨#[43, 48, 48, 58, 48, 48]⟩ 43 h6 (by decide) rfl (by decide)
      have f2 := Sm.form_zp s ⟨#[45, 48, 48, 58, 48, 48]⟩ 45 h6 (by decide) rfl (by decide)
      by_cases hP : Sm.d2 s 1 = true ∧ Sm.B s 3 = 58 ∧ Sm.d2 s 4 = true
      · obtain ⟨p1, p3, p4⟩ := hP
        by_cases c43 : Sm.B s 0 = 43
        · have e := zone_east s hz (by rw [f1, p1, p3, p4, c43]; rfl) h6 c43 p1 p4 w
          rw [hF]
          by_cases k : Sm.n2 s 1 ≤ 23 ∧ Sm.n2 s 4 ≤ 59
          · rw [if_pos ⟨h6, Or.inl c43, p1, p3, p4, k.1, k.2⟩, if_neg (by omega)]
            rw [if_pos k] at e; exact e
          · rw [if_neg (fun q => k ⟨q.2.2.2.2.2.1, q.2.2.2.2.2.2⟩)]
            rw [if_neg k] at e; exact e
        · by_cases c45 : Sm.B s 0 = 45
          · have e := zone_west s hz (by rw [f1, decide_eq_false c43]; rfl) (by rw [f2, p1, p3, p4, c45]; rfl) h6 c45 p1 p4 w
            rw [hF]
            by_cases k : Sm.n2 s 1 ≤ 23 ∧ Sm.n2 s 4 ≤ 59
            · rw [if_pos ⟨h6, Or.inr c45, p1, p3, p4, k.1, k.2⟩, if_pos c45]
              rw [if_pos k] at e; exact e
            · rw [if_neg (fun q => k ⟨q.2.2.2.2.2.1, q.2.2.2.2.2.2⟩)]
              rw [if_neg k] at e; exact e
          · rw [hF, if_neg (fun q => by rcases q.2.1 with q | q; exact c43 q; exact c45 q)]
            exact zone_no s hz (by rw [f1, decide_eq_false c43]; rfl) (by rw [f2, decide_eq_false c45]; rfl) w
      · have g : ∀ c, (decide (Sm.B s 0 = c) && Sm.d2 s 1 && decide (Sm.B s 3 = 58) && Sm.d2 s 4) = false := fun c => by
          rw [Bool.eq_false_iff]
          intro k
          simp only [Bool.and_eq_true, decide_eq_true_iff] at k
          exact hP ⟨k.1.1.2, k.1.2, k.2⟩
        rw [hF, if_neg (fun q => hP ⟨q.2.2.1, q.2.2.2.1, q.2.2.2.2.1⟩)]
        exact zone_no s hz (by rw [f1]; exact g _) (by rw [f2]; exact g _) w
    · rw [hF, if_neg (fun q => h6 q.1)]
      exact zone_no s hz (Sm.form_len _ _ (fun k => h6 k)) (Sm.form_len _ _ (fun k => h6 k)) w
theorem nm4 (s : ByteArray) (a b : Nat) (hb : b = a + 4) (h : Sm.d4 s a = true) (w : World) : Calls Try.prog 28 #[.string (s.extract a b)] w (fun e w' => e = .returned (.int .i64 (Sm.n4 s a)) ∧ Below w.heap.size w w') := by
  subst hb
  obtain ⟨h1, h2⟩ := Sm.num_d4 h
  have := number_any (s.extract a (a + 4)) (by omega) w
  rw [h1, h2] at this; exact this
/-- A box of six cells, stored to again and again. -/
def BX (w W : World) (v0 v1 v2 v3 v4 v5 : Value) : Prop := Six W w.heap.size v0 v1 v2 v3 v4 v5 ∧ (∀ o, W.frozen? ⟨w.heap.size, o, none⟩ = false) ∧ w.heap.size < W.heap.size ∧ Below w.heap.size w W
theorem BX.first (w : World) (t : TypeId) (v0 v1 v2 v3 v4 v5 : Value) : BX w (w.alloc (.cells #[v0, v1, v2, v3, v4, v5] t)) v0 v1 v2 v3 v4 v5 :=
  ⟨⟨by simp, by simp, by simp, by simp, by simp, by simp⟩, fun o => by simp, by simp, bbox (Below.refl _ _) _⟩
theorem BX.drew {w W : World} {v0 v1 v2 v3 v4 v5 : Value} (h : BX w W v0 v1 v2 v3 v4 v5) : BX w W.drew v0 v1 v2 v3 v4 v5 := ⟨h.1, h.2.1, h.2.2.1, h.2.2.2.drew⟩
theorem BX.step {w W W' : World} {v0 v1 v2 v3 v4 v5 : Value} (h : BX w W v0 v1 v2 v3 v4 v5) (hb : Below W.heap.size W W') : BX w W' v0 v1 v2 v3 v4 v5 := by
  obtain ⟨⟨q0, q1, q2, q3, q4, q5⟩, hf, hz, hB⟩ := h
  exact ⟨⟨(hb.cell (p := ⟨w.heap.size, 0, none⟩) hz).trans q0, (hb.cell (p := ⟨w.heap.size, 1, none⟩) hz).trans q1, (hb.cell (p := ⟨w.heap.size, 2, none⟩) hz).trans q2, (hb.cell (p := ⟨w.heap.size, 3, none⟩) hz).trans q3, (hb.cell (p := ⟨w.heap.size, 4, none⟩) hz).trans q4, (hb.cell (p := ⟨w.heap.size, 5, none⟩) hz).trans q5⟩,
    fun o => (hb.frozen (p := ⟨w.heap.size, o, none⟩) hz).trans (hf o), Nat.lt_of_lt_of_le hz hb.size, bn hB hb⟩
theorem BX.stepd {w W W' : World} {v0 v1 v2 v3 v4 v5 : Value} (h : BX w W v0 v1 v2 v3 v4 v5) (hb : Below W.drew.heap.size W.drew W') : BX w W' v0 v1 v2 v3 v4 v5 := h.drew.step hb
section
variable {w W : World} {v0 v1 v2 v3 v4 v5 : Value}
theorem BX.at (k : Nat) (x : Value) (h : BX w W v0 v1 v2 v3 v4 v5) {y0 y1 y2 y3 y4 y5 : Value} (hs : Six (W.setCell ⟨w.heap.size, k, none⟩ x) w.heap.size y0 y1 y2 y3 y4 y5) : BX w (W.setCell ⟨w.heap.size, k, none⟩ x) y0 y1 y2 y3 y4 y5 :=
  ⟨hs, fun o => by rw [World.frozen?_setCell]; exact h.2.1 o, by simpa using h.2.2.1, h.2.2.2.setCell (Nat.le_refl _) _⟩
theorem BX.s0 (h : BX w W v0 v1 v2 v3 v4 v5) (x : Value) : BX w (W.setCell ⟨w.heap.size, 0, none⟩ x) x v1 v2 v3 v4 v5 := h.at 0 x (h.1.s0 x)
theorem BX.s1 (h : BX w W v0 v1 v2 v3 v4 v5) (x : Value) : BX w (W.setCell ⟨w.heap.size, 1, none⟩ x) v0 x v2 v3 v4 v5 := h.at 1 x (h.1.s1 x)
theorem BX.s2 (h : BX w W v0 v1 v2 v3 v4 v5) (x : Value) : BX w (W.setCell ⟨w.heap.size, 2, none⟩ x) v0 v1 x v3 v4 v5 := h.at 2 x (h.1.s2 x)
end
set_option maxHeartbeats 2000000 in
theorem sec_10 (s : ByteArray) (h6 : s.size = 10) (d0 : Sm.d4 s 0 = true) (d5 : Sm.d2 s 5 = true) (d8 : Sm.d2 s 8 = true) (z0 z1 z2 h mi x east v k : Int) (ok : Bool) (hk : (k == 0) = ok)
    (hC : ∀ w, Calls Try.prog 35 #[.agg #[.int .i64 (Sm.n4 s 0), .int .i64 (Sm.n2 s 5), .int .i64 (Sm.n2 s 8), .int .i64 h, .int .i64 mi, .int .i64 x], .int .i64 east] w fun e w' => e = .returned (.tuple #[.int .i64 v, .int .i64 k]) ∧ Below w.heap.size w w') (w : World) :
    Calls Try.prog 25 #[.string s, .agg #[.int .i64 z0, .int .i64 z1, .int .i64 z2, .int .i64 h, .int .i64 mi, .int .i64 x], .int .i64 east] w (ZonPost (v, ok) w) := by
  have C0 := fun w => nm4 s 0 4 rfl d0 w
  have C5 := fun w => nm2 s 5 7 rfl d5 w
  have C8 := fun w => nm2 s 8 s.size h6 d8 w
  rw [h6] at C8
  have h6' : (s.size : Int) = 10 := by omega
  generalize Sm.n4 s 0 = yy at *
  generalize Sm.n2 s 5 = mm at *
  generalize Sm.n2 s 8 = dd at *
  go_enter Try.func25, Try.ntmps25
  go_wp2_with fail
  refine (C0 _).mono ?_
  rintro e w1 ⟨rfl, hb1⟩
  have hc := (BX.first w _ _ _ _ _ _ _).step hb1
  clear hb1 C0
  obtain ⟨⟨q0, q1, q2, q3, q4, q5⟩, hf, hz, hB⟩ := id hc
  go_wp2_with fail
  refine (C5 _).mono ?_
  rintro e w2 ⟨rfl, hb2⟩
  replace hc := (((hc.s0 (.int .i64 yy)).s1 (.int .i64 1)).s2 (.int .i64 1)).step hb2
  clear hb2 C5 q0 q1 q2 q3 q4 q5 hf hz hB
  obtain ⟨⟨q0, q1, q2, q3, q4, q5⟩, hf, hz, hB⟩ := id hc
  go_wp2_with fail
  refine (C8 _).mono ?_
  rintro e w3 ⟨rfl, hb3⟩
  replace hc := (hc.s1 (.int .i64 mm)).step hb3
  clear hb3 C8 q0 q1 q2 q3 q4 q5 hf hz hB
  obtain ⟨⟨q0, q1, q2, q3, q4, q5⟩, hf, hz, hB⟩ := id hc
  go_wp2_with fail
  refine (hC _).mono ?_
  rintro e w4 ⟨rfl, hb4⟩
  replace hc := (hc.s2 (.int .i64 dd)).step hb4
  clear hb4 hC q0 q1 q2 q3 q4 q5 hf hz hB
  go_wp2_with fail
  go_ret2
  exact ⟨rfl, hc.2.2.2⟩
set_option maxHeartbeats 2000000 in
theorem sec_7 (s : ByteArray) (h6 : s.size = 7) (d0 : Sm.d4 s 0 = true) (d5 : Sm.d2 s 5 = true) (z0 z1 z2 h mi x east v k : Int) (ok : Bool) (hk : (k == 0) = ok)
    (hC : ∀ w, Calls Try.prog 35 #[.agg #[.int .i64 (Sm.n4 s 0), .int .i64 (Sm.n2 s 5), .int .i64 1, .int .i64 h, .int .i64 mi, .int .i64 x], .int .i64 east] w fun e w' => e = .returned (.tuple #[.int .i64 v, .int .i64 k]) ∧ Below w.heap.size w w') (w : World) :
    Calls Try.prog 25 #[.string s, .agg #[.int .i64 z0, .int .i64 z1, .int .i64 z2, .int .i64 h, .int .i64 mi, .int .i64 x], .int .i64 east] w (ZonPost (v, ok) w) := by
  have C0 := fun w => nm4 s 0 4 rfl d0 w
  have C5 := fun w => nm2 s 5 7 rfl d5 w
  have h6' : (s.size : Int) = 7 := by omega
  generalize Sm.n4 s 0 = yy at *
  generalize Sm.n2 s 5 = mm at *
  go_enter Try.func25, Try.ntmps25
  go_wp2_with fail
  refine (C0 _).mono ?_
  rintro e w1 ⟨rfl, hb1⟩
  have hc := (BX.first w _ _ _ _ _ _ _).step hb1
  clear hb1 C0
  obtain ⟨⟨q0, q1, q2, q3, q4, q5⟩, hf, hz, hB⟩ := id hc
  go_wp2_with fail
  refine (C5 _).mono ?_
  rintro e w2 ⟨rfl, hb2⟩
  replace hc := (((hc.s0 (.int .i64 yy)).s1 (.int .i64 1)).s2 (.int .i64 1)).step hb2
  clear hb2 C5 q0 q1 q2 q3 q4 q5 hf hz hB
  obtain ⟨⟨q0, q1, q2, q3, q4, q5⟩, hf, hz, hB⟩ := id hc
  go_wp2_with fail
  refine (hC _).mono ?_
  rintro e w4 ⟨rfl, hb4⟩
  replace hc := (hc.s1 (.int .i64 mm)).step hb4
  clear hb4 hC q0 q1 q2 q3 q4 q5 hf hz hB
  go_wp2_with fail
  go_ret2
  exact ⟨rfl, hc.2.2.2⟩
set_option maxHeartbeats 2000000 in
theorem sec_4 (s : ByteArray) (h6 : s.size = 4) (d0 : Sm.d4 s 0 = true) (z0 z1 z2 h mi x east v k : Int) (ok : Bool) (hk : (k == 0) = ok)
    (hC : ∀ w, Calls Try.prog 35 #[.agg #[.int .i64 (Sm.n4 s 0), .int .i64 1, .int .i64 1, .int .i64 h, .int .i64 mi, .int .i64 x], .int .i64 east] w fun e w' => e = .returned (.tuple #[.int .i64 v, .int .i64 k]) ∧ Below w.heap.size w w') (w : World) :
    Calls Try.prog 25 #[.string s, .agg #[.int .i64 z0, .int .i64 z1, .int .i64 z2, .int .i64 h, .int .i64 mi, .int .i64 x], .int .i64 east] w (ZonPost (v, ok) w) := by
  have C0 := fun w => nm4 s 0 4 rfl d0 w
  have h6' : (s.size : Int) = 4 := by omega
  generalize Sm.n4 s 0 = yy at *
  go_enter Try.func25, Try.ntmps25
  go_wp2_with fail
  refine (C0 _).mono ?_
  rintro e w1 ⟨rfl, hb1⟩
  have hc := (BX.first w _ _ _ _ _ _ _).step hb1
  clear hb1 C0
  obtain ⟨⟨q0, q1, q2, q3, q4, q5⟩, hf, hz, hB⟩ := id hc
  go_wp2_with fail
  refine (hC _).mono ?_
  rintro e w4 ⟨rfl, hb4⟩
  replace hc := (((hc.s0 (.int .i64 yy)).s1 (.int .i64 1)).s2 (.int .i64 1)).step hb4
  clear hb4 hC q0 q1 q2 q3 q4 q5 hf hz hB
  go_wp2_with fail
  go_ret2
  exact ⟨rfl, hc.2.2.2⟩
end Go.Proofs.Ytcdnjaefijjliaa
