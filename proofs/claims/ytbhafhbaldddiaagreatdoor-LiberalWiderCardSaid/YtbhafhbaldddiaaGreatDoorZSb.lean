/- The walk of the stamp's sec. The walks of the stamp's full, Stamp and W3c. W3c, whole. -/
import Derived.Test.YtbhafhbaldddiaaGreatDoorZSa
import Derived.Test.YtbhafhbaldddiaaGreatDoorZA
import Derived.Lib.SlBytesConst
namespace Go.Proofs.YtbhafhbaldddiaaGreatDoor
open Go.RowKit
open Go
set_option linter.unusedVariables false
theorem szone_any (s : ByteArray) (w : World) : Calls Tryz.prog 107 #[.string s] w (ZonPost (Sm.zonF s) w) := by
  by_cases hs : s = ⟨#[90]⟩
  · subst hs
    have : Sm.zonF ⟨#[90]⟩ = (0, true) := by unfold Sm.zonF; rw [if_pos rfl]
    rw [this]; exact zone_z w
  · have hz : (s.toList == [90]) = false := by
      rw [beq_eq_false_iff_ne]
      intro e
      exact hs (eq_list.1 (e.trans (by rw [ByteArray.toList_eq])))
    have hF : Sm.zonF s = if s.size = 6 ∧ (Sm.B s 0 = 43 ∨ Sm.B s 0 = 45) ∧ Sm.d2 s 1 = true ∧ Sm.B s 3 = 58 ∧ Sm.d2 s 4 = true ∧ Sm.n2 s 1 ≤ 23 ∧ Sm.n2 s 4 ≤ 59 then
        ((if Sm.B s 0 = 45 then -(Sm.n2 s 1 * 60 + Sm.n2 s 4) else Sm.n2 s 1 * 60 + Sm.n2 s 4), true) else (0, false) := by unfold Sm.zonF; rw [if_neg hs]
    by_cases h6 : s.size = 6
    · have f1 := Sm.form_zp s ⟨#[43, 48, 48, 58, 48, 48]⟩ 43 h6 (by decide) rfl (by decide)
      have f2 := Sm.form_zp s ⟨#[45, 48, 48, 58, 48, 48]⟩ 45 h6 (by decide) rfl (by decide)
      by_cases hP : Sm.d2 s 1 = true ∧ Sm.B s 3 = 58 ∧ Sm.d2 s 4 = true
      · obtain ⟨p1, p3, p4⟩ := hP
        by_cases c43 : Sm.B s 0 = 43
        · have e := zone_east s hz (by rw [f1, p1, p3, p4, c43]; rfl) h6 c43 p1 p4 w
          rw [hF]
          by_cases k : Sm.n2 s 1 ≤ 23 ∧ Sm.n2 s 4 ≤ 59
          · rw [if_pos ⟨h6, Or.inl c43, p1, p3, p4, k.1, k.2⟩, if_neg (by omega)]
            rw [if_pos k] at e; exact e
          · rw [if_neg (fun q => k ⟨q.2.2.2.2.2.1, q.2.2.2.2.2.2⟩)]
            rw [if_neg k] at e; exact e
        · by_cases c45 : Sm.B s 0 = 45
          · have e := zone_west s hz (by rw [f1, decide_eq_false c43]; rfl) (by rw [f2, p1, p3, p4, c45]; rfl) h6 c45 p1 p4 w
            rw [hF]
            by_cases k : Sm.n2 s 1 ≤ 23 ∧ Sm.n2 s 4 ≤ 59
            · rw [if_pos ⟨h6, Or.inr c45, p1, p3, p4, k.1, k.2⟩, if_pos c45]
              rw [if_pos k] at e; exact e
            · rw [if_neg (fun q => k ⟨q.2.2.2.2.2.1, q.2.2.2.2.2.2⟩)]
              rw [if_neg k] at e; exact e
          · rw [hF, if_neg (fun q => by rcases q.2.1 with q | q; exact c43 q; exact c45 q)]
            exact zone_no s hz (by rw [f1, decide_eq_false c43]; rfl) (by rw [f2, decide_eq_false c45]; rfl) w
      · have g : ∀ c, (decide (Sm.B s 0 = c) && Sm.d2 s 1 && decide (Sm.B s 3 = 58) && Sm.d2 s 4) = false := fun c => by
          rw [Bool.eq_false_iff]
          intro k
          simp only [Bool.and_eq_true, decide_eq_true_iff] at k
          exact hP ⟨k.1.1.2, k.1.2, k.2⟩
        rw [hF, if_neg (fun q => hP ⟨q.2.2.1, q.2.2.2.1, q.2.2.2.2.1⟩)]
        exact zone_no s hz (by rw [f1]; exact g _) (by rw [f2]; exact g _) w
    · rw [hF, if_neg (fun q => h6 q.1)]
      exact zone_no s hz (Sm.form_len _ _ (fun k => h6 k)) (Sm.form_len _ _ (fun k => h6 k)) w
theorem nm4 (s : ByteArray) (a b : Nat) (hb : b = a + 4) (h : Sm.d4 s a = true) (w : World) : Calls Tryz.prog 104 #[.string (s.extract a b)] w (fun e w' => e = .returned (.int .i64 (Sm.n4 s a)) ∧ Below w.heap.size w w') := by
  subst hb
  obtain ⟨h1, h2⟩ := Sm.num_d4 h
  have := snumber_any (s.extract a (a + 4)) (by omega) w
  rw [h1, h2] at this; exact this
/-- A box of six cells, stored to again and again. -/
def BX (w W : World) (v0 v1 v2 v3 v4 v5 : Value) : Prop := Six W w.heap.size v0 v1 v2 v3 v4 v5 ∧ (∀ o, W.frozen? ⟨w.heap.size, o, none⟩ = false) ∧ w.heap.size < W.heap.size ∧ Below w.heap.size w W
theorem BX.first (w : World) (t : TypeId) (v0 v1 v2 v3 v4 v5 : Value) : BX w (w.alloc (.cells #[v0, v1, v2, v3, v4, v5] t)) v0 v1 v2 v3 v4 v5 :=
  ⟨⟨by simp, by simp, by simp, by simp, by simp, by simp⟩, fun o => by simp, by simp, bbox (Below.refl _ _) _⟩
theorem BX.drew {w W : World} {v0 v1 v2 v3 v4 v5 : Value} (h : BX w W v0 v1 v2 v3 v4 v5) : BX w W.drew v0 v1 v2 v3 v4 v5 := ⟨h.1, h.2.1, h.2.2.1, h.2.2.2.drew⟩
theorem BX.step {w W W' : World} {v0 v1 v2 v3 v4 v5 : Value} (h : BX w W v0 v1 v2 v3 v4 v5) (hb : Below W.heap.size W W') : BX w W' v0 v1 v2 v3 v4 v5 := by
  obtain ⟨⟨q0, q1, q2, q3, q4, q5⟩, hf, hz, hB⟩ := h
  exact ⟨⟨(hb.cell (p := ⟨w.heap.size, 0, none⟩) hz).trans q0, (hb.cell (p := ⟨w.heap.size, 1, none⟩) hz).trans q1, (hb.cell (p := ⟨w.heap.size, 2, none⟩) hz).trans q2, (hb.cell (p := ⟨w.heap.size, 3, none⟩) hz).trans q3, (hb.cell (p := ⟨w.heap.size, 4, none⟩) hz).trans q4, (hb.cell (p := ⟨w.heap.size, 5, none⟩) hz).trans q5⟩,
    fun o => (hb.frozen (p := ⟨w.heap.size, o, none⟩) hz).trans (hf o), Nat.lt_of_lt_of_le hz hb.size, bn hB hb⟩
theorem BX.stepd {w W W' : World} {v0 v1 v2 v3 v4 v5 : Value} (h : BX w W v0 v1 v2 v3 v4 v5) (hb : Below W.drew.heap.size W.drew W') : BX w W' v0 v1 v2 v3 v4 v5 := h.drew.step hb
section
variable {w W : World} {v0 v1 v2 v3 v4 v5 : Value}
theorem BX.at (k : Nat) (x : Value) (h : BX w W v0 v1 v2 v3 v4 v5) {y0 y1 y2 y3 y4 y5 : Value} (hs : Six (W.setCell ⟨w.heap.size, k, none⟩ x) w.heap.size y0 y1 y2 y3 y4 y5) : BX w (W.setCell ⟨w.heap.size, k, none⟩ x) y0 y1 y2 y3 y4 y5 :=
  ⟨hs, fun o => by rw [World.frozen?_setCell]; exact h.2.1 o, by simpa using h.2.2.1, h.2.2.2.setCell (Nat.le_refl _) _⟩
theorem BX.s0 (h : BX w W v0 v1 v2 v3 v4 v5) (x : Value) : BX w (W.setCell ⟨w.heap.size, 0, none⟩ x) x v1 v2 v3 v4 v5 := h.at 0 x (h.1.s0 x)
theorem BX.s1 (h : BX w W v0 v1 v2 v3 v4 v5) (x : Value) : BX w (W.setCell ⟨w.heap.size, 1, none⟩ x) v0 x v2 v3 v4 v5 := h.at 1 x (h.1.s1 x)
theorem BX.s2 (h : BX w W v0 v1 v2 v3 v4 v5) (x : Value) : BX w (W.setCell ⟨w.heap.size, 2, none⟩ x) v0 v1 x v3 v4 v5 := h.at 2 x (h.1.s2 x)
end
set_option maxHeartbeats 2000000 in
theorem sec_10 (s : ByteArray) (h6 : s.size = 10) (d0 : Sm.d4 s 0 = true) (d5 : Sm.d2 s 5 = true) (d8 : Sm.d2 s 8 = true) (z0 z1 z2 h mi x east v k : Int) (ok : Bool) (hk : (k == 0) = ok)
    (hC : ∀ w, Calls Tryz.prog 26 #[.agg #[.int .i64 (Sm.n4 s 0), .int .i64 (Sm.n2 s 5), .int .i64 (Sm.n2 s 8), .int .i64 h, .int .i64 mi, .int .i64 x], .int .i64 east] w fun e w' => e = .returned (.tuple #[.int .i64 v, .int .i64 k]) ∧ Below w.heap.size w w') (w : World) :
    Calls Tryz.prog 75 #[.string s, .agg #[.int .i64 z0, .int .i64 z1, .int .i64 z2, .int .i64 h, .int .i64 mi, .int .i64 x], .int .i64 east] w (ZonPost (v, ok) w) := by
  have C0 := fun w => nm4 s 0 4 rfl d0 w
  have C5 := fun w => nm2 s 5 7 rfl d5 w
  have C8 := fun w => nm2 s 8 s.size h6 d8 w
  rw [h6] at C8
  have h6' : (s.size : Int) = 10 := by omega
  generalize Sm.n4 s 0 = yy at *
  generalize Sm.n2 s 5 = mm at *
  generalize Sm.n2 s 8 = dd at *
  go_enter Tryz.func75, Tryz.ntmps75
  go_wp2_with fail
  refine (C0 _).mono ?_
  rintro e w1 ⟨rfl, hb1⟩
  have hc := (BX.first w _ _ _ _ _ _ _).step hb1
  clear hb1 C0
  obtain ⟨⟨q0, q1, q2, q3, q4, q5⟩, hf, hz, hB⟩ := id hc
  go_wp2_with fail
  refine (C5 _).mono ?_
  rintro e w2 ⟨rfl, hb2⟩
  replace hc := (((hc.s0 (.int .i64 yy)).s1 (.int .i64 1)).s2 (.int .i64 1)).step hb2
  clear hb2 C5 q0 q1 q2 q3 q4 q5 hf hz hB
  obtain ⟨⟨q0, q1, q2, q3, q4, q5⟩, hf, hz, hB⟩ := id hc
  go_wp2_with fail
  refine (C8 _).mono ?_
  rintro e w3 ⟨rfl, hb3⟩
  replace hc := (hc.s1 (.int .i64 mm)).step hb3
  clear hb3 C8 q0 q1 q2 q3 q4 q5 hf hz hB
  obtain ⟨⟨q0, q1, q2, q3, q4, q5⟩, hf, hz, hB⟩ := id hc
  go_wp2_with fail
  refine (hC _).mono ?_
  rintro e w4 ⟨rfl, hb4⟩
  replace hc := (hc.s2 (.int .i64 dd)).step hb4
  clear hb4 hC q0 q1 q2 q3 q4 q5 hf hz hB
  go_wp2_with fail
  go_ret2
  exact ⟨rfl, hc.2.2.2⟩
set_option maxHeartbeats 2000000 in
theorem sec_7 (s : ByteArray) (h6 : s.size = 7) (d0 : Sm.d4 s 0 = true) (d5 : Sm.d2 s 5 = true) (z0 z1 z2 h mi x east v k : Int) (ok : Bool) (hk : (k == 0) = ok)
    (hC : ∀ w, Calls Tryz.prog 26 #[.agg #[.int .i64 (Sm.n4 s 0), .int .i64 (Sm.n2 s 5), .int .i64 1, .int .i64 h, .int .i64 mi, .int .i64 x], .int .i64 east] w fun e w' => e = .returned (.tuple #[.int .i64 v, .int .i64 k]) ∧ Below w.heap.size w w') (w : World) :
    Calls Tryz.prog 75 #[.string s, .agg #[.int .i64 z0, .int .i64 z1, .int .i64 z2, .int .i64 h, .int .i64 mi, .int .i64 x], .int .i64 east] w (ZonPost (v, ok) w) := by
  have C0 := fun w => nm4 s 0 4 rfl d0 w
  have C5 := fun w => nm2 s 5 7 rfl d5 w
  have h6' : (s.size : Int) = 7 := by omega
  generalize Sm.n4 s 0 = yy at *
  generalize Sm.n2 s 5 = mm at *
  go_enter Tryz.func75, Tryz.ntmps75
  go_wp2_with fail
  refine (C0 _).mono ?_
  rintro e w1 ⟨rfl, hb1⟩
  have hc := (BX.first w _ _ _ _ _ _ _).step hb1
  clear hb1 C0
  obtain ⟨⟨q0, q1, q2, q3, q4, q5⟩, hf, hz, hB⟩ := id hc
  go_wp2_with fail
  refine (C5 _).mono ?_
  rintro e w2 ⟨rfl, hb2⟩
  replace hc := (((hc.s0 (.int .i64 yy)).s1 (.int .i64 1)).s2 (.int .i64 1)).step hb2
  clear hb2 C5 q0 q1 q2 q3 q4 q5 hf hz hB
  obtain ⟨⟨q0, q1, q2, q3, q4, q5⟩, hf, hz, hB⟩ := id hc
  go_wp2_with fail
  refine (hC _).mono ?_
  rintro e w4 ⟨rfl, hb4⟩
  replace hc := (hc.s1 (.int .i64 mm)).step hb4
  clear hb4 hC q0 q1 q2 q3 q4 q5 hf hz hB
  go_wp2_with fail
  go_ret2
  exact ⟨rfl, hc.2.2.2⟩
set_option maxHeartbeats 2000000 in
theorem sec_4 (s : ByteArray) (h6 : s.size = 4) (d0 : Sm.d4 s 0 = true) (z0 z1 z2 h mi x east v k : Int) (ok : Bool) (hk : (k == 0) = ok)
    (hC : ∀ w, Calls Tryz.prog 26 #[.agg #[.int .i64 (Sm.n4 s 0), .int .i64 1, .int .i64 1, .int .i64 h, .int .i64 mi, .int .i64 x], .int .i64 east] w fun e w' => e = .returned (.tuple #[.int .i64 v, .int .i64 k]) ∧ Below w.heap.size w w') (w : World) :
    Calls Tryz.prog 75 #[.string s, .agg #[.int .i64 z0, .int .i64 z1, .int .i64 z2, .int .i64 h, .int .i64 mi, .int .i64 x], .int .i64 east] w (ZonPost (v, ok) w) := by
  have C0 := fun w => nm4 s 0 4 rfl d0 w
  have h6' : (s.size : Int) = 4 := by omega
  generalize Sm.n4 s 0 = yy at *
  go_enter Tryz.func75, Tryz.ntmps75
  go_wp2_with fail
  refine (C0 _).mono ?_
  rintro e w1 ⟨rfl, hb1⟩
  have hc := (BX.first w _ _ _ _ _ _ _).step hb1
  clear hb1 C0
  obtain ⟨⟨q0, q1, q2, q3, q4, q5⟩, hf, hz, hB⟩ := id hc
  go_wp2_with fail
  refine (hC _).mono ?_
  rintro e w4 ⟨rfl, hb4⟩
  replace hc := (((hc.s0 (.int .i64 yy)).s1 (.int .i64 1)).s2 (.int .i64 1)).step hb4
  clear hb4 hC q0 q1 q2 q3 q4 q5 hf hz hB
  go_wp2_with fail
  go_ret2
  exact ⟨rfl, hc.2.2.2⟩
end Go.Proofs.YtbhafhbaldddiaaGreatDoor
namespace Go.Proofs.YtbhafhbaldddiaaGreatDoor
open Go.RowKit
open Go
set_option linter.unusedVariables false
theorem first_exists (s : ByteArray) (c : Nat) : ∃ k, FirstAt s c k := by
  have key : ∀ n, n ≤ s.size → (∃ m : Nat, m < n ∧ Sm.B s m = c ∧ ∀ i, i < m → Sm.B s i ≠ c) ∨ ∀ i, i < n → Sm.B s i ≠ c := by
    intro n
    induction n with
    | zero => intro _; right; intro i hi; omega
    | succ n ih =>
      intro h
      rcases ih (by omega) with ⟨m, h1, h2, h3⟩ | h1
      · exact Or.inl ⟨m, by omega, h2, h3⟩
      · by_cases e : Sm.B s n = c
        · exact Or.inl ⟨n, by omega, e, h1⟩
        · right
          intro i hi
          by_cases q : i = n
          · subst q; exact e
          · exact h1 i (by omega)
  rcases key s.size (Nat.le_refl _) with ⟨m, h1, h2, h3⟩ | h1
  · exact ⟨m, Or.inl ⟨m, rfl, h1, h2, h3⟩⟩
  · exact ⟨-1, Or.inr ⟨rfl, h1⟩⟩
theorem secR_call (y m d h mi x east : Int) (bh : Is64 h) (bm : Is64 mi) (bs : Is64 x) : ∃ k ok, (k == 0) = ok ∧ ((Sm.secR y m d h mi x east).2 = ok) ∧
    ∀ w, Calls Tryz.prog 26 #[.agg #[.int .i64 y, .int .i64 m, .int .i64 d, .int .i64 h, .int .i64 mi, .int .i64 x], .int .i64 east] w fun e w' => e = .returned (.tuple #[.int .i64 (Sm.secR y m d h mi x east).1, .int .i64 k]) ∧ Below w.heap.size w w' := by
  unfold Sm.secR
  cases hk : Cv.secOk y m d h mi x east
  · exact ⟨2, false, rfl, rfl, fun w => sec_no y m d h mi x east w bh bm bs hk⟩
  · exact ⟨0, true, rfl, rfl, fun w => sec_yes y m d h mi x east w bh bm bs hk⟩
set_option maxHeartbeats 1000000 in
theorem full_miss (s : ByteArray) (hs : s.size ≤ 1000) (l : Int) (w : World) (h : FirstAt s 84 (-1)) : Calls Tryz.prog 76 #[.string s, .int .i64 l] w (ZonPost (0, false) w) := by
  have C := fun w => cut_any s (-1) h (by omega) w
  unfold cutT at C
  rw [if_pos rfl] at C
  go_enter Tryz.func76, Tryz.ntmps76
  go_wp2_with fail
  refine (C _).mono ?_
  rintro e w1 ⟨rfl, hb1⟩
  go_wp2_with fail
  go_ret2
  exact ⟨rfl, hb1⟩
set_option maxHeartbeats 1000000 in
theorem full_form (s a b : ByteArray) (l : Int) (w : World) (C : ∀ w, Calls Tryz.prog 105 #[.string s, .string ⟨#[84]⟩] w (fun e w' => e = .returned (.tuple #[.string a, .string b, .bool true]) ∧ Below w.heap.size w w')) (h : Sm.formB a ⟨#[48, 48, 48, 48, 45, 48, 48, 45, 48, 48]⟩ = false) : Calls Tryz.prog 76 #[.string s, .int .i64 l] w (ZonPost (0, false) w) := by
  go_enter Tryz.func76, Tryz.ntmps76
  go_wp2_with fail
  refine (C _).mono ?_
  rintro e w1 ⟨rfl, hb1⟩
  go_wp2_with fail
  refine (fm _ _ false h (by decide) _).mono ?_
  rintro e w2 ⟨rfl, hb2⟩
  go_wp2_with fail
  go_ret2
  exact ⟨rfl, bn hb1 hb2⟩
set_option maxHeartbeats 1000000 in
theorem full_in (s a r : ByteArray) (l : Int) (w : World) (C : ∀ w, Calls Tryz.prog 105 #[.string s, .string ⟨#[84]⟩] w (fun e w' => e = .returned (.tuple #[.string a, .string r, .bool true]) ∧ Below w.heap.size w w')) (h : Sm.formB a ⟨#[48, 48, 48, 48, 45, 48, 48, 45, 48, 48]⟩ = true)
    (hh mi x : Int) (n : Nat) (ok : Bool) (hn : n ≤ r.size) (K : ∀ w, Calls Tryz.prog 106 #[.string r] w (fun e w' => e = .returned (.tuple #[.agg #[.int .i64 0, .int .i64 0, .int .i64 0, .int .i64 hh, .int .i64 mi, .int .i64 x], .int .i64 n, .bool ok]) ∧ Below w.heap.size w w'))
    (east : Int) (zok : Bool) (Z : ∀ w, Calls Tryz.prog 107 #[.string (r.extract n r.size)] w (ZonPost (east, zok) w))
    (v : Int) (vok : Bool) (S : ∀ w, Calls Tryz.prog 75 #[.string a, .agg #[.int .i64 0, .int .i64 0, .int .i64 0, .int .i64 hh, .int .i64 mi, .int .i64 x], .int .i64 east] w (ZonPost (v, vok) w)) :
    Calls Tryz.prog 76 #[.string s, .int .i64 l] w (ZonPost (if ok = true ∧ l ≤ n then (if zok = true then (v, vok) else (0, false)) else (0, false)) w) := by
  generalize hF : (if ok = true ∧ l ≤ n then (if zok = true then (v, vok) else (0, false)) else (0, false)) = res
  have HF := Lib.hid hF
  clear hF
  have hn' : (n : Int) ≤ r.size := by omega
  go_enter Tryz.func76, Tryz.ntmps76
  go_wp2_with fail
  refine (C _).mono ?_
  rintro e w1 ⟨rfl, hb1⟩
  go_wp2_with fail
  refine (fm _ _ true h (by decide) _).mono ?_
  rintro e w2 ⟨rfl, hb2⟩
  go_wp2_with fail
  refine (K _).mono ?_
  rintro e w3 ⟨rfl, hb3⟩
  have hB3 := bn (bn hb1 hb2) hb3
  clear hb1 hb2 hb3 C K
  cases ok
  · go_wp2_with fail
    go_ret2
    refine ⟨?_, bbox hB3 _⟩
    rw [show res = (0, false) by rw [← HF.out]; simp]
    rfl
  by_cases hl : (n : Int) < l
  · go_wp2_with fail
    go_ret2
    refine ⟨?_, bbox hB3 _⟩
    rw [show res = (0, false) by rw [← HF.out, if_neg (fun k => by omega)]]
    rfl
  go_wp2_with fail
  refine (Z _).mono ?_
  rintro e w4 ⟨rfl, hb4⟩
  have hc := (BX.first w3 _ _ _ _ _ _ _).step hb4
  clear hb4 Z
  obtain ⟨⟨q0, q1, q2, q3, q4, q5⟩, hf, hz, hB⟩ := id hc
  cases zok
  · go_wp2_with fail
    go_ret2
    refine ⟨?_, bn hB3 hB⟩
    rw [show res = (0, false) by rw [← HF.out]; simp [hl]]
    rfl
  go_wp2_with fail
  refine (S _).mono ?_
  rintro e w5 ⟨rfl, hb5⟩
  go_wp2_with fail
  go_ret2
  refine ⟨?_, bn (bn hB3 hB) hb5⟩
  rw [show res = (v, vok) by rw [← HF.out]; simp [hl]]
  rfl
theorem i64_small {a : Int} (h0 : 0 ≤ a) (h1 : a ≤ 99) : Is64 a := by unfold Is64; omega
set_option maxHeartbeats 1000000 in
theorem full_any (s : ByteArray) (hs : s.size ≤ 1000) (l : Nat) (w : World) : Calls Tryz.prog 76 #[.string s, .int .i64 l] w (ZonPost (Sm.fullF s l) w) := by
  obtain ⟨k, hk⟩ := first_exists s 84
  rcases id hk with ⟨n, rfl, hn, h1, h2⟩ | ⟨rfl, h2⟩
  · have C := fun w => cut_any s n hk (by omega) w
    unfold cutT at C
    rw [if_neg (by omega)] at C
    have e : ((n : Int)).toNat = n := rfl
    rw [e] at C
    by_cases h10 : n = 10 ∧ Sm.dayB s = true
    · obtain ⟨rfl, hd⟩ := h10
      have hB : ∀ i, i < 10 → Sm.B (s.extract 0 10) i = Sm.B s i := fun i hi => by rw [Sm.B_extract, if_pos (by omega), Nat.zero_add]
      obtain ⟨e0, e5, e8, ed⟩ := Sm.same_day hB
      have hsz : (s.extract 0 10).size = 10 := by simp; omega
      have hF : Sm.fullF s l = Sm.tailF s (s.extract 11 s.size) l := by unfold Sm.fullF; rw [if_pos ⟨hd, h1⟩]
      rw [hF]
      generalize hr : s.extract (10 + 1) s.size = r at C
      have hr' : s.extract 11 s.size = r := hr
      try rw [hr']
      have hrs : r.size ≤ 1000 := by rw [← hr]; simp; omega
      have hbd := Sm.clk_bd r
      have hle := Sm.clk_le r
      have K := fun w => sclock_any r hrs w
      unfold Sm.tailF
      generalize Sm.clkF r = ck at *
      obtain ⟨hh, mi, x, n, ok⟩ := ck
      simp only at hbd hle K ⊢
      obtain ⟨c1, c2, c3, c4, c5, c6⟩ := hbd
      have Z := fun w => szone_any (r.extract n r.size) w
      generalize Sm.zonF (r.extract n r.size) = zk at *
      obtain ⟨east, zok⟩ := zk
      simp only at Z ⊢
      have hdd : Sm.dayB (s.extract 0 10) = true := ed.trans hd
      obtain ⟨q0, _, q5, _, q8⟩ := (Sm.dayB_iff _).1 hdd
      obtain ⟨kk, sok, g1, g2, g3⟩ := secR_call (Sm.n4 s 0) (Sm.n2 s 5) (Sm.n2 s 8) hh mi x east (i64_small c1 c2) (i64_small c3 c4) (i64_small c5 c6)
      rw [← e0, ← e5, ← e8] at g2 g3 ⊢
      generalize hsr : Sm.secR (Sm.n4 (s.extract 0 10) 0) (Sm.n2 (s.extract 0 10) 5) (Sm.n2 (s.extract 0 10) 8) hh mi x east = sr at *
      obtain ⟨v, vok⟩ := sr
      simp only at g2 g3 ⊢
      subst g2
      have S := fun w => sec_10 (s.extract 0 10) hsz q0 q5 q8 0 0 0 hh mi x east v kk vok g1 g3 w
      have := full_in s (s.extract 0 10) r l w C ((Sm.form_day _ hsz).trans hdd) hh mi x n ok hle K east zok Z v vok S
      have hle : ((l : Int) ≤ n) ↔ l ≤ n := by omega
      by_cases q : ok = true ∧ l ≤ n
      · rw [if_pos ⟨q.1, hle.2 q.2⟩] at this
        rw [if_pos q]; exact this
      · rw [if_neg (fun k => q ⟨k.1, hle.1 k.2⟩)] at this
        rw [if_neg q]; exact this
    · have hform : Sm.formB (s.extract 0 n) ⟨#[48, 48, 48, 48, 45, 48, 48, 45, 48, 48]⟩ = false := by
        by_cases e10 : n = 10
        · subst e10
          have hsz : (s.extract 0 10).size = 10 := by simp; omega
          rw [Sm.form_day _ hsz]
          have hB : ∀ i, i < 10 → Sm.B (s.extract 0 10) i = Sm.B s i := fun i hi => by rw [Sm.B_extract, if_pos (by omega), Nat.zero_add]
          rw [(Sm.same_day hB).2.2.2]
          cases hd : Sm.dayB s
          · rfl
          · exact absurd ⟨rfl, hd⟩ h10
        · exact Sm.form_len _ _ (by
            have e2 : (ByteArray.mk #[48, 48, 48, 48, 45, 48, 48, 45, 48, 48]).size = 10 := rfl
            rw [e2]; simp; omega)
      have hF : Sm.fullF s l = (0, false) := by
        unfold Sm.fullF
        rw [if_neg]
        rintro ⟨a, b⟩
        have hnT := Sm.day_noT a
        by_cases q : n < 10
        · exact hnT n q h1
        · by_cases q2 : n = 10
          · exact h10 ⟨q2, a⟩
          · exact h2 10 (by omega) b
      rw [hF]
      exact full_form s _ _ l w C hform
  · have hF : Sm.fullF s l = (0, false) := by
      unfold Sm.fullF
      rw [if_neg]
      rintro ⟨a, b⟩
      exact h2 10 (Sm.B_in (by omega)) b
    rw [hF]
    exact full_miss s hs l w hk
theorem as_0 (w : World) : (Instr.index 77 (.agg #[.string ⟨#[48, 48, 48, 48]⟩, .string ⟨#[48, 48, 48, 48, 45, 48, 48]⟩, .string ⟨#[48, 48, 48, 48, 45, 48, 48, 45, 48, 48]⟩]) (.int .i64 0)).run Tryz.prog w = .ok (.string ⟨#[48, 48, 48, 48]⟩) w := by kernel_rfl
theorem as_1 (w : World) : (Instr.index 77 (.agg #[.string ⟨#[48, 48, 48, 48]⟩, .string ⟨#[48, 48, 48, 48, 45, 48, 48]⟩, .string ⟨#[48, 48, 48, 48, 45, 48, 48, 45, 48, 48]⟩]) (.int .i64 1)).run Tryz.prog w = .ok (.string ⟨#[48, 48, 48, 48, 45, 48, 48]⟩) w := by kernel_rfl
theorem as_2 (w : World) : (Instr.index 77 (.agg #[.string ⟨#[48, 48, 48, 48]⟩, .string ⟨#[48, 48, 48, 48, 45, 48, 48]⟩, .string ⟨#[48, 48, 48, 48, 45, 48, 48, 45, 48, 48]⟩]) (.int .i64 2)).run Tryz.prog w = .ok (.string ⟨#[48, 48, 48, 48, 45, 48, 48, 45, 48, 48]⟩) w := by kernel_rfl
set_option maxHeartbeats 1000000 in
theorem w3c_core (s : ByteArray) (b1 b2 b3 : Bool) (f1 : Sm.formB s ⟨#[48, 48, 48, 48]⟩ = b1) (f2 : Sm.formB s ⟨#[48, 48, 48, 48, 45, 48, 48]⟩ = b2) (f3 : Sm.formB s ⟨#[48, 48, 48, 48, 45, 48, 48, 45, 48, 48]⟩ = b3) (r1 r2 : Int × Bool)
    (S : b1 = true ∨ b2 = true ∨ b3 = true → ∀ w, Calls Tryz.prog 75 #[.string s, .agg #[.int .i64 0, .int .i64 0, .int .i64 0, .int .i64 0, .int .i64 0, .int .i64 0], .int .i64 0] w (ZonPost r1 w))
    (C : ∀ w, Calls Tryz.prog 76 #[.string s, .int .i64 5] w (ZonPost r2 w)) (w : World) :
    Calls Tryz.prog 30 #[.string s] w (ZonPost (if b1 = true ∨ b2 = true ∨ b3 = true then r1 else r2) w) := by
  generalize hF : (if b1 = true ∨ b2 = true ∨ b3 = true then r1 else r2) = res
  have HF := Lib.hid hF
  have HS := Lib.hid S
  clear hF S
  go_enter Tryz.func30, Tryz.ntmps30
  go_wp2_with fail
  go_loopw [7] (fun k wr => ((k = .int .i64 0) ∨ (k = .int .i64 1 ∧ b1 = false) ∨ (k = .int .i64 2 ∧ b1 = false ∧ b2 = false) ∨ (k = .int .i64 3 ∧ b1 = false ∧ b2 = false ∧ b3 = false)) ∧ Below w.heap.size w wr) (fun k _ => 3 - (intOf k).toNat)
  case atStart => exact ⟨Or.inl rfl, Below.refl _ _⟩
  case round =>
    obtain ⟨hk, hB⟩ := hrel
    rcases hk with rfl | ⟨rfl, e1⟩ | ⟨rfl, e1, e2⟩ | ⟨rfl, e1, e2, e3⟩
    · have hi := as_0
      cases b1
      · go_wp2_with fail
        refine (fm _ _ false f1 (by decide) _).mono ?_
        rintro e w2 ⟨rfl, hb2⟩
        go_wp2_with fail
        go_roundw
        case rel => exact ⟨Or.inr (Or.inl ⟨by go_num, by first | rfl | trivial⟩), bn hB hb2⟩
        case measure => simp [intOf]; done
      · go_wp2_with fail
        refine (fm _ _ true f1 (by decide) _).mono ?_
        rintro e w2 ⟨rfl, hb2⟩
        go_wp2_with fail
        refine (HS.out (by simp) _).mono ?_
        rintro e w3 ⟨rfl, hb3⟩
        go_wp2_with fail
        go_ret2
        rw [show res = r1 by rw [← HF.out]; simp]
        exact ⟨rfl, bn (bn hB hb2) hb3⟩
    · have hi := as_1
      cases b2
      · go_wp2_with fail
        refine (fm _ _ false f2 (by decide) _).mono ?_
        rintro e w2 ⟨rfl, hb2⟩
        go_wp2_with fail
        go_roundw
        case rel => exact ⟨Or.inr (Or.inr (Or.inl ⟨by go_num, e1, by first | rfl | trivial⟩)), bn hB hb2⟩
        case measure => simp [intOf]; done
      · go_wp2_with fail
        refine (fm _ _ true f2 (by decide) _).mono ?_
        rintro e w2 ⟨rfl, hb2⟩
        go_wp2_with fail
        refine (HS.out (by simp) _).mono ?_
        rintro e w3 ⟨rfl, hb3⟩
        go_wp2_with fail
        go_ret2
        rw [show res = r1 by rw [← HF.out]; simp]
        exact ⟨rfl, bn (bn hB hb2) hb3⟩
    · have hi := as_2
      cases b3
      · go_wp2_with fail
        refine (fm _ _ false f3 (by decide) _).mono ?_
        rintro e w2 ⟨rfl, hb2⟩
        go_wp2_with fail
        go_roundw
        case rel => exact ⟨Or.inr (Or.inr (Or.inr ⟨by go_num, e1, e2, by first | rfl | trivial⟩)), bn hB hb2⟩
        case measure => simp [intOf]; done
      · go_wp2_with fail
        refine (fm _ _ true f3 (by decide) _).mono ?_
        rintro e w2 ⟨rfl, hb2⟩
        go_wp2_with fail
        refine (HS.out (by simp) _).mono ?_
        rintro e w3 ⟨rfl, hb3⟩
        go_wp2_with fail
        go_ret2
        rw [show res = r1 by rw [← HF.out]; simp]
        exact ⟨rfl, bn (bn hB hb2) hb3⟩
    · go_wp2_with fail
      refine (C _).mono ?_
      rintro e w3 ⟨rfl, hb3⟩
      go_wp2_with fail
      go_ret2
      rw [show res = r2 by rw [← HF.out]; simp [e1, e2, e3]]
      exact ⟨rfl, bn hB hb3⟩
end Go.Proofs.YtbhafhbaldddiaaGreatDoor
namespace Go.Proofs.YtbhafhbaldddiaaGreatDoor
open Go.RowKit
open Go
set_option linter.unusedVariables false
theorem zero_64 : Is64 0 := by unfold Is64; omega
theorem w3c_any (s : ByteArray) (hs : s.size ≤ 1000) (w : World) : Calls Tryz.prog 30 #[.string s] w (ZonPost (Sm.w3cF s) w) := by
  have C := fun w => full_any s hs 5 w
  by_cases h4 : s.size = 4
  · have f1 := Sm.form_4 s h4
    have f2 : Sm.formB s ⟨#[48, 48, 48, 48, 45, 48, 48]⟩ = false := Sm.form_len _ _ (by intro k; have : s.size = 7 := k; omega)
    have f3 : Sm.formB s ⟨#[48, 48, 48, 48, 45, 48, 48, 45, 48, 48]⟩ = false := Sm.form_len _ _ (by intro k; have : s.size = 10 := k; omega)
    obtain ⟨kk, ok, g1, g2, g3⟩ := secR_call (Sm.n4 s 0) 1 1 0 0 0 0 zero_64 zero_64 zero_64
    have := w3c_core s (Sm.d4 s 0) false false f1 f2 f3 (Sm.secR (Sm.n4 s 0) 1 1 0 0 0 0) _ (fun hd w => by
      have hd : Sm.d4 s 0 = true := by simpa using hd
      have := sec_4 s h4 hd 0 0 0 0 0 0 0 _ kk ok g1 g3 w
      rw [← g2] at this; exact this) C w
    unfold Sm.w3cF
    by_cases q : Sm.d4 s 0 = true
    · rw [if_pos ⟨h4, q⟩]; rw [if_pos (Or.inl q)] at this; exact this
    · rw [if_neg (fun k => q k.2), if_neg (by omega), if_neg (by omega)]
      rw [if_neg (by simpa using q)] at this; exact this
  · have f1 : Sm.formB s ⟨#[48, 48, 48, 48]⟩ = false := Sm.form_len _ _ (by intro k; have : s.size = 4 := k; omega)
    by_cases h7 : s.size = 7
    · have f2 := Sm.form_7 s h7
      have f3 : Sm.formB s ⟨#[48, 48, 48, 48, 45, 48, 48, 45, 48, 48]⟩ = false := Sm.form_len _ _ (by intro k; have : s.size = 10 := k; omega)
      obtain ⟨kk, ok, g1, g2, g3⟩ := secR_call (Sm.n4 s 0) (Sm.n2 s 5) 1 0 0 0 0 zero_64 zero_64 zero_64
      have := w3c_core s false _ false f1 f2 f3 (Sm.secR (Sm.n4 s 0) (Sm.n2 s 5) 1 0 0 0 0) _ (fun hd w => by
        have hd : (Sm.d4 s 0 = true ∧ Sm.B s 4 = 45) ∧ Sm.d2 s 5 = true := by simpa using hd
        have := sec_7 s h7 hd.1.1 hd.2 0 0 0 0 0 0 0 _ kk ok g1 g3 w
        rw [← g2] at this; exact this) C w
      unfold Sm.w3cF
      rw [if_neg (fun k => h4 k.1)]
      by_cases q : (Sm.d4 s 0 = true ∧ Sm.B s 4 = 45) ∧ Sm.d2 s 5 = true
      · rw [if_pos ⟨h7, q.1.1, q.1.2, q.2⟩]; rw [if_pos (by simpa using q)] at this; exact this
      · rw [if_neg (fun k => q ⟨⟨k.2.1, k.2.2.1⟩, k.2.2.2⟩), if_neg (by omega)]
        rw [if_neg (by simpa using q)] at this; exact this
    · have f2 : Sm.formB s ⟨#[48, 48, 48, 48, 45, 48, 48]⟩ = false := Sm.form_len _ _ (by intro k; have : s.size = 7 := k; omega)
      unfold Sm.w3cF
      rw [if_neg (fun k => h4 k.1), if_neg (fun k => h7 k.1)]
      by_cases h10 : s.size = 10
      · have f3 := Sm.form_day s h10
        obtain ⟨kk, ok, g1, g2, g3⟩ := secR_call (Sm.n4 s 0) (Sm.n2 s 5) (Sm.n2 s 8) 0 0 0 0 zero_64 zero_64 zero_64
        have := w3c_core s false false _ f1 f2 f3 (Sm.secR (Sm.n4 s 0) (Sm.n2 s 5) (Sm.n2 s 8) 0 0 0 0) _ (fun hd w => by
          have hd : Sm.dayB s = true := by simpa using hd
          obtain ⟨q0, _, q5, _, q8⟩ := (Sm.dayB_iff _).1 hd
          have := sec_10 s h10 q0 q5 q8 0 0 0 0 0 0 0 _ kk ok g1 g3 w
          rw [← g2] at this; exact this) C w
        by_cases q : Sm.dayB s = true
        · rw [if_pos ⟨h10, q⟩]; rw [if_pos (Or.inr (Or.inr q))] at this; exact this
        · rw [if_neg (fun k => q k.2)]
          rw [if_neg (by simpa using q)] at this; exact this
      · rw [if_neg (fun k => h10 k.1)]
        have := w3c_core s false false false f1 f2 (Sm.form_len _ _ (by intro k; exact h10 k)) (0, false) _ (fun hd w => by simp at hd) C w
        rw [if_neg (by simp)] at this; exact this
end Go.Proofs.YtbhafhbaldddiaaGreatDoor
