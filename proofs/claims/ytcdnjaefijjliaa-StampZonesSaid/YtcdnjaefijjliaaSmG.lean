/- Plain laws on stamps: what was written is read as the second. No program in sight. -/
import Derived.Test.YtcdnjaefijjliaaSmF
namespace Sm
theorem B_tail (s : ByteArray) (a i : Nat) : B (s.extract a s.size) i = B s (a + i) := by
  rw [B_extract]
  by_cases h : a + i < s.size
  · rw [if_pos h]
  · rw [if_neg h, B_end s (a + i) (by omega)]
theorem of_c {s : ByteArray} {i : Nat} {n : Int} (h : B s i = (c n).toNat) : dig s i = true ∧ v s i = n % 10 := by
  have := c_nat n
  constructor
  · rw [dig_iff]; omega
  · unfold v; omega
/-- A text that begins as a second's text does, up to its zone. -/
def Beg (s : ByteArray) (y m d h mi x : Int) : Prop := ∀ i, i < 19 → B s i = B (textB y m d h mi x) i
section
variable {s : ByteArray} {y m d h mi x : Int}
theorem beg_text : Beg (textB y m d h mi x) y m d h mi x := fun _ _ => rfl
theorem beg_day (hb : Beg s y m d h mi x) (b0 : 0 ≤ y ∧ y ≤ 9999) (b1 : 0 ≤ m ∧ m ≤ 99) (b2 : 0 ≤ d ∧ d ≤ 99) : n4 s 0 = y ∧ n2 s 5 = m ∧ n2 s 8 = d ∧ dayB s = true ∧ B s 10 = 84 := by
  obtain ⟨g0, v0⟩ := of_c (n := y / 1000) (hb 0 (by omega))
  obtain ⟨g1, v1⟩ := of_c (n := y / 100) (hb 1 (by omega))
  obtain ⟨g2, v2⟩ := of_c (n := y / 10) (hb 2 (by omega))
  obtain ⟨g3, v3⟩ := of_c (n := y) (hb 3 (by omega))
  have e4 : B s 4 = 45 := hb 4 (by omega)
  obtain ⟨g5, v5⟩ := of_c (n := m / 10) (hb 5 (by omega))
  obtain ⟨g6, v6⟩ := of_c (n := m) (hb 6 (by omega))
  have e7 : B s 7 = 45 := hb 7 (by omega)
  obtain ⟨g8, v8⟩ := of_c (n := d / 10) (hb 8 (by omega))
  obtain ⟨g9, v9⟩ := of_c (n := d) (hb 9 (by omega))
  have e10 : B s 10 = 84 := hb 10 (by omega)
  refine ⟨?_, ?_, ?_, ?_, e10⟩
  · unfold n4; simp only [Nat.zero_add]; omega
  · show v s 5 * 10 + v s 6 = m; omega
  · show v s 8 * 10 + v s 9 = d; omega
  · rw [dayB_iff, d4_iff, d2_iff, d2_iff]
    exact ⟨⟨g0, g1, g2, g3⟩, e4, ⟨g5, g6⟩, e7, g8, g9⟩
theorem beg_clk (hb : Beg s y m d h mi x) (b3 : 0 ≤ h ∧ h ≤ 23) (b4 : 0 ≤ mi ∧ mi ≤ 59) (b5 : 0 ≤ x ∧ x ≤ 59) : clkF (s.extract 11 s.size) = (h, mi, x, endN (s.extract 11 s.size), true) := by
  have hr : ∀ i, i < 8 → B (s.extract 11 s.size) i = B (textB y m d h mi x) (11 + i) := fun i hi => by rw [B_tail, hb (11 + i) (by omega)]
  generalize s.extract 11 s.size = r at *
  obtain ⟨g0, v0⟩ := of_c (n := h / 10) (hr 0 (by omega))
  obtain ⟨g1, v1⟩ := of_c (n := h) (hr 1 (by omega))
  have e2 : B r 2 = 58 := hr 2 (by omega)
  obtain ⟨g3, v3⟩ := of_c (n := mi / 10) (hr 3 (by omega))
  obtain ⟨g4, v4⟩ := of_c (n := mi) (hr 4 (by omega))
  have e5 : B r 5 = 58 := hr 5 (by omega)
  obtain ⟨g6, v6⟩ := of_c (n := x / 10) (hr 6 (by omega))
  obtain ⟨g7, v7⟩ := of_c (n := x) (hr 7 (by omega))
  have k0 : n2 r 0 = h := by unfold n2; simp only [Nat.zero_add]; omega
  have k3 : n2 r 3 = mi := by show v r 3 * 10 + v r 4 = mi; omega
  have k6 : n2 r 6 = x := by show v r 6 * 10 + v r 7 = x; omega
  have hh : hmB r = true := by rw [hmB_iff, d2_iff, d2_iff]; exact ⟨⟨g0, g1⟩, e2, g3, g4⟩
  have hs : seB r = true := by rw [seB_iff, d2_iff]; exact ⟨e5, g6, g7⟩
  unfold clkF
  rw [if_pos ⟨hh, by omega, by omega⟩, if_pos ⟨hs, by omega⟩, k0, k3, k6]
theorem endN_ge (r : ByteArray) : 8 ≤ endN r := by
  unfold endN
  split
  · have : ∀ f n, n ≤ runF r f n := by
      intro f
      induction f with
      | zero => intro n; exact Nat.le_refl _
      | succ f ih =>
        intro n
        unfold runF
        split
        · have := ih (n + 1); omega
        · exact Nat.le_refl _
    have := this r.size 9
    unfold run; omega
  · omega
/-- What such a text is read as. -/
theorem full_beg (hb : Beg s y m d h mi x) (hm : Cv.mayB y m d h mi x = true) (l : Nat) (hl : l ≤ 8) :
    fullF s l = if (zonF (s.extract (11 + endN (s.extract 11 s.size)) s.size)).2 = true then secR y m d h mi x (zonF (s.extract (11 + endN (s.extract 11 s.size)) s.size)).1 else (0, false) := by
  obtain ⟨hv, h1⟩ := (Cv.may_iff y m d h mi x).1 hm
  have hvb := Cv.vld_bd hv
  obtain ⟨e0, e5, e8, ed, e10⟩ := beg_day hb (by omega) (by omega) (by omega)
  have hc := beg_clk hb (by omega) (by omega) (by omega)
  have hge := endN_ge (s.extract 11 s.size)
  unfold fullF tailF
  rw [if_pos ⟨ed, e10⟩, hc, e0, e5, e8]
  simp only
  rw [if_pos ⟨by trivial, by omega⟩, extract_extract]
/-- Such a text's zone begins behind its seconds, if no fraction stands there. -/
theorem beg_end (hd : B s 19 ≠ 46) : endN (s.extract 11 s.size) = 8 := by
  unfold endN
  rw [if_neg]
  rintro ⟨k, _⟩
  rw [B_tail] at k
  exact hd k
theorem sec_ok (hm : Cv.mayB y m d h mi x = true) : Cv.secOk y m d h mi x 0 = true := by
  obtain ⟨hv, h1⟩ := (Cv.may_iff y m d h mi x).1 hm
  have := Cv.num_bd hv
  rw [Cv.secOk_iff]
  unfold Cv.secV
  exact ⟨hm, by omega, by omega, by omega, by omega⟩
theorem sec_rng (hm : Cv.mayB y m d h mi x = true) : -62135596800 ≤ Cv.secV y m d h mi x 0 ∧ Cv.secV y m d h mi x 0 ≤ 253402300799 := by
  have := (Cv.secOk_iff y m d h mi x 0).1 (sec_ok hm)
  exact ⟨this.2.2.2.1, this.2.2.2.2⟩
theorem secR_0 (hm : Cv.mayB y m d h mi x = true) : secR y m d h mi x 0 = (Cv.secV y m d h mi x 0, true) := by unfold secR; rw [if_pos (sec_ok hm)]
/-- What was written is read as the second. -/
theorem full_text (hm : Cv.mayB y m d h mi x = true) (l : Nat) (hl : l ≤ 8) : fullF (textB y m d h mi x) l = (Cv.secV y m d h mi x 0, true) := by
  rw [full_beg beg_text hm l hl, beg_end (by show ¬ (90 : Nat) = 46; decide)]
  have e : (textB y m d h mi x).extract (11 + 8) (textB y m d h mi x).size = ⟨#[90]⟩ := by
    apply ext
    · rw [size_extract, text_size]; rfl
    · intro i hi
      rw [size_extract, text_size] at hi
      obtain rfl : i = 0 := by omega
      rw [B_tail]; rfl
  have z : zonF ⟨#[90]⟩ = (0, true) := by unfold zonF; rw [if_pos rfl]
  rw [e, z]
  simp only [if_true]
  exact secR_0 hm
theorem w3c_text (hm : Cv.mayB y m d h mi x = true) : w3cF (textB y m d h mi x) = (Cv.secV y m d h mi x 0, true) := by
  unfold w3cF
  rw [text_size, if_neg (by omega), if_neg (by omega), if_neg (by omega)]
  exact full_text hm 5 (by omega)
end
/-- What the strict grammar takes the wider one takes, as the same. -/
theorem full_w3c (s : ByteArray) (h : (fullF s 8).2 = true) : w3cF s = fullF s 8 ∧ -62135596800 ≤ (fullF s 8).1 ∧ (fullF s 8).1 ≤ 253402300799 := by
  unfold fullF at h
  split at h
  · rename_i k
    have h10 : 10 < s.size := B_in (by omega)
    have e3 : w3cF s = fullF s 5 := by
      unfold w3cF
      rw [if_neg (by omega), if_neg (by omega), if_neg (by omega)]
    rw [e3]
    unfold fullF
    rw [if_pos k, if_pos k]
    unfold tailF at h ⊢
    split at h
    · rename_i q
      rw [if_pos q, if_pos ⟨q.1, by omega⟩]
      split at h
      · rename_i z
        rw [if_pos z]
        refine ⟨rfl, ?_⟩
        unfold secR at h ⊢
        split at h
        · rename_i o
          rw [if_pos o]
          have := (Cv.secOk_iff _ _ _ _ _ _ _).1 o
          exact ⟨this.2.2.2.1, this.2.2.2.2⟩
        · cases h
      · cases h
    · cases h
  · cases h
end Sm
