/- Plain laws on stamps: zones, fractions. No program in sight. -/
import Derived.Test.YtcdnjaefijjliaaSmG
namespace Sm
theorem B_app (a b : ByteArray) (i : Nat) : B (a ++ b) i = if i < a.size then B a i else B b (i - a.size) := by
  unfold B
  rw [ByteArray.data_append]
  have hs : a.data.size = a.size := rfl
  by_cases h : i < a.size
  · rw [if_pos h, Array.getElem?_append_left (by omega)]
  · rw [if_neg h, Array.getElem?_append_right (by omega), hs]
theorem size_app (a b : ByteArray) : (a ++ b).size = a.size + b.size := by simp [ByteArray.size_append]
section
variable {y m d h mi x : Int}
theorem cut_size : ((textB y m d h mi x).extract 0 19).size = 19 := by rw [size_extract, text_size]; rfl
theorem beg_cut (z : ByteArray) : Beg ((textB y m d h mi x).extract 0 19 ++ z) y m d h mi x := fun i hi => by
  rw [B_app, cut_size, if_pos hi, B_extract, if_pos (by omega), Nat.zero_add]
theorem cut_B (z : ByteArray) (i : Nat) : B ((textB y m d h mi x).extract 0 19 ++ z) (19 + i) = B z i := by
  rw [B_app, cut_size, if_neg (by omega)]
  congr 1; omega
theorem cut_rest (z : ByteArray) (n : Nat) : ((textB y m d h mi x).extract 0 19 ++ z).extract (19 + n) ((textB y m d h mi x).extract 0 19 ++ z).size = z.extract n z.size := by
  apply ext
  · simp only [size_extract, size_app, text_size]; omega
  · intro i hi
    rw [B_tail, B_tail, Nat.add_assoc, cut_B]
theorem extract_all (z : ByteArray) : z.extract 0 z.size = z := by
  apply ext
  · simp only [size_extract]; omega
  · intro i hi
    rw [B_tail, Nat.zero_add]
/-- A text with another zone. -/
theorem full_zone (hm : Cv.mayB y m d h mi x = true) (z : ByteArray) (hz : B z 0 ≠ 46) : fullF ((textB y m d h mi x).extract 0 19 ++ z) 8 = if (zonF z).2 = true then secR y m d h mi x (zonF z).1 else (0, false) := by
  have hd : B ((textB y m d h mi x).extract 0 19 ++ z) 19 ≠ 46 := by rw [cut_B z 0]; exact hz
  rw [full_beg (beg_cut z) hm 8 (Nat.le_refl _), beg_end hd]
  have e := cut_rest (y := y) (m := m) (d := d) (h := h) (mi := mi) (x := x) z 0
  rw [extract_all] at e
  rw [show 11 + 8 = 19 + 0 from rfl, e]
end
/-- A zone's text. -/
def zoneB (s : UInt8) (h m : Int) : ByteArray := ⟨#[s, c (h / 10), c h, 58, c (m / 10), c m]⟩
theorem zone_read (s : UInt8) (hs : s = 43 ∨ s = 45) (h m : Int) (b0 : 0 ≤ h ∧ h ≤ 23) (b1 : 0 ≤ m ∧ m ≤ 59) : zonF (zoneB s h m) = (if s = 45 then -(h * 60 + m) else h * 60 + m, true) := by
  have hne : zoneB s h m ≠ ⟨#[90]⟩ := fun e => by
    have : (zoneB s h m).size = 1 := by rw [e]; rfl
    cases this
  have h6 : (zoneB s h m).size = 6 := rfl
  have e0 : B (zoneB s h m) 0 = s.toNat := rfl
  have e3 : B (zoneB s h m) 3 = 58 := rfl
  obtain ⟨g1, v1⟩ := of_c (s := zoneB s h m) (i := 1) (n := h / 10) rfl
  obtain ⟨g2, v2⟩ := of_c (s := zoneB s h m) (i := 2) (n := h) rfl
  obtain ⟨g4, v4⟩ := of_c (s := zoneB s h m) (i := 4) (n := m / 10) rfl
  obtain ⟨g5, v5⟩ := of_c (s := zoneB s h m) (i := 5) (n := m) rfl
  have k1 : n2 (zoneB s h m) 1 = h := by show v (zoneB s h m) 1 * 10 + v (zoneB s h m) 2 = h; omega
  have k4 : n2 (zoneB s h m) 4 = m := by show v (zoneB s h m) 4 * 10 + v (zoneB s h m) 5 = m; omega
  unfold zonF
  rw [if_neg hne, k1, k4, e0]
  rcases hs with rfl | rfl
  · rw [if_pos ⟨h6, by decide, (d2_iff _ _).2 ⟨g1, g2⟩, e3, (d2_iff _ _).2 ⟨g4, g5⟩, by omega, by omega⟩, if_neg (by decide), if_neg (by decide)]
  · rw [if_pos ⟨h6, by decide, (d2_iff _ _).2 ⟨g1, g2⟩, e3, (d2_iff _ _).2 ⟨g4, g5⟩, by omega, by omega⟩, if_pos (by decide), if_pos rfl]
theorem zoneB_0 (s : UInt8) (hs : s = 43 ∨ s = 45) (h m : Int) : B (zoneB s h m) 0 ≠ 46 := by
  show s.toNat ≠ 46
  rcases hs with rfl | rfl <;> decide
/-- A fraction's text. -/
def frac (k : Nat) : ByteArray := ⟨(46 :: List.replicate k 55).toArray⟩
theorem frac_size (k : Nat) : (frac k).size = k + 1 := by
  show (46 :: List.replicate k (55 : UInt8)).toArray.size = k + 1
  simp
theorem frac_0 (k : Nat) : B (frac k) 0 = 46 := rfl
theorem frac_at (k i : Nat) (h : i < k) : B (frac k) (i + 1) = 55 := by
  unfold B frac
  simp [h]
theorem frac_step (k : Nat) : frac k ++ ⟨#[55]⟩ = frac (k + 1) := by
  apply ext
  · rw [size_app, frac_size, frac_size]; rfl
  · intro i hi
    rw [size_app, frac_size] at hi
    have hi : i < k + 2 := hi
    rw [B_app, frac_size]
    by_cases q : i < k + 1
    · rw [if_pos q]
      cases i with
      | zero => rfl
      | succ i => rw [frac_at k i (by omega), frac_at (k + 1) i (by omega)]
    · rw [if_neg q]
      obtain rfl : i = k + 1 := by omega
      rw [frac_at (k + 1) k (by omega), Nat.sub_self]; rfl
section
variable {y m d h mi x : Int}
theorem frac_core (S F : ByteArray) (k : Nat) (h1 : 1 ≤ k) (hm : Cv.mayB y m d h mi x = true) (hb : Beg S y m d h mi x) (hB : ∀ i, B S (19 + i) = B F i) (hsz : S.size = 21 + k)
    (z0 : B F 0 = 46) (z1 : ∀ i, i < k → B F (i + 1) = 55) (z2 : B F (k + 1) = 90) : fullF S 8 = (Cv.secV y m d h mi x 0, true) := by
  have hend : endN (S.extract 11 S.size) = 9 + k := by
    have rB : ∀ i, B (S.extract 11 S.size) (8 + i) = B F i := fun i => by
      rw [B_tail, ← hB i]; congr 1; omega
    have rs : (S.extract 11 S.size).size = 10 + k := by
      rw [size_extract, hsz]; omega
    refine endN_exit _ (9 + k) ?_ (by omega) (by omega) ?_ ?_
    · exact (rB 0).trans z0
    · intro i a b
      obtain ⟨j, rfl⟩ : ∃ j, i = 8 + (j + 1) := ⟨i - 9, by omega⟩
      rw [dig_iff, rB, z1 j (by omega)]; omega
    · have e := rB (k + 1)
      rw [z2, show 8 + (k + 1) = 9 + k by omega] at e
      unfold dig
      rw [e]; rfl
  rw [full_beg hb hm 8 (Nat.le_refl _), hend]
  have e : S.extract (11 + (9 + k)) S.size = ⟨#[90]⟩ := by
    apply ext
    · rw [size_extract, hsz]; show min (21 + k) (21 + k) - (11 + (9 + k)) = 1; omega
    · intro i hi
      rw [size_extract, hsz] at hi
      obtain rfl : i = 0 := by omega
      rw [B_tail, show 11 + (9 + k) + 0 = 19 + (k + 1) by omega, hB, z2]; rfl
  have z : zonF ⟨#[90]⟩ = (0, true) := by unfold zonF; rw [if_pos rfl]
  rw [e, z]
  simp only [if_true]
  exact secR_0 hm
theorem full_frac (hm : Cv.mayB y m d h mi x = true) (k : Nat) (h1 : 1 ≤ k) : fullF ((textB y m d h mi x).extract 0 19 ++ (frac k ++ ⟨#[90]⟩)) 8 = (Cv.secV y m d h mi x 0, true) := by
  refine frac_core _ (frac k ++ ⟨#[90]⟩) k h1 hm (beg_cut _) (fun i => cut_B _ i) ?_ ?_ (fun i hi => ?_) ?_
  · rw [size_app, cut_size, size_app, frac_size]
    show 19 + (k + 1 + 1) = 21 + k
    omega
  · rw [B_app, frac_size, if_pos (by omega)]; exact frac_0 k
  · rw [B_app, frac_size, if_pos (by omega), frac_at k i hi]
  · rw [B_app, frac_size, if_neg (by omega), Nat.sub_self]; rfl
theorem secR_east (hm : Cv.mayB y m d h mi x = true) (e : Int) (he : -1439 ≤ e ∧ e ≤ 1439) : secR y m d h mi x e =
    if -62135596800 ≤ Cv.secV y m d h mi x 0 - e * 60 ∧ Cv.secV y m d h mi x 0 - e * 60 ≤ 253402300799 then (Cv.secV y m d h mi x 0 - e * 60, true) else (0, false) := by
  have hv : Cv.secV y m d h mi x e = Cv.secV y m d h mi x 0 - e * 60 := by unfold Cv.secV; omega
  unfold secR
  by_cases q : -62135596800 ≤ Cv.secV y m d h mi x 0 - e * 60 ∧ Cv.secV y m d h mi x 0 - e * 60 ≤ 253402300799
  · rw [if_pos q, if_pos ((Cv.secOk_iff _ _ _ _ _ _ _).2 ⟨hm, he.1, he.2, by omega, by omega⟩), hv]
  · rw [if_neg q, if_neg]
    intro k
    have := (Cv.secOk_iff _ _ _ _ _ _ _).1 k
    omega
end
end Sm
