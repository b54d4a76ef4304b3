/- Plain laws on stamps: a whole stamp, either grammar. No program in sight. -/
import Derived.Test.YtbhafhbaldddiaaSm
import Derived.Test.YtbhafhbaldddiaaCal
namespace Sm
/-- A time as a second, or not. -/
def secR (y m d h mi x e : Int) : Int × Bool := if Cv.secOk y m d h mi x e = true then (Cv.secV y m d h mi x e, true) else (0, false)
def tailF (s r : ByteArray) (least : Nat) : Int × Bool :=
  if (clkF r).2.2.2.2 = true ∧ least ≤ (clkF r).2.2.2.1 then
    if (zonF (r.extract (clkF r).2.2.2.1 r.size)).2 = true then secR (n4 s 0) (n2 s 5) (n2 s 8) (clkF r).1 (clkF r).2.1 (clkF r).2.2.1 (zonF (r.extract (clkF r).2.2.2.1 r.size)).1 else (0, false)
  else (0, false)
def fullF (s : ByteArray) (least : Nat) : Int × Bool := if dayB s = true ∧ B s 10 = 84 then tailF s (s.extract 11 s.size) least else (0, false)
def w3cF (s : ByteArray) : Int × Bool :=
  if s.size = 4 ∧ d4 s 0 = true then secR (n4 s 0) 1 1 0 0 0 0
  else if s.size = 7 ∧ d4 s 0 = true ∧ B s 4 = 45 ∧ d2 s 5 = true then secR (n4 s 0) (n2 s 5) 1 0 0 0 0
  else if s.size = 10 ∧ dayB s = true then secR (n4 s 0) (n2 s 5) (n2 s 8) 0 0 0 0
  else fullF s 5
theorem runF_le (s : ByteArray) : ∀ (f n : Nat), n ≤ s.size → runF s f n ≤ s.size := by
  intro f
  induction f with
  | zero => intro n h; exact h
  | succ f ih =>
    intro n h
    unfold runF
    split
    · rename_i hd; exact ih (n + 1) (dig_in hd)
    · exact h
theorem endN_le (s : ByteArray) (h : 8 ≤ s.size) : endN s ≤ s.size := by
  unfold endN
  split
  · rename_i k; exact runF_le s s.size 9 (by have := dig_in k.2; omega)
  · exact h
theorem clk_le (s : ByteArray) : (clkF s).2.2.2.1 ≤ s.size := by
  unfold clkF
  split
  · rename_i k
    have := hm_size k.1
    split
    · rename_i q
      exact endN_le s (se_size q.1)
    · exact this
  · exact Nat.zero_le _
theorem clk_bd (s : ByteArray) : 0 ≤ (clkF s).1 ∧ (clkF s).1 ≤ 99 ∧ 0 ≤ (clkF s).2.1 ∧ (clkF s).2.1 ≤ 99 ∧ 0 ≤ (clkF s).2.2.1 ∧ (clkF s).2.2.1 ≤ 99 := by
  unfold clkF
  split
  · rename_i k
    obtain ⟨a, b, c⟩ := (hmB_iff s).1 k.1
    have := n2_bd a; have := n2_bd c
    split
    · rename_i q
      have := n2_bd ((seB_iff s).1 q.1).2
      show 0 ≤ n2 s 0 ∧ n2 s 0 ≤ 99 ∧ 0 ≤ n2 s 3 ∧ n2 s 3 ≤ 99 ∧ 0 ≤ n2 s 6 ∧ n2 s 6 ≤ 99
      omega
    · show 0 ≤ n2 s 0 ∧ n2 s 0 ≤ 99 ∧ 0 ≤ n2 s 3 ∧ n2 s 3 ≤ 99 ∧ (0 : Int) ≤ 0 ∧ (0 : Int) ≤ 99
      omega
  · decide
/-- Two texts with the same first bytes. -/
theorem same_day {s t : ByteArray} (h : ∀ i, i < 10 → B t i = B s i) : n4 t 0 = n4 s 0 ∧ n2 t 5 = n2 s 5 ∧ n2 t 8 = n2 s 8 ∧ dayB t = dayB s := by
  have v0 : ∀ i, i < 10 → v t i = v s i := fun i hi => by unfold v; rw [h i hi]
  have g0 : ∀ i, i < 10 → dig t i = dig s i := fun i hi => by unfold dig; rw [h i hi]
  refine ⟨?_, ?_, ?_, ?_⟩
  · unfold n4; rw [v0 0 (by omega), v0 (0 + 1) (by omega), v0 (0 + 2) (by omega), v0 (0 + 3) (by omega)]
  · unfold n2; rw [v0 5 (by omega), v0 (5 + 1) (by omega)]
  · unfold n2; rw [v0 8 (by omega), v0 (8 + 1) (by omega)]
  · unfold dayB d4 d2
    rw [g0 0 (by omega), g0 (0 + 1) (by omega), g0 (0 + 2) (by omega), g0 (0 + 3) (by omega), h 4 (by omega), g0 5 (by omega), g0 (5 + 1) (by omega), h 7 (by omega), g0 8 (by omega), g0 (8 + 1) (by omega)]
theorem day_size {s : ByteArray} (h : dayB s = true) : 10 ≤ s.size := by
  have := dig_in ((d2_iff s 8).1 ((dayB_iff s).1 h).2.2.2.2).2
  omega
/-- Before the end of the day no 'T' stands. -/
theorem day_noT {s : ByteArray} (h : dayB s = true) : ∀ i, i < 10 → B s i ≠ 84 := by
  obtain ⟨a, b, c, d, e⟩ := (dayB_iff s).1 h
  obtain ⟨a0, a1, a2, a3⟩ := (d4_iff s 0).1 a
  obtain ⟨c0, c1⟩ := (d2_iff s 5).1 c
  obtain ⟨e0, e1⟩ := (d2_iff s 8).1 e
  intro i hi k
  have nd : ∀ j, dig s j = true → B s j ≠ 84 := fun j hj q => by have := (dig_iff s j).1 hj; omega
  match i, hi with
  | 0, _ => exact nd 0 a0 k
  | 1, _ => exact nd 1 a1 k
  | 2, _ => exact nd 2 a2 k
  | 3, _ => exact nd 3 a3 k
  | 4, _ => omega
  | 5, _ => exact nd 5 c0 k
  | 6, _ => exact nd 6 c1 k
  | 7, _ => omega
  | 8, _ => exact nd 8 e0 k
  | 9, _ => exact nd 9 e1 k
theorem form_4 (s : ByteArray) (h : s.size = 4) : formB s ⟨#[48, 48, 48, 48]⟩ = d4 s 0 := by
  rw [Bool.eq_iff_iff, form_whole s _ 4 rfl h, d4_iff]
  constructor
  · intro k
    exact ⟨(okc_dig s 0).symm.trans (k 0 (by omega)), (okc_dig s 1).symm.trans (k 1 (by omega)), (okc_dig s 2).symm.trans (k 2 (by omega)), (okc_dig s 3).symm.trans (k 3 (by omega))⟩
  · rintro ⟨k0, k1, k2, k3⟩ i hi
    match i, hi with
    | 0, _ => exact (okc_dig s 0).trans k0
    | 1, _ => exact (okc_dig s 1).trans k1
    | 2, _ => exact (okc_dig s 2).trans k2
    | 3, _ => exact (okc_dig s 3).trans k3
theorem form_7 (s : ByteArray) (h : s.size = 7) : formB s ⟨#[48, 48, 48, 48, 45, 48, 48]⟩ = (d4 s 0 && decide (B s 4 = 45) && d2 s 5) := by
  rw [Bool.eq_iff_iff, form_whole s _ 7 rfl h]
  simp only [Bool.and_eq_true, decide_eq_true_iff, d4_iff, d2_iff]
  constructor
  · intro k
    have k4 : okc (B s 4) 45 = true := k 4 (by omega)
    rw [okc_is _ _ (by decide), decide_eq_true_iff] at k4
    exact ⟨⟨⟨(okc_dig s 0).symm.trans (k 0 (by omega)), (okc_dig s 1).symm.trans (k 1 (by omega)), (okc_dig s 2).symm.trans (k 2 (by omega)), (okc_dig s 3).symm.trans (k 3 (by omega))⟩, k4⟩, (okc_dig s 5).symm.trans (k 5 (by omega)), (okc_dig s 6).symm.trans (k 6 (by omega))⟩
  · rintro ⟨⟨⟨k0, k1, k2, k3⟩, k4⟩, k5, k6⟩ i hi
    match i, hi with
    | 0, _ => exact (okc_dig s 0).trans k0
    | 1, _ => exact (okc_dig s 1).trans k1
    | 2, _ => exact (okc_dig s 2).trans k2
    | 3, _ => exact (okc_dig s 3).trans k3
    | 4, _ => show okc (B s 4) 45 = true; rw [okc_is _ _ (by decide), decide_eq_true_iff]; exact k4
    | 5, _ => exact (okc_dig s 5).trans k5
    | 6, _ => exact (okc_dig s 6).trans k6
end Sm
namespace Sm
/-- A number's last digit as a byte. -/
def c (n : Int) : UInt8 := UInt8.ofNat (48 + n % 10).toNat
theorem c_nat (n : Int) : ((c n).toNat : Int) = 48 + n % 10 := by
  have h : (c n).toNat = (48 + n % 10).toNat := by
    show (UInt8.ofNat (48 + n % 10).toNat).toNat = _
    rw [UInt8.toNat_ofNat']
    have : (48 + n % 10).toNat < 256 := by omega
    omega
  rw [h]; omega
/-- A time as a stamp's twenty bytes. -/
def textL (y m d h mi x : Int) : List UInt8 := [c (y / 1000), c (y / 100), c (y / 10), c y, 45, c (m / 10), c m, 45, c (d / 10), c d, 84, c (h / 10), c h, 58, c (mi / 10), c mi, 58, c (x / 10), c x, 90]
def textB (y m d h mi x : Int) : ByteArray := ⟨(textL y m d h mi x).toArray⟩
theorem text_size (y m d h mi x : Int) : (textB y m d h mi x).size = 20 := rfl
end Sm
namespace Sm
/-- A number of so many digits at a place. -/
def numA (s : ByteArray) (a : Nat) : Nat → Int
  | 0 => 0
  | n + 1 => numA s a n * 10 + v s (a + n)
end Sm
namespace Sm
theorem numA_bd (s : ByteArray) (a : Nat) : ∀ j : Nat, (∀ i, i < j → dig s (a + i) = true) → 0 ≤ numA s a j ∧ numA s a j + 1 ≤ (10 : Int) ^ j
  | 0, _ => by simp [numA]
  | j + 1, h => by
    have ih := numA_bd s a j (fun i hi => h i (by omega))
    have hv := v_bd (h j (by omega))
    unfold numA
    rw [Int.pow_succ]
    omega
theorem numA_small (s : ByteArray) (a j : Nat) (hj : j ≤ 4) (h : ∀ i, i < j → dig s (a + i) = true) : 0 ≤ numA s a j ∧ numA s a j ≤ 9999 := by
  have := numA_bd s a j h
  have h2 : j = 0 ∨ j = 1 ∨ j = 2 ∨ j = 3 ∨ j = 4 := by omega
  rcases h2 with rfl | rfl | rfl | rfl | rfl <;> simp at this <;> omega
theorem numA_2 (s : ByteArray) (a : Nat) : numA s a 2 = n2 s a := by unfold numA numA numA n2; simp
theorem numA_4 (s : ByteArray) (a : Nat) : numA s a 4 = n4 s a := by unfold numA numA numA numA numA n4; simp
theorem all_2 (s : ByteArray) (a : Nat) : (∀ i, i < 2 → dig s (a + i) = true) ↔ d2 s a = true := by
  rw [d2_iff]
  constructor
  · intro h; exact ⟨h 0 (by omega), h 1 (by omega)⟩
  · rintro ⟨h0, h1⟩ i hi
    match i, hi with
    | 0, _ => exact h0
    | 1, _ => exact h1
theorem all_4 (s : ByteArray) (a : Nat) : (∀ i, i < 4 → dig s (a + i) = true) ↔ d4 s a = true := by
  rw [d4_iff]
  constructor
  · intro h; exact ⟨h 0 (by omega), h 1 (by omega), h 2 (by omega), h 3 (by omega)⟩
  · rintro ⟨h0, h1, h2, h3⟩ i hi
    match i, hi with
    | 0, _ => exact h0
    | 1, _ => exact h1
    | 2, _ => exact h2
    | 3, _ => exact h3
theorem all_1 (s : ByteArray) (a : Nat) : (∀ i, i < 1 → dig s (a + i) = true) ↔ dig s a = true := by
  constructor
  · intro h; exact h 0 (by omega)
  · intro h0 i hi
    match i, hi with
    | 0, _ => exact h0
end Sm
namespace Sm
theorem clk_5 (s : ByteArray) (h : (clkF s).2.2.2.2 = true) : 5 ≤ (clkF s).2.2.2.1 := by
  unfold clkF at h ⊢
  split at h
  · rename_i k
    rw [if_pos k]
    split
    · rename_i q
      show 5 ≤ endN s
      unfold endN
      split
      · rename_i z
        have : ∀ f n, n ≤ runF s f n := by
          intro f
          induction f with
          | zero => intro n; exact Nat.le_refl _
          | succ f ih =>
            intro n
            unfold runF
            split
            · have := ih (n + 1); omega
            · exact Nat.le_refl _
        have := this s.size 9
        unfold run; omega
      · omega
    · exact Nat.le_refl _
  · cases h
theorem extract_extract (s : ByteArray) (n : Nat) : (s.extract 11 s.size).extract n (s.extract 11 s.size).size = s.extract (11 + n) s.size := by
  apply ext
  · simp only [size_extract]; omega
  · intro i hi
    simp only [size_extract] at hi
    rw [B_extract, B_extract, B_extract, size_extract, if_pos (by omega), if_pos (by omega), if_pos (by omega), Nat.add_assoc]
end Sm
namespace Sm
/-- A number in so many digits. -/
def putL (n : Int) (z : Nat) : List UInt8 := (List.range z).map fun i => c (n / (10 : Int) ^ (z - 1 - i))
theorem putL_len (n : Int) (z : Nat) : (putL n z).length = z := by simp [putL]
theorem putL_at (n : Int) (z i : Nat) (h : i < (putL n z).length) : (((putL n z)[i]).toNat : Int) = 48 + n / (10 : Int) ^ (z - 1 - i) % 10 := by
  simp only [putL, List.getElem_map, List.getElem_range]
  exact c_nat _
end Sm
