/- Plain laws on texts: a text's bytes by place, patterns, numbers of digits. No program in sight. -/
namespace Sm
/-- The byte at a place, 0 behind the end. -/
def B (s : ByteArray) (i : Nat) : Nat := (s.data[i]?.getD 0).toNat
theorem B_at (s : ByteArray) (i : Nat) (h : i < s.size) : (s[i]'h).toNat = B s i := by
  unfold B
  have : i < s.data.size := h
  rw [Array.getElem?_eq_getElem this]
  rfl
theorem B_end (s : ByteArray) (i : Nat) (h : s.size ≤ i) : B s i = 0 := by
  unfold B
  have : s.data.size ≤ i := h
  rw [Array.getElem?_eq_none this]
  rfl
theorem B_lt (s : ByteArray) (i : Nat) : B s i < 256 := by unfold B; exact UInt8.toNat_lt _
theorem B_in {s : ByteArray} {i : Nat} (h : B s i ≠ 0) : i < s.size := by
  by_cases k : i < s.size
  · exact k
  · exact absurd (B_end s i (by omega)) h
theorem ext {s t : ByteArray} (h : s.size = t.size) (k : ∀ i, i < s.size → B s i = B t i) : s = t := by
  apply ByteArray.ext
  apply Array.ext
  · exact h
  · intro i h1 h2
    have := k i h1
    rw [← B_at s i h1, ← B_at t i h2] at this
    exact UInt8.toNat_inj.1 this
theorem B_extract (s : ByteArray) (a b i : Nat) : B (s.extract a b) i = if a + i < b then B s (a + i) else 0 := by
  by_cases h : a + i < b
  · rw [if_pos h]
    by_cases k : a + i < s.size
    · have hi : i < (s.extract a b).size := by simp; omega
      rw [← B_at _ i hi, ← B_at s (a + i) k]
      rw [ByteArray.getElem_extract]
    · rw [B_end s (a + i) (by omega), B_end _ i (by simp; omega)]
  · rw [if_neg h, B_end _ i (by simp; omega)]
theorem size_extract (s : ByteArray) (a b : Nat) : (s.extract a b).size = min b s.size - a := by simp
/-- A byte as a pattern's byte tells: 48 stands for any digit, all else for itself. -/
def okc (c a : Nat) : Bool := if a = 48 then decide (48 ≤ c ∧ c ≤ 57) else decide (c = a)
def formB (s a : ByteArray) : Bool := decide (s.size = a.size ∧ ∀ i, i < s.size → okc (B s i) (B a i) = true)
def dig (s : ByteArray) (i : Nat) : Bool := decide (48 ≤ B s i ∧ B s i ≤ 57)
def v (s : ByteArray) (i : Nat) : Int := (B s i : Int) - 48
/-- A number of digits, as 'number' reckons it. -/
def numN (s : ByteArray) : Nat → Int
  | 0 => 0
  | n + 1 => numN s n * 10 + ((B s n % 16 : Nat) : Int)
theorem numN_bd (s : ByteArray) : ∀ n : Nat, 0 ≤ numN s n ∧ numN s n + 2 ≤ 2 * (10 : Int) ^ n
  | 0 => by simp [numN]
  | n + 1 => by
    have := numN_bd s n
    unfold numN
    rw [Int.pow_succ]
    omega
theorem dig_iff (s : ByteArray) (i : Nat) : dig s i = true ↔ 48 ≤ B s i ∧ B s i ≤ 57 := by unfold dig; simp
theorem dig_in {s : ByteArray} {i : Nat} (h : dig s i = true) : i < s.size := by
  have := (dig_iff s i).1 h
  exact B_in (by omega)
theorem v_bd {s : ByteArray} {i : Nat} (h : dig s i = true) : 0 ≤ v s i ∧ v s i ≤ 9 := by
  have := (dig_iff s i).1 h
  unfold v; omega
def n2 (s : ByteArray) (i : Nat) : Int := v s i * 10 + v s (i + 1)
def n4 (s : ByteArray) (i : Nat) : Int := ((v s i * 10 + v s (i + 1)) * 10 + v s (i + 2)) * 10 + v s (i + 3)
def d2 (s : ByteArray) (i : Nat) : Bool := dig s i && dig s (i + 1)
def d4 (s : ByteArray) (i : Nat) : Bool := dig s i && dig s (i + 1) && dig s (i + 2) && dig s (i + 3)
theorem d2_iff (s : ByteArray) (i : Nat) : d2 s i = true ↔ dig s i = true ∧ dig s (i + 1) = true := by unfold d2; simp
theorem d4_iff (s : ByteArray) (i : Nat) : d4 s i = true ↔ dig s i = true ∧ dig s (i + 1) = true ∧ dig s (i + 2) = true ∧ dig s (i + 3) = true := by unfold d4; simp [and_assoc]
theorem n2_bd {s : ByteArray} {i : Nat} (h : d2 s i = true) : 0 ≤ n2 s i ∧ n2 s i ≤ 99 := by
  obtain ⟨a, b⟩ := (d2_iff s i).1 h
  have := v_bd a; have := v_bd b
  unfold n2; omega
theorem n4_bd {s : ByteArray} {i : Nat} (h : d4 s i = true) : 0 ≤ n4 s i ∧ n4 s i ≤ 9999 := by
  obtain ⟨a, b, c, d⟩ := (d4_iff s i).1 h
  have := v_bd a; have := v_bd b; have := v_bd c; have := v_bd d
  unfold n4; omega
theorem low {s : ByteArray} {i : Nat} (h : dig s i = true) : ((B s i % 16 : Nat) : Int) = v s i := by
  have := (dig_iff s i).1 h
  unfold v; omega
/-- What 'number' reckons of two, of four digits of a text. -/
theorem num_d2 {s : ByteArray} {a : Nat} (h : d2 s a = true) : (s.extract a (a + 2)).size = 2 ∧ numN (s.extract a (a + 2)) 2 = n2 s a := by
  obtain ⟨h0, h1⟩ := (d2_iff s a).1 h
  have := dig_in h1
  refine ⟨by simp; omega, ?_⟩
  simp only [numN]
  rw [B_extract, B_extract, if_pos (by omega), if_pos (by omega), Nat.add_zero, low h0, low h1]
  unfold n2; omega
theorem num_d4 {s : ByteArray} {a : Nat} (h : d4 s a = true) : (s.extract a (a + 4)).size = 4 ∧ numN (s.extract a (a + 4)) 4 = n4 s a := by
  obtain ⟨h0, h1, h2, h3⟩ := (d4_iff s a).1 h
  have := dig_in h3
  refine ⟨by simp; omega, ?_⟩
  simp only [numN]
  rw [B_extract, B_extract, B_extract, B_extract, if_pos (by omega), if_pos (by omega), if_pos (by omega), if_pos (by omega), Nat.add_zero, low h0, low h1, low h2, low h3]
  unfold n4; omega
theorem okc_dig (s : ByteArray) (i : Nat) : okc (B s i) 48 = dig s i := by unfold okc dig; rw [if_pos rfl]
theorem okc_is (c a : Nat) (h : a ≠ 48) : okc c a = decide (c = a) := by unfold okc; rw [if_neg h]
/-- A piece of a text, of the pattern's length, fits a pattern. -/
theorem form_piece (s p : ByteArray) (a b n : Nat) (hn : p.size = n) (hb : b = a + n) (h : b ≤ s.size) : formB (s.extract a b) p = true ↔ ∀ i, i < n → okc (B s (a + i)) (B p i) = true := by
  subst hn
  have hs : (s.extract a b).size = p.size := by simp; omega
  unfold formB
  rw [hs, decide_eq_true_iff]
  constructor
  · rintro ⟨_, k⟩ i hi
    have := k i hi
    rwa [B_extract, if_pos (by omega)] at this
  · intro k
    refine ⟨rfl, fun i hi => ?_⟩
    rw [B_extract, if_pos (by omega)]
    exact k i hi
theorem form_whole (s p : ByteArray) (n : Nat) (hn : p.size = n) (h : s.size = n) : formB s p = true ↔ ∀ i, i < n → okc (B s i) (B p i) = true := by
  subst hn
  unfold formB
  rw [h, decide_eq_true_iff]; simp
theorem form_len (s p : ByteArray) (h : s.size ≠ p.size) : formB s p = false := by unfold formB; simp [h]
theorem all5 (P : Nat → Prop) : (∀ i, i < 5 → P i) ↔ P 0 ∧ P 1 ∧ P 2 ∧ P 3 ∧ P 4 := by
  constructor
  · intro h; exact ⟨h 0 (by omega), h 1 (by omega), h 2 (by omega), h 3 (by omega), h 4 (by omega)⟩
  · rintro ⟨h0, h1, h2, h3, h4⟩ i hi
    match i, hi with
    | 0, _ => exact h0
    | 1, _ => exact h1
    | 2, _ => exact h2
    | 3, _ => exact h3
    | 4, _ => exact h4
theorem all3 (P : Nat → Prop) : (∀ i, i < 3 → P i) ↔ P 0 ∧ P 1 ∧ P 2 := by
  constructor
  · intro h; exact ⟨h 0 (by omega), h 1 (by omega), h 2 (by omega)⟩
  · rintro ⟨h0, h1, h2⟩ i hi
    match i, hi with
    | 0, _ => exact h0
    | 1, _ => exact h1
    | 2, _ => exact h2
theorem all1 (P : Nat → Prop) : (∀ i, i < 1 → P i) ↔ P 0 := by
  constructor
  · intro h; exact h 0 (by omega)
  · intro h i hi
    match i, hi with
    | 0, _ => exact h
theorem all10 (P : Nat → Prop) : (∀ i, i < 10 → P i) ↔ (P 0 ∧ P 1 ∧ P 2 ∧ P 3 ∧ P 4) ∧ P 5 ∧ P 6 ∧ P 7 ∧ P 8 ∧ P 9 := by
  constructor
  · intro h; exact ⟨⟨h 0 (by omega), h 1 (by omega), h 2 (by omega), h 3 (by omega), h 4 (by omega)⟩, h 5 (by omega), h 6 (by omega), h 7 (by omega), h 8 (by omega), h 9 (by omega)⟩
  · rintro ⟨⟨h0, h1, h2, h3, h4⟩, h5, h6, h7, h8, h9⟩ i hi
    match i, hi with
    | 0, _ => exact h0
    | 1, _ => exact h1
    | 2, _ => exact h2
    | 3, _ => exact h3
    | 4, _ => exact h4
    | 5, _ => exact h5
    | 6, _ => exact h6
    | 7, _ => exact h7
    | 8, _ => exact h8
    | 9, _ => exact h9
/-- Two digits, a colon, two digits. -/
def hmB (s : ByteArray) : Bool := d2 s 0 && decide (B s 2 = 58) && d2 s 3
theorem hmB_iff (s : ByteArray) : hmB s = true ↔ d2 s 0 = true ∧ B s 2 = 58 ∧ d2 s 3 = true := by unfold hmB; simp [and_assoc]
theorem form_hm (s : ByteArray) (h : 5 ≤ s.size) : formB (s.extract 0 5) ⟨#[48, 48, 58, 48, 48]⟩ = hmB s := by
  rw [Bool.eq_iff_iff, form_piece s _ 0 5 5 rfl rfl h, all5, hmB_iff, d2_iff, d2_iff]
  show okc (B s 0) 48 = true ∧ okc (B s 1) 48 = true ∧ okc (B s 2) 58 = true ∧ okc (B s 3) 48 = true ∧ okc (B s 4) 48 = true ↔ _
  rw [okc_dig, okc_dig, okc_dig, okc_dig, okc_is _ _ (by decide), decide_eq_true_iff]
  simp [and_assoc]
theorem hm_size {s : ByteArray} (h : hmB s = true) : 5 ≤ s.size := by
  have := dig_in ((d2_iff s 3).1 ((hmB_iff s).1 h).2.2).2
  omega
/-- A colon, two digits. -/
def seB (s : ByteArray) : Bool := decide (B s 5 = 58) && d2 s 6
theorem seB_iff (s : ByteArray) : seB s = true ↔ B s 5 = 58 ∧ d2 s 6 = true := by unfold seB; simp
theorem form_se (s : ByteArray) (h : 8 ≤ s.size) : formB (s.extract 5 8) ⟨#[58, 48, 48]⟩ = seB s := by
  rw [Bool.eq_iff_iff, form_piece s _ 5 8 3 rfl rfl h, all3, seB_iff, d2_iff]
  show okc (B s 5) 58 = true ∧ okc (B s 6) 48 = true ∧ okc (B s 7) 48 = true ↔ _
  rw [okc_dig, okc_dig, okc_is _ _ (by decide), decide_eq_true_iff]
theorem se_size {s : ByteArray} (h : seB s = true) : 8 ≤ s.size := by
  have := dig_in ((d2_iff s 6).1 ((seB_iff s).1 h).2).2
  omega
theorem form_one (s : ByteArray) (k : Nat) (h : k < s.size) : formB (s.extract k (k + 1)) ⟨#[48]⟩ = dig s k := by
  rw [Bool.eq_iff_iff, form_piece s _ k (k + 1) 1 rfl rfl h, all1]
  show okc (B s k) 48 = true ↔ _
  rw [okc_dig]
/-- The first place from a place on where no digit stands. -/
def runF (s : ByteArray) : Nat → Nat → Nat
  | 0, n => n
  | f + 1, n => if dig s n then runF s f (n + 1) else n
def run (s : ByteArray) (n : Nat) : Nat := runF s s.size n
theorem runF_is (s : ByteArray) (k : Nat) (hk : dig s k = false) : ∀ (f n : Nat), n ≤ k → k ≤ n + f → (∀ i, n ≤ i → i < k → dig s i = true) → runF s f n = k := by
  intro f
  induction f with
  | zero => intro n h1 h2 _; show n = k; omega
  | succ f ih =>
    intro n h1 h2 h3
    unfold runF
    by_cases e : n = k
    · subst e; rw [hk]; simp
    · rw [if_pos (h3 n (by omega) (by omega))]
      exact ih (n + 1) (by omega) (by omega) (fun i a b => h3 i (by omega) b)
theorem run_is (s : ByteArray) (n k : Nat) (hk : dig s k = false) (h1 : n ≤ k) (h2 : k ≤ s.size) (h3 : ∀ i, n ≤ i → i < k → dig s i = true) : run s n = k := runF_is s k hk s.size n h1 (by omega) h3
/-- Where a time of the day ends behind its seconds. -/
def endN (s : ByteArray) : Nat := if B s 8 = 46 ∧ dig s 9 = true then run s 9 else 8
theorem dig_out (s : ByteArray) (i : Nat) (h : s.size ≤ i) : dig s i = false := by unfold dig; rw [B_end s i h]; rfl
theorem endN_9 (s : ByteArray) (hd : dig s 9 = false) : endN s = 8 := by unfold endN; rw [if_neg (fun k => by rw [hd] at k; cases k.2)]
theorem endN_exit (s : ByteArray) (j : Nat) (h8 : B s 8 = 46) (h9 : 9 < j) (hj : j ≤ s.size) (hr : ∀ i, 9 ≤ i → i < j → dig s i = true) (hd : dig s j = false) : endN s = j := by
  unfold endN
  rw [if_pos ⟨h8, hr 9 (by omega) h9⟩]
  exact run_is s 9 j hd (by omega) hj hr
/-- A time of the day at a text's beginning: hour, minute, second, the place behind it, whether there is one. -/
def clkF (s : ByteArray) : Int × Int × Int × Nat × Bool :=
  if hmB s = true ∧ n2 s 0 ≤ 23 ∧ n2 s 3 ≤ 59 then
    if seB s = true ∧ n2 s 6 ≤ 59 then (n2 s 0, n2 s 3, n2 s 6, endN s, true) else (n2 s 0, n2 s 3, 0, 5, true)
  else (0, 0, 0, 0, false)
theorem form_zp (s p : ByteArray) (c : Nat) (h : s.size = 6) (hc : c ≠ 48) (hp : p = ⟨#[UInt8.ofNat c, 48, 48, 58, 48, 48]⟩) (h2 : c < 256) : formB s p = (decide (B s 0 = c) && d2 s 1 && decide (B s 3 = 58) && d2 s 4) := by
  subst hp
  rw [Bool.eq_iff_iff, form_whole s _ 6 rfl h]
  have e0 : B ⟨#[UInt8.ofNat c, 48, 48, 58, 48, 48]⟩ 0 = c := by
    show (UInt8.ofNat c).toNat = c
    rw [UInt8.toNat_ofNat']; omega
  simp only [Bool.and_eq_true, decide_eq_true_iff, d2_iff]
  constructor
  · intro k
    have k0 := k 0 (by omega)
    rw [e0, okc_is _ _ hc, decide_eq_true_iff] at k0
    have k1 : dig s 1 = true := by rw [← okc_dig]; exact k 1 (by omega)
    have k2 : dig s 2 = true := by rw [← okc_dig]; exact k 2 (by omega)
    have k3 : okc (B s 3) 58 = true := k 3 (by omega)
    rw [okc_is _ _ (by decide), decide_eq_true_iff] at k3
    have k4 : dig s 4 = true := by rw [← okc_dig]; exact k 4 (by omega)
    have k5 : dig s 5 = true := by rw [← okc_dig]; exact k 5 (by omega)
    exact ⟨⟨⟨k0, k1, k2⟩, k3⟩, k4, k5⟩
  · rintro ⟨⟨⟨k0, k1, k2⟩, k3⟩, k4, k5⟩ i hi
    match i, hi with
    | 0, _ => rw [e0, okc_is _ _ hc, decide_eq_true_iff]; exact k0
    | 1, _ => exact (okc_dig s 1).trans k1
    | 2, _ => exact (okc_dig s 2).trans k2
    | 3, _ => show okc (B s 3) 58 = true; rw [okc_is _ _ (by decide), decide_eq_true_iff]; exact k3
    | 4, _ => exact (okc_dig s 4).trans k4
    | 5, _ => exact (okc_dig s 5).trans k5
/-- A place's minutes ahead. -/
def zonF (s : ByteArray) : Int × Bool :=
  if s = ⟨#[90]⟩ then (0, true)
  else if s.size = 6 ∧ (B s 0 = 43 ∨ B s 0 = 45) ∧ d2 s 1 = true ∧ B s 3 = 58 ∧ d2 s 4 = true ∧ n2 s 1 ≤ 23 ∧ n2 s 4 ≤ 59 then
    ((if B s 0 = 45 then -(n2 s 1 * 60 + n2 s 4) else n2 s 1 * 60 + n2 s 4), true)
  else (0, false)
/-- Four digits, a hyphen, two, a hyphen, two. -/
def dayB (s : ByteArray) : Bool := d4 s 0 && decide (B s 4 = 45) && d2 s 5 && decide (B s 7 = 45) && d2 s 8
theorem dayB_iff (s : ByteArray) : dayB s = true ↔ d4 s 0 = true ∧ B s 4 = 45 ∧ d2 s 5 = true ∧ B s 7 = 45 ∧ d2 s 8 = true := by unfold dayB; simp [and_assoc]
theorem form_day (s : ByteArray) (h : s.size = 10) : formB s ⟨#[48, 48, 48, 48, 45, 48, 48, 45, 48, 48]⟩ = dayB s := by
  rw [Bool.eq_iff_iff, form_whole s _ 10 rfl h, all10, dayB_iff, d2_iff, d2_iff, d4_iff]
  show (okc (B s 0) 48 = true ∧ okc (B s 1) 48 = true ∧ okc (B s 2) 48 = true ∧ okc (B s 3) 48 = true ∧ okc (B s 4) 45 = true) ∧ okc (B s 5) 48 = true ∧ okc (B s 6) 48 = true ∧ okc (B s 7) 45 = true ∧ okc (B s 8) 48 = true ∧ okc (B s 9) 48 = true ↔ _
  rw [okc_dig, okc_dig, okc_dig, okc_dig, okc_dig, okc_dig, okc_dig, okc_dig, okc_is _ _ (by decide), decide_eq_true_iff, okc_is _ _ (by decide), decide_eq_true_iff]
  simp [and_assoc]
end Sm
