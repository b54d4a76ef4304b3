/- Plain laws on dates: leap years, months' last days, days of dates. No program in sight. -/
namespace Cv
def leapB (y : Int) : Bool := decide (1 ≤ y ∧ y ≤ 9999 ∧ y % 4 = 0 ∧ (y % 100 ≠ 0 ∨ y % 400 = 0))
def lp (y : Int) : Int := if leapB y = true then 1 else 0
def lastI (y m : Int) : Int :=
  if y < 1 ∨ 9999 < y ∨ m < 1 ∨ 12 < m then 0
  else if m = 2 then 28 + lp y else if m = 4 ∨ m = 6 ∨ m = 9 ∨ m = 11 then 30 else 31
def vldB (y m d : Int) : Bool := decide (1 ≤ d ∧ d ≤ lastI y m)
def ahead (y : Int) : Int := 365 * (y - 1) + (y - 1) / 4 - (y - 1) / 100 + (y - 1) / 400
def cum (y m : Int) : Int :=
  if m ≤ 1 then 0 else if m = 2 then 31 else
  (if m = 3 then 59 else if m = 4 then 90 else if m = 5 then 120 else if m = 6 then 151 else if m = 7 then 181
   else if m = 8 then 212 else if m = 9 then 243 else if m = 10 then 273 else if m = 11 then 304 else if m = 12 then 334 else 365) + lp y
def num (y m d : Int) : Int := -719162 + ahead y + cum y m + d - 1
def wday (n : Int) : Int := (n + 3) % 7

theorem lp_01 (y : Int) : 0 ≤ lp y ∧ lp y ≤ 1 := by unfold lp; split <;> omega
theorem leapB_iff (y : Int) : leapB y = true ↔ (1 ≤ y ∧ y ≤ 9999 ∧ y % 4 = 0 ∧ (y % 100 ≠ 0 ∨ y % 400 = 0)) := by
  unfold leapB; simp
theorem lp_or (y : Int) : (lp y = 1 ∧ (1 ≤ y ∧ y ≤ 9999 ∧ y % 4 = 0 ∧ (y % 100 ≠ 0 ∨ y % 400 = 0))) ∨ (lp y = 0 ∧ ¬ (1 ≤ y ∧ y ≤ 9999 ∧ y % 4 = 0 ∧ (y % 100 ≠ 0 ∨ y % 400 = 0))) := by
  unfold lp
  by_cases h : leapB y = true
  · left; rw [if_pos h]; exact ⟨rfl, (leapB_iff y).1 h⟩
  · right; rw [if_neg h]; exact ⟨rfl, fun c => h ((leapB_iff y).2 c)⟩
theorem lastI_or (y m : Int) : (lastI y m = 0 ∧ (y < 1 ∨ 9999 < y ∨ m < 1 ∨ 12 < m)) ∨
    (1 ≤ y ∧ y ≤ 9999 ∧ ((m = 2 ∧ leapB y = true ∧ lastI y m = 29) ∨ (m = 2 ∧ leapB y = false ∧ lastI y m = 28) ∨
      ((m = 4 ∨ m = 6 ∨ m = 9 ∨ m = 11) ∧ lastI y m = 30) ∨ ((m = 1 ∨ m = 3 ∨ m = 5 ∨ m = 7 ∨ m = 8 ∨ m = 10 ∨ m = 12) ∧ lastI y m = 31))) := by
  unfold lastI lp
  by_cases h : y < 1 ∨ 9999 < y ∨ m < 1 ∨ 12 < m
  · rw [if_pos h]; exact Or.inl ⟨rfl, h⟩
  · rw [if_neg h]; right; refine ⟨by omega, by omega, ?_⟩
    by_cases h2 : m = 2
    · rw [if_pos h2]
      cases e : leapB y
      · right; left; exact ⟨h2, rfl, rfl⟩
      · left; exact ⟨h2, rfl, rfl⟩
    · rw [if_neg h2]; right; right
      by_cases h3 : m = 4 ∨ m = 6 ∨ m = 9 ∨ m = 11
      · rw [if_pos h3]; exact Or.inl ⟨h3, rfl⟩
      · rw [if_neg h3]; right; exact ⟨by omega, rfl⟩
theorem lastI_bd (y m : Int) : 0 ≤ lastI y m ∧ lastI y m ≤ 31 := by
  have := lp_01 y
  unfold lastI; repeat' split
  all_goals omega
theorem lastI_pos (y m : Int) (h : 1 ≤ lastI y m) : 1 ≤ y ∧ y ≤ 9999 ∧ 1 ≤ m ∧ m ≤ 12 := by
  unfold lastI at h; split at h <;> omega
theorem lastI_lo (y m : Int) (a : 1 ≤ y) (b : y ≤ 9999) (c : 1 ≤ m) (d : m ≤ 12) : 28 ≤ lastI y m := by
  have := lp_01 y
  unfold lastI; rw [if_neg (by omega)]; repeat' split
  all_goals omega
theorem vld_iff (y m d : Int) : vldB y m d = true ↔ (1 ≤ d ∧ d ≤ lastI y m) := by unfold vldB; simp
theorem vld_mk {y m d : Int} (h : 1 ≤ d ∧ d ≤ lastI y m) : vldB y m d = true := (vld_iff y m d).2 h
theorem vld_no {y m d : Int} (h : ¬ (1 ≤ d ∧ d ≤ lastI y m)) : vldB y m d = false := by
  unfold vldB; simpa using h
theorem vld_bd {y m d : Int} (h : vldB y m d = true) : 1 ≤ y ∧ y ≤ 9999 ∧ 1 ≤ m ∧ m ≤ 12 ∧ 1 ≤ d ∧ d ≤ 31 := by
  have h1 := (vld_iff y m d).1 h
  have h2 := lastI_pos y m (by omega)
  have h3 := lastI_bd y m
  omega
theorem cum_succ (y m : Int) (a : 1 ≤ y) (b : y ≤ 9999) (c : 1 ≤ m) (d : m ≤ 12) : cum y (m + 1) = cum y m + lastI y m := by
  have h : m = 1 ∨ m = 2 ∨ m = 3 ∨ m = 4 ∨ m = 5 ∨ m = 6 ∨ m = 7 ∨ m = 8 ∨ m = 9 ∨ m = 10 ∨ m = 11 ∨ m = 12 := by omega
  unfold lastI; rw [if_neg (by omega)]
  rcases h with rfl | rfl | rfl | rfl | rfl | rfl | rfl | rfl | rfl | rfl | rfl | rfl <;> simp [cum] <;> omega
theorem cum_bd (y m : Int) : 0 ≤ cum y m ∧ cum y m ≤ 366 := by
  have := lp_01 y
  unfold cum; repeat' split
  all_goals omega
theorem cum_13 (y : Int) : cum y 13 = 365 + lp y := by simp [cum]
theorem cum_1 (y : Int) : cum y 1 = 0 := by simp [cum]
theorem ahead_succ (y : Int) (a : 1 ≤ y) (b : y ≤ 9999) : ahead (y + 1) = ahead y + 365 + lp y := by
  have := lp_or y
  unfold ahead; omega
theorem ahead_mono (a b : Int) (h : a ≤ b) : ahead a ≤ ahead b := by unfold ahead; omega
theorem ahead_lt (a b : Int) (h : a < b) : ahead a + 365 ≤ ahead b := by unfold ahead; omega
theorem ahead_bd (a : Int) (h0 : 1 ≤ a) (h : a ≤ 10000) : 0 ≤ ahead a ∧ ahead a ≤ 3652059 := by unfold ahead; omega
theorem ahead_guess (n : Int) (h0 : 0 ≤ n) (h : n < 3652059) : 1 ≤ n / 366 + 1 ∧ n / 366 + 1 ≤ 9999 ∧ ahead (n / 366 + 1) ≤ n := by unfold ahead; omega
theorem ahead_max : ahead 10000 = 3652059 := rfl
theorem ahead_one : ahead 1 = 0 := rfl
/-- A date lies in its year. -/
theorem in_year {y m d : Int} (h : vldB y m d = true) : 0 ≤ cum y m + d - 1 ∧ cum y m + d - 1 < 365 + lp y := by
  have hb := vld_bd h
  have h1 := (vld_iff y m d).1 h
  have hc := cum_bd y m
  have hs := cum_succ y m (by omega) (by omega) (by omega) (by omega)
  have hlp := lp_01 y
  refine ⟨by omega, ?_⟩
  have hm : cum y (m + 1) ≤ 365 + lp y := by
    have h : m = 1 ∨ m = 2 ∨ m = 3 ∨ m = 4 ∨ m = 5 ∨ m = 6 ∨ m = 7 ∨ m = 8 ∨ m = 9 ∨ m = 10 ∨ m = 11 ∨ m = 12 := by omega
    rcases h with rfl | rfl | rfl | rfl | rfl | rfl | rfl | rfl | rfl | rfl | rfl | rfl <;> simp [cum] <;> omega
  omega
theorem cum_mono (y m k : Int) (a : 1 ≤ y) (b : y ≤ 9999) (c : 1 ≤ m) (d : m < k) (e : k ≤ 12) : cum y m + lastI y m ≤ cum y k := by
  rw [← cum_succ y m a b c (by omega)]
  have := lp_01 y
  have h : m + 1 = k ∨ m + 1 < k := by omega
  unfold cum; repeat' split
  all_goals omega
theorem num_bd {y m d : Int} (h : vldB y m d = true) : -719162 ≤ num y m d ∧ num y m d ≤ 2932896 := by
  have hb := vld_bd h
  have hy := in_year h
  have h1 := ahead_mono 1 y (by omega)
  have h2 := ahead_mono (y + 1) 10000 (by omega)
  rw [ahead_succ y (by omega) (by omega), ahead_max] at h2
  rw [ahead_one] at h1
  unfold num; omega
/-- Dates of one number are one date. -/
theorem num_inj {y m d y' m' d' : Int} (h : vldB y m d = true) (h' : vldB y' m' d' = true) (e : num y m d = num y' m' d') : y = y' ∧ m = m' ∧ d = d' := by
  have hb := vld_bd h
  have hb' := vld_bd h'
  have hy := in_year h
  have hy' := in_year h'
  have hv := (vld_iff y m d).1 h
  have hv' := (vld_iff y' m' d').1 h'
  unfold num at e
  have ey : y = y' := by
    rcases Int.lt_trichotomy y y' with g | g | g
    · have := ahead_mono (y + 1) y' (by omega)
      rw [ahead_succ y (by omega) (by omega)] at this
      omega
    · exact g
    · have := ahead_mono (y' + 1) y (by omega)
      rw [ahead_succ y' (by omega) (by omega)] at this
      omega
  subst ey
  have em : m = m' := by
    rcases Int.lt_trichotomy m m' with g | g | g
    · have := cum_mono y m m' (by omega) (by omega) (by omega) g (by omega); omega
    · exact g
    · have := cum_mono y m' m (by omega) (by omega) (by omega) g (by omega); omega
  subst em
  exact ⟨rfl, rfl, by omega⟩
/-- The count by years of 400 from March on. -/
theorem era_eq (y : Int) (_a : 0 ≤ y) : y / 400 * 146097 + (y - y / 400 * 400) * 365 + (y - y / 400 * 400) / 4 - (y - y / 400 * 400) / 100 = 365 * y + y / 4 - y / 100 + y / 400 := by omega
theorem march_lo (y m d : Int) (_a : 1 ≤ y) (c : 1 ≤ m) (e : m ≤ 2) :
    (y - 1) / 400 * 146097 + (y - 1 - (y - 1) / 400 * 400) * 365 + (y - 1 - (y - 1) / 400 * 400) / 4 - (y - 1 - (y - 1) / 400 * 400) / 100 + ((153 * (m + 12 - 3) + 2) / 5 + d - 1) - 719468 = num y m d := by
  rw [era_eq (y - 1) (by omega)]
  have h : m = 1 ∨ m = 2 := by omega
  unfold num ahead
  generalize (y - 1) / 4 = p; generalize (y - 1) / 100 = q; generalize (y - 1) / 400 = r
  rcases h with rfl | rfl <;> simp [cum] <;> omega
theorem march_hi (y m d : Int) (a : 1 ≤ y) (b : y ≤ 9999) (c : 2 < m) (e : m ≤ 12) :
    y / 400 * 146097 + (y - y / 400 * 400) * 365 + (y - y / 400 * 400) / 4 - (y - y / 400 * 400) / 100 + ((153 * (m - 3) + 2) / 5 + d - 1) - 719468 = num y m d := by
  rw [era_eq y (by omega)]
  have hs := ahead_succ y a b
  have h : m = 3 ∨ m = 4 ∨ m = 5 ∨ m = 6 ∨ m = 7 ∨ m = 8 ∨ m = 9 ∨ m = 10 ∨ m = 11 ∨ m = 12 := by omega
  unfold num
  have h1 : ahead (y + 1) = 365 * y + y / 4 - y / 100 + y / 400 := by unfold ahead; rw [show y + 1 - 1 = y from by omega]
  rw [h1] at hs
  generalize y / 4 = p at *; generalize y / 100 = q at *; generalize y / 400 = r at *; generalize ahead y = z at *; 
  rcases h with rfl | rfl | rfl | rfl | rfl | rfl | rfl | rfl | rfl | rfl <;> simp [cum] <;> omega
theorem year_up (n : Int) (h0 : 0 ≤ n) : ∀ k : Nat, k ≤ 9999 → n < ahead (k + 1) → ∃ y : Int, 1 ≤ y ∧ y ≤ 9999 ∧ ahead y ≤ n ∧ n < ahead (y + 1) := by
  intro k
  induction k with
  | zero => intro _ h; have : ahead ((0 : Nat) + 1) = 0 := rfl; omega
  | succ k ih =>
    intro hk h
    by_cases c : n < ahead (k + 1)
    · exact ih (by omega) c
    · exact ⟨((k + 1 : Nat) : Int), by omega, by omega, by push_cast; omega, h⟩
theorem month_up (y n : Int) (h0 : 0 ≤ n) : ∀ k : Nat, k ≤ 12 → n < cum y (k + 1) → ∃ m : Int, 1 ≤ m ∧ m ≤ 12 ∧ cum y m ≤ n ∧ n < cum y (m + 1) := by
  intro k
  induction k with
  | zero => intro _ h; have : cum y ((0 : Nat) + 1) = 0 := cum_1 y; omega
  | succ k ih =>
    intro hk h
    by_cases c : n < cum y (k + 1)
    · exact ih (by omega) c
    · exact ⟨((k + 1 : Nat) : Int), by omega, by omega, by push_cast; omega, h⟩
/-- Each number in the range is a date's. -/
theorem date_ex (n : Int) (h1 : -719162 ≤ n) (h2 : n ≤ 2932896) : ∃ y m d : Int, vldB y m d = true ∧ num y m d = n := by
  obtain ⟨y, a, b, c, d⟩ := year_up (n + 719162) (by omega) 9999 (by omega) (by have : ahead ((9999 : Nat) + 1) = 3652059 := rfl; omega)
  have hs := ahead_succ y a b
  obtain ⟨m, e, f, g, h⟩ := month_up y (n + 719162 - ahead y) (by omega) 12 (by omega) (by have : cum y ((12 : Nat) + 1) = 365 + lp y := cum_13 y; omega)
  have cs := cum_succ y m a b e f
  exact ⟨y, m, n + 719162 - ahead y - cum y m + 1, vld_mk (by omega), by unfold num; omega⟩
def mayB (y m d h mi s : Int) : Bool := vldB y m d && decide (0 ≤ h ∧ h ≤ 23 ∧ 0 ≤ mi ∧ mi ≤ 59 ∧ 0 ≤ s ∧ s ≤ 59)
theorem may_iff (y m d h mi s : Int) : mayB y m d h mi s = true ↔ (vldB y m d = true ∧ 0 ≤ h ∧ h ≤ 23 ∧ 0 ≤ mi ∧ mi ≤ 59 ∧ 0 ≤ s ∧ s ≤ 59) := by
  unfold mayB; simp
end Cv
namespace Cv
theorem may_yes {y m d h mi s : Int} (c : 0 ≤ h ∧ h ≤ 23 ∧ 0 ≤ mi ∧ mi ≤ 59 ∧ 0 ≤ s ∧ s ≤ 59) : vldB y m d = mayB y m d h mi s := by unfold mayB; simp [c]
theorem may_true {y m d h mi s : Int} (v : vldB y m d = true) (c : 0 ≤ h ∧ h ≤ 23 ∧ 0 ≤ mi ∧ mi ≤ 59 ∧ 0 ≤ s ∧ s ≤ 59) : true = mayB y m d h mi s := by unfold mayB; simp [c, v]
theorem may_no {y m d h mi s : Int} (c : ¬ (0 ≤ h ∧ h ≤ 23 ∧ 0 ≤ mi ∧ mi ≤ 59 ∧ 0 ≤ s ∧ s ≤ 59)) : false = mayB y m d h mi s := by unfold mayB; rw [decide_eq_false c]; simp
theorem may_inv {y m d h mi s : Int} (v : ¬ vldB y m d = true) : false = mayB y m d h mi s := by unfold mayB; simp [v]
def secV (y m d h mi s east : Int) : Int := num y m d * 86400 + h * 3600 + mi * 60 + s - east * 60
def secOk (y m d h mi s east : Int) : Bool := mayB y m d h mi s && decide (-1439 ≤ east ∧ east ≤ 1439 ∧ -62135596800 ≤ secV y m d h mi s east ∧ secV y m d h mi s east ≤ 253402300799)
theorem secOk_iff (y m d h mi s east : Int) : secOk y m d h mi s east = true ↔ (mayB y m d h mi s = true ∧ -1439 ≤ east ∧ east ≤ 1439 ∧ -62135596800 ≤ secV y m d h mi s east ∧ secV y m d h mi s east ≤ 253402300799) := by
  unfold secOk; simp
/-- A second's day and clock. -/
theorem sec_split (n : Int) (h1 : -62135596800 ≤ n) (h2 : n ≤ 253402300799) : ∃ y m d : Int, vldB y m d = true ∧ num y m d = (n + 62135596800) / 86400 - 719162 ∧
    mayB y m d ((n + 62135596800) / 3600 % 24) ((n + 62135596800) / 60 % 60) ((n + 62135596800) % 60) = true ∧
    secV y m d ((n + 62135596800) / 3600 % 24) ((n + 62135596800) / 60 % 60) ((n + 62135596800) % 60) 0 = n := by
  obtain ⟨y, m, d, hv, hn⟩ := date_ex ((n + 62135596800) / 86400 - 719162) (by omega) (by omega)
  refine ⟨y, m, d, hv, hn, (may_true hv (by omega)).symm, ?_⟩
  unfold secV; rw [hn]; omega
end Cv
