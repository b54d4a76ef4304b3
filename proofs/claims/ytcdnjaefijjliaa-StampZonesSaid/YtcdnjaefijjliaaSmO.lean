/- Plain laws on stamps: the earlier second's text is the lesser one. -/
import Derived.Test.YtcdnjaefijjliaaSmG
import Derived.Laws.Strings
namespace Sm
open Go
theorem c_lt {n k : Int} (h : n % 10 < k % 10) : c n < c k := by
  have h1 := c_nat n
  have h2 := c_nat k
  rw [UInt8.lt_iff_toNat_lt]
  omega
theorem c_eq {n k : Int} (h : n % 10 = k % 10) : c n = c k := by
  apply UInt8.toNat_inj.1
  have h1 := c_nat n
  have h2 := c_nat k
  omega
theorem less_lt {a b : UInt8} (l r : List UInt8) (h : a < b) : Op.bytesLess (a :: l) (b :: r) = true := by
  unfold Op.bytesLess
  simp [h]
theorem less_same (a : UInt8) (l r : List UInt8) : Op.bytesLess (a :: l) (a :: r) = Op.bytesLess l r := by
  rw [Op.bytesLess]
  simp
theorem less_2 {n k : Int} (l r : List UInt8) (h0 : 0 ≤ n) (h : n < k) (h1 : k ≤ 99) : Op.bytesLess (c (n / 10) :: c n :: l) (c (k / 10) :: c k :: r) = true := by
  by_cases q : n / 10 < k / 10
  · exact less_lt _ _ (c_lt (by omega))
  · rw [show c (n / 10) = c (k / 10) from c_eq (by omega), less_same]
    exact less_lt _ _ (c_lt (by omega))
theorem less_4 {n k : Int} (l r : List UInt8) (h0 : 0 ≤ n) (h : n < k) (h1 : k ≤ 9999) : Op.bytesLess (c (n / 1000) :: c (n / 100) :: c (n / 10) :: c n :: l) (c (k / 1000) :: c (k / 100) :: c (k / 10) :: c k :: r) = true := by
  by_cases q : n / 1000 < k / 1000
  · exact less_lt _ _ (c_lt (by omega))
  · rw [show c (n / 1000) = c (k / 1000) from c_eq (by omega), less_same]
    by_cases q2 : n / 100 < k / 100
    · exact less_lt _ _ (c_lt (by omega))
    · rw [show c (n / 100) = c (k / 100) from c_eq (by omega), less_same]
      exact less_2x l r h0 h (by omega)
where
  less_2x {n k : Int} (l r : List UInt8) (h0 : 0 ≤ n) (h : n < k) (h1 : n / 100 = k / 100) : Op.bytesLess (c (n / 10) :: c n :: l) (c (k / 10) :: c k :: r) = true := by
    by_cases q : n / 10 < k / 10
    · exact less_lt _ _ (c_lt (by omega))
    · rw [show c (n / 10) = c (k / 10) from c_eq (by omega), less_same]
      exact less_lt _ _ (c_lt (by omega))
theorem date_lex {y m d y' m' d' : Int} (h : Cv.vldB y m d = true) (h' : Cv.vldB y' m' d' = true) (e : Cv.num y m d < Cv.num y' m' d') : y < y' ∨ (y = y' ∧ (m < m' ∨ (m = m' ∧ d < d'))) := by
  have hb := Cv.vld_bd h
  have hb' := Cv.vld_bd h'
  have hy := Cv.in_year h
  have hy' := Cv.in_year h'
  have hv := (Cv.vld_iff y m d).1 h
  have hv' := (Cv.vld_iff y' m' d').1 h'
  unfold Cv.num at e
  rcases Int.lt_trichotomy y y' with g | g | g
  · exact Or.inl g
  · subst g
    refine Or.inr ⟨rfl, ?_⟩
    rcases Int.lt_trichotomy m m' with g | g | g
    · exact Or.inl g
    · subst g; exact Or.inr ⟨rfl, by omega⟩
    · have := Cv.cum_mono y m' m (by omega) (by omega) (by omega) g (by omega); omega
  · have := Cv.ahead_mono (y' + 1) y (by omega)
    rw [Cv.ahead_succ y' (by omega) (by omega)] at this
    omega
theorem text_less {y m d h mi x y' m' d' h' mi' x' : Int} (hm : Cv.mayB y m d h mi x = true) (hm' : Cv.mayB y' m' d' h' mi' x' = true) (e : Cv.secV y m d h mi x 0 < Cv.secV y' m' d' h' mi' x' 0) :
    Op.bytesLess (textL y m d h mi x) (textL y' m' d' h' mi' x') = true := by
  obtain ⟨hv, h1⟩ := (Cv.may_iff y m d h mi x).1 hm
  obtain ⟨hv', h1'⟩ := (Cv.may_iff y' m' d' h' mi' x').1 hm'
  have hb := Cv.vld_bd hv
  have hb' := Cv.vld_bd hv'
  have lex : Cv.num y m d < Cv.num y' m' d' ∨ (Cv.num y m d = Cv.num y' m' d' ∧ (h < h' ∨ (h = h' ∧ (mi < mi' ∨ (mi = mi' ∧ x < x'))))) := by
    unfold Cv.secV at e; omega
  unfold textL
  rcases lex with g | ⟨g, g2⟩
  · rcases date_lex hv hv' g with k | ⟨rfl, k⟩
    · exact less_4 _ _ (by omega) k (by omega)
    · rw [less_same, less_same, less_same, less_same, less_same]
      rcases k with k | ⟨rfl, k⟩
      · exact less_2 _ _ (by omega) k (by omega)
      · rw [less_same, less_same, less_same]
        exact less_2 _ _ (by omega) k (by omega)
  · obtain ⟨rfl, rfl, rfl⟩ := Cv.num_inj hv hv' g
    rw [less_same, less_same, less_same, less_same, less_same, less_same, less_same, less_same, less_same, less_same, less_same]
    rcases g2 with k | ⟨rfl, k⟩
    · exact less_2 _ _ (by omega) k (by omega)
    · rw [less_same, less_same, less_same]
      rcases k with k | ⟨rfl, k⟩
      · exact less_2 _ _ (by omega) k (by omega)
      · rw [less_same, less_same, less_same]
        exact less_2 _ _ (by omega) k (by omega)
theorem less_irr : ∀ l : List UInt8, Op.bytesLess l l = false
  | [] => rfl
  | a :: l => by rw [less_same, less_irr l]
theorem less_asym : ∀ l r : List UInt8, Op.bytesLess l r = true → Op.bytesLess r l = false
  | [], [], _ => rfl
  | [], b :: r, _ => by rw [Op.bytesLess]
  | a :: l, [], h => by rw [Op.bytesLess] at h; cases h
  | a :: l, b :: r, h => by
    rw [Op.bytesLess] at h ⊢
    simp only [Bool.or_eq_true, Bool.and_eq_true, decide_eq_true_iff, beq_iff_eq] at h
    simp only [Bool.or_eq_false_iff, Bool.and_eq_false_iff, decide_eq_false_iff_not, beq_eq_false_iff_ne]
    rcases h with h | ⟨rfl, h⟩
    · rw [UInt8.lt_iff_toNat_lt] at h
      refine ⟨?_, Or.inl ?_⟩
      · rw [UInt8.lt_iff_toNat_lt]; omega
      · intro e; subst e; omega
    · exact ⟨by rw [UInt8.lt_iff_toNat_lt]; omega, Or.inr (less_asym l r h)⟩
/-- Texts of one second are one; others are not. -/
theorem text_inj {y m d h mi x y' m' d' h' mi' x' : Int} (hm : Cv.mayB y m d h mi x = true) (hm' : Cv.mayB y' m' d' h' mi' x' = true) :
    (textB y m d h mi x = textB y' m' d' h' mi' x' ↔ Cv.secV y m d h mi x 0 = Cv.secV y' m' d' h' mi' x' 0) := by
  constructor
  · intro e
    have h1 := full_text hm 8 (Nat.le_refl _)
    rw [e, full_text hm' 8 (Nat.le_refl _)] at h1
    exact (Prod.mk.inj h1).1.symm
  · intro e
    obtain ⟨hv, h1⟩ := (Cv.may_iff y m d h mi x).1 hm
    obtain ⟨hv', h1'⟩ := (Cv.may_iff y' m' d' h' mi' x').1 hm'
    have lex : Cv.num y m d = Cv.num y' m' d' ∧ h = h' ∧ mi = mi' ∧ x = x' := by
      unfold Cv.secV at e; omega
    obtain ⟨g, rfl, rfl, rfl⟩ := lex
    obtain ⟨rfl, rfl, rfl⟩ := Cv.num_inj hv hv' g
    rfl
theorem text_order {y m d h mi x y' m' d' h' mi' x' : Int} (hm : Cv.mayB y m d h mi x = true) (hm' : Cv.mayB y' m' d' h' mi' x' = true) :
    Op.bytesLess (textL y m d h mi x) (textL y' m' d' h' mi' x') = decide (Cv.secV y m d h mi x 0 < Cv.secV y' m' d' h' mi' x' 0) := by
  rcases Int.lt_trichotomy (Cv.secV y m d h mi x 0) (Cv.secV y' m' d' h' mi' x' 0) with g | g | g
  · rw [text_less hm hm' g, decide_eq_true g]
  · have e := (text_inj hm hm').2 g
    have e2 : textL y m d h mi x = textL y' m' d' h' mi' x' := by
      unfold textB at e
      injection e with e
      exact List.toArray_inj e
    rw [e2, less_irr, decide_eq_false (by omega)]
  · rw [less_asym _ _ (text_less hm' hm g), decide_eq_false (by omega)]
end Sm
