/- W3c, whole. -/
import Derived.Test.YtcdnjaefijjliaaStF
import Derived.Lib.SlBytesConst
namespace Go.Proofs.Ytcdnjaefijjliaa
open Go.RowKit
open Go
set_option linter.unusedVariables false
theorem zero_64 : Is64 0 := by unfold Is64; omega
theorem w3c_any (s : ByteArray) (hs : s.size ≤ 1000) (w : World) : Calls Try.prog 12 #[.string s] w (ZonPost (Sm.w3cF s) w) := by
  have C := fun w => full_any s hs 5 w
  by_cases h4 : s.size = 4
  · have f1 := Sm.form_4 s h4
    have f2 : Sm.formB s ⟨#[48, 48, 48, 48, 45, 48, 48]⟩ = false := Sm.form_len _ _ (by intro k; have : s.size = 7 := k; omega)
    have f3 : Sm.formB s ⟨#[48, 48, 48, 48, 45, 48, 48, 45, 48, 48]⟩ = false := Sm.form_len _ _ (by intro k; have : s.size = 10 := k; omega)
    obtain ⟨kk, ok, g1, g2, g3⟩ := secR_call (Sm.n4 s 0) 1 1 0 0 0 0 zero_64 zero_64 zero_64
    have := w3c_core s (Sm.d4 s 0) false false f1 f2 f3 (Sm.secR (Sm.n4 s 0) 1 1 0 0 0 0) _ (fun hd w => by
      have hd : Sm.d4 s 0 = true := by simpa using hd
      have := sec_4 s h4 hd 0 0 0 0 0 0 0 _ kk ok g1 g3 w
      rw [← g2] at this; exact this) C w
    unfold Sm.w3cF
    by_cases q : Sm.d4 s 0 = true
    · rw [if_pos ⟨h4, q⟩]; rw [if_pos (Or.inl q)] at this; exact this
    · rw [if_neg (fun k => q k.2), if_neg (by omega), if_neg (by omega)]
      rw [if_neg (by simpa using q)] at this; exact this
  · have f1 : Sm.formB s ⟨#[48, 48, 48, 48]⟩ = false := Sm.form_len _ _ (by intro k; have : s.size = 4 := k; omega)
    by_cases h7 : s.size = 7
    · have f2 := Sm.form_7 s h7
      have f3 : Sm.formB s ⟨#[48, 48, 48, 48, 45, 48, 48, 45, 48, 48]⟩ = false := Sm.form_len _ _ (by intro k; have : s.size = 10 := k; omega)
      obtain ⟨kk, ok, g1, g2, g3⟩ := secR_call (Sm.n4 s 0) (Sm.n2 s 5) 1 0 0 0 0 zero_64 zero_64 zero_64
      have := w3c_core s false _ false f1 f2 f3 (Sm.secR (Sm.n4 s 0) (Sm.n2 s 5) 1 0 0 0 0) _ (fun hd w => by
        have hd : (Sm.d4 s 0 = true ∧ Sm.B s 4 = 45) ∧ Sm.d2 s 5 = true := by simpa using hd
        have := sec_7 s h7 hd.1.1 hd.2 0 0 0 0 0 0 0 _ kk ok g1 g3 w
        rw [← g2] at this; exact this) C w
      unfold Sm.w3cF
      rw [if_neg (fun k => h4 k.1)]
      by_cases q : (Sm.d4 s 0 = true ∧ Sm.B s 4 = 45) ∧ Sm.d2 s 5 = true
      · rw [if_pos ⟨h7, q.1.1, q.1.2, q.2⟩]; rw [if_pos (by simpa using q)] at this; exact this
      · rw [if_neg (fun k => q ⟨⟨k.2.1, k.2.2.1⟩, k.2.2.2⟩), if_neg (by omega)]
        rw [if_neg (by simpa using q)] at this; exact this
    · have f2 : Sm.formB s ⟨#[48, 48, 48, 48, 45, 48, 48]⟩ = false := Sm.form_len _ _ (by intro k; have : s.size = 7 := k; omega)
      unfold Sm.w3cF
      rw [if_neg (fun k => h4 k.1), if_neg (fun k => h7 k.1)]
      by_cases h10 : s.size = 10
      · have f3 := Sm.form_day s h10
        obtain ⟨kk, ok, g1, g2, g3⟩ := secR_call (Sm.n4 s 0) (Sm.n2 s 5) (Sm.n2 s 8) 0 0 0 0 zero_64 zero_64 zero_64
        have := w3c_core s false false _ f1 f2 f3 (Sm.secR (Sm.n4 s 0) (Sm.n2 s 5) (Sm.n2 s 8) 0 0 0 0) _ (fun hd w => by
          have hd : Sm.dayB s = true := by simpa using hd
          obtain ⟨q0, _, q5, _, q8⟩ := (Sm.dayB_iff _).1 hd
          have := sec_10 s h10 q0 q5 q8 0 0 0 0 0 0 0 _ kk ok g1 g3 w
          rw [← g2] at this; exact this) C w
        by_cases q : Sm.dayB s = true
        · rw [if_pos ⟨h10, q⟩]; rw [if_pos (Or.inr (Or.inr q))] at this; exact this
        · rw [if_neg (fun k => q k.2)]
          rw [if_neg (by simpa using q)] at this; exact this
      · rw [if_neg (fun k => h10 k.1)]
        have := w3c_core s false false false f1 f2 (Sm.form_len _ _ (by intro k; exact h10 k)) (0, false) _ (fun hd w => by simp at hd) C w
        rw [if_neg (by simp)] at this; exact this
end Go.Proofs.Ytcdnjaefijjliaa
