/- Plain laws on sorting by blocks. No program in sight. -/
import Derived.Test.YtahapmpohaaigaaOsP
namespace Stb0
section
variable {cls : Int → Int} {d d' : Nat → Int} {s n k : Nat}
def BS (cls : Int → Int) (d : Nat → Int) (s n : Nat) : Prop := ∀ t, Srt cls d (t * s) (min (t * s + s) n)
def Half (cls : Int → Int) (d : Nat → Int) (s n k : Nat) : Prop := (∀ t, t < k → Srt cls d (t * (2 * s)) (t * (2 * s) + 2 * s)) ∧ (∀ t, 2 * k ≤ t → Srt cls d (t * s) (min (t * s + s) n))
def Frs (cls : Int → Int) (d : Nat → Int) (k : Nat) : Prop := ∀ t, t < k → Srt cls d (t * 20) (t * 20 + 20)
theorem Srt.same {a b u v : Nat} (h : Srt cls d a b) (hs : Same d d' u v) (ho : b ≤ u ∨ v ≤ a) : Srt cls d' a b := h.congr fun i i1 i2 => hs i (by omega)
theorem Frs.step (h : Frs cls d k) (hs : Srt cls d' (k * 20) (k * 20 + 20)) (same : Same d d' (k * 20) (k * 20 + 20)) : Frs cls d' (k + 1) := fun t ht => by
  by_cases e : t = k
  · subst e; exact hs
  · exact (h t (by omega)).same same (Or.inl (by omega))
theorem Frs.done (h : Frs cls d k) (hb : n < k * 20 + 20) (hs : Srt cls d' (k * 20) n) (same : Same d d' (k * 20) n) : BS cls d' 20 n := fun t => by
  by_cases e : t < k
  · exact ((h t e).same same (Or.inl (by omega))).part (Nat.le_refl _) (Nat.min_le_left _ _)
  · by_cases e2 : t = k
    · subst e2; exact hs.part (Nat.le_refl _) (Nat.min_le_right _ _)
    · exact Srt.one (by omega)
theorem BS.half (h : BS cls d s n) : Half cls d s n 0 := ⟨fun t ht => by omega, fun t _ => h t⟩
theorem Half.parts (h : Half cls d s n k) : Srt cls d (k * (2 * s)) (min (k * (2 * s) + s) n) ∧ Srt cls d (k * (2 * s) + s) (min (k * (2 * s) + 2 * s) n) := by
  have h1 := h.2 (2 * k) (Nat.le_refl _)
  have h2 := h.2 (2 * k + 1) (by omega)
  have e1 : 2 * k * s = k * (2 * s) := by rw [Nat.mul_comm 2 k, Nat.mul_assoc]
  have e2 : (2 * k + 1) * s = k * (2 * s) + s := by rw [Nat.add_mul, e1, Nat.one_mul]
  rw [e1] at h1
  rw [e2] at h2
  exact ⟨h1, by rw [show k * (2 * s) + 2 * s = k * (2 * s) + s + s by omega]; exact h2⟩
theorem mul_step (s : Nat) {t k : Nat} (h : t < k) : t * s + s ≤ k * s := by
  have := Nat.mul_le_mul_right s (show t + 1 ≤ k from h)
  rw [Nat.add_mul, Nat.one_mul] at this
  exact this
theorem Half.step (h : Half cls d s n k) (hs : Srt cls d' (k * (2 * s)) (k * (2 * s) + 2 * s)) (same : Same d d' (k * (2 * s)) (k * (2 * s) + 2 * s)) : Half cls d' s n (k + 1) := by
  refine ⟨fun t ht => ?_, fun t ht => ?_⟩
  · by_cases e : t = k
    · subst e; exact hs
    · exact (h.1 t (by omega)).same same (Or.inl (mul_step (2 * s) (by omega)))
  · refine (h.2 t (by omega)).same same (Or.inr ?_)
    have := Nat.mul_le_mul_right s ht
    have e1 : 2 * (k + 1) * s = k * (2 * s) + 2 * s := by rw [Nat.mul_comm 2 (k + 1), Nat.mul_assoc, Nat.add_mul, Nat.one_mul]
    omega
theorem Half.done (h : Half cls d s n k) (hb : n < k * (2 * s) + 2 * s) (hs : Srt cls d' (k * (2 * s)) n) (same : Same d d' (k * (2 * s)) n) : BS cls d' (2 * s) n := fun t => by
  by_cases e : t < k
  · exact ((h.1 t e).same same (Or.inl (mul_step (2 * s) e))).part (Nat.le_refl _) (Nat.min_le_left _ _)
  · by_cases e2 : t = k
    · subst e2; exact hs.part (Nat.le_refl _) (Nat.min_le_right _ _)
    · have := mul_step (2 * s) (show k < t by omega)
      exact Srt.one (by omega)
theorem BS.all (h : BS cls d s n) (hn : n ≤ s) : Srt cls d 0 n := by
  have := h 0
  rw [Nat.zero_mul, Nat.zero_add, Nat.min_eq_right hn] at this
  exact this
end
end Stb0
