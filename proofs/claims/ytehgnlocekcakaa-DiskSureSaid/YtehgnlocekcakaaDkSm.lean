/- Plain laws on disks: what is sure stays. No program in sight. -/
import Derived.Test.YtehgnlocekcakaaDkM
import Derived.Test.YtehgnlocekcakaaSm
namespace Dm
/-- A text that begins a zone, and is sure of it. -/
def Pre (u b : ByteArray) (s : Int) : Prop := (u.size : Int) ≤ s ∧ b.extract 0 u.size = u
def Inv (d : Dk) (u0 u1 : ByteArray) : Prop := okB d = true ∧ Pre u0 d.b0 d.s0 ∧ Pre u1 d.b1 d.s1
theorem ok_iff' (d : Dk) : okB d = true ↔ ((0 ≤ d.cap ∧ d.cap ≤ 131072) ∧ ((d.b0.size : Int) ≤ d.cap ∧ 0 ≤ d.s0 ∧ d.s0 ≤ d.b0.size) ∧ ((d.b1.size : Int) ≤ d.cap ∧ 0 ≤ d.s1 ∧ d.s1 ≤ d.b1.size)) := by unfold okB; simp
theorem extract_app (a b : ByteArray) (k : Nat) (h : k ≤ a.size) : (a ++ b).extract 0 k = a.extract 0 k := by
  apply Sm.ext
  · simp [ByteArray.size_append]; omega
  · intro i hi
    simp [ByteArray.size_append] at hi
    rw [Sm.B_extract, Sm.B_extract, if_pos (by omega), if_pos (by omega), Nat.zero_add]
    unfold Sm.B
    rw [ByteArray.data_append, Array.getElem?_append_left (by have : a.data.size = a.size := rfl; omega)]
theorem extract_cut (a : ByteArray) (n k : Nat) (h : k ≤ n) : (a.extract 0 n).extract 0 k = a.extract 0 k := by
  apply Sm.ext
  · simp; omega
  · intro i hi
    simp at hi
    rw [Sm.B_extract, Sm.B_extract, Sm.B_extract, if_pos (by omega), if_pos (by omega), if_pos (by omega)]
    congr 1; omega
theorem pre_nil (b : ByteArray) (s : Int) (h : 0 ≤ s) : Pre ⟨#[]⟩ b s := by
  refine ⟨h, ?_⟩
  apply Sm.ext
  · show (b.extract 0 0).size = 0
    simp
  · intro i hi
    have : i < (b.extract 0 0).size := hi
    simp at this
theorem pre_app {u b : ByteArray} {s : Int} (h : Pre u b s) (hs : s ≤ b.size) (c : ByteArray) : Pre u (b ++ c) s := ⟨h.1, by rw [extract_app _ _ _ (by have := h.1; omega)]; exact h.2⟩
theorem pre_up {u b : ByteArray} {s s' : Int} (h : Pre u b s) (hs : s ≤ s') : Pre u b s' := ⟨by have := h.1; omega, h.2⟩
theorem pre_cut {u b : ByteArray} {s s' : Int} (h : Pre u b s) (hs : s ≤ s') : Pre u (b.extract 0 s'.toNat) s' := ⟨by have := h.1; omega, by rw [extract_cut _ _ _ (by have := h.1; omega)]; exact h.2⟩
theorem pre_self {b : ByteArray} {s : Int} (h0 : 0 ≤ s) (h : s ≤ b.size) : Pre (b.extract 0 s.toNat) b s := by
  have e : (b.extract 0 s.toNat).size = s.toNat := by simp; omega
  exact ⟨by rw [e]; omega, by rw [e]⟩
theorem inv_new (most : Int) (h0 : 0 ≤ most) (h1 : most ≤ 131072) : Inv ⟨⟨#[]⟩, 0, ⟨#[]⟩, 0, most, -1, false⟩ ⟨#[]⟩ ⟨#[]⟩ := by
  have e : (ByteArray.mk #[]).size = 0 := rfl
  refine ⟨?_, pre_nil _ _ (Int.le_refl _), pre_nil _ _ (Int.le_refl _)⟩
  rw [ok_iff']
  simp only [e]
  omega
theorem left1_ge (b : ByteArray) (s a : Int) (h : s ≤ b.size) : s ≤ left1 b s a ∧ left1 b s a ≤ b.size := by
  unfold left1
  split
  · omega
  · split <;> omega
theorem crash_sure {d : Dk} {u0 u1 : ByteArray} (h : Inv d u0 u1) (a b : Int) : ∃ d', crashF d a b = (d', 0) ∧ Inv d' u0 u1 ∧ d'.left = -1 := by
  obtain ⟨ho, h0, h1⟩ := h
  obtain ⟨hc, q0, q1⟩ := (ok_iff' d).1 ho
  have g0 := left1_ge d.b0 d.s0 a q0.2.2
  have g1 := left1_ge d.b1 d.s1 b q1.2.2
  have e : crashF d a b = (⟨d.b0.extract 0 (left1 d.b0 d.s0 a).toNat, left1 d.b0 d.s0 a, d.b1.extract 0 (left1 d.b1 d.s1 b).toNat, left1 d.b1 d.s1 b, d.cap, -1, false⟩, 0) := by unfold crashF; rw [if_pos ho]
  generalize left1 d.b0 d.s0 a = l0 at *
  generalize left1 d.b1 d.s1 b = l1 at *
  have z0 : (d.b0.extract 0 l0.toNat).size = l0.toNat := by simp; omega
  have z1 : (d.b1.extract 0 l1.toNat).size = l1.toNat := by simp; omega
  refine ⟨⟨d.b0.extract 0 l0.toNat, l0, d.b1.extract 0 l1.toNat, l1, d.cap, -1, false⟩, e, ⟨?_, pre_cut h0 g0.1, pre_cut h1 g1.1⟩, rfl⟩
  rw [ok_iff']
  simp only [z0, z1]
  omega
theorem do_sure {d d' : Dk} {u0 u1 : ByteArray} {x : Wr} (h : Inv d u0 u1) (hd : doF d x = (d', 0)) : (x.zone = 0 ∨ x.zone = 1) ∧
    Inv d' (if x.op = 2 ∧ x.zone = 0 then ⟨#[]⟩ else u0) (if x.op = 2 ∧ x.zone = 1 then ⟨#[]⟩ else u1) := by
  obtain ⟨ho, h0, h1⟩ := h
  obtain ⟨hc, q0, q1⟩ := (ok_iff' d).1 ho
  unfold doF at hd
  split at hd
  · cases hd
  rename_i hno
  have hz : x.zone = 0 ∨ x.zone = 1 := by
    by_cases k : x.zone = 0
    · exact Or.inl k
    · by_cases k2 : x.zone = 1
      · exact Or.inr k2
      · exact absurd (Or.inr (Or.inl ⟨k, k2⟩)) hno
  have hm : mayB x (zb d x.zone) = true := by
    cases e : mayB x (zb d x.zone)
    · exact absurd (Or.inr (Or.inr e)) hno
    · rfl
  refine ⟨hz, ?_⟩
  split at hd
  · cases hd
  split at hd
  · cases hd
  unfold mayB at hm
  simp only [decide_eq_true_eq] at hm
  unfold actF at hd
  split at hd
  · rename_i hop
    rw [if_neg (by omega), if_neg (by omega)]
    split at hd
    · cases hd
    · rename_i hcap
      injection hd with hd _
      subst hd
      rcases hz with hz | hz
      · rw [hz] at hcap ⊢
        simp only [zb, if_true] at hcap
        unfold Inv
        rw [ok_iff']
        simp only [tick, setZ, zb, zs, if_true, ByteArray.size_append]
        exact ⟨⟨hc, ⟨by omega, by omega, by omega⟩, q1⟩, pre_app h0 q0.2.2 _, h1⟩
      · rw [hz] at hcap ⊢
        simp only [zb, if_neg (show ¬ (1 : Int) = 0 by decide)] at hcap
        unfold Inv
        rw [ok_iff']
        simp only [tick, setZ, zb, zs, if_neg (show ¬ (1 : Int) = 0 by decide), ByteArray.size_append]
        exact ⟨⟨hc, q0, ⟨by omega, by omega, by omega⟩⟩, h0, pre_app h1 q1.2.2 _⟩
  · split at hd
    · rename_i hop
      rw [if_neg (by omega), if_neg (by omega)]
      injection hd with hd _
      subst hd
      rcases hz with hz | hz
      · rw [hz]
        unfold Inv
        rw [ok_iff']
        simp only [tick, setZ, zb, zs, if_true]
        exact ⟨⟨hc, ⟨by omega, by omega, by omega⟩, q1⟩, pre_up h0 q0.2.2, h1⟩
      · rw [hz]
        unfold Inv
        rw [ok_iff']
        simp only [tick, setZ, zb, zs, if_neg (show ¬ (1 : Int) = 0 by decide)]
        exact ⟨⟨hc, q0, ⟨by omega, by omega, by omega⟩⟩, h0, pre_up h1 q1.2.2⟩
    · rename_i ho1 ho2
      have hop : x.op = 2 ∧ 0 ≤ x.n ∧ x.n ≤ (zb d x.zone).size := by
        rcases hm with k | k | k
        · exact absurd k.1 ho1
        · exact absurd k.1 ho2
        · exact ⟨k.1, k.2.2.1, k.2.2.2⟩
      obtain ⟨hop, n0, n1⟩ := hop
      injection hd with hd _
      subst hd
      rcases hz with hz | hz
      · rw [hz] at n1
        simp only [zb, if_true] at n1
        rw [if_pos ⟨hop, hz⟩, if_neg (by omega), hz]
        unfold Inv
        rw [ok_iff']
        simp only [tick, setZ, zb, zs, if_true]
        have e : (d.b0.extract 0 x.n.toNat).size = x.n.toNat := by simp; omega
        exact ⟨⟨hc, ⟨by omega, by omega, by omega⟩, q1⟩, pre_nil _ _ n0, h1⟩
      · rw [hz] at n1
        simp only [zb, if_neg (show ¬ (1 : Int) = 0 by decide)] at n1
        rw [if_neg (by omega), if_pos ⟨hop, hz⟩, hz]
        unfold Inv
        rw [ok_iff']
        simp only [tick, setZ, zb, zs, if_neg (show ¬ (1 : Int) = 0 by decide)]
        have e : (d.b1.extract 0 x.n.toNat).size = x.n.toNat := by simp; omega
        exact ⟨⟨hc, q0, ⟨by omega, by omega, by omega⟩⟩, h0, pre_nil _ _ n0⟩
theorem inv_left {d : Dk} {u0 u1 : ByteArray} (h : Inv d u0 u1) : Inv d (d.b0.extract 0 d.s0.toNat) u1 := by
  obtain ⟨hc, q0, q1⟩ := (ok_iff' d).1 h.1
  exact ⟨h.1, pre_self q0.2.1 q0.2.2, h.2.2⟩
theorem inv_right {d : Dk} {u0 u1 : ByteArray} (h : Inv d u0 u1) : Inv d u0 (d.b1.extract 0 d.s1.toNat) := by
  obtain ⟨hc, q0, q1⟩ := (ok_iff' d).1 h.1
  exact ⟨h.1, h.2.1, pre_self q1.2.1 q1.2.2⟩
end Dm
