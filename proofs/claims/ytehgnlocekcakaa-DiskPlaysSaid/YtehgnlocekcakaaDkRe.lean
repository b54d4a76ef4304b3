/- The contract of the document's do, whole: it answers as the code's does. -/
import Derived.Test.YtehgnlocekcakaaDkRda
import Derived.Test.YtehgnlocekcakaaDkRdb
import Derived.Test.YtehgnlocekcakaaDkRdc
namespace Go.Proofs.Ytehgnlocekcakaa
open Go.RowKit
open Go
set_option linter.unusedVariables false
theorem ne_facts {b : ByteArray} (h : b.toList ≠ []) : b.toList.isEmpty = false ∧ ((b.size : Int) == 0) = false ∧ ¬ b = ByteArray.empty := by
  have hl : b.toList.length = b.size := by rw [ByteArray.toList_eq]; simp
  have hs : b.size ≠ 0 := by
    intro e; rw [e] at hl; exact h (List.length_eq_zero_iff.1 hl)
  refine ⟨by simpa using h, ?_, ?_⟩
  · have : ¬ (b.size : Int) = 0 := by omega
    simpa using this
  · intro e; subst e; exact hs rfl
theorem e_facts {b : ByteArray} (h : b.toList = []) : b.size = 0 := by
  have hl : b.toList.length = b.size := by rw [ByteArray.toList_eq]; simp
  rw [h] at hl; exact hl.symm
theorem rdo_bad0 (b0 : ByteArray) (s0 : Int) (b1 : ByteArray) (s1 cap left : Int) (down : Bool) (op n : Int) (b : ByteArray) (w : World) (h : dOk b0 s0 b1 s1 cap) (hm : ¬ mayP op n b b0) :
    Calls Try.prog 20 #[dv ⟨b0, s0, b1, s1, cap, left, down⟩, wv ⟨op, 0, b, n⟩] w (DoPost (Dm.zero, 2) w) := by
  by_cases o0 : op = 0
  · subst o0
    by_cases e : b.toList = []
    · exact rdo_C0e0 b0 s0 b1 s1 cap left down 0 0 n b w h e (e_facts e)
    · obtain ⟨f1, f2, f3⟩ := ne_facts e
      refine rdo_C0n0 b0 s0 b1 s1 cap left down 0 0 n b w h f1 f2 f3 ?_
      have : n ≠ 0 := fun k => hm (Or.inl ⟨rfl, e, k⟩)
      simpa using this
  · by_cases o1 : op = 1
    · subst o1
      by_cases e : b.toList = []
      · refine rdo_C1n0 b0 s0 b1 s1 cap left down 0 0 n b w h e (e_facts e) ?_
        have : n ≠ 0 := fun k => hm (Or.inr (Or.inl ⟨rfl, e, k⟩))
        simpa using this
      · obtain ⟨f1, f2, f3⟩ := ne_facts e
        exact rdo_C1e0 b0 s0 b1 s1 cap left down 0 0 n b w h f1 f2 f3
    · by_cases o2 : op = 2
      · subst o2
        by_cases e : b.toList = []
        · by_cases hn : n < 0
          · exact rdo_C2l0 b0 s0 b1 s1 cap left down 0 0 n b w h e (e_facts e) hn
          · refine rdo_C2h0 b0 s0 b1 s1 cap left down 0 0 n b w h e (e_facts e) (by omega) ?_
            by_cases q : (b0.size : Int) < n
            · exact q
            · exact absurd (Or.inr (Or.inr ⟨rfl, e, by omega, by omega⟩)) hm
        · obtain ⟨f1, f2, f3⟩ := ne_facts e
          exact rdo_C2e0 b0 s0 b1 s1 cap left down 0 0 n b w h f1 f2 f3
      · exact rdo_Cx0 b0 s0 b1 s1 cap left down op 0 n b w h (by simpa using o0) (by simpa using o1) (by simpa using o2)
theorem rdo_D0 (b0 : ByteArray) (s0 : Int) (b1 : ByteArray) (s1 cap left op n : Int) (b : ByteArray) (w : World) (h : dOk b0 s0 b1 s1 cap) (hm : mayP op n b b0) :
    Calls Try.prog 20 #[dv ⟨b0, s0, b1, s1, cap, left, true⟩, wv ⟨op, 0, b, n⟩] w (DoPost (Dm.zero, 30) w) := by
  rcases hm with ⟨rfl, e, rfl⟩ | ⟨rfl, e, rfl⟩ | ⟨rfl, e, k1, k2⟩
  · obtain ⟨f1, f2, f3⟩ := ne_facts e
    exact rdo_D00 b0 s0 b1 s1 cap left true 0 0 0 b w h f1 f2 f3
  · exact rdo_D10 b0 s0 b1 s1 cap left true 0 0 0 b w h e (e_facts e)
  · obtain ⟨k, rfl⟩ := Int.eq_ofNat_of_zero_le k1
    exact rdo_D20 b0 s0 b1 s1 cap left true 0 0 0 b w h e (e_facts e) k (by omega)
theorem rdo_E0 (b0 : ByteArray) (s0 : Int) (b1 : ByteArray) (s1 cap left op n : Int) (b : ByteArray) (w : World) (h : dOk b0 s0 b1 s1 cap) (hm : mayP op n b b0) :
    Calls Try.prog 20 #[dv ⟨b0, s0, b1, s1, cap, 0, false⟩, wv ⟨op, 0, b, n⟩] w (DoPost (⟨b0, s0, b1, s1, cap, 0, true⟩, 30) w) := by
  rcases hm with ⟨rfl, e, rfl⟩ | ⟨rfl, e, rfl⟩ | ⟨rfl, e, k1, k2⟩
  · obtain ⟨f1, f2, f3⟩ := ne_facts e
    exact rdo_E00 b0 s0 b1 s1 cap 0 false 0 0 0 b w h f1 f2 f3
  · exact rdo_E10 b0 s0 b1 s1 cap 0 false 0 0 0 b w h e (e_facts e)
  · obtain ⟨k, rfl⟩ := Int.eq_ofNat_of_zero_le k1
    exact rdo_E20 b0 s0 b1 s1 cap 0 false 0 0 0 b w h e (e_facts e) k (by omega)
theorem rdo_up0 (b0 : ByteArray) (s0 : Int) (b1 : ByteArray) (s1 cap left op n : Int) (b : ByteArray) (w : World) (h : dOk b0 s0 b1 s1 cap) (hm : mayP op n b b0) (hl : left ≠ 0) (hl2 : left ≤ 9223372036854775807) (hs : (b.size : Int) ≤ 9000000000000000000) :
    Calls Try.prog 20 #[dv ⟨b0, s0, b1, s1, cap, left, false⟩, wv ⟨op, 0, b, n⟩] w (DoPost (Dm.actF ⟨b0, s0, b1, s1, cap, left, false⟩ ⟨op, 0, b, n⟩) w) := by
  rcases hm with ⟨rfl, e, rfl⟩ | ⟨rfl, e, rfl⟩ | ⟨rfl, e, k1, k2⟩
  · obtain ⟨f1, f2, f3⟩ := ne_facts e
    by_cases hf : cap < (b0.size : Int) + b.size
    · refine (rdo_F0 b0 s0 b1 s1 cap left false 0 0 0 b w h f1 f2 f3 (by simpa using hl) hf hs).mono ?_
      rintro e w' ⟨rfl, hb⟩
      have e : Dm.actF ⟨b0, s0, b1, s1, cap, left, false⟩ ⟨0, 0, b, 0⟩ = (Dm.zero, 31) := by simp [Dm.actF, Dm.zb, hf]
      rw [e]; exact ⟨rfl, hb⟩
    · by_cases hp : 0 < left
      · refine (rdo_AP0 b0 s0 b1 s1 cap left false 0 0 0 b w h f1 f2 f3 hp hl2 (by omega)).mono ?_
        rintro e w' ⟨rfl, hb⟩
        have e : Dm.actF ⟨b0, s0, b1, s1, cap, left, false⟩ ⟨0, 0, b, 0⟩ = (⟨b0 ++ b, s0, b1, s1, cap, left - 1, false⟩, 0) := by simp [Dm.actF, Dm.zb, Dm.zs, Dm.setZ, Dm.tick, hf, hp]
        rw [e]; exact ⟨rfl, hb⟩
      · refine (rdo_AN0 b0 s0 b1 s1 cap left false 0 0 0 b w h f1 f2 f3 (by omega) (by omega)).mono ?_
        rintro e w' ⟨rfl, hb⟩
        have e : Dm.actF ⟨b0, s0, b1, s1, cap, left, false⟩ ⟨0, 0, b, 0⟩ = (⟨b0 ++ b, s0, b1, s1, cap, left, false⟩, 0) := by simp [Dm.actF, Dm.zb, Dm.zs, Dm.setZ, Dm.tick, hf, hp]
        rw [e]; exact ⟨rfl, hb⟩
  · by_cases hp : 0 < left
    · refine (rdo_SP0 b0 s0 b1 s1 cap left false 0 0 0 b w h e (e_facts e) hp hl2).mono ?_
      rintro e w' ⟨rfl, hb⟩
      have e : Dm.actF ⟨b0, s0, b1, s1, cap, left, false⟩ ⟨1, 0, b, 0⟩ = (⟨b0, b0.size, b1, s1, cap, left - 1, false⟩, 0) := by simp [Dm.actF, Dm.zb, Dm.setZ, Dm.tick, hp]
      rw [e]; exact ⟨rfl, hb⟩
    · refine (rdo_SN0 b0 s0 b1 s1 cap left false 0 0 0 b w h e (e_facts e) (by omega)).mono ?_
      rintro e w' ⟨rfl, hb⟩
      have e : Dm.actF ⟨b0, s0, b1, s1, cap, left, false⟩ ⟨1, 0, b, 0⟩ = (⟨b0, b0.size, b1, s1, cap, left, false⟩, 0) := by simp [Dm.actF, Dm.zb, Dm.setZ, Dm.tick, hp]
      rw [e]; exact ⟨rfl, hb⟩
  · obtain ⟨k, rfl⟩ := Int.eq_ofNat_of_zero_le k1
    have hk : k ≤ b0.size := by omega
    by_cases hp : 0 < left
    · refine (rdo_HP0 b0 s0 b1 s1 cap left false 0 0 0 b w k hk h e (e_facts e) hp hl2).mono ?_
      rintro e w' ⟨rfl, hb⟩
      have e : Dm.actF ⟨b0, s0, b1, s1, cap, left, false⟩ ⟨2, 0, b, k⟩ = (⟨b0.extract 0 k, k, b1, s1, cap, left - 1, false⟩, 0) := by simp [Dm.actF, Dm.zb, Dm.setZ, Dm.tick, hp]
      rw [e]; exact ⟨rfl, hb⟩
    · refine (rdo_HN0 b0 s0 b1 s1 cap left false 0 0 0 b w k hk h e (e_facts e) (by omega)).mono ?_
      rintro e w' ⟨rfl, hb⟩
      have e : Dm.actF ⟨b0, s0, b1, s1, cap, left, false⟩ ⟨2, 0, b, k⟩ = (⟨b0.extract 0 k, k, b1, s1, cap, left, false⟩, 0) := by simp [Dm.actF, Dm.zb, Dm.setZ, Dm.tick, hp]
      rw [e]; exact ⟨rfl, hb⟩
theorem rdo_bad1 (b0 : ByteArray) (s0 : Int) (b1 : ByteArray) (s1 cap left : Int) (down : Bool) (op n : Int) (b : ByteArray) (w : World) (h : dOk b0 s0 b1 s1 cap) (hm : ¬ mayP op n b b1) :
    Calls Try.prog 20 #[dv ⟨b0, s0, b1, s1, cap, left, down⟩, wv ⟨op, 1, b, n⟩] w (DoPost (Dm.zero, 2) w) := by
  by_cases o0 : op = 0
  · subst o0
    by_cases e : b.toList = []
    · exact rdo_C0e1 b0 s0 b1 s1 cap left down 0 0 n b w h e (e_facts e)
    · obtain ⟨f1, f2, f3⟩ := ne_facts e
      refine rdo_C0n1 b0 s0 b1 s1 cap left down 0 0 n b w h f1 f2 f3 ?_
      have : n ≠ 0 := fun k => hm (Or.inl ⟨rfl, e, k⟩)
      simpa using this
  · by_cases o1 : op = 1
    · subst o1
      by_cases e : b.toList = []
      · refine rdo_C1n1 b0 s0 b1 s1 cap left down 0 0 n b w h e (e_facts e) ?_
        have : n ≠ 0 := fun k => hm (Or.inr (Or.inl ⟨rfl, e, k⟩))
        simpa using this
      · obtain ⟨f1, f2, f3⟩ := ne_facts e
        exact rdo_C1e1 b0 s0 b1 s1 cap left down 0 0 n b w h f1 f2 f3
    · by_cases o2 : op = 2
      · subst o2
        by_cases e : b.toList = []
        · by_cases hn : n < 0
          · exact rdo_C2l1 b0 s0 b1 s1 cap left down 0 0 n b w h e (e_facts e) hn
          · refine rdo_C2h1 b0 s0 b1 s1 cap left down 0 0 n b w h e (e_facts e) (by omega) ?_
            by_cases q : (b1.size : Int) < n
            · exact q
            · exact absurd (Or.inr (Or.inr ⟨rfl, e, by omega, by omega⟩)) hm
        · obtain ⟨f1, f2, f3⟩ := ne_facts e
          exact rdo_C2e1 b0 s0 b1 s1 cap left down 0 0 n b w h f1 f2 f3
      · exact rdo_Cx1 b0 s0 b1 s1 cap left down op 0 n b w h (by simpa using o0) (by simpa using o1) (by simpa using o2)
theorem rdo_D1 (b0 : ByteArray) (s0 : Int) (b1 : ByteArray) (s1 cap left op n : Int) (b : ByteArray) (w : World) (h : dOk b0 s0 b1 s1 cap) (hm : mayP op n b b1) :
    Calls Try.prog 20 #[dv ⟨b0, s0, b1, s1, cap, left, true⟩, wv ⟨op, 1, b, n⟩] w (DoPost (Dm.zero, 30) w) := by
  rcases hm with ⟨rfl, e, rfl⟩ | ⟨rfl, e, rfl⟩ | ⟨rfl, e, k1, k2⟩
  · obtain ⟨f1, f2, f3⟩ := ne_facts e
    exact rdo_D01 b0 s0 b1 s1 cap left true 0 0 0 b w h f1 f2 f3
  · exact rdo_D11 b0 s0 b1 s1 cap left true 0 0 0 b w h e (e_facts e)
  · obtain ⟨k, rfl⟩ := Int.eq_ofNat_of_zero_le k1
    exact rdo_D21 b0 s0 b1 s1 cap left true 0 0 0 b w h e (e_facts e) k (by omega)
theorem rdo_E1 (b0 : ByteArray) (s0 : Int) (b1 : ByteArray) (s1 cap left op n : Int) (b : ByteArray) (w : World) (h : dOk b0 s0 b1 s1 cap) (hm : mayP op n b b1) :
    Calls Try.prog 20 #[dv ⟨b0, s0, b1, s1, cap, 0, false⟩, wv ⟨op, 1, b, n⟩] w (DoPost (⟨b0, s0, b1, s1, cap, 0, true⟩, 30) w) := by
  rcases hm with ⟨rfl, e, rfl⟩ | ⟨rfl, e, rfl⟩ | ⟨rfl, e, k1, k2⟩
  · obtain ⟨f1, f2, f3⟩ := ne_facts e
    exact rdo_E01 b0 s0 b1 s1 cap 0 false 0 0 0 b w h f1 f2 f3
  · exact rdo_E11 b0 s0 b1 s1 cap 0 false 0 0 0 b w h e (e_facts e)
  · obtain ⟨k, rfl⟩ := Int.eq_ofNat_of_zero_le k1
    exact rdo_E21 b0 s0 b1 s1 cap 0 false 0 0 0 b w h e (e_facts e) k (by omega)
theorem rdo_up1 (b0 : ByteArray) (s0 : Int) (b1 : ByteArray) (s1 cap left op n : Int) (b : ByteArray) (w : World) (h : dOk b0 s0 b1 s1 cap) (hm : mayP op n b b1) (hl : left ≠ 0) (hl2 : left ≤ 9223372036854775807) (hs : (b.size : Int) ≤ 9000000000000000000) :
    Calls Try.prog 20 #[dv ⟨b0, s0, b1, s1, cap, left, false⟩, wv ⟨op, 1, b, n⟩] w (DoPost (Dm.actF ⟨b0, s0, b1, s1, cap, left, false⟩ ⟨op, 1, b, n⟩) w) := by
  rcases hm with ⟨rfl, e, rfl⟩ | ⟨rfl, e, rfl⟩ | ⟨rfl, e, k1, k2⟩
  · obtain ⟨f1, f2, f3⟩ := ne_facts e
    by_cases hf : cap < (b1.size : Int) + b.size
    · refine (rdo_F1 b0 s0 b1 s1 cap left false 0 0 0 b w h f1 f2 f3 (by simpa using hl) hf hs).mono ?_
      rintro e w' ⟨rfl, hb⟩
      have e : Dm.actF ⟨b0, s0, b1, s1, cap, left, false⟩ ⟨0, 1, b, 0⟩ = (Dm.zero, 31) := by simp [Dm.actF, Dm.zb, hf]
      rw [e]; exact ⟨rfl, hb⟩
    · by_cases hp : 0 < left
      · refine (rdo_AP1 b0 s0 b1 s1 cap left false 0 0 0 b w h f1 f2 f3 hp hl2 (by omega)).mono ?_
        rintro e w' ⟨rfl, hb⟩
        have e : Dm.actF ⟨b0, s0, b1, s1, cap, left, false⟩ ⟨0, 1, b, 0⟩ = (⟨b0, s0, b1 ++ b, s1, cap, left - 1, false⟩, 0) := by simp [Dm.actF, Dm.zb, Dm.zs, Dm.setZ, Dm.tick, hf, hp]
        rw [e]; exact ⟨rfl, hb⟩
      · refine (rdo_AN1 b0 s0 b1 s1 cap left false 0 0 0 b w h f1 f2 f3 (by omega) (by omega)).mono ?_
        rintro e w' ⟨rfl, hb⟩
        have e : Dm.actF ⟨b0, s0, b1, s1, cap, left, false⟩ ⟨0, 1, b, 0⟩ = (⟨b0, s0, b1 ++ b, s1, cap, left, false⟩, 0) := by simp [Dm.actF, Dm.zb, Dm.zs, Dm.setZ, Dm.tick, hf, hp]
        rw [e]; exact ⟨rfl, hb⟩
  · by_cases hp : 0 < left
    · refine (rdo_SP1 b0 s0 b1 s1 cap left false 0 0 0 b w h e (e_facts e) hp hl2).mono ?_
      rintro e w' ⟨rfl, hb⟩
      have e : Dm.actF ⟨b0, s0, b1, s1, cap, left, false⟩ ⟨1, 1, b, 0⟩ = (⟨b0, s0, b1, b1.size, cap, left - 1, false⟩, 0) := by simp [Dm.actF, Dm.zb, Dm.setZ, Dm.tick, hp]
      rw [e]; exact ⟨rfl, hb⟩
    · refine (rdo_SN1 b0 s0 b1 s1 cap left false 0 0 0 b w h e (e_facts e) (by omega)).mono ?_
      rintro e w' ⟨rfl, hb⟩
      have e : Dm.actF ⟨b0, s0, b1, s1, cap, left, false⟩ ⟨1, 1, b, 0⟩ = (⟨b0, s0, b1, b1.size, cap, left, false⟩, 0) := by simp [Dm.actF, Dm.zb, Dm.setZ, Dm.tick, hp]
      rw [e]; exact ⟨rfl, hb⟩
  · obtain ⟨k, rfl⟩ := Int.eq_ofNat_of_zero_le k1
    have hk : k ≤ b1.size := by omega
    by_cases hp : 0 < left
    · refine (rdo_HP1 b0 s0 b1 s1 cap left false 0 0 0 b w k hk h e (e_facts e) hp hl2).mono ?_
      rintro e w' ⟨rfl, hb⟩
      have e : Dm.actF ⟨b0, s0, b1, s1, cap, left, false⟩ ⟨2, 1, b, k⟩ = (⟨b0, s0, b1.extract 0 k, k, cap, left - 1, false⟩, 0) := by simp [Dm.actF, Dm.zb, Dm.setZ, Dm.tick, hp]
      rw [e]; exact ⟨rfl, hb⟩
    · refine (rdo_HN1 b0 s0 b1 s1 cap left false 0 0 0 b w k hk h e (e_facts e) (by omega)).mono ?_
      rintro e w' ⟨rfl, hb⟩
      have e : Dm.actF ⟨b0, s0, b1, s1, cap, left, false⟩ ⟨2, 1, b, k⟩ = (⟨b0, s0, b1.extract 0 k, k, cap, left, false⟩, 0) := by simp [Dm.actF, Dm.zb, Dm.setZ, Dm.tick, hp]
      rw [e]; exact ⟨rfl, hb⟩
theorem rdo_any (d : Dm.Dk) (x : Dm.Wr) (w : World) (hl : Is64 d.left) (hs : (x.b.size : Int) ≤ 9000000000000000000) :
    Calls Try.prog 20 #[dv d, wv x] w (DoPost (Dm.doF d x) w) := by
  obtain ⟨b0, s0, b1, s1, cap, left, down⟩ := d
  obtain ⟨op, zone, b, n⟩ := x
  by_cases h1 : Dm.okB ⟨b0, s0, b1, s1, cap, left, down⟩ = false
  · refine (rdo_A b0 s0 b1 s1 cap left down op zone n b w ((ok_no _).1 h1)).mono ?_
    rintro e w' ⟨rfl, hb⟩
    have e : Dm.doF ⟨b0, s0, b1, s1, cap, left, down⟩ ⟨op, zone, b, n⟩ = (Dm.zero, 2) := by unfold Dm.doF; rw [if_pos (Or.inl h1)]
    rw [e]; exact ⟨rfl, hb⟩
  · have h1' : Dm.okB ⟨b0, s0, b1, s1, cap, left, down⟩ = true := by simpa using h1
    have hok := (ok_iff _).1 h1'
    by_cases hz : zone ≠ 0 ∧ zone ≠ 1
    · have e : Dm.doF ⟨b0, s0, b1, s1, cap, left, down⟩ ⟨op, zone, b, n⟩ = (Dm.zero, 2) := by unfold Dm.doF; rw [if_pos (Or.inr (Or.inl hz))]
      rw [e]
      by_cases hz0 : zone < 0
      · exact rdo_B1 b0 s0 b1 s1 cap left down op zone n b w hok hz0
      · exact rdo_B2 b0 s0 b1 s1 cap left down op zone n b w hok (by omega)
    · have hz' : zone = 0 ∨ zone = 1 := by omega
      by_cases hm : Dm.mayB ⟨op, zone, b, n⟩ (Dm.zb ⟨b0, s0, b1, s1, cap, left, down⟩ zone) = false
      · have e : Dm.doF ⟨b0, s0, b1, s1, cap, left, down⟩ ⟨op, zone, b, n⟩ = (Dm.zero, 2) := by unfold Dm.doF; rw [if_pos (Or.inr (Or.inr hm))]
        rw [e]
        rcases hz' with rfl | rfl
        · exact rdo_bad0 b0 s0 b1 s1 cap left down op n b w hok ((mayB_no _ _).1 hm)
        · exact rdo_bad1 b0 s0 b1 s1 cap left down op n b w hok ((mayB_no _ _).1 hm)
      · have hm' : Dm.mayB ⟨op, zone, b, n⟩ (Dm.zb ⟨b0, s0, b1, s1, cap, left, down⟩ zone) = true := by simpa using hm
        have hmp := (mayB_iff _ _).1 hm'
        have hno : ¬ (Dm.okB ⟨b0, s0, b1, s1, cap, left, down⟩ = false ∨ (zone ≠ 0 ∧ zone ≠ 1) ∨ Dm.mayB ⟨op, zone, b, n⟩ (Dm.zb ⟨b0, s0, b1, s1, cap, left, down⟩ zone) = false) := by
          rintro (k | k | k)
          · exact h1 k
          · exact hz k
          · exact hm k
        cases down
        · by_cases hl0 : left = 0
          · have e : Dm.doF ⟨b0, s0, b1, s1, cap, left, false⟩ ⟨op, zone, b, n⟩ = (⟨b0, s0, b1, s1, cap, left, true⟩, 30) := by
              unfold Dm.doF; rw [if_neg hno, if_neg (by simp), if_pos hl0]
            rw [e]
            subst hl0
            rcases hz' with rfl | rfl
            · exact rdo_E0 b0 s0 b1 s1 cap 0 op n b w hok hmp
            · exact rdo_E1 b0 s0 b1 s1 cap 0 op n b w hok hmp
          · have e : Dm.doF ⟨b0, s0, b1, s1, cap, left, false⟩ ⟨op, zone, b, n⟩ = Dm.actF ⟨b0, s0, b1, s1, cap, left, false⟩ ⟨op, zone, b, n⟩ := by
              unfold Dm.doF; rw [if_neg hno, if_neg (by simp), if_neg hl0]
            rw [e]
            rcases hz' with rfl | rfl
            · exact rdo_up0 b0 s0 b1 s1 cap left op n b w hok hmp hl0 hl.2 hs
            · exact rdo_up1 b0 s0 b1 s1 cap left op n b w hok hmp hl0 hl.2 hs
        · have e : Dm.doF ⟨b0, s0, b1, s1, cap, left, true⟩ ⟨op, zone, b, n⟩ = (Dm.zero, 30) := by
            unfold Dm.doF; rw [if_neg hno, if_pos rfl]
          rw [e]
          rcases hz' with rfl | rfl
          · exact rdo_D0 b0 s0 b1 s1 cap left op n b w hok hmp
          · exact rdo_D1 b0 s0 b1 s1 cap left op n b w hok hmp
end Go.Proofs.Ytehgnlocekcakaa
