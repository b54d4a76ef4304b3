/- Plain laws on letters' dates: a date's words as the reader takes them. No program in sight. -/
import Derived.Test.YtbhafhbaldddiaaMlP
import Derived.Lib.Strings
namespace Ml
open Sm
def lenN (s : ByteArray) : Nat := if s.size ≤ 1 then 1 else 2
theorem digO_len (d : ByteArray) : digO d (lenN d) = digO d (dyn d) := by
  by_cases h0 : d.size = 0
  · rw [Bool.eq_iff_iff, digO_iff, digO_iff]
    unfold lenN dyn
    constructor
    · rintro ⟨h, _⟩
      rw [h0] at h
      simp at h
    · rintro ⟨h, _⟩
      rw [h0] at h
      simp at h
  · have : lenN d = dyn d := by unfold lenN dyn; split <;> split <;> omega
    rw [this]
theorem digV_len (d : ByteArray) : digV d (lenN d) = digV d (dyn d) := by
  by_cases h : digO d (dyn d) = true
  · have : lenN d = dyn d := by
      have h2 := ((digO_iff _ _).1 h).1
      unfold lenN
      unfold dyn at h2 ⊢
      split at h2 <;> split <;> first | omega | rfl
    rw [this]
  · unfold digV
    rw [digO_len, if_neg h, if_neg h]
/-- What is bad in five words. -/
def bad5 (b : Bool) (d m y c z : ByteArray) : Bool := (((((b || !digO d (lenN d)) || !(monF m).isSome) || !digO y 4) || !hmsB c) || !(zneF z).isSome)
theorem bad5_true (d m y c z : ByteArray) : bad5 true d m y c z = true := by unfold bad5; simp
theorem bad5_iff (d m y c z : ByteArray) : bad5 false d m y c z = false ↔ digO d (dyn d) = true ∧ (∃ mm, monF m = some mm) ∧ digO y 4 = true ∧ hmsB c = true ∧ ∃ e, zneF z = some e := by
  unfold bad5
  rw [digO_len]
  simp [Option.isSome_iff_exists, and_assoc]
theorem five_bad {d m y c z : ByteArray} {week : Option Int} (h : bad5 false d m y c z = true) : five d m y c z week = none := by
  cases hf : five d m y c z week with
  | none => rfl
  | some v =>
    obtain ⟨mm, e, h1, h2, h3, h4, h5, _⟩ := five_some hf
    have := (bad5_iff d m y c z).2 ⟨h3, ⟨mm, h1⟩, h4, h5, ⟨e, h2⟩⟩
    rw [h] at this
    cases this
theorem list4 {l : List UInt8} (h : l.length = 4) : ∃ a b c d, l = [a, b, c, d] := by
  match l, h with
  | [a, b, c, d], _ => exact ⟨a, b, c, d, rfl⟩
theorem list3 {l : List UInt8} (h : l.length = 3) : ∃ a b c, l = [a, b, c] := by
  match l, h with
  | [a, b, c], _ => exact ⟨a, b, c, rfl⟩
theorem has_iff (l : List UInt8) : Go.Lib.hasSuffix l [44] = true ↔ ∃ t, l = t ++ [44] := by
  unfold Go.Lib.hasSuffix
  rw [List.isSuffixOf_iff_suffix]
  constructor
  · rintro ⟨t, h⟩
    exact ⟨t, h.symm⟩
  · rintro ⟨t, h⟩
    exact ⟨t, h.symm⟩
theorem trim_is (t : List UInt8) : Go.Lib.trimSuffix (t ++ [44]) [44] = t := by
  unfold Go.Lib.trimSuffix
  rw [if_pos ((has_iff _).2 ⟨t, rfl⟩)]
  simp
def cutO (w : ByteArray) : Bool := Go.Lib.hasSuffix w.data.toList [44]
def cutQ (w : ByteArray) : ByteArray := ⟨(Go.Lib.trimSuffix w.data.toList [44]).toArray⟩
theorem cut_le (w : ByteArray) : (cutQ w).size ≤ w.size := by
  have h1 : w.data.toList.length = w.size := by simp
  show (Go.Lib.trimSuffix w.data.toList [44]).toArray.size ≤ _
  unfold Go.Lib.trimSuffix
  split
  · simp
  · simp
theorem comma_to {w : ByteArray} (h : commaB w = true) : cutO w = true ∧ w.extract 0 3 = cutQ w := by
  unfold commaB at h
  rw [Bool.and_eq_true, decide_eq_true_iff, beq_iff_eq] at h
  obtain ⟨h1, h2⟩ := h
  have hl : w.data.toList.length = 4 := by simpa using h1
  obtain ⟨a, b, c, x, e⟩ := list4 hl
  have e2 := of_list e
  have hx : x = 44 := by
    rw [e2, B_mk] at h2
    apply UInt8.toNat_inj.1
    exact h2
  subst hx
  have e3 : w.data.toList = [a, b, c] ++ [44] := e
  refine ⟨(has_iff _).2 ⟨_, e3⟩, ?_⟩
  unfold cutQ
  rw [e3, trim_is, e2]
  rfl
theorem comma_of {w : ByteArray} (h : cutO w = true) {k : Int} (hk : dayF (cutQ w) = some k) : commaB w = true ∧ w.extract 0 3 = cutQ w := by
  obtain ⟨t, e⟩ := (has_iff _).1 h
  have hq : cutQ w = mk t := by
    unfold cutQ
    rw [e, trim_is]
    rfl
  have h3 := (day_size hk).1
  rw [hq, mk_size] at h3
  obtain ⟨a, b, c, rfl⟩ := list3 h3
  have e2 := of_list e
  have hc : commaB w = true := by
    rw [e2]
    unfold commaB
    rw [Bool.and_eq_true, decide_eq_true_iff, beq_iff_eq, B_mk]
    exact ⟨rfl, rfl⟩
  exact ⟨hc, (comma_to hc).2⟩
theorem six_bad {w d m y c z : ByteArray} (h : bad5 ((!cutO w) || !(dayF (cutQ w)).isSome) d m y c z = true) : prs [w, d, m, y, c, z] = none := by
  show (if commaB w = true then (match dayF (w.extract 0 3) with | some k => five d m y c z (some k) | none => none) else none) = none
  split
  · rename_i hc
    obtain ⟨h1, h2⟩ := comma_to hc
    rw [h2]
    cases hd : dayF (cutQ w) with
    | none => rfl
    | some k =>
      rw [h1, hd] at h
      exact five_bad h
  · rfl
theorem six_good {w d m y c z : ByteArray} (h : bad5 ((!cutO w) || !(dayF (cutQ w)).isSome) d m y c z = false) : ∃ k, dayF (cutQ w) = some k ∧ bad5 false d m y c z = false ∧ prs [w, d, m, y, c, z] = five d m y c z (some k) := by
  cases ho : cutO w with
  | false =>
    rw [ho] at h
    simp only [Bool.not_false, Bool.true_or] at h
    rw [bad5_true] at h
    cases h
  | true =>
    cases hd : dayF (cutQ w) with
    | none =>
      rw [hd] at h
      simp only [Option.isSome_none, Bool.not_false, Bool.or_true] at h
      rw [bad5_true] at h
      cases h
    | some k =>
      rw [ho, hd] at h
      obtain ⟨h1, h2⟩ := comma_of ho hd
      refine ⟨k, rfl, h, ?_⟩
      show (if commaB w = true then (match dayF (w.extract 0 3) with | some k => five d m y c z (some k) | none => none) else none) = _
      rw [if_pos h1, h2, hd]
end Ml
