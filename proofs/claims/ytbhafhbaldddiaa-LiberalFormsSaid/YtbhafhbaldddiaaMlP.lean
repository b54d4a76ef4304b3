/- Plain laws on letters' dates: times of the day by their pieces; a text's pieces put together; zones. No program in sight. -/
import Derived.Test.YtbhafhbaldddiaaMl
namespace Ml
open Sm
theorem numA_ext (s : ByteArray) (a b : Nat) : ∀ j, a + j ≤ b → numA (s.extract a b) 0 j = numA s a j
  | 0, _ => rfl
  | j + 1, h => by
    have ih := numA_ext s a b j (by omega)
    unfold numA
    rw [ih]
    have : v (s.extract a b) (0 + j) = v s (a + j) := by
      unfold v
      rw [B_extract, if_pos (by omega), Nat.zero_add]
    rw [this]
theorem dig_ext (s : ByteArray) (a b i : Nat) (h : a + i < b) : dig (s.extract a b) i = dig s (a + i) := by
  unfold dig
  rw [B_extract, if_pos h]
theorem digO_ext (s : ByteArray) (a b n : Nat) (hb : b = a + n) (h : b ≤ s.size) : digO (s.extract a b) n = true ↔ ∀ i, i < n → dig s (a + i) = true := by
  rw [digO_iff, size_extract]
  constructor
  · rintro ⟨_, h2⟩ i hi
    rw [← dig_ext s a b i (by omega)]
    exact h2 i hi
  · intro h2
    exact ⟨by omega, fun i hi => by rw [dig_ext s a b i (by omega)]; exact h2 i hi⟩
theorem digO2 (s : ByteArray) (a b : Nat) (hb : b = a + 2) (h : b ≤ s.size) : digO (s.extract a b) 2 = d2 s a := by
  rw [Bool.eq_iff_iff, digO_ext s a b 2 hb h, all_2]
theorem digV2 (s : ByteArray) (a b : Nat) (hb : b = a + 2) (h : b ≤ s.size) : digV (s.extract a b) 2 = if d2 s a = true then n2 s a else 0 := by
  unfold digV
  rw [digO2 s a b hb h, numA_ext s a b 2 (by omega), numA_2]
def joinL (c : UInt8) : List (List UInt8) → List UInt8
  | [] => []
  | [x] => x
  | x :: y :: t => x ++ c :: joinL c (y :: t)
theorem sp_join (c : UInt8) : ∀ l : List UInt8, joinL c (sp c l) = l
  | [] => rfl
  | b :: l => by
    have ih := sp_join c l
    rw [sp_cons]
    cases hs : sp c l with
    | nil => exact absurd hs (sp_ne c l)
    | cons y t =>
      rw [hs] at ih
      split
      · rename_i e
        show [] ++ c :: joinL c (y :: t) = b :: l
        rw [ih, e]
        rfl
      · show joinL c ((b :: y) :: t) = b :: l
        cases t with
        | nil =>
          show b :: y = b :: l
          rw [show y = l from ih]
        | cons z t =>
          show (b :: y) ++ c :: joinL c (z :: t) = b :: l
          rw [← ih]
          rfl
theorem tot_mem : ∀ {l : List (List UInt8)} {x : List UInt8}, x ∈ l → x.length + 1 ≤ tot l
  | y :: l, x, h => by
    rcases List.mem_cons.1 h with rfl | h
    · simp [tot]
    · have := tot_mem h
      simp [tot]
      omega
theorem B_mk (l : List UInt8) (i : Nat) : B (mk l) i = (l[i]?.getD 0).toNat := by
  unfold B mk
  simp
theorem of_list {s : ByteArray} {l : List UInt8} (h : s.data.toList = l) : s = mk l := by rw [← h, mk_list]
theorem list2 {l : List UInt8} (h : l.length = 2) : ∃ a b, l = [a, b] := by
  match l, h with
  | [a, b], _ => exact ⟨a, b, rfl⟩
theorem list5 {l : List UInt8} (h : l.length = 5) : ∃ a b c d e, l = [a, b, c, d, e] := by
  match l, h with
  | [a, b, c, d, e], _ => exact ⟨a, b, c, d, e, rfl⟩
theorem list8 {l : List UInt8} (h : l.length = 8) : ∃ a b c d e f g i, l = [a, b, c, d, e, f, g, i] := by
  match l, h with
  | [a, b, c, d, e, f, g, i], _ => exact ⟨a, b, c, d, e, f, g, i, rfl⟩
def dB (x : UInt8) : Prop := 48 ≤ x.toNat ∧ x.toNat ≤ 57
theorem dig_mk (l : List UInt8) (i : Nat) (x : UInt8) (h : l[i]? = some x) : dig (mk l) i = true ↔ dB x := by
  rw [dig_iff, B_mk, h]
  exact Iff.rfl
theorem d2_mk (l : List UInt8) (i : Nat) (x y : UInt8) (h : l[i]? = some x) (h2 : l[i + 1]? = some y) : d2 (mk l) i = true ↔ dB x ∧ dB y := by
  rw [d2_iff, dig_mk l i x h, dig_mk l (i + 1) y h2]
theorem digO_mk2 (x y : UInt8) : digO (mk [x, y]) 2 = true ↔ dB x ∧ dB y := by
  rw [digO_iff]
  constructor
  · rintro ⟨_, h⟩
    exact ⟨(dig_mk _ 0 x rfl).1 (h 0 (by omega)), (dig_mk _ 1 y rfl).1 (h 1 (by omega))⟩
  · rintro ⟨h1, h2⟩
    refine ⟨rfl, fun i hi => ?_⟩
    match i, hi with
    | 0, _ => exact (dig_mk _ 0 x rfl).2 h1
    | 1, _ => exact (dig_mk _ 1 y rfl).2 h2
theorem dB_ne {x : UInt8} (h : dB x) : x ≠ 58 ∧ x ≠ 32 := by
  unfold dB at h
  constructor
  · rintro rfl
    simp at h
  · rintro rfl
    simp at h
theorem n2_mk (l : List UInt8) (i : Nat) (x y : UInt8) (h : l[i]? = some x) (h2 : l[i + 1]? = some y) : n2 (mk l) i = ((x.toNat : Int) - 48) * 10 + ((y.toNat : Int) - 48) := by
  unfold n2 v
  rw [B_mk, B_mk, h, h2]
  rfl
theorem digV_mk2 (x y : UInt8) (h : digO (mk [x, y]) 2 = true) : digV (mk [x, y]) 2 = ((x.toNat : Int) - 48) * 10 + ((y.toNat : Int) - 48) := by
  unfold digV
  rw [if_pos h, numA_2, n2_mk _ 0 x y rfl rfl]
theorem hms_of2 {s : ByteArray} {a b : List UInt8} (h : sp 58 s.data.toList = [a, b]) (ha : digO (mk a) 2 = true) (hb : digO (mk b) 2 = true) : hmsB s = true ∧ n2 s 0 = digV (mk a) 2 ∧ n2 s 3 = digV (mk b) 2 ∧ secOf s = 0 := by
  have hj := sp_join 58 s.data.toList
  rw [h] at hj
  have e := of_list hj.symm
  obtain ⟨a0, a1, rfl⟩ := list2 ((digO_iff _ _).1 ha).1
  obtain ⟨b0, b1, rfl⟩ := list2 ((digO_iff _ _).1 hb).1
  have e2 : s = mk [a0, a1, 58, b0, b1] := e
  rw [digV_mk2 _ _ ha, digV_mk2 _ _ hb, e2]
  rw [digO_mk2] at ha hb
  refine ⟨(hms_iff _).2 ⟨(d2_mk _ 0 a0 a1 rfl rfl).2 ha, by rw [B_mk]; rfl, (d2_mk _ 3 b0 b1 rfl rfl).2 hb, Or.inl rfl⟩, n2_mk _ 0 a0 a1 rfl rfl, n2_mk _ 3 b0 b1 rfl rfl, rfl⟩
theorem hms_of3 {s : ByteArray} {a b d : List UInt8} (h : sp 58 s.data.toList = [a, b, d]) (ha : digO (mk a) 2 = true) (hb : digO (mk b) 2 = true) (hd : digO (mk d) 2 = true) : hmsB s = true ∧ n2 s 0 = digV (mk a) 2 ∧ n2 s 3 = digV (mk b) 2 ∧ secOf s = digV (mk d) 2 := by
  have hj := sp_join 58 s.data.toList
  rw [h] at hj
  have e := of_list hj.symm
  obtain ⟨a0, a1, rfl⟩ := list2 ((digO_iff _ _).1 ha).1
  obtain ⟨b0, b1, rfl⟩ := list2 ((digO_iff _ _).1 hb).1
  obtain ⟨d0, d1, rfl⟩ := list2 ((digO_iff _ _).1 hd).1
  have e2 : s = mk [a0, a1, 58, b0, b1, 58, d0, d1] := e
  rw [digV_mk2 _ _ ha, digV_mk2 _ _ hb, digV_mk2 _ _ hd, e2]
  rw [digO_mk2] at ha hb hd
  refine ⟨(hms_iff _).2 ⟨(d2_mk _ 0 a0 a1 rfl rfl).2 ha, by rw [B_mk]; rfl, (d2_mk _ 3 b0 b1 rfl rfl).2 hb, Or.inr ⟨rfl, by rw [B_mk]; rfl, (d2_mk _ 6 d0 d1 rfl rfl).2 hd⟩⟩, n2_mk _ 0 a0 a1 rfl rfl, n2_mk _ 3 b0 b1 rfl rfl, ?_⟩
  show (if (8 : Nat) = 8 then _ else _) = _
  rw [if_pos rfl]
  exact n2_mk _ 6 d0 d1 rfl rfl
theorem b58 {x : UInt8} (h : x.toNat = 58) : x = 58 := by
  apply UInt8.toNat_inj.1
  exact h
theorem hms_to {s : ByteArray} (h : hmsB s = true) : (∃ a b, sp 58 s.data.toList = [a, b] ∧ digO (mk a) 2 = true ∧ digO (mk b) 2 = true) ∨ ∃ a b d, sp 58 s.data.toList = [a, b, d] ∧ digO (mk a) 2 = true ∧ digO (mk b) 2 = true ∧ digO (mk d) 2 = true := by
  obtain ⟨h1, h2, h3, h4⟩ := (hms_iff s).1 h
  have hl : s.data.toList.length = s.size := by simp
  rcases h4 with h4 | ⟨h4, h5, h6⟩
  · obtain ⟨a0, a1, x, b0, b1, e⟩ := list5 (hl.trans h4)
    have e2 := of_list e
    rw [e2] at h1 h2 h3
    rw [d2_mk _ 0 a0 a1 rfl rfl] at h1
    rw [d2_mk _ 3 b0 b1 rfl rfl] at h3
    have hx : x = 58 := b58 (by rw [B_mk] at h2; exact h2)
    subst hx
    refine Or.inl ⟨[a0, a1], [b0, b1], ?_, (digO_mk2 _ _).2 h1, (digO_mk2 _ _).2 h3⟩
    rw [e]
    have n1 := dB_ne h1.1
    have n2 := dB_ne h1.2
    have n3 := dB_ne h3.1
    have n4 := dB_ne h3.2
    rw [show [a0, a1, 58, b0, b1] = [a0, a1] ++ 58 :: [b0, b1] from rfl, sp_first _ _ _ (by simp; exact ⟨fun k => n1.1 k.symm, fun k => n2.1 k.symm⟩), sp_none _ _ (by simp; exact ⟨fun k => n3.1 k.symm, fun k => n4.1 k.symm⟩)]
  · obtain ⟨a0, a1, x, b0, b1, y, d0, d1, e⟩ := list8 (hl.trans h4)
    have e2 := of_list e
    rw [e2] at h1 h2 h3 h5 h6
    rw [d2_mk _ 0 a0 a1 rfl rfl] at h1
    rw [d2_mk _ 3 b0 b1 rfl rfl] at h3
    rw [d2_mk _ 6 d0 d1 rfl rfl] at h6
    have hx : x = 58 := b58 (by rw [B_mk] at h2; exact h2)
    have hy : y = 58 := b58 (by rw [B_mk] at h5; exact h5)
    subst hx
    subst hy
    refine Or.inr ⟨[a0, a1], [b0, b1], [d0, d1], ?_, (digO_mk2 _ _).2 h1, (digO_mk2 _ _).2 h3, (digO_mk2 _ _).2 h6⟩
    rw [e]
    have n1 := dB_ne h1.1
    have n2 := dB_ne h1.2
    have n3 := dB_ne h3.1
    have n4 := dB_ne h3.2
    have n5 := dB_ne h6.1
    have n6 := dB_ne h6.2
    rw [show [a0, a1, 58, b0, b1, 58, d0, d1] = [a0, a1] ++ 58 :: ([b0, b1] ++ 58 :: [d0, d1]) from rfl, sp_first _ _ _ (by simp; exact ⟨fun k => n1.1 k.symm, fun k => n2.1 k.symm⟩), sp_first _ _ _ (by simp; exact ⟨fun k => n3.1 k.symm, fun k => n4.1 k.symm⟩), sp_none _ _ (by simp; exact ⟨fun k => n5.1 k.symm, fun k => n6.1 k.symm⟩)]
/-- What the time's pieces tell. -/
theorem hms_2 {s : ByteArray} {a b : List UInt8} (h : sp 58 s.data.toList = [a, b]) : hmsB s = (digO (mk a) 2 && digO (mk b) 2) := by
  rw [Bool.eq_iff_iff, Bool.and_eq_true]
  constructor
  · intro hh
    rcases hms_to hh with ⟨a', b', e, h1, h2⟩ | ⟨a', b', d', e, _⟩
    · rw [h] at e
      simp only [List.cons.injEq, and_true] at e
      rw [e.1, e.2]
      exact ⟨h1, h2⟩
    · rw [h] at e
      simp at e
  · rintro ⟨h1, h2⟩
    exact (hms_of2 h h1 h2).1
theorem hms_3 {s : ByteArray} {a b d : List UInt8} (h : sp 58 s.data.toList = [a, b, d]) : hmsB s = (digO (mk a) 2 && digO (mk b) 2 && digO (mk d) 2) := by
  rw [Bool.eq_iff_iff, Bool.and_eq_true, Bool.and_eq_true]
  constructor
  · intro hh
    rcases hms_to hh with ⟨a', b', e, h1, h2⟩ | ⟨a', b', d', e, h1, h2, h3⟩
    · rw [h] at e
      simp at e
    · rw [h] at e
      simp only [List.cons.injEq, and_true] at e
      rw [e.1, e.2.1, e.2.2]
      exact ⟨⟨h1, h2⟩, h3⟩
  · rintro ⟨⟨h1, h2⟩, h3⟩
    exact (hms_of3 h h1 h2 h3).1
theorem hms_else {s : ByteArray} (h2 : (sp 58 s.data.toList).length ≠ 2) (h3 : (sp 58 s.data.toList).length ≠ 3) : hmsB s = false := by
  cases h : hmsB s with
  | false => rfl
  | true =>
    rcases hms_to h with ⟨a', b', e, _⟩ | ⟨a', b', d', e, _⟩
    · rw [e] at h2
      exact absurd rfl h2
    · rw [e] at h3
      exact absurd rfl h3
theorem zn_find : (znames.all fun p => decide ((znames.reverse.find? fun q => decide (q.1 = p.1)).map (fun q => q.2) = hourF p.1)) = true := by kernel_rfl
theorem zn_is (s : ByteArray) : (znames.reverse.find? fun q => decide (q.1 = s)).map (fun q => q.2) = hourF s := by
  by_cases hs : ∃ p ∈ znames, p.1 = s
  · obtain ⟨p, hp, rfl⟩ := hs
    exact of_decide_eq_true (List.all_eq_true.1 zn_find p hp)
  · have h1 : (znames.reverse.find? fun q => decide (q.1 = s)) = none := by
      rw [List.find?_eq_none]
      intro p hp
      simp only [decide_eq_true_eq]
      exact fun e => hs ⟨p, List.mem_reverse.1 hp, e⟩
    have h2 : (znames.find? fun q => decide (q.1 = s)) = none := by
      rw [List.find?_eq_none]
      intro p hp
      simp only [decide_eq_true_eq]
      exact fun e => hs ⟨p, hp, e⟩
    unfold hourF
    rw [h1, h2]
end Ml
