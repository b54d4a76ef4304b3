/- Plain laws on letters' dates: times of the day by their pieces; a text's pieces put together; zones. No program in sight. The walks of the letters' Zone and of a letter's clock. The walk of a letter's clock. -/
import Derived.Test.YtbhafhbaldddiaaGreatDoorZA
import Derived.Test.YtbhafhbaldddiaaGreatDoorZMa
import Derived.Deep.RegionLaw
import Derived.Deep.RegionHeld3
namespace Ml
open Sm
theorem numA_ext (s : ByteArray) (a b : Nat) : ∀ j, a + j ≤ b → numA (s.extract a b) 0 j = numA s a j
  | 0, _ => rfl
  | j + 1, h => by
    have ih := numA_ext s a b j (by omega)
    unfold numA
    rw [ih]
    have : v (s.extract a b) (0 + j) = v s (a + j) := by
      unfold v
      rw [B_extract, if_pos (by omega), Nat.zero_add]
    rw [this]
theorem dig_ext (s : ByteArray) (a b i : Nat) (h : a + i < b) : dig (s.extract a b) i = dig s (a + i) := by
  unfold dig
  rw [B_extract, if_pos h]
theorem digO_ext (s : ByteArray) (a b n : Nat) (hb : b = a + n) (h : b ≤ s.size) : digO (s.extract a b) n = true ↔ ∀ i, i < n → dig s (a + i) = true := by
  rw [digO_iff, size_extract]
  constructor
  · rintro ⟨_, h2⟩ i hi
    rw [← dig_ext s a b i (by omega)]
    exact h2 i hi
  · intro h2
    exact ⟨by omega, fun i hi => by rw [dig_ext s a b i (by omega)]; exact h2 i hi⟩
theorem digO2 (s : ByteArray) (a b : Nat) (hb : b = a + 2) (h : b ≤ s.size) : digO (s.extract a b) 2 = d2 s a := by
  rw [Bool.eq_iff_iff, digO_ext s a b 2 hb h, all_2]
theorem digV2 (s : ByteArray) (a b : Nat) (hb : b = a + 2) (h : b ≤ s.size) : digV (s.extract a b) 2 = if d2 s a = true then n2 s a else 0 := by
  unfold digV
  rw [digO2 s a b hb h, numA_ext s a b 2 (by omega), numA_2]
def joinL (c : UInt8) : List (List UInt8) → List UInt8
  | [] => []
  | [x] => x
  | x :: y :: t => x ++ c :: joinL c (y :: t)
theorem sp_join (c : UInt8) : ∀ l : List UInt8, joinL c (sp c l) = l
  | [] => rfl
  | b :: l => by
    have ih := sp_join c l
    rw [sp_cons]
    cases hs : sp c l with
    | nil => exact absurd hs (sp_ne c l)
    | cons y t =>
      rw [hs] at ih
      split
      · rename_i e
        show [] ++ c :: joinL c (y :: t) = b :: l
        rw [ih, e]
        rfl
      · show joinL c ((b :: y) :: t) = b :: l
        cases t with
        | nil =>
          show b :: y = b :: l
          rw [show y = l from ih]
        | cons z t =>
          show (b :: y) ++ c :: joinL c (z :: t) = b :: l
          rw [← ih]
          rfl
theorem tot_mem : ∀ {l : List (List UInt8)} {x : List UInt8}, x ∈ l → x.length + 1 ≤ tot l
  | y :: l, x, h => by
    rcases List.mem_cons.1 h with rfl | h
    · simp [tot]
    · have := tot_mem h
      simp [tot]
      omega
theorem B_mk (l : List UInt8) (i : Nat) : B (mk l) i = (l[i]?.getD 0).toNat := by
  unfold B mk
  simp
theorem of_list {s : ByteArray} {l : List UInt8} (h : s.data.toList = l) : s = mk l := by rw [← h, mk_list]
theorem list2 {l : List UInt8} (h : l.length = 2) : ∃ a b, l = [a, b] := by
  match l, h with
  | [a, b], _ => exact ⟨a, b, rfl⟩
theorem list5 {l : List UInt8} (h : l.length = 5) : ∃ a b c d e, l = [a, b, c, d, e] := by
  match l, h with
  | [a, b, c, d, e], _ => exact ⟨a, b, c, d, e, rfl⟩
theorem list8 {l : List UInt8} (h : l.length = 8) : ∃ a b c d e f g i, l = [a, b, c, d, e, f, g, i] := by
  match l, h with
  | [a, b, c, d, e, f, g, i], _ => exact ⟨a, b, c, d, e, f, g, i, rfl⟩
def dB (x : UInt8) : Prop := 48 ≤ x.toNat ∧ x.toNat ≤ 57
theorem dig_mk (l : List UInt8) (i : Nat) (x : UInt8) (h : l[i]? = some x) : dig (mk l) i = true ↔ dB x := by
  rw [dig_iff, B_mk, h]
  exact Iff.rfl
theorem d2_mk (l : List UInt8) (i : Nat) (x y : UInt8) (h : l[i]? = some x) (h2 : l[i + 1]? = some y) : d2 (mk l) i = true ↔ dB x ∧ dB y := by
  rw [d2_iff, dig_mk l i x h, dig_mk l (i + 1) y h2]
theorem digO_mk2 (x y : UInt8) : digO (mk [x, y]) 2 = true ↔ dB x ∧ dB y := by
  rw [digO_iff]
  constructor
  · rintro ⟨_, h⟩
    exact ⟨(dig_mk _ 0 x rfl).1 (h 0 (by omega)), (dig_mk _ 1 y rfl).1 (h 1 (by omega))⟩
  · rintro ⟨h1, h2⟩
    refine ⟨rfl, fun i hi => ?_⟩
    match i, hi with
    | 0, _ => exact (dig_mk _ 0 x rfl).2 h1
    | 1, _ => exact (dig_mk _ 1 y rfl).2 h2
theorem dB_ne {x : UInt8} (h : dB x) : x ≠ 58 ∧ x ≠ 32 := by
  unfold dB at h
  constructor
  · rintro rfl
    simp at h
  · rintro rfl
    simp at h
theorem n2_mk (l : List UInt8) (i : Nat) (x y : UInt8) (h : l[i]? = some x) (h2 : l[i + 1]? = some y) : n2 (mk l) i = ((x.toNat : Int) - 48) * 10 + ((y.toNat : Int) - 48) := by
  unfold n2 v
  rw [B_mk, B_mk, h, h2]
  rfl
theorem digV_mk2 (x y : UInt8) (h : digO (mk [x, y]) 2 = true) : digV (mk [x, y]) 2 = ((x.toNat : Int) - 48) * 10 + ((y.toNat : Int) - 48) := by
  unfold digV
  rw [if_pos h, numA_2, n2_mk _ 0 x y rfl rfl]
theorem hms_of2 {s : ByteArray} {a b : List UInt8} (h : sp 58 s.data.toList = [a, b]) (ha : digO (mk a) 2 = true) (hb : digO (mk b) 2 = true) : hmsB s = true ∧ n2 s 0 = digV (mk a) 2 ∧ n2 s 3 = digV (mk b) 2 ∧ secOf s = 0 := by
  have hj := sp_join 58 s.data.toList
  rw [h] at hj
  have e := of_list hj.symm
  obtain ⟨a0, a1, rfl⟩ := list2 ((digO_iff _ _).1 ha).1
  obtain ⟨b0, b1, rfl⟩ := list2 ((digO_iff _ _).1 hb).1
  have e2 : s = mk [a0, a1, 58, b0, b1] := e
  rw [digV_mk2 _ _ ha, digV_mk2 _ _ hb, e2]
  rw [digO_mk2] at ha hb
  refine ⟨(hms_iff _).2 ⟨(d2_mk _ 0 a0 a1 rfl rfl).2 ha, by rw [B_mk]; rfl, (d2_mk _ 3 b0 b1 rfl rfl).2 hb, Or.inl rfl⟩, n2_mk _ 0 a0 a1 rfl rfl, n2_mk _ 3 b0 b1 rfl rfl, rfl⟩
theorem hms_of3 {s : ByteArray} {a b d : List UInt8} (h : sp 58 s.data.toList = [a, b, d]) (ha : digO (mk a) 2 = true) (hb : digO (mk b) 2 = true) (hd : digO (mk d) 2 = true) : hmsB s = true ∧ n2 s 0 = digV (mk a) 2 ∧ n2 s 3 = digV (mk b) 2 ∧ secOf s = digV (mk d) 2 := by
  have hj := sp_join 58 s.data.toList
  rw [h] at hj
  have e := of_list hj.symm
  obtain ⟨a0, a1, rfl⟩ := list2 ((digO_iff _ _).1 ha).1
  obtain ⟨b0, b1, rfl⟩ := list2 ((digO_iff _ _).1 hb).1
  obtain ⟨d0, d1, rfl⟩ := list2 ((digO_iff _ _).1 hd).1
  have e2 : s = mk [a0, a1, 58, b0, b1, 58, d0, d1] := e
  rw [digV_mk2 _ _ ha, digV_mk2 _ _ hb, digV_mk2 _ _ hd, e2]
  rw [digO_mk2] at ha hb hd
  refine ⟨(hms_iff _).2 ⟨(d2_mk _ 0 a0 a1 rfl rfl).2 ha, by rw [B_mk]; rfl, (d2_mk _ 3 b0 b1 rfl rfl).2 hb, Or.inr ⟨rfl, by rw [B_mk]; rfl, (d2_mk _ 6 d0 d1 rfl rfl).2 hd⟩⟩, n2_mk _ 0 a0 a1 rfl rfl, n2_mk _ 3 b0 b1 rfl rfl, ?_⟩
  show (if (8 : Nat) = 8 then _ else _) = _
  rw [if_pos rfl]
  exact n2_mk _ 6 d0 d1 rfl rfl
theorem b58 {x : UInt8} (h : x.toNat = 58) : x = 58 := by
  apply UInt8.toNat_inj.1
  exact h
theorem hms_to {s : ByteArray} (h : hmsB s = true) : (∃ a b, sp 58 s.data.toList = [a, b] ∧ digO (mk a) 2 = true ∧ digO (mk b) 2 = true) ∨ ∃ a b d, sp 58 s.data.toList = [a, b, d] ∧ digO (mk a) 2 = true ∧ digO (mk b) 2 = true ∧ digO (mk d) 2 = true := by
  obtain ⟨h1, h2, h3, h4⟩ := (hms_iff s).1 h
  have hl : s.data.toList.length = s.size := by simp
  rcases h4 with h4 | ⟨h4, h5, h6⟩
  · obtain ⟨a0, a1, x, b0, b1, e⟩ := list5 (hl.trans h4)
    have e2 := of_list e
    rw [e2] at h1 h2 h3
    rw [d2_mk _ 0 a0 a1 rfl rfl] at h1
    rw [d2_mk _ 3 b0 b1 rfl rfl] at h3
    have hx : x = 58 := b58 (by rw [B_mk] at h2; exact h2)
    subst hx
    refine Or.inl ⟨[a0, a1], [b0, b1], ?_, (digO_mk2 _ _).2 h1, (digO_mk2 _ _).2 h3⟩
    rw [e]
    have n1 := dB_ne h1.1
    have n2 := dB_ne h1.2
    have n3 := dB_ne h3.1
    have n4 := dB_ne h3.2
    rw [show [a0, a1, 58, b0, b1] = [a0, a1] ++ 58 :: [b0, b1] from rfl, sp_first _ _ _ (by simp; exact ⟨fun k => n1.1 k.symm, fun k => n2.1 k.symm⟩), sp_none _ _ (by simp; exact ⟨fun k => n3.1 k.symm, fun k => n4.1 k.symm⟩)]
  · obtain ⟨a0, a1, x, b0, b1, y, d0, d1, e⟩ := list8 (hl.trans h4)
    have e2 := of_list e
    rw [e2] at h1 h2 h3 h5 h6
    rw [d2_mk _ 0 a0 a1 rfl rfl] at h1
    rw [d2_mk _ 3 b0 b1 rfl rfl] at h3
    rw [d2_mk _ 6 d0 d1 rfl rfl] at h6
    have hx : x = 58 := b58 (by rw [B_mk] at h2; exact h2)
    have hy : y = 58 := b58 (by rw [B_mk] at h5; exact h5)
    subst hx
    subst hy
    refine Or.inr ⟨[a0, a1], [b0, b1], [d0, d1], ?_, (digO_mk2 _ _).2 h1, (digO_mk2 _ _).2 h3, (digO_mk2 _ _).2 h6⟩
    rw [e]
    have n1 := dB_ne h1.1
    have n2 := dB_ne h1.2
    have n3 := dB_ne h3.1
    have n4 := dB_ne h3.2
    have n5 := dB_ne h6.1
    have n6 := dB_ne h6.2
    rw [show [a0, a1, 58, b0, b1, 58, d0, d1] = [a0, a1] ++ 58 :: ([b0, b1] ++ 58 :: [d0, d1]) from rfl, sp_first _ _ _ (by simp; exact ⟨fun k => n1.1 k.symm, fun k => n2.1 k.symm⟩), sp_first _ _ _ (by simp; exact ⟨fun k => n3.1 k.symm, fun k => n4.1 k.symm⟩), sp_none _ _ (by simp; exact ⟨fun k => n5.1 k.symm, fun k => n6.1 k.symm⟩)]
/-- What the time's pieces tell. -/
theorem hms_2 {s : ByteArray} {a b : List UInt8} (h : sp 58 s.data.toList = [a, b]) : hmsB s = (digO (mk a) 2 && digO (mk b) 2) := by
  rw [Bool.eq_iff_iff, Bool.and_eq_true]
  constructor
  · intro hh
    rcases hms_to hh with ⟨a', b', e, h1, h2⟩ | ⟨a', b', d', e, _⟩
    · rw [h] at e
      simp only [List.cons.injEq, and_true] at e
      rw [e.1, e.2]
      exact ⟨h1, h2⟩
    · rw [h] at e
      simp at e
  · rintro ⟨h1, h2⟩
    exact (hms_of2 h h1 h2).1
theorem hms_3 {s : ByteArray} {a b d : List UInt8} (h : sp 58 s.data.toList = [a, b, d]) : hmsB s = (digO (mk a) 2 && digO (mk b) 2 && digO (mk d) 2) := by
  rw [Bool.eq_iff_iff, Bool.and_eq_true, Bool.and_eq_true]
  constructor
  · intro hh
    rcases hms_to hh with ⟨a', b', e, h1, h2⟩ | ⟨a', b', d', e, h1, h2, h3⟩
    · rw [h] at e
      simp at e
    · rw [h] at e
      simp only [List.cons.injEq, and_true] at e
      rw [e.1, e.2.1, e.2.2]
      exact ⟨⟨h1, h2⟩, h3⟩
  · rintro ⟨⟨h1, h2⟩, h3⟩
    exact (hms_of3 h h1 h2 h3).1
theorem hms_else {s : ByteArray} (h2 : (sp 58 s.data.toList).length ≠ 2) (h3 : (sp 58 s.data.toList).length ≠ 3) : hmsB s = false := by
  cases h : hmsB s with
  | false => rfl
  | true =>
    rcases hms_to h with ⟨a', b', e, _⟩ | ⟨a', b', d', e, _⟩
    · rw [e] at h2
      exact absurd rfl h2
    · rw [e] at h3
      exact absurd rfl h3
theorem zn_find : (znames.all fun p => decide ((znames.reverse.find? fun q => decide (q.1 = p.1)).map (fun q => q.2) = hourF p.1)) = true := by kernel_rfl
theorem zn_is (s : ByteArray) : (znames.reverse.find? fun q => decide (q.1 = s)).map (fun q => q.2) = hourF s := by
  by_cases hs : ∃ p ∈ znames, p.1 = s
  · obtain ⟨p, hp, rfl⟩ := hs
    exact of_decide_eq_true (List.all_eq_true.1 zn_find p hp)
  · have h1 : (znames.reverse.find? fun q => decide (q.1 = s)) = none := by
      rw [List.find?_eq_none]
      intro p hp
      simp only [decide_eq_true_eq]
      exact fun e => hs ⟨p, List.mem_reverse.1 hp, e⟩
    have h2 : (znames.find? fun q => decide (q.1 = s)) = none := by
      rw [List.find?_eq_none]
      intro p hp
      simp only [decide_eq_true_eq]
      exact fun e => hs ⟨p, hp, e⟩
    unfold hourF
    rw [h1, h2]
end Ml
namespace Go.Proofs.YtbhafhbaldddiaaGreatDoor
open Go.RowKit
open Go
set_option linter.unusedVariables false
theorem znf (s : ByteArray) : NF Ml.znames.reverse (.string s) = (Ml.hourF s).map fun h => .int .i64 h := by
  rw [NF_str, ← Ml.zn_is s, Option.map_map]
  rfl
theorem dig2_any (s : ByteArray) (a b : Nat) (hb : b = a + 2) (h : b ≤ s.size) (hs : s.size ≤ 100000) (w : World) : Calls Tryz.prog 82 #[.string (s.extract a b), .int .i64 2] w fun e w' => e = .returned (.tuple #[.int .i64 (if Sm.d2 s a = true then Sm.n2 s a else 0), .bool (Sm.d2 s a)]) ∧ w = w' := by
  have c := digits_any (s.extract a b) 2 (by omega) (by rw [Sm.size_extract]; omega) w
  unfold DigPost at c
  rw [Ml.digO2 s a b hb h, Ml.digV2 s a b hb h] at c
  exact c
set_option maxRecDepth 100000 in
set_option maxHeartbeats 4000000 in
theorem zone_any (s : ByteArray) (hs : s.size ≤ 100000) (w : World) : Calls Tryz.prog 85 #[.string s] w (OptPost (Ml.zneF s) w) := by
  have hmm := @run_makeMap Tryz.prog
  have hks := key_str (s := s) (by omega)
  obtain ⟨o, ho⟩ : ∃ o, Ml.zneF s = o := ⟨_, rfl⟩
  rw [ho]
  unfold Ml.zneF at ho
  have hm := MapF.made Tryz.prog 9 okI w
  have hB : Below w.heap.size w (w.alloc (.map #[] 0)) := (Below.refl _ _).alloc (Nat.le_refl _) _
  have hz : w.heap.size ≤ (w.alloc (.map #[] 0)).heap.size := by simp
  cases hh : Ml.hourF s with
  | some h =>
    rw [hh] at ho
    simp only at ho
    have hbd := of_decide_eq_true (List.all_eq_true.1 Ml.zn_ok _ (Ml.hour_mem hh))
    simp only at hbd
    obtain ⟨_, _, b1, b2⟩ := hbd
    have hf := znf s
    rw [hh] at hf
    have HF := Lib.hid hf
    clear hh hf
    subst ho
    go_enter Tryz.func85, Tryz.ntmps85
    go_wp2_with (first | (at_lookup; refine wpList_look_f _ rfl _ _ 101 rfl 9 3 ks Tryz.underlying101 okI w.heap.size _ _ rfl hm (zero_int _) (by decide) _ _ rfl hks _ HF.out ?_; clear hm) | (have _t := hm; clear _t; refine wpList_insert_f _ rfl _ _ _ 101 rfl 9 3 ks Tryz.underlying101 okI w.heap.size _ _ rfl hm (by unfold maxLen; omega) _ _ _ rfl rfl (key_str (by decide)) (okI_small (by omega) (by omega)) ?_; clear hm; intro w2 hm hturn2; replace hB := hB.trans (gb_below hturn2.grown w.heap.size (Nat.le_refl _) hz); replace hz := Nat.le_trans hz hturn2.grown.size; clear hturn2))
    go_ret2
    exact ⟨rfl, hB⟩
  | none =>
    rw [hh] at ho
    simp only at ho
    have hf := znf s
    rw [hh] at hf
    have HF := Lib.hid hf
    clear hh hf
    have HO := Lib.hid ho
    clear ho
    by_cases hsz : s.size = 5
    · have h5 : ((s.size : Int) == 5) = true := by simp [hsz]
      have h5' : ((s.size : Int) != 5) = false := by simp [hsz]
      have g1 : 3 ≤ s.size := by omega
      have g2 : 0 < s.size := by omega
      have c1 := fun w => dig2_any s 1 3 rfl (by omega) hs w
      have c2 := fun w => dig2_any s 3 s.size (by omega) (by omega) hs w
      have g3 : (3 : Int) ≤ (s.size : Int) := by omega
      have g4 : (0 : Int) < (s.size : Int) := by omega
      have hb0 := byte_at s 0 (by omega)
      have hbl := Sm.B_lt s 0
      have HSZ := Lib.hid hsz
      clear hsz
      have ho2 : (if Ml.offB s = true then some (Ml.offV s) else none) = o := HO.out
      have hoff : Ml.offB s = true ↔ (Sm.d2 s 1 = true ∧ Sm.d2 s 3 = true ∧ Sm.n2 s 1 ≤ 23 ∧ Sm.n2 s 3 ≤ 59 ∧ (Sm.B s 0 = 43 ∨ Sm.B s 0 = 45)) := by
        rw [Ml.off_iff]
        exact ⟨fun h => h.2, fun h => ⟨HSZ.out, h⟩⟩
      have hbd1 : Sm.d2 s 1 = true → 0 ≤ Sm.n2 s 1 ∧ Sm.n2 s 1 ≤ 99 := fun h => Sm.n2_bd h
      have hbd2 : Sm.d2 s 3 = true → 0 ≤ Sm.n2 s 3 ∧ Sm.n2 s 3 ≤ 99 := fun h => Sm.n2_bd h
      unfold Ml.offV at ho2
      generalize Sm.n2 s 1 = x at *
      generalize Sm.n2 s 3 = y at *
      generalize Sm.d2 s 1 = p1 at *
      generalize Sm.d2 s 3 = p2 at *
      generalize Sm.B s 0 = q at *
      generalize Ml.offB s = ob at *
      clear HO HSZ
      have hno : ¬ (p1 = true ∧ p2 = true ∧ x ≤ 23 ∧ y ≤ 59 ∧ (q = 43 ∨ q = 45)) → none = o := fun h => by
        rw [← ho2, if_neg (fun k => h (hoff.1 k))]
      have hyes : (p1 = true ∧ p2 = true ∧ x ≤ 23 ∧ y ≤ 59 ∧ (q = 43 ∨ q = 45)) → some (if q = 45 then -(x * 60 + y) else x * 60 + y) = o := fun h => by
        rw [← ho2, if_pos (hoff.2 h)]
      clear ho2 hoff
      cases p1 with
      | false =>
        obtain rfl := hno (by simp)
        clear hno hyes hbd1
        cases p2 with
        | false =>
          clear hbd2
          simp only [Bool.false_eq_true, if_false] at c1 c2
          go_enter Tryz.func85, Tryz.ntmps85
          go_wp2_with (first | (go_at_call 82; (first | (with_reducible refine (c1 _).mono ?_) | (with_reducible refine (c2 _).mono ?_)); rintro e w3 ⟨rfl, rfl⟩) | (at_lookup; refine wpList_look_f _ rfl _ _ 101 rfl 9 3 ks Tryz.underlying101 okI w.heap.size _ _ rfl hm (zero_int _) (by decide) _ _ rfl hks _ HF.out ?_; clear hm) | (have _t := hm; clear _t; refine wpList_insert_f _ rfl _ _ _ 101 rfl 9 3 ks Tryz.underlying101 okI w.heap.size _ _ rfl hm (by unfold maxLen; omega) _ _ _ rfl rfl (key_str (by decide)) (okI_small (by omega) (by omega)) ?_; clear hm; intro w2 hm hturn2; replace hB := hB.trans (gb_below hturn2.grown w.heap.size (Nat.le_refl _) hz); replace hz := Nat.le_trans hz hturn2.grown.size; clear hturn2))
          go_ret2
          exact ⟨rfl, hB⟩
        | true =>
          obtain ⟨b1, b2⟩ := hbd2 rfl
          clear hbd2
          simp only [Bool.false_eq_true, if_false, if_true] at c1 c2
          go_enter Tryz.func85, Tryz.ntmps85
          go_wp2_with (first | (go_at_call 82; (first | (with_reducible refine (c1 _).mono ?_) | (with_reducible refine (c2 _).mono ?_)); rintro e w3 ⟨rfl, rfl⟩) | (at_lookup; refine wpList_look_f _ rfl _ _ 101 rfl 9 3 ks Tryz.underlying101 okI w.heap.size _ _ rfl hm (zero_int _) (by decide) _ _ rfl hks _ HF.out ?_; clear hm) | (have _t := hm; clear _t; refine wpList_insert_f _ rfl _ _ _ 101 rfl 9 3 ks Tryz.underlying101 okI w.heap.size _ _ rfl hm (by unfold maxLen; omega) _ _ _ rfl rfl (key_str (by decide)) (okI_small (by omega) (by omega)) ?_; clear hm; intro w2 hm hturn2; replace hB := hB.trans (gb_below hturn2.grown w.heap.size (Nat.le_refl _) hz); replace hz := Nat.le_trans hz hturn2.grown.size; clear hturn2))
          go_ret2
          exact ⟨rfl, hB⟩
      | true =>
        obtain ⟨b1, b2⟩ := hbd1 rfl
        cases p2 with
        | false =>
          obtain rfl := hno (by simp)
          clear hno hyes hbd1 hbd2
          simp only [Bool.false_eq_true, if_false, if_true] at c1 c2
          go_enter Tryz.func85, Tryz.ntmps85
          go_wp2_with (first | (go_at_call 82; (first | (with_reducible refine (c1 _).mono ?_) | (with_reducible refine (c2 _).mono ?_)); rintro e w3 ⟨rfl, rfl⟩) | (at_lookup; refine wpList_look_f _ rfl _ _ 101 rfl 9 3 ks Tryz.underlying101 okI w.heap.size _ _ rfl hm (zero_int _) (by decide) _ _ rfl hks _ HF.out ?_; clear hm) | (have _t := hm; clear _t; refine wpList_insert_f _ rfl _ _ _ 101 rfl 9 3 ks Tryz.underlying101 okI w.heap.size _ _ rfl hm (by unfold maxLen; omega) _ _ _ rfl rfl (key_str (by decide)) (okI_small (by omega) (by omega)) ?_; clear hm; intro w2 hm hturn2; replace hB := hB.trans (gb_below hturn2.grown w.heap.size (Nat.le_refl _) hz); replace hz := Nat.le_trans hz hturn2.grown.size; clear hturn2))
          go_ret2
          exact ⟨rfl, hB⟩
        | true =>
          obtain ⟨b3, b4⟩ := hbd2 rfl
          simp only [if_true] at c1 c2
          by_cases hx : x ≤ 23
          · by_cases hy : y ≤ 59
            · by_cases hq : q = 45
              · obtain rfl := hyes ⟨rfl, rfl, hx, hy, Or.inr hq⟩
                have e1 : ((q : Int) == 45) = true := by simp [hq]
                have e1' : ((q : Int) == 43) = false := by simp [hq]
                rw [if_pos hq]
                clear hno hyes hbd1 hbd2 hq
                go_enter Tryz.func85, Tryz.ntmps85
                go_wp2_with (first | (go_at_call 82; (first | (with_reducible refine (c1 _).mono ?_) | (with_reducible refine (c2 _).mono ?_)); rintro e w3 ⟨rfl, rfl⟩) | (at_lookup; refine wpList_look_f _ rfl _ _ 101 rfl 9 3 ks Tryz.underlying101 okI w.heap.size _ _ rfl hm (zero_int _) (by decide) _ _ rfl hks _ HF.out ?_; clear hm) | (have _t := hm; clear _t; refine wpList_insert_f _ rfl _ _ _ 101 rfl 9 3 ks Tryz.underlying101 okI w.heap.size _ _ rfl hm (by unfold maxLen; omega) _ _ _ rfl rfl (key_str (by decide)) (okI_small (by omega) (by omega)) ?_; clear hm; intro w2 hm hturn2; replace hB := hB.trans (gb_below hturn2.grown w.heap.size (Nat.le_refl _) hz); replace hz := Nat.le_trans hz hturn2.grown.size; clear hturn2))
                go_ret2
                exact ⟨rfl, hB⟩
              · have e1 : ((q : Int) == 45) = false := by simp; omega
                by_cases hq2 : q = 43
                · obtain rfl := hyes ⟨rfl, rfl, hx, hy, Or.inl hq2⟩
                  have e2 : ((q : Int) == 43) = true := by simp [hq2]
                  rw [if_neg hq]
                  clear hno hyes hbd1 hbd2 hq hq2
                  go_enter Tryz.func85, Tryz.ntmps85
                  go_wp2_with (first | (go_at_call 82; (first | (with_reducible refine (c1 _).mono ?_) | (with_reducible refine (c2 _).mono ?_)); rintro e w3 ⟨rfl, rfl⟩) | (at_lookup; refine wpList_look_f _ rfl _ _ 101 rfl 9 3 ks Tryz.underlying101 okI w.heap.size _ _ rfl hm (zero_int _) (by decide) _ _ rfl hks _ HF.out ?_; clear hm) | (have _t := hm; clear _t; refine wpList_insert_f _ rfl _ _ _ 101 rfl 9 3 ks Tryz.underlying101 okI w.heap.size _ _ rfl hm (by unfold maxLen; omega) _ _ _ rfl rfl (key_str (by decide)) (okI_small (by omega) (by omega)) ?_; clear hm; intro w2 hm hturn2; replace hB := hB.trans (gb_below hturn2.grown w.heap.size (Nat.le_refl _) hz); replace hz := Nat.le_trans hz hturn2.grown.size; clear hturn2))
                  go_ret2
                  exact ⟨rfl, hB⟩
                · obtain rfl := hno (fun h => h.2.2.2.2.elim hq2 hq)
                  have e2 : ((q : Int) == 43) = false := by simp; omega
                  clear hno hyes hbd1 hbd2 hq hq2
                  go_enter Tryz.func85, Tryz.ntmps85
                  go_wp2_with (first | (go_at_call 82; (first | (with_reducible refine (c1 _).mono ?_) | (with_reducible refine (c2 _).mono ?_)); rintro e w3 ⟨rfl, rfl⟩) | (at_lookup; refine wpList_look_f _ rfl _ _ 101 rfl 9 3 ks Tryz.underlying101 okI w.heap.size _ _ rfl hm (zero_int _) (by decide) _ _ rfl hks _ HF.out ?_; clear hm) | (have _t := hm; clear _t; refine wpList_insert_f _ rfl _ _ _ 101 rfl 9 3 ks Tryz.underlying101 okI w.heap.size _ _ rfl hm (by unfold maxLen; omega) _ _ _ rfl rfl (key_str (by decide)) (okI_small (by omega) (by omega)) ?_; clear hm; intro w2 hm hturn2; replace hB := hB.trans (gb_below hturn2.grown w.heap.size (Nat.le_refl _) hz); replace hz := Nat.le_trans hz hturn2.grown.size; clear hturn2))
                  go_ret2
                  exact ⟨rfl, hB⟩
            · obtain rfl := hno (fun h => hy h.2.2.2.1)
              have hy2 : 59 < y := by omega
              clear hno hyes hbd1 hbd2 hy
              go_enter Tryz.func85, Tryz.ntmps85
              go_wp2_with (first | (go_at_call 82; (first | (with_reducible refine (c1 _).mono ?_) | (with_reducible refine (c2 _).mono ?_)); rintro e w3 ⟨rfl, rfl⟩) | (at_lookup; refine wpList_look_f _ rfl _ _ 101 rfl 9 3 ks Tryz.underlying101 okI w.heap.size _ _ rfl hm (zero_int _) (by decide) _ _ rfl hks _ HF.out ?_; clear hm) | (have _t := hm; clear _t; refine wpList_insert_f _ rfl _ _ _ 101 rfl 9 3 ks Tryz.underlying101 okI w.heap.size _ _ rfl hm (by unfold maxLen; omega) _ _ _ rfl rfl (key_str (by decide)) (okI_small (by omega) (by omega)) ?_; clear hm; intro w2 hm hturn2; replace hB := hB.trans (gb_below hturn2.grown w.heap.size (Nat.le_refl _) hz); replace hz := Nat.le_trans hz hturn2.grown.size; clear hturn2))
              go_ret2
              exact ⟨rfl, hB⟩
          · obtain rfl := hno (fun h => hx h.2.2.1)
            have hx2 : 23 < x := by omega
            clear hno hyes hbd1 hbd2 hx
            go_enter Tryz.func85, Tryz.ntmps85
            go_wp2_with (first | (go_at_call 82; (first | (with_reducible refine (c1 _).mono ?_) | (with_reducible refine (c2 _).mono ?_)); rintro e w3 ⟨rfl, rfl⟩) | (at_lookup; refine wpList_look_f _ rfl _ _ 101 rfl 9 3 ks Tryz.underlying101 okI w.heap.size _ _ rfl hm (zero_int _) (by decide) _ _ rfl hks _ HF.out ?_; clear hm) | (have _t := hm; clear _t; refine wpList_insert_f _ rfl _ _ _ 101 rfl 9 3 ks Tryz.underlying101 okI w.heap.size _ _ rfl hm (by unfold maxLen; omega) _ _ _ rfl rfl (key_str (by decide)) (okI_small (by omega) (by omega)) ?_; clear hm; intro w2 hm hturn2; replace hB := hB.trans (gb_below hturn2.grown w.heap.size (Nat.le_refl _) hz); replace hz := Nat.le_trans hz hturn2.grown.size; clear hturn2))
            go_ret2
            exact ⟨rfl, hB⟩
    · have h5 : ((s.size : Int) == 5) = false := by simp; omega
      have h5' : ((s.size : Int) != 5) = true := by simp; omega
      have hno : none = o := by
        rw [← HO.out]
        unfold Ml.offB
        simp [hsz]
      subst hno
      clear hsz HO
      go_enter Tryz.func85, Tryz.ntmps85
      go_wp2_with (first | (at_lookup; refine wpList_look_f _ rfl _ _ 101 rfl 9 3 ks Tryz.underlying101 okI w.heap.size _ _ rfl hm (zero_int _) (by decide) _ _ rfl hks _ HF.out ?_; clear hm) | (have _t := hm; clear _t; refine wpList_insert_f _ rfl _ _ _ 101 rfl 9 3 ks Tryz.underlying101 okI w.heap.size _ _ rfl hm (by unfold maxLen; omega) _ _ _ rfl rfl (key_str (by decide)) (okI_small (by omega) (by omega)) ?_; clear hm; intro w2 hm hturn2; replace hB := hB.trans (gb_below hturn2.grown w.heap.size (Nat.le_refl _) hz); replace hz := Nat.le_trans hz hturn2.grown.size; clear hturn2))
      go_ret2
      exact ⟨rfl, hB⟩
end Go.Proofs.YtbhafhbaldddiaaGreatDoor
namespace Go.Proofs.YtbhafhbaldddiaaGreatDoor
open Go.RowKit
open Go
set_option linter.unusedVariables false
def ckV (c : ByteArray) : Int × Int × Int := match Ml.sp 58 c.data.toList with
  | [a, b] => (Ml.digV (Ml.mk a) 2, Ml.digV (Ml.mk b) 2, 0)
  | [a, b, d] => (Ml.digV (Ml.mk a) 2, Ml.digV (Ml.mk b) 2, Ml.digV (Ml.mk d) 2)
  | _ => (0, 0, 0)
def CkPost (L : Nat) (rest : Value) (bad : Bool) (r : Int × Int × Int) (w : World) (e : Ending) (w' : World) : Prop := e = .returned (.tuple #[.int .i64 r.1, .int .i64 r.2.1, .int .i64 r.2.2]) ∧ LT w' L rest bad ∧ w.grownBy w' (some L)
theorem gb_drew {w w' : World} {row : Option Nat} (h : w.drew.grownBy w' row) : w.grownBy w' row := ⟨h.os, h.tape, h.output, h.size, h.block⟩
theorem or3 (a b c : Bool) : ((a || b) || c) = ((a || c) || b) := by cases a <;> cases b <;> cases c <;> rfl
set_option maxRecDepth 100000 in
set_option maxHeartbeats 4000000 in
theorem clock_2 (c : ByteArray) (hs : c.size ≤ 100000) (a b : List UInt8) (hp : Ml.sp 58 c.data.toList = [a, b]) (w : World) (L : Nat) (rest : Value) (bad : Bool) (h : LT w L rest bad) (o1 o2 : Bool) (v1 v2 : Int)
    (d1 : ∀ w, Calls Tryz.prog 82 #[.string (Ml.mk a), .int .i64 2] w fun e w' => e = .returned (.tuple #[.int .i64 v1, .bool o1]) ∧ w = w')
    (d2 : ∀ w, Calls Tryz.prog 82 #[.string (Ml.mk b), .int .i64 2] w fun e w' => e = .returned (.tuple #[.int .i64 v2, .bool o2]) ∧ w = w') :
    Calls Tryz.prog 84 #[.pointer (some ⟨L, 0, none⟩), .string c] w (CkPost L rest ((bad || !o1) || !o2) (v1, v2, 0) w) := by
  have C := fun w => split_any c 58 hs w
  unfold SplitPost at C
  rw [hp] at C
  have hl : LT (w.alloc (.cells #[.string (Ml.mk a), .string (Ml.mk b)] 9)) L rest bad := h.far (World.grownBy_alloc w _ none) (by simp)
  have hgr : w.grownBy (w.alloc (.cells #[.string (Ml.mk a), .string (Ml.mk b)] 9)) (some L) := World.grownBy_alloc w _ _
  have hLw := h.2.2.2.2
  clear hp h
  go_enter Tryz.func84, Tryz.ntmps84
  go_wp2_with fail
  refine (C _).mono ?_
  rintro e w1 ⟨rfl, hw⟩
  have hw2 : w1 = w.alloc (.cells #[.string (Ml.mk a), .string (Ml.mk b)] 9) := hw
  rw [← hw2] at hl hgr
  have k0 : w1.cell? ⟨w.heap.size, 0, none⟩ = some (.string (Ml.mk a)) := by rw [hw2]; go_simp
  have k1 : w1.cell? ⟨w.heap.size, 1, none⟩ = some (.string (Ml.mk b)) := by rw [hw2]; go_simp
  have hx0 : w.heap.size < w1.heap.size := by rw [hw2]; simp
  have hne : some w.heap.size ≠ some L := fun e => absurd (Option.some.inj e) (by omega)
  clear hw hw2 C
  go_wp2_with fail
  go_region_held3 (fun w' => w'.cell? ⟨w.heap.size, 0, none⟩ = some (.string (Ml.mk a)) ∧ w'.cell? ⟨w.heap.size, 1, none⟩ = some (.string (Ml.mk b))) (first | exact ⟨by assumption, by assumption⟩ | go_keep)
    (first | (go_at_call 82; (first | (with_reducible refine (d1 _).mono ?_) | (with_reducible refine (d2 _).mono ?_)); rintro e w' ⟨rfl, rfl⟩) | (go_at_call 80; (first | ((with_reducible refine (take_any _ L rest _ _ _ hl).mono ?_); rintro e w' ⟨rfl, hl', hg'⟩) | ((with_reducible refine (take_any _ L rest _ _ _ hl.drew).mono ?_); rintro e w' ⟨rfl, hl', hgd⟩; have hg' := gb_drew hgd; clear hgd)); have k0' := (gb_cell (a := ⟨w.heap.size, 0, none⟩) hg' hx0 hne).trans k0; have k1' := (gb_cell (a := ⟨w.heap.size, 1, none⟩) hg' hx0 hne).trans k1; clear k0 k1; have k0 := k0'; have k1 := k1'; have hgr' := gb_same hgr hg'; have hx1 := Nat.lt_of_lt_of_le hx0 hg'.size; clear hl hgr hx0 hg' k0' k1'; have hl := hl'; have hgr := hgr'; have hx0 := hx1; clear hl' hgr' hx1))
  go_wp2_with fail
  go_ret3
  exact ⟨rfl, hl, hgr⟩
set_option maxRecDepth 100000 in
set_option maxHeartbeats 4000000 in
theorem clock_3 (c : ByteArray) (hs : c.size ≤ 100000) (a b d : List UInt8) (hp : Ml.sp 58 c.data.toList = [a, b, d]) (w : World) (L : Nat) (rest : Value) (bad : Bool) (h : LT w L rest bad) (o1 o2 o3 : Bool) (v1 v2 v3 : Int)
    (d1 : ∀ w, Calls Tryz.prog 82 #[.string (Ml.mk a), .int .i64 2] w fun e w' => e = .returned (.tuple #[.int .i64 v1, .bool o1]) ∧ w = w')
    (d2 : ∀ w, Calls Tryz.prog 82 #[.string (Ml.mk b), .int .i64 2] w fun e w' => e = .returned (.tuple #[.int .i64 v2, .bool o2]) ∧ w = w')
    (d3 : ∀ w, Calls Tryz.prog 82 #[.string (Ml.mk d), .int .i64 2] w fun e w' => e = .returned (.tuple #[.int .i64 v3, .bool o3]) ∧ w = w') :
    Calls Tryz.prog 84 #[.pointer (some ⟨L, 0, none⟩), .string c] w (CkPost L rest (((bad || !o1) || !o2) || !o3) (v1, v2, v3) w) := by
  have C := fun w => split_any c 58 hs w
  unfold SplitPost at C
  rw [hp] at C
  have hl : LT (w.alloc (.cells #[.string (Ml.mk a), .string (Ml.mk b), .string (Ml.mk d)] 9)) L rest bad := h.far (World.grownBy_alloc w _ none) (by simp)
  have hgr : w.grownBy (w.alloc (.cells #[.string (Ml.mk a), .string (Ml.mk b), .string (Ml.mk d)] 9)) (some L) := World.grownBy_alloc w _ _
  have hLw := h.2.2.2.2
  clear hp h
  go_enter Tryz.func84, Tryz.ntmps84
  go_wp2_with fail
  refine (C _).mono ?_
  rintro e w1 ⟨rfl, hw⟩
  have hw2 : w1 = w.alloc (.cells #[.string (Ml.mk a), .string (Ml.mk b), .string (Ml.mk d)] 9) := hw
  rw [← hw2] at hl hgr
  have k0 : w1.cell? ⟨w.heap.size, 0, none⟩ = some (.string (Ml.mk a)) := by rw [hw2]; go_simp
  have k1 : w1.cell? ⟨w.heap.size, 1, none⟩ = some (.string (Ml.mk b)) := by rw [hw2]; go_simp
  have k2 : w1.cell? ⟨w.heap.size, 2, none⟩ = some (.string (Ml.mk d)) := by rw [hw2]; go_simp
  have hx0 : w.heap.size < w1.heap.size := by rw [hw2]; simp
  have hne : some w.heap.size ≠ some L := fun e => absurd (Option.some.inj e) (by omega)
  clear hw hw2 C
  go_wp2_with fail
  go_region_held3 (fun w' => w'.cell? ⟨w.heap.size, 0, none⟩ = some (.string (Ml.mk a)) ∧ w'.cell? ⟨w.heap.size, 1, none⟩ = some (.string (Ml.mk b))) (first | exact ⟨by assumption, by assumption⟩ | go_keep)
    (first | (go_at_call 82; (first | (with_reducible refine (d1 _).mono ?_) | (with_reducible refine (d2 _).mono ?_)); rintro e w' ⟨rfl, rfl⟩) | (go_at_call 80; (first | ((with_reducible refine (take_any _ L rest _ _ _ hl).mono ?_); rintro e w' ⟨rfl, hl', hg'⟩) | ((with_reducible refine (take_any _ L rest _ _ _ hl.drew).mono ?_); rintro e w' ⟨rfl, hl', hgd⟩; have hg' := gb_drew hgd; clear hgd)); have k0' := (gb_cell (a := ⟨w.heap.size, 0, none⟩) hg' hx0 hne).trans k0; have k1' := (gb_cell (a := ⟨w.heap.size, 1, none⟩) hg' hx0 hne).trans k1; have k2' := (gb_cell (a := ⟨w.heap.size, 2, none⟩) hg' hx0 hne).trans k2; clear k0 k1 k2; have k0 := k0'; have k1 := k1'; have k2 := k2'; clear k2'; have hgr' := gb_same hgr hg'; have hx1 := Nat.lt_of_lt_of_le hx0 hg'.size; clear hl hgr hx0 hg' k0' k1'; have hl := hl'; have hgr := hgr'; have hx0 := hx1; clear hl' hgr' hx1))
  go_wp2_with fail
  refine (d3 _).mono ?_
  rintro e w3 ⟨rfl, rfl⟩
  go_wp2_with fail
  refine (take_any _ L rest _ _ _ hl).mono ?_
  rintro e w4 ⟨rfl, hl4, hg4⟩
  have hgr4 := gb_same hgr hg4
  clear hl hgr hg4
  go_wp2_with fail
  go_ret3
  exact ⟨rfl, hl4, hgr4⟩
set_option maxRecDepth 100000 in
set_option maxHeartbeats 4000000 in
theorem clock_0 (c : ByteArray) (hs : c.size ≤ 100000) (h2 : (Ml.sp 58 c.data.toList).length ≠ 2) (h3 : (Ml.sp 58 c.data.toList).length ≠ 3) (w : World) (L : Nat) (rest : Value) (bad : Bool) (h : LT w L rest bad) :
    Calls Tryz.prog 84 #[.pointer (some ⟨L, 0, none⟩), .string c] w (CkPost L rest true (0, 0, 0) w) := by
  have C := fun w => split_any c 58 hs w
  unfold SplitPost at C
  generalize Ml.sp 58 c.data.toList = P at *
  generalize hn : P.length = n at *
  have e2 : ((n : Int) == 2) = false := by simp; omega
  have e3 : ((n : Int) == 3) = false := by simp; omega
  have e2' : ((n : Int) != 2) = true := by simp; omega
  have e3' : ((n : Int) != 3) = true := by simp; omega
  clear hn h2 h3
  go_enter Tryz.func84, Tryz.ntmps84
  go_wp2_with fail
  refine (C _).mono ?_
  rintro e w1 ⟨rfl, hw⟩
  have hl : LT w1 L rest bad := by
    rw [hw]
    exact h.far (World.grownBy_alloc w _ none) (by simp)
  have hgr : w.grownBy w1 (some L) := by
    rw [hw]
    exact World.grownBy_alloc w _ _
  clear hw C h
  obtain ⟨k0, k1, f0, f1, hl0⟩ := hl
  go_wp2_with fail
  go_ret3
  exact ⟨rfl, ⟨by go_simp, by go_simp, by rw [World.frozen?_setCell]; exact f0, by rw [World.frozen?_setCell]; exact f1, by simpa using hl0⟩, gb_same hgr (gb_set _ _ _)⟩
theorem ck_bd (c : ByteArray) : 0 ≤ (ckV c).1 ∧ (ckV c).1 ≤ 99 ∧ 0 ≤ (ckV c).2.1 ∧ (ckV c).2.1 ≤ 99 ∧ 0 ≤ (ckV c).2.2 ∧ (ckV c).2.2 ≤ 99 := by
  unfold ckV
  split
  · rename_i a b _
    have h1 := Ml.digV2_bd (Ml.mk a) 2 (by omega)
    have h2 := Ml.digV2_bd (Ml.mk b) 2 (by omega)
    simp only
    omega
  · rename_i a b d _
    have h1 := Ml.digV2_bd (Ml.mk a) 2 (by omega)
    have h2 := Ml.digV2_bd (Ml.mk b) 2 (by omega)
    have h3 := Ml.digV2_bd (Ml.mk d) 2 (by omega)
    simp only
    omega
  · simp
theorem ck_is {c : ByteArray} (h : Ml.hmsB c = true) : ckV c = (Sm.n2 c 0, Sm.n2 c 3, Ml.secOf c) := by
  rcases Ml.hms_to h with ⟨a, b, e, h1, h2⟩ | ⟨a, b, d, e, h1, h2, h3⟩
  · obtain ⟨_, k1, k2, k3⟩ := Ml.hms_of2 e h1 h2
    unfold ckV
    rw [e, k1, k2, k3]
  · obtain ⟨_, k1, k2, k3⟩ := Ml.hms_of3 e h1 h2 h3
    unfold ckV
    rw [e, k1, k2, k3]
theorem clock_any (c : ByteArray) (hs : c.size ≤ 100000) (w : World) (L : Nat) (rest : Value) (bad : Bool) (h : LT w L rest bad) :
    Calls Tryz.prog 84 #[.pointer (some ⟨L, 0, none⟩), .string c] w (CkPost L rest (bad || !Ml.hmsB c) (ckV c) w) := by
  have hle : ∀ x ∈ Ml.sp 58 c.data.toList, x.length ≤ 100000 := fun x hx => by
    have h1 := Ml.sp_tot 58 c.data.toList
    have h2 := Ml.tot_mem hx
    have h3 : c.data.toList.length = c.size := by simp
    omega
  match hp : Ml.sp 58 c.data.toList with
  | [a, b] =>
    rw [hp] at hle
    have := clock_2 c hs a b hp w L rest bad h _ _ _ _ (fun w => digits_any (Ml.mk a) 2 (by omega) (hle a (by simp)) w) (fun w => digits_any (Ml.mk b) 2 (by omega) (hle b (by simp)) w)
    have e1 : ckV c = (Ml.digV (Ml.mk a) 2, Ml.digV (Ml.mk b) 2, 0) := by
      unfold ckV
      rw [hp]
    have e2 : (bad || !Ml.hmsB c) = ((bad || !Ml.digO (Ml.mk a) 2) || !Ml.digO (Ml.mk b) 2) := by
      rw [Ml.hms_2 hp]
      cases bad <;> cases Ml.digO (Ml.mk a) 2 <;> cases Ml.digO (Ml.mk b) 2 <;> rfl
    rw [e1, e2]
    exact this
  | [a, b, d] =>
    rw [hp] at hle
    have := clock_3 c hs a b d hp w L rest bad h _ _ _ _ _ _ (fun w => digits_any (Ml.mk a) 2 (by omega) (hle a (by simp)) w) (fun w => digits_any (Ml.mk b) 2 (by omega) (hle b (by simp)) w) (fun w => digits_any (Ml.mk d) 2 (by omega) (hle d (by simp)) w)
    have e1 : ckV c = (Ml.digV (Ml.mk a) 2, Ml.digV (Ml.mk b) 2, Ml.digV (Ml.mk d) 2) := by
      unfold ckV
      rw [hp]
    have e2 : (bad || !Ml.hmsB c) = (((bad || !Ml.digO (Ml.mk a) 2) || !Ml.digO (Ml.mk b) 2) || !Ml.digO (Ml.mk d) 2) := by
      rw [Ml.hms_3 hp]
      cases bad <;> cases Ml.digO (Ml.mk a) 2 <;> cases Ml.digO (Ml.mk b) 2 <;> cases Ml.digO (Ml.mk d) 2 <;> rfl
    rw [e1, e2]
    exact this
  | [] => exact absurd hp (Ml.sp_ne _ _)
  | [a] =>
    have e1 : ckV c = (0, 0, 0) := by
      unfold ckV
      rw [hp]
    rw [e1, Ml.hms_else (by rw [hp]; simp) (by rw [hp]; simp), Bool.not_false, Bool.or_true]
    exact clock_0 c hs (by rw [hp]; simp) (by rw [hp]; simp) w L rest bad h
  | a :: b :: d :: f :: t =>
    have e1 : ckV c = (0, 0, 0) := by
      unfold ckV
      rw [hp]
    rw [e1, Ml.hms_else (by rw [hp]; simp) (by rw [hp]; simp), Bool.not_false, Bool.or_true]
    exact clock_0 c hs (by rw [hp]; simp) (by rw [hp]; simp) w L rest bad h
end Go.Proofs.YtbhafhbaldddiaaGreatDoor
