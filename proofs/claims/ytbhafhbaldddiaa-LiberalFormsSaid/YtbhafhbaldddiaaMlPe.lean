/- Plain laws on letters' dates: weekdays ahead of a date; what is written is read. No program in sight. -/
import Derived.Test.YtbhafhbaldddiaaMlPd
namespace Ml
open Sm
theorem wk_all : ((List.range 7).all fun k => decide ((32 : UInt8) ∉ (dyN (k : Int) ++ ⟨#[44]⟩).data.toList) && commaB (dyN (k : Int) ++ ⟨#[44]⟩) && decide ((dyN (k : Int) ++ ⟨#[44]⟩).extract 0 3 = dyN (k : Int)) && !(digO (dyN (k : Int) ++ ⟨#[44]⟩) (dyn (dyN (k : Int) ++ ⟨#[44]⟩)))) = true := by kernel_rfl
theorem wk_is {k : Int} (h0 : 0 ≤ k) (h1 : k ≤ 6) : (32 : UInt8) ∉ (dyN k ++ ⟨#[44]⟩).data.toList ∧ commaB (dyN k ++ ⟨#[44]⟩) = true ∧ (dyN k ++ ⟨#[44]⟩).extract 0 3 = dyN k ∧ digO (dyN k ++ ⟨#[44]⟩) (dyn (dyN k ++ ⟨#[44]⟩)) = false := by
  obtain ⟨n, rfl⟩ := Int.eq_ofNat_of_zero_le h0
  have := List.all_eq_true.1 wk_all n (List.mem_range.2 (by omega))
  rw [Bool.and_eq_true, Bool.and_eq_true, Bool.and_eq_true, decide_eq_true_iff, decide_eq_true_iff, Bool.not_eq_true'] at this
  exact ⟨this.1.1.1, this.1.1.2, this.1.2, this.2⟩
theorem wds_week {k : Int} (h0 : 0 ≤ k) (h1 : k ≤ 6) (s : ByteArray) : wds (dyN k ++ ⟨#[44, 32]⟩ ++ s) = (dyN k ++ ⟨#[44]⟩) :: wds s := by
  have e : (dyN k ++ ⟨#[44, 32]⟩ ++ s).data.toList = (dyN k ++ ⟨#[44]⟩).data.toList ++ 32 :: s.data.toList := by
    rw [len_app, len_app, len_app]
    simp
  unfold wds
  rw [e, sp_first _ _ _ (wk_is h0 h1).1, List.map_cons, mk_list]
theorem prs_week {k : Int} (h0 : 0 ≤ k) (h1 : k ≤ 6) (d m y c z : ByteArray) : prs [dyN k ++ ⟨#[44]⟩, d, m, y, c, z] = five d m y c z (some k) := by
  obtain ⟨_, h2, h3, _⟩ := wk_is h0 h1
  show (if commaB (dyN k ++ ⟨#[44]⟩) = true then (match dayF ((dyN k ++ ⟨#[44]⟩).extract 0 3) with | some k => five d m y c z (some k) | none => none) else none) = _
  rw [if_pos h2, h3, (dy_is h0 h1).1]
theorem five_wk {d m y c z : ByteArray} {v : Int} (h : five d m y c z none = some v) : ∃ wd : Int, 0 ≤ wd ∧ wd ≤ 6 ∧ ∀ k, five d m y c z (some k) = if k = wd then some v else none := by
  obtain ⟨mm, e, h1, h2, h3, h4, h5, h6, _, rfl⟩ := five_some h
  refine ⟨Cv.wday (Cv.num (digV y 4) mm (digV d (dyn d))), by unfold Cv.wday; omega, by unfold Cv.wday; omega, fun k => ?_⟩
  unfold five
  rw [h1, h2]
  simp only [h3, h4, h5, h6, true_and, reduceCtorEq, false_or, Option.some.injEq]
theorem five_un {d m y c z : ByteArray} {v k : Int} (h : five d m y c z (some k) = some v) : five d m y c z none = some v := by
  obtain ⟨mm, e, h1, h2, h3, h4, h5, h6, _, rfl⟩ := five_some h
  unfold five
  rw [h1, h2]
  simp only [h3, h4, h5, h6, true_and, true_or, if_true]
theorem five_nd {d m y c z : ByteArray} {wk : Option Int} (h : digO d (dyn d) = false) : five d m y c z wk = none := by
  cases hf : five d m y c z wk with
  | none => rfl
  | some v =>
    obtain ⟨mm, e, h1, h2, h3, h4, h5, _⟩ := five_some hf
    rw [h] at h3
    cases h3
theorem week_none {s : ByteArray} (h : parseF s = none) {k : Int} (h0 : 0 ≤ k) (h1 : k ≤ 6) : parseF (dyN k ++ ⟨#[44, 32]⟩ ++ s) = none := by
  unfold parseF at h ⊢
  rw [wds_week h0 h1]
  generalize wds s = W at h
  match W, h with
  | [d, m, y, c, z], h =>
    rw [prs_week h0 h1]
    cases hf : five d m y c z (some k) with
    | none => rfl
    | some v =>
      have h : five d m y c z none = none := h
      rw [five_un hf] at h
      cases h
  | [m, y, c, z], _ => exact five_nd (wk_is h0 h1).2.2.2
  | [], _ => rfl
  | [_], _ => rfl
  | [_, _], _ => rfl
  | [_, _, _], _ => rfl
  | _ :: _ :: _ :: _ :: _ :: _ :: t, _ => cases t <;> rfl
theorem comma_head {s : ByteArray} {x y : List UInt8} {t : List (List UInt8)} (h : sp 32 s.data.toList = x :: y :: t) (hc : commaB (mk x) = true) : 3 < s.size ∧ B s 3 = 44 := by
  have hj := sp_join 32 s.data.toList
  rw [h] at hj
  have hj : x ++ 32 :: joinL 32 (y :: t) = s.data.toList := hj
  unfold commaB at hc
  rw [Bool.and_eq_true, decide_eq_true_iff, beq_iff_eq, mk_size, B_mk] at hc
  obtain ⟨a, b, c, e, rfl⟩ := list4 hc.1
  have hl : s.data.toList.length = s.size := by simp
  refine ⟨by rw [← hl, ← hj]; simp, ?_⟩
  rw [B_get 3 e (by rw [← hj]; rfl)]
  exact hc.2
theorem week_some {s : ByteArray} {v : Int} (h : parseF s = some v) (hn : ¬ (3 < s.size ∧ B s 3 = 44)) : ∃ wd : Int, 0 ≤ wd ∧ wd ≤ 6 ∧ ∀ k : Int, 0 ≤ k → k ≤ 6 → parseF (dyN k ++ ⟨#[44, 32]⟩ ++ s) = if k = wd then some v else none := by
  have hW : ∀ k : Int, 0 ≤ k → k ≤ 6 → parseF (dyN k ++ ⟨#[44, 32]⟩ ++ s) = prs ((dyN k ++ ⟨#[44]⟩) :: wds s) := fun k h0 h1 => by
    unfold parseF
    rw [wds_week h0 h1]
  unfold parseF at h
  unfold wds at hW h
  match hs : sp 32 s.data.toList with
  | [d, m, y, c, z] =>
    rw [hs] at h hW
    obtain ⟨wd, w0, w1, w2⟩ := five_wk (show five (mk d) (mk m) (mk y) (mk c) (mk z) none = some v from h)
    refine ⟨wd, w0, w1, fun k h0 h1 => ?_⟩
    rw [hW k h0 h1, ← w2 k]
    exact prs_week h0 h1 _ _ _ _ _
  | [w, d, m, y, c, z] =>
    rw [hs] at h
    have h : (if commaB (mk w) = true then (match dayF ((mk w).extract 0 3) with | some k => five (mk d) (mk m) (mk y) (mk c) (mk z) (some k) | none => none) else none) = some v := h
    split at h
    · rename_i hc
      exact absurd (comma_head hs hc) hn
    · cases h
  | [] => rw [hs] at h; cases h
  | [_] => rw [hs] at h; cases h
  | [_, _] => rw [hs] at h; cases h
  | [_, _, _] => rw [hs] at h; cases h
  | [_, _, _, _] => rw [hs] at h; cases h
  | _ :: _ :: _ :: _ :: _ :: _ :: _ :: t => rw [hs] at h; cases h
/-! What is written is read. -/
theorem five_mk {D M Y C Z : ByteArray} {wk : Option Int} {y m d h mi s : Int} (hm : Cv.mayB y m d h mi s = true) (h1 : monF M = some m) (h2 : zneF Z = some 0) (h3 : digO D (dyn D) = true) (h4 : digV D (dyn D) = d) (h5 : digO Y 4 = true) (h6 : digV Y 4 = y)
    (h7 : hmsB C = true) (h8 : n2 C 0 = h) (h9 : n2 C 3 = mi) (h10 : secOf C = s) (hw : wk = none ∨ wk = some (Cv.wday (Cv.num y m d))) : five D M Y C Z wk = some (Cv.secV y m d h mi s 0) := by
  obtain ⟨hv, hb⟩ := (Cv.may_iff y m d h mi s).1 hm
  have hn := Cv.num_bd hv
  have hok : Cv.secOk y m d h mi s 0 = true := (Cv.secOk_iff _ _ _ _ _ _ _).2 ⟨hm, by omega, by omega, by unfold Cv.secV; omega, by unfold Cv.secV; omega⟩
  unfold five
  rw [h1, h2]
  simp only [h3, h4, h5, h6, h7, h8, h9, h10, hok, true_and]
  rw [if_pos hw]
theorem c_dB (n : Int) : dB (c n) := by
  have := c_nat n
  unfold dB
  omega
theorem c_ne (n : Int) : c n ≠ 58 ∧ c n ≠ 32 := dB_ne (c_dB n)
theorem dd_is {n : Int} (h0 : 0 ≤ n) (h1 : n ≤ 99) : digO (mk [c (n / 10), c n]) 2 = true ∧ digV (mk [c (n / 10), c n]) 2 = n := by
  have ho := (digO_mk2 (c (n / 10)) (c n)).2 ⟨c_dB _, c_dB _⟩
  refine ⟨ho, ?_⟩
  rw [digV_mk2 _ _ ho, c_nat, c_nat]
  omega
theorem d1_is {n : Int} (h0 : 0 ≤ n) (h1 : n ≤ 9) : digO (mk [c n]) 1 = true ∧ digV (mk [c n]) 1 = n := by
  have ho : digO (mk [c n]) 1 = true := (digO_iff _ _).2 ⟨rfl, fun i hi => by
    have : i = 0 := by omega
    subst this
    exact (dig_mk _ 0 (c n) rfl).2 (c_dB n)⟩
  refine ⟨ho, ?_⟩
  unfold digV
  rw [if_pos ho]
  unfold numA numA v
  rw [B_mk]
  have := c_nat n
  simp only [List.getElem?_cons_zero, Option.getD_some, Nat.add_zero]
  omega
theorem d4_is {n : Int} (h0 : 0 ≤ n) (h1 : n ≤ 9999) : digO (mk [c (n / 100 / 10), c (n / 100), c (n / 10), c n]) 4 = true ∧ digV (mk [c (n / 100 / 10), c (n / 100), c (n / 10), c n]) 4 = n := by
  have ho : digO (mk [c (n / 100 / 10), c (n / 100), c (n / 10), c n]) 4 = true := (digO_iff _ _).2 ⟨rfl, fun i hi => by
    match i, hi with
    | 0, _ => exact (dig_mk _ 0 _ rfl).2 (c_dB _)
    | 1, _ => exact (dig_mk _ 1 _ rfl).2 (c_dB _)
    | 2, _ => exact (dig_mk _ 2 _ rfl).2 (c_dB _)
    | 3, _ => exact (dig_mk _ 3 _ rfl).2 (c_dB _)⟩
  refine ⟨ho, ?_⟩
  unfold digV
  rw [if_pos ho, numA_4]
  unfold n4 v
  rw [B_mk, B_mk, B_mk, B_mk]
  have e1 := c_nat (n / 100 / 10)
  have e2 := c_nat (n / 100)
  have e3 := c_nat (n / 10)
  have e4 := c_nat n
  simp only [Nat.zero_add, List.getElem?_cons_zero, List.getElem?_cons_succ, Option.getD_some]
  omega
theorem ck8 {h mi s : Int} (b : 0 ≤ h ∧ h ≤ 23 ∧ 0 ≤ mi ∧ mi ≤ 59 ∧ 0 ≤ s ∧ s ≤ 59) : hmsB (mk [c (h / 10), c h, 58, c (mi / 10), c mi, 58, c (s / 10), c s]) = true ∧ n2 (mk [c (h / 10), c h, 58, c (mi / 10), c mi, 58, c (s / 10), c s]) 0 = h ∧ n2 (mk [c (h / 10), c h, 58, c (mi / 10), c mi, 58, c (s / 10), c s]) 3 = mi ∧ secOf (mk [c (h / 10), c h, 58, c (mi / 10), c mi, 58, c (s / 10), c s]) = s := by
  have e1 := c_nat (h / 10)
  have e2 := c_nat h
  have e3 := c_nat (mi / 10)
  have e4 := c_nat mi
  have e5 := c_nat (s / 10)
  have e6 := c_nat s
  refine ⟨(hms_iff _).2 ⟨(d2_mk _ 0 _ _ rfl rfl).2 ⟨c_dB _, c_dB _⟩, by rw [B_mk]; rfl, (d2_mk _ 3 _ _ rfl rfl).2 ⟨c_dB _, c_dB _⟩, Or.inr ⟨rfl, by rw [B_mk]; rfl, (d2_mk _ 6 _ _ rfl rfl).2 ⟨c_dB _, c_dB _⟩⟩⟩, ?_, ?_, ?_⟩
  · rw [n2_mk _ 0 _ _ rfl rfl]; omega
  · rw [n2_mk _ 3 _ _ rfl rfl]; omega
  · show (if (8 : Nat) = 8 then _ else _) = _
    rw [if_pos rfl, n2_mk _ 6 _ _ rfl rfl]
    omega
theorem ck5 {h mi : Int} (b : 0 ≤ h ∧ h ≤ 23 ∧ 0 ≤ mi ∧ mi ≤ 59) : hmsB (mk [c (h / 10), c h, 58, c (mi / 10), c mi]) = true ∧ n2 (mk [c (h / 10), c h, 58, c (mi / 10), c mi]) 0 = h ∧ n2 (mk [c (h / 10), c h, 58, c (mi / 10), c mi]) 3 = mi ∧ secOf (mk [c (h / 10), c h, 58, c (mi / 10), c mi]) = 0 := by
  have e1 := c_nat (h / 10)
  have e2 := c_nat h
  have e3 := c_nat (mi / 10)
  have e4 := c_nat mi
  refine ⟨(hms_iff _).2 ⟨(d2_mk _ 0 _ _ rfl rfl).2 ⟨c_dB _, c_dB _⟩, by rw [B_mk]; rfl, (d2_mk _ 3 _ _ rfl rfl).2 ⟨c_dB _, c_dB _⟩, Or.inl rfl⟩, ?_, ?_, rfl⟩
  · rw [n2_mk _ 0 _ _ rfl rfl]; omega
  · rw [n2_mk _ 3 _ _ rfl rfl]; omega
theorem sp5 (D M Y C Z : List UInt8) (h1 : (32 : UInt8) ∉ D) (h2 : (32 : UInt8) ∉ M) (h3 : (32 : UInt8) ∉ Y) (h4 : (32 : UInt8) ∉ C) (h5 : (32 : UInt8) ∉ Z) : sp 32 (D ++ 32 :: (M ++ 32 :: (Y ++ 32 :: (C ++ 32 :: Z)))) = [D, M, Y, C, Z] := by
  rw [sp_first _ _ _ h1, sp_first _ _ _ h2, sp_first _ _ _ h3, sp_first _ _ _ h4, sp_none _ _ h5]
theorem mo_32 : (mths.all fun p => decide ((32 : UInt8) ∉ p.data.toList)) = true := by kernel_rfl
theorem gmt_is : zneF (mk [71, 77, 84]) = some 0 := by kernel_rfl
end Ml
