/- Plain laws on letters' dates: a date's words as the reader takes them. No program in sight. Parse on any text. Plain laws on letters' dates: how a date is written. No program in sight. The walks of two and Text. The walk of Text. Plain laws on letters' dates: zones, weekdays. No program in sight. -/
import Derived.Test.YtbhafhbaldddiaaGreatDoorZMb
import Derived.Lib.Strings
import Derived.Test.YtbhafhbaldddiaaGreatDoorZMd
import Derived.Test.YtbhafhbaldddiaaGreatDoorZA
import Derived.Lib.Join
import Derived.Deep.RegionHeld3
namespace Ml
open Sm
def lenN (s : ByteArray) : Nat := if s.size ≤ 1 then 1 else 2
theorem digO_len (d : ByteArray) : digO d (lenN d) = digO d (dyn d) := by
  by_cases h0 : d.size = 0
  · rw [Bool.eq_iff_iff, digO_iff, digO_iff]
    unfold lenN dyn
    constructor
    · rintro ⟨h, _⟩
      rw [h0] at h
      simp at h
    · rintro ⟨h, _⟩
      rw [h0] at h
      simp at h
  · have : lenN d = dyn d := by unfold lenN dyn; split <;> split <;> omega
    rw [this]
theorem digV_len (d : ByteArray) : digV d (lenN d) = digV d (dyn d) := by
  by_cases h : digO d (dyn d) = true
  · have : lenN d = dyn d := by
      have h2 := ((digO_iff _ _).1 h).1
      unfold lenN
      unfold dyn at h2 ⊢
      split at h2 <;> split <;> first | omega | rfl
    rw [this]
  · unfold digV
    rw [digO_len, if_neg h, if_neg h]
/-- What is bad in five words. -/
def bad5 (b : Bool) (d m y c z : ByteArray) : Bool := (((((b || !digO d (lenN d)) || !(monF m).isSome) || !digO y 4) || !hmsB c) || !(zneF z).isSome)
theorem bad5_true (d m y c z : ByteArray) : bad5 true d m y c z = true := by unfold bad5; simp
theorem bad5_iff (d m y c z : ByteArray) : bad5 false d m y c z = false ↔ digO d (dyn d) = true ∧ (∃ mm, monF m = some mm) ∧ digO y 4 = true ∧ hmsB c = true ∧ ∃ e, zneF z = some e := by
  unfold bad5
  rw [digO_len]
  simp [Option.isSome_iff_exists, and_assoc]
theorem five_bad {d m y c z : ByteArray} {week : Option Int} (h : bad5 false d m y c z = true) : five d m y c z week = none := by
  cases hf : five d m y c z week with
  | none => rfl
  | some v =>
    obtain ⟨mm, e, h1, h2, h3, h4, h5, _⟩ := five_some hf
    have := (bad5_iff d m y c z).2 ⟨h3, ⟨mm, h1⟩, h4, h5, ⟨e, h2⟩⟩
    rw [h] at this
    cases this
theorem list4 {l : List UInt8} (h : l.length = 4) : ∃ a b c d, l = [a, b, c, d] := by
  match l, h with
  | [a, b, c, d], _ => exact ⟨a, b, c, d, rfl⟩
theorem list3 {l : List UInt8} (h : l.length = 3) : ∃ a b c, l = [a, b, c] := by
  match l, h with
  | [a, b, c], _ => exact ⟨a, b, c, rfl⟩
theorem has_iff (l : List UInt8) : Go.Lib.hasSuffix l [44] = true ↔ ∃ t, l = t ++ [44] := by
  unfold Go.Lib.hasSuffix
  rw [List.isSuffixOf_iff_suffix]
  constructor
  · rintro ⟨t, h⟩
    exact ⟨t, h.symm⟩
  · rintro ⟨t, h⟩
    exact ⟨t, h.symm⟩
theorem trim_is (t : List UInt8) : Go.Lib.trimSuffix (t ++ [44]) [44] = t := by
  unfold Go.Lib.trimSuffix
  rw [if_pos ((has_iff _).2 ⟨t, rfl⟩)]
  simp
def cutO (w : ByteArray) : Bool := Go.Lib.hasSuffix w.data.toList [44]
def cutQ (w : ByteArray) : ByteArray := ⟨(Go.Lib.trimSuffix w.data.toList [44]).toArray⟩
theorem cut_le (w : ByteArray) : (cutQ w).size ≤ w.size := by
  have h1 : w.data.toList.length = w.size := by simp
  show (Go.Lib.trimSuffix w.data.toList [44]).toArray.size ≤ _
  unfold Go.Lib.trimSuffix
  split
  · simp
  · simp
theorem comma_to {w : ByteArray} (h : commaB w = true) : cutO w = true ∧ w.extract 0 3 = cutQ w := by
  unfold commaB at h
  rw [Bool.and_eq_true, decide_eq_true_iff, beq_iff_eq] at h
  obtain ⟨h1, h2⟩ := h
  have hl : w.data.toList.length = 4 := by simpa using h1
  obtain ⟨a, b, c, x, e⟩ := list4 hl
  have e2 := of_list e
  have hx : x = 44 := by
    rw [e2, B_mk] at h2
    apply UInt8.toNat_inj.1
    exact h2
  subst hx
  have e3 : w.data.toList = [a, b, c] ++ [44] := e
  refine ⟨(has_iff _).2 ⟨_, e3⟩, ?_⟩
  unfold cutQ
  rw [e3, trim_is, e2]
  rfl
theorem comma_of {w : ByteArray} (h : cutO w = true) {k : Int} (hk : dayF (cutQ w) = some k) : commaB w = true ∧ w.extract 0 3 = cutQ w := by
  obtain ⟨t, e⟩ := (has_iff _).1 h
  have hq : cutQ w = mk t := by
    unfold cutQ
    rw [e, trim_is]
    rfl
  have h3 := (day_size hk).1
  rw [hq, mk_size] at h3
  obtain ⟨a, b, c, rfl⟩ := list3 h3
  have e2 := of_list e
  have hc : commaB w = true := by
    rw [e2]
    unfold commaB
    rw [Bool.and_eq_true, decide_eq_true_iff, beq_iff_eq, B_mk]
    exact ⟨rfl, rfl⟩
  exact ⟨hc, (comma_to hc).2⟩
theorem six_bad {w d m y c z : ByteArray} (h : bad5 ((!cutO w) || !(dayF (cutQ w)).isSome) d m y c z = true) : prs [w, d, m, y, c, z] = none := by
  show (if commaB w = true then (match dayF (w.extract 0 3) with | some k => five d m y c z (some k) | none => none) else none) = none
  split
  · rename_i hc
    obtain ⟨h1, h2⟩ := comma_to hc
    rw [h2]
    cases hd : dayF (cutQ w) with
    | none => rfl
    | some k =>
      rw [h1, hd] at h
      exact five_bad h
  · rfl
theorem six_good {w d m y c z : ByteArray} (h : bad5 ((!cutO w) || !(dayF (cutQ w)).isSome) d m y c z = false) : ∃ k, dayF (cutQ w) = some k ∧ bad5 false d m y c z = false ∧ prs [w, d, m, y, c, z] = five d m y c z (some k) := by
  cases ho : cutO w with
  | false =>
    rw [ho] at h
    simp only [Bool.not_false, Bool.true_or] at h
    rw [bad5_true] at h
    cases h
  | true =>
    cases hd : dayF (cutQ w) with
    | none =>
      rw [hd] at h
      simp only [Option.isSome_none, Bool.not_false, Bool.or_true] at h
      rw [bad5_true] at h
      cases h
    | some k =>
      rw [ho, hd] at h
      obtain ⟨h1, h2⟩ := comma_of ho hd
      refine ⟨k, rfl, h, ?_⟩
      show (if commaB w = true then (match dayF (w.extract 0 3) with | some k => five d m y c z (some k) | none => none) else none) = _
      rw [if_pos h1, h2, hd]
end Ml
namespace Go.Proofs.YtbhafhbaldddiaaGreatDoor
open Go.RowKit
open Go
set_option linter.unusedVariables false
set_option maxHeartbeats 1000000 in
theorem p_else (s : ByteArray) (hs : s.size ≤ 100000) (n : Nat) (hn : (Ml.sp 32 s.data.toList).length = n) (h5 : n ≠ 5) (h6 : n ≠ 6) (w : World) :
    Calls Tryz.prog 31 #[.string s] w (ErrPost none 70 w) := by
  have C := fun w => split_any s 32 hs w
  unfold SplitPost at C
  rw [hn] at C
  have hlen : n = ((Ml.sp 32 s.data.toList).map Ml.mk).length := by rw [List.length_map, hn]
  generalize (Ml.sp 32 s.data.toList).map Ml.mk = l at C hlen
  clear hn
  have e6 : ((n : Int) == 6) = false := by simp; omega
  have e5 : ((n : Int) != 5) = true := by simp; omega
  have H5 := Lib.hid h5
  have H6 := Lib.hid h6
  clear h5 h6
  go_enter Tryz.func31, Tryz.ntmps31
  go_wp2_with fail
  refine (C _).mono ?_
  rintro e w1 ⟨rfl, hw1⟩
  have hmf : ∀ (fn : Fn) (first cap : Array Value) (w : World), (Instr.makeFunc fn first cap).run Tryz.prog w = .ok (.func fn first cap) w := fun _ _ _ _ => rfl
  have hp := Pl.made w l n 9 82 false hlen
  rw [← hw1] at hp
  have hsz : w1.heap.size = w.heap.size + 1 := by rw [hw1]; simp
  clear hw1 C
  rw [← hsz] at hp
  go_wp2_with fail
  go_ret2
  have hb := hp.2.2.2.2
  rw [hlen] at hb
  exact ⟨rfl, hb⟩
theorem five_sec {d m y c z : ByteArray} {week : Option Int} (h : Ml.bad5 false d m y c z = false) : Ml.five d m y c z week =
    if Cv.secOk (Ml.digV y 4) ((Ml.monF m).getD 0) (Ml.digV d (lenN d)) (ckV c).1 (ckV c).2.1 (ckV c).2.2 ((Ml.zneF z).getD 0) = true ∧ (week = none ∨ week = some (Cv.wday (Cv.num (Ml.digV y 4) ((Ml.monF m).getD 0) (Ml.digV d (lenN d))))) then
      some (Cv.secV (Ml.digV y 4) ((Ml.monF m).getD 0) (Ml.digV d (lenN d)) (ckV c).1 (ckV c).2.1 (ckV c).2.2 ((Ml.zneF z).getD 0)) else none := by
  obtain ⟨h1, ⟨mm, h2⟩, h3, h4, ⟨e, h5⟩⟩ := (Ml.bad5_iff d m y c z).1 h
  have hd : Ml.digV d (lenN d) = Ml.digV d (Ml.dyn d) := Ml.digV_len d
  rw [hd, ck_is h4]
  unfold Ml.five
  rw [h2, h5]
  simp only [Option.getD_some, h1, h3, h4, true_and]
theorem five_calls (s d m y c z : ByteArray) (hs : s.size ≤ 100000) (hd : d.size ≤ 100000) (hm : m.size ≤ 100000) (hy : y.size ≤ 100000) (hc : c.size ≤ 100000) (hz : z.size ≤ 100000) (hw : (Ml.sp 32 s.data.toList).map Ml.mk = [d, m, y, c, z]) (w : World) :
    Calls Tryz.prog 31 #[.string s] w (ErrPost (Ml.five d m y c z none) 70 w) := by
  cases hk : Cv.secOk (Ml.digV y 4) ((Ml.monF m).getD 0) (Ml.digV d (lenN d)) (ckV c).1 (ckV c).2.1 (ckV c).2.2 ((Ml.zneF z).getD 0) with
  | false =>
    have e : Ml.five d m y c z none = none := by
      cases hb : Ml.bad5 false d m y c z with
      | true => exact Ml.five_bad hb
      | false => rw [five_sec hb, hk]; simp
    rw [e]
    exact p5_a s d m y c z hs hd hm hy hc hz hw w _ rfl hk
  | true =>
    refine p5_b s d m y c z hs hd hm hy hc hz hw w (Ml.bad5 false d m y c z) rfl hk _ ?_
    cases hb : Ml.bad5 false d m y c z with
    | true => rw [Ml.five_bad hb]; rfl
    | false => rw [five_sec hb, hk]; simp
theorem six_calls (s a d m y c z : ByteArray) (hs : s.size ≤ 100000) (ha : a.size ≤ 100000) (hd : d.size ≤ 100000) (hm : m.size ≤ 100000) (hy : y.size ≤ 100000) (hc : c.size ≤ 100000) (hz : z.size ≤ 100000) (hw : (Ml.sp 32 s.data.toList).map Ml.mk = [a, d, m, y, c, z]) (w : World) :
    Calls Tryz.prog 31 #[.string s] w (ErrPost (Ml.prs [a, d, m, y, c, z]) 70 w) := by
  have CS : ∀ w, Calls Tryz.prog 79 #[.string a, .string ⟨#[44]⟩] w fun e w' => e = .returned (.tuple #[.string (Ml.cutQ a), .bool (Ml.cutO a)]) ∧ w' = w := fun w => Tryz.strings_CutSuffix a ⟨#[44]⟩ w (by omega)
  have hq : (Ml.cutQ a).size ≤ 1000000 := by have := Ml.cut_le a; omega
  cases hk : Cv.secOk (Ml.digV y 4) ((Ml.monF m).getD 0) (Ml.digV d (lenN d)) (ckV c).1 (ckV c).2.1 (ckV c).2.2 ((Ml.zneF z).getD 0) with
  | false =>
    have e : Ml.prs [a, d, m, y, c, z] = none := by
      cases hb : Ml.bad5 ((!Ml.cutO a) || !(Ml.dayF (Ml.cutQ a)).isSome) d m y c z with
      | true => exact Ml.six_bad hb
      | false =>
        obtain ⟨k, h1, h2, h3⟩ := Ml.six_good hb
        rw [h3, five_sec h2, hk]
        simp
    rw [e]
    exact p6_a s a d m y c z (Ml.cutQ a) (Ml.cutO a) hs hq CS hd hm hy hc hz hw w _ rfl hk
  | true =>
    cases hb : Ml.bad5 ((!Ml.cutO a) || !(Ml.dayF (Ml.cutQ a)).isSome) d m y c z with
    | true =>
      rw [Ml.six_bad hb]
      exact p6_b s a d m y c z (Ml.cutQ a) (Ml.cutO a) hs hq CS hd hm hy hc hz hw w hb hk
    | false =>
      obtain ⟨k, h1, h2, h3⟩ := Ml.six_good hb
      refine p6_c s a d m y c z (Ml.cutQ a) (Ml.cutO a) hs hq CS hd hm hy hc hz hw w hb hk k h1 _ ?_
      rw [h3, five_sec h2, hk]
      by_cases hwk : Cv.wday (Cv.num (Ml.digV y 4) ((Ml.monF m).getD 0) (Ml.digV d (lenN d))) = k
      · simp [hwk]
      · rw [if_neg hwk, if_neg]
        rintro ⟨_, h⟩
        rcases h with h | h
        · cases h
        · exact hwk (Option.some.inj h).symm
theorem parse_any (s : ByteArray) (hs : s.size ≤ 100000) (w : World) : Calls Tryz.prog 31 #[.string s] w (ErrPost (Ml.parseF s) 70 w) := by
  have hle : ∀ x ∈ Ml.sp 32 s.data.toList, (Ml.mk x).size ≤ 100000 := fun x hx => by
    have h1 := Ml.sp_tot 32 s.data.toList
    have h2 := Ml.tot_mem hx
    have h3 : s.data.toList.length = s.size := by simp
    rw [Ml.mk_size]
    omega
  unfold Ml.parseF Ml.wds
  match hw : Ml.sp 32 s.data.toList with
  | [d, m, y, c, z] =>
    rw [hw] at hle
    show Calls _ _ _ _ (ErrPost (Ml.five (Ml.mk d) (Ml.mk m) (Ml.mk y) (Ml.mk c) (Ml.mk z) none) 70 w)
    have hw2 : (Ml.sp 32 s.data.toList).map Ml.mk = [Ml.mk d, Ml.mk m, Ml.mk y, Ml.mk c, Ml.mk z] := by rw [hw]; rfl
    have a1 := hle d (by simp)
    have a2 := hle m (by simp)
    have a3 := hle y (by simp)
    have a4 := hle c (by simp)
    have a5 := hle z (by simp)
    generalize Ml.mk d = d at *
    generalize Ml.mk m = m at *
    generalize Ml.mk y = y at *
    generalize Ml.mk c = c at *
    generalize Ml.mk z = z at *
    clear hle hw
    exact five_calls s d m y c z hs a1 a2 a3 a4 a5 hw2 w
  | [a, d, m, y, c, z] =>
    rw [hw] at hle
    show Calls _ _ _ _ (ErrPost (Ml.prs [Ml.mk a, Ml.mk d, Ml.mk m, Ml.mk y, Ml.mk c, Ml.mk z]) 70 w)
    have hw2 : (Ml.sp 32 s.data.toList).map Ml.mk = [Ml.mk a, Ml.mk d, Ml.mk m, Ml.mk y, Ml.mk c, Ml.mk z] := by rw [hw]; rfl
    have a0 := hle a (by simp)
    have a1 := hle d (by simp)
    have a2 := hle m (by simp)
    have a3 := hle y (by simp)
    have a4 := hle c (by simp)
    have a5 := hle z (by simp)
    generalize Ml.mk a = a at *
    generalize Ml.mk d = d at *
    generalize Ml.mk m = m at *
    generalize Ml.mk y = y at *
    generalize Ml.mk c = c at *
    generalize Ml.mk z = z at *
    clear hle hw
    exact six_calls s a d m y c z hs a0 a1 a2 a3 a4 a5 hw2 w
  | [] => exact p_else s hs 0 (by rw [hw]; rfl) (by omega) (by omega) w
  | [_] => exact p_else s hs 1 (by rw [hw]; rfl) (by omega) (by omega) w
  | [_, _] => exact p_else s hs 2 (by rw [hw]; rfl) (by omega) (by omega) w
  | [_, _, _] => exact p_else s hs 3 (by rw [hw]; rfl) (by omega) (by omega) w
  | [_, _, _, _] => exact p_else s hs 4 (by rw [hw]; rfl) (by omega) (by omega) w
  | _ :: _ :: _ :: _ :: _ :: _ :: _ :: t => exact p_else s hs (t.length + 7) (by rw [hw]; rfl) (by omega) (by omega) w
end Go.Proofs.YtbhafhbaldddiaaGreatDoor
namespace Ml
open Sm
def tw (n : Int) : List UInt8 := [Sm.c (n / 10), Sm.c n]
def two (n : Int) : ByteArray := ⟨#[Sm.c (n / 10), Sm.c n]⟩
def dyN (k : Int) : ByteArray := (dys[k.toNat]?).getD ⟨#[]⟩
def moN (k : Int) : ByteArray := (mths[(k - 1).toNat]?).getD ⟨#[]⟩
theorem dy_all : ((List.range 7).all fun k => decide (dayF (dyN (k : Int)) = some (k : Int)) && (dyN (k : Int)).size == 3) = true := by kernel_rfl
theorem mo_all : ((List.range 13).all fun k => k == 0 || decide (monF (moN (k : Int)) = some (k : Int)) && (moN (k : Int)).size == 3) = true := by kernel_rfl
theorem dy_is {k : Int} (h0 : 0 ≤ k) (h1 : k ≤ 6) : dayF (dyN k) = some k ∧ (dyN k).size = 3 := by
  obtain ⟨n, rfl⟩ := Int.eq_ofNat_of_zero_le h0
  have := List.all_eq_true.1 dy_all n (List.mem_range.2 (by omega))
  rw [Bool.and_eq_true, decide_eq_true_iff, beq_iff_eq] at this
  exact this
theorem mo_is {k : Int} (h0 : 1 ≤ k) (h1 : k ≤ 12) : monF (moN k) = some k ∧ (moN k).size = 3 := by
  obtain ⟨n, rfl⟩ := Int.eq_ofNat_of_zero_le (show 0 ≤ k by omega)
  have := List.all_eq_true.1 mo_all n (List.mem_range.2 (by omega))
  rw [Bool.or_eq_true, Bool.and_eq_true, decide_eq_true_iff, beq_iff_eq, beq_iff_eq] at this
  rcases this with h | h
  · omega
  · exact h
theorem dy_one {s : ByteArray} {k : Int} (h : dayF s = some k) : s = dyN k := by
  obtain ⟨_, n, e, h2⟩ := nm_mem h
  unfold dyN
  have : k.toNat = n := by omega
  rw [this, h2]
  rfl
theorem mo_one {s : ByteArray} {k : Int} (h : monF s = some k) : s = moN k := by
  obtain ⟨_, n, e, h2⟩ := nm_mem h
  unfold moN
  have : (k - 1).toNat = n := by omega
  rw [this, h2]
  rfl
/-- A date's text. -/
def txS (y m d h mi s : Int) : List ByteArray := [dyN (Cv.wday (Cv.num y m d)) ++ ⟨#[44]⟩, two d, moN m, two (y / 100) ++ two y, two h ++ ⟨#[58]⟩ ++ two mi ++ ⟨#[58]⟩ ++ two s, ⟨#[71, 77, 84]⟩]
def txB (y m d h mi s : Int) : ByteArray := ⟨(Go.Lib.join ((txS y m d h mi s).map (·.data.toList)) [32]).toArray⟩
theorem len_app (a b : ByteArray) : (a ++ b).data.toList = a.data.toList ++ b.data.toList := by simp
/-- The text's bytes. -/
def txL (y m d h mi s : Int) : List UInt8 := (dyN (Cv.wday (Cv.num y m d))).data.toList ++ ([44, 32] ++ (tw d ++ ([32] ++ ((moN m).data.toList ++ ([32] ++ (tw (y / 100) ++ (tw y ++ ([32] ++ (tw h ++ ([58] ++ (tw mi ++ ([58] ++ (tw s ++ [32, 71, 77, 84])))))))))))))
theorem tx_join (y m d h mi s : Int) : Go.Lib.join ((txS y m d h mi s).map (·.data.toList)) [32] = txL y m d h mi s := by
  unfold txS txL Go.Lib.join two
  simp only [List.map_cons, List.map_nil, len_app]
  simp [List.intercalate, tw]
theorem tx_len (y m d h mi s : Int) (h0 : 0 ≤ Cv.wday (Cv.num y m d)) (h1 : Cv.wday (Cv.num y m d) ≤ 6) (h2 : 1 ≤ m) (h3 : m ≤ 12) : (Go.Lib.join ((txS y m d h mi s).map (·.data.toList)) [32]).length = 29 := by
  rw [tx_join]
  unfold txL
  have e1 := (dy_is h0 h1).2
  have e2 := (mo_is h2 h3).2
  have e3 : (dyN (Cv.wday (Cv.num y m d))).data.toList.length = 3 := by simpa using e1
  have e4 : (moN m).data.toList.length = 3 := by simpa using e2
  simp only [List.length_append, e3, e4, tw, List.length_cons, List.length_nil]
end Ml
namespace Go.Proofs.YtbhafhbaldddiaaGreatDoor
open Go.RowKit
open Go
set_option linter.unusedVariables false
theorem two_cells (w : World) (n : Int) : (convert 88 9 (.slice (some ⟨w.heap.size, 0, none⟩) 2 2)).run Tryz.prog (w.alloc (.cells #[.int .u8 (48 + n / 10 % 10), .int .u8 (48 + n % 10)] 5)) = .ok (.string ⟨#[Sm.c (n / 10), Sm.c n]⟩) (w.alloc (.cells #[.int .u8 (48 + n / 10 % 10), .int .u8 (48 + n % 10)] 5)) :=
  run_convert_bytes_back (P := Tryz.prog) (w.alloc (.cells #[.int .u8 (48 + n / 10 % 10), .int .u8 (48 + n % 10)] 5)) 88 9 5 ⟨w.heap.size, 0, none⟩ 2 [Sm.c (n / 10), Sm.c n] Tryz.underlying88 Tryz.underlying5 Tryz.underlying9 (fun j hj => by
    rw [Go.WideShapes.add_plain, Nat.zero_add]
    have hj' : j < 2 := hj
    match j, hj' with
    | 0, _ =>
      have := Sm.c_nat (n / 10)
      simp [this]
    | 1, _ =>
      have := Sm.c_nat n
      simp [this])
set_option maxHeartbeats 1000000 in
theorem rtwo_any (n : Int) (h0 : 0 ≤ n) (h1 : n ≤ 99) (w : World) : Calls Tryz.prog 55 #[.int .i64 n] w (StrPost (Ml.two n) w) := by
  have e1 : n.tdiv 10 = n / 10 % 10 := by rw [Int.tdiv_eq_ediv_of_nonneg h0]; omega
  have e3 : n.tmod 10 = n % 10 := Int.tmod_eq_emod_of_nonneg h0
  have hback := two_cells w n
  go_enter Tryz.func55, Tryz.ntmps55
  go_wp2_with fail
  go_ret
  exact ⟨rfl, bbox (Below.refl _ _) _⟩
/-- A map of names. -/
def Nmd (N : List ByteArray) (first : Int) (w : World) (b : Nat) : Prop := ∃ f, MapF Tryz.prog 9 okI w b N.length f ∧ ∀ s, f (.string s) = (Ml.nmF N first s).map fun k => .int .i64 k
def MapPost (N : List ByteArray) (first : Int) (w : World) (e : Ending) (w' : World) : Prop := ∃ b, e = .returned (.map (some b)) ∧ Nmd N first w' b ∧ Below w.heap.size w w'
theorem days_map (w : World) : Calls Tryz.prog 110 #[] w (MapPost Ml.dys 0 w) := (days_any w).mono fun e w' h => by
  obtain ⟨b, f, h1, _, h3, h4, h5⟩ := h
  exact ⟨b, h1, ⟨f, h3, h4⟩, h5⟩
theorem months_map (w : World) : Calls Tryz.prog 111 #[] w (MapPost Ml.mths 1 w) := (months_any w).mono fun e w' h => by
  obtain ⟨b, f, h1, _, h3, h4, h5⟩ := h
  exact ⟨b, h1, ⟨f, h3, h4⟩, h5⟩
end Go.Proofs.YtbhafhbaldddiaaGreatDoor
namespace Go.Proofs.YtbhafhbaldddiaaGreatDoor
open Go.RowKit
open Go
set_option linter.unusedVariables false
theorem below_undrew {n : Nat} {w w' : World} (h : Below n w.drew w') : Below n w w' := ⟨h.os, h.tape, h.output, h.size, h.block⟩
theorem cells_of (w : World) (l : List ByteArray) (t j : Nat) (x : ByteArray) (hj : l[j]? = some x) : (w.alloc (.cells ((l.map Value.string).toArray) t)).cell? ⟨w.heap.size, 0 + j, none⟩ = some (.string x) := by
  have e : ((l.map Value.string).toArray)[0 + j]? = some (.string x) := by simp [hj]
  generalize (l.map Value.string).toArray = A at e ⊢
  clear hj
  go_simp
  rw [Nat.zero_add] at e
  exact e
def TxtPost (t : ByteArray) (k : Int) (w : World) (e : Ending) (w' : World) : Prop := e = .returned (.tuple #[.string t, .int .i64 k]) ∧ Below w.heap.size w w'
end Go.Proofs.YtbhafhbaldddiaaGreatDoor
namespace Ml
open Sm
theorem parse_w0 : parseF ⟨#[84, 104, 117, 44, 32, 48, 49, 32, 74, 97, 110, 32, 49, 57, 55, 48, 32, 48, 48, 58, 48, 48, 58, 48, 48, 32, 71, 77, 84]⟩ = some 0 := by kernel_rfl
theorem parse_w1 : parseF ⟨#[49, 32, 74, 97, 110, 32, 49, 57, 55, 48, 32, 48, 48, 58, 48, 49, 32, 43, 48, 49, 48, 48]⟩ = some (-3540) := by kernel_rfl
theorem text_w0 : txB 1970 1 1 0 0 0 = ⟨#[84, 104, 117, 44, 32, 48, 49, 32, 74, 97, 110, 32, 49, 57, 55, 48, 32, 48, 48, 58, 48, 48, 58, 48, 48, 32, 71, 77, 84]⟩ := by kernel_rfl
theorem sec_w0 : Cv.secV 1970 1 1 0 0 0 0 = 0 := by kernel_rfl
theorem may_w0 : Cv.mayB 1970 1 1 0 0 0 = true := by kernel_rfl
theorem five_zone {d m y c z z' : ByteArray} {wk : Option Int} {a b u v : Int} (h : five d m y c z wk = some a) (h' : five d m y c z' wk = some b) (hu : zneF z = some u) (hv : zneF z' = some v) : a + 60 * u = b + 60 * v := by
  obtain ⟨mm, e, h1, h2, _, _, _, _, _, rfl⟩ := five_some h
  obtain ⟨mm', e', h1', h2', _, _, _, _, _, rfl⟩ := five_some h'
  rw [h1] at h1'
  rw [hu] at h2
  rw [hv] at h2'
  cases h1'
  cases h2
  cases h2'
  unfold Cv.secV
  omega
theorem prs_zone {W : List ByteArray} {z z' : ByteArray} {a b u v : Int} (h : prs (W ++ [z]) = some a) (h' : prs (W ++ [z']) = some b) (hu : zneF z = some u) (hv : zneF z' = some v) : a + 60 * u = b + 60 * v := by
  match W, h, h' with
  | [d, m, y, c], h, h' => exact five_zone h h' hu hv
  | [w, d, m, y, c], h, h' =>
    have h : (if commaB w = true then (match dayF (w.extract 0 3) with | some k => five d m y c z (some k) | none => none) else none) = some a := h
    have h' : (if commaB w = true then (match dayF (w.extract 0 3) with | some k => five d m y c z' (some k) | none => none) else none) = some b := h'
    split at h
    · rename_i hc
      rw [if_pos hc] at h'
      split at h
      · rename_i k hk
        rw [hk] at h'
        exact five_zone h h' hu hv
      · cases h
    · cases h
  | [], h, _ => cases h
  | [_], h, _ => cases h
  | [_, _], h, _ => cases h
  | [_, _, _], h, _ => cases h
  | _ :: _ :: _ :: _ :: _ :: _ :: t, h, _ => cases t <;> cases h
theorem zn_32 : (znames.all fun p => decide ((32 : UInt8) ∉ p.1.data.toList)) = true := by kernel_rfl
theorem B_get {s : ByteArray} (i : Nat) (x : UInt8) (h : s.data.toList[i]? = some x) : B s i = x.toNat := by
  have e := of_list (s := s) rfl
  rw [e, B_mk, h]
  rfl
theorem zne_32 {z : ByteArray} {u : Int} (h : zneF z = some u) : (32 : UInt8) ∉ z.data.toList := by
  unfold zneF at h
  split at h
  · rename_i k hk
    exact of_decide_eq_true (List.all_eq_true.1 zn_32 _ (hour_mem hk))
  · split at h
    · rename_i ho
      obtain ⟨h1, h2, h3, _, _, h6⟩ := (off_iff z).1 ho
      intro hm
      obtain ⟨i, hi, e⟩ := List.mem_iff_getElem.1 hm
      have hb := B_get i 32 (by rw [List.getElem?_eq_getElem hi, e])
      have hl : z.data.toList.length = 5 := by simpa using h1
      rw [d2_iff, dig_iff, dig_iff] at h2 h3
      have hi5 : i = 0 ∨ i = 1 ∨ i = 2 ∨ i = 3 ∨ i = 4 := by omega
      have h32 : (32 : UInt8).toNat = 32 := rfl
      rw [h32] at hb
      rcases hi5 with rfl | rfl | rfl | rfl | rfl <;> simp only [Nat.reduceAdd] at h2 h3 <;> omega
    · cases h
theorem wds_zone (s z : ByteArray) (h : (32 : UInt8) ∉ z.data.toList) : wds (s ++ ⟨#[32]⟩ ++ z) = wds s ++ [z] := by
  unfold wds
  have e : (s ++ ⟨#[32]⟩ ++ z).data.toList = s.data.toList ++ 32 :: z.data.toList := by
    rw [len_app, len_app]
    simp
  rw [e, sp_app, sp_none _ _ h, List.map_append, List.map_cons, List.map_nil, mk_list]
theorem zones {s a b : ByteArray} {x y u v : Int} (h1 : parseF (s ++ ⟨#[32]⟩ ++ a) = some x) (h2 : parseF (s ++ ⟨#[32]⟩ ++ b) = some y) (h3 : zneF a = some u) (h4 : zneF b = some v) : x + 60 * u = y + 60 * v := by
  unfold parseF at h1 h2
  rw [wds_zone s a (zne_32 h3)] at h1
  rw [wds_zone s b (zne_32 h4)] at h2
  exact prs_zone h1 h2 h3 h4
theorem five_bd {d m y c z : ByteArray} {wk : Option Int} {a : Int} (h : five d m y c z wk = some a) : -62135596800 ≤ a ∧ a ≤ 253402300799 := by
  obtain ⟨mm, e, _, _, _, _, _, h6, _, rfl⟩ := five_some h
  obtain ⟨_, _, _, h7, h8⟩ := (Cv.secOk_iff _ _ _ _ _ _ _).1 h6
  exact ⟨h7, h8⟩
theorem parse_bd {s : ByteArray} {a : Int} (h : parseF s = some a) : -62135596800 ≤ a ∧ a ≤ 253402300799 := by
  unfold parseF at h
  generalize wds s = W at h
  match W, h with
  | [d, m, y, c, z], h => exact five_bd (show five d m y c z none = some a from h)
  | [w, d, m, y, c, z], h =>
    have h : (if commaB w = true then (match dayF (w.extract 0 3) with | some k => five d m y c z (some k) | none => none) else none) = some a := h
    split at h
    · split at h
      · exact five_bd h
      · cases h
    · cases h
end Ml
