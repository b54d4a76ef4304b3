/- A world that holds the listed tables of the library. The walks of the mail statements' wakes and of MailZones. Plain laws on letters' dates: weekdays ahead of a date; what is written is read. No program in sight. Plain laws on letters' dates: a written date is read as its second. No program in sight. Plain laws on letters' dates: the document's way to write one. No program in sight. -/
import Derived.Test.YtbhafhbaldddiaaGreatDoorZA
import Derived.Test.YtbhafhbaldddiaaGreatDoorCards
import Derived.Test.YtbhafhbaldddiaaGreatDoorTie
import Derived.OpenShut
import Derived.Deep.DeepHandedRow
import Derived.Lib.LaidTab
import Derived.Test.YtbhafhbaldddiaaGreatDoorZMe
namespace Go.Proofs.YtbhafhbaldddiaaGreatDoor
open Go.ChangeShapes Go.WideShapes Go.ChangeAt Go.RowKit
open Go
def rangeCells : Array Value := #[.int .u8 128, .int .u8 191, .int .u8 160, .int .u8 191, .int .u8 128, .int .u8 159, .int .u8 144, .int .u8 191, .int .u8 128, .int .u8 143, .int .u8 0, .int .u8 0, .int .u8 0, .int .u8 0, .int .u8 0, .int .u8 0, .int .u8 0, .int .u8 0, .int .u8 0, .int .u8 0, .int .u8 0, .int .u8 0, .int .u8 0, .int .u8 0, .int .u8 0, .int .u8 0, .int .u8 0, .int .u8 0, .int .u8 0, .int .u8 0, .int .u8 0, .int .u8 0]
def firstCells : Array Value := (Go.Pinned.utf8FirstZ.map fun (x : Nat) => Value.int .u8 (x : Int)).toArray
def layIn (cs : Array Value) (o : Obj) : Obj :=
  match o with
  | .cells _ t frozen => .cells cs t frozen
  | o => o
noncomputable def laidWorld (os : Os) : World :=
  { World.holding Tryz.prog os ⟨#[], #[], []⟩ with heap := ((World.holding Tryz.prog os ⟨#[], #[], []⟩).heap.modify 2 (layIn rangeCells)).modify 1 (layIn firstCells) }
def mLawTrue (w : World) (e : Ending) (w' : World) : Prop := e = .returned (.bool true) ∧ Below w.heap.size w w'
end Go.Proofs.YtbhafhbaldddiaaGreatDoor
namespace Go.Proofs.YtbhafhbaldddiaaGreatDoor
open Go.RowKit
open Go
set_option linter.unusedVariables false
def TwoPost (x k : Int) (w : World) (e : Ending) (w' : World) : Prop := e = .returned (.tuple #[.int .i64 x, .int .i64 k]) ∧ Below w.heap.size w w'
theorem parse_some {s : ByteArray} {v : Int} (hs : s.size ≤ 100000) (h : Ml.parseF s = some v) (w : World) : Calls Tryz.prog 31 #[.string s] w (TwoPost v 0 w) := by
  have := parse_any s hs w
  rw [h] at this
  exact this
theorem parse_none {s : ByteArray} (hs : s.size ≤ 100000) (h : Ml.parseF s = none) (w : World) : Calls Tryz.prog 31 #[.string s] w (TwoPost 0 70 w) := by
  have := parse_any s hs w
  rw [h] at this
  exact this
def OptP (o : Option Int) (w : World) (e : Ending) (w' : World) : Prop := e = .returned (.tuple #[.int .i64 (o.getD 0), .bool o.isSome]) ∧ Below w.heap.size w w'
theorem size_add (a b : ByteArray) : (a ++ b).size = a.size + b.size := by simp
end Go.Proofs.YtbhafhbaldddiaaGreatDoor
namespace Ml
open Sm
theorem wk_all : ((List.range 7).all fun k => decide ((32 : UInt8) ∉ (dyN (k : Int) ++ ⟨#[44]⟩).data.toList) && commaB (dyN (k : Int) ++ ⟨#[44]⟩) && decide ((dyN (k : Int) ++ ⟨#[44]⟩).extract 0 3 = dyN (k : Int)) && !(digO (dyN (k : Int) ++ ⟨#[44]⟩) (dyn (dyN (k : Int) ++ ⟨#[44]⟩)))) = true := by kernel_rfl
theorem wk_is {k : Int} (h0 : 0 ≤ k) (h1 : k ≤ 6) : (32 : UInt8) ∉ (dyN k ++ ⟨#[44]⟩).data.toList ∧ commaB (dyN k ++ ⟨#[44]⟩) = true ∧ (dyN k ++ ⟨#[44]⟩).extract 0 3 = dyN k ∧ digO (dyN k ++ ⟨#[44]⟩) (dyn (dyN k ++ ⟨#[44]⟩)) = false := by
  obtain ⟨n, rfl⟩ := Int.eq_ofNat_of_zero_le h0
  have := List.all_eq_true.1 wk_all n (List.mem_range.2 (by omega))
  rw [Bool.and_eq_true, Bool.and_eq_true, Bool.and_eq_true, decide_eq_true_iff, decide_eq_true_iff, Bool.not_eq_true'] at this
  exact ⟨this.1.1.1, this.1.1.2, this.1.2, this.2⟩
theorem wds_week {k : Int} (h0 : 0 ≤ k) (h1 : k ≤ 6) (s : ByteArray) : wds (dyN k ++ ⟨#[44, 32]⟩ ++ s) = (dyN k ++ ⟨#[44]⟩) :: wds s := by
  have e : (dyN k ++ ⟨#[44, 32]⟩ ++ s).data.toList = (dyN k ++ ⟨#[44]⟩).data.toList ++ 32 :: s.data.toList := by
    rw [len_app, len_app, len_app]
    simp
  unfold wds
  rw [e, sp_first _ _ _ (wk_is h0 h1).1, List.map_cons, mk_list]
theorem prs_week {k : Int} (h0 : 0 ≤ k) (h1 : k ≤ 6) (d m y c z : ByteArray) : prs [dyN k ++ ⟨#[44]⟩, d, m, y, c, z] = five d m y c z (some k) := by
  obtain ⟨_, h2, h3, _⟩ := wk_is h0 h1
  show (if commaB (dyN k ++ ⟨#[44]⟩) = true then (match dayF ((dyN k ++ ⟨#[44]⟩).extract 0 3) with | some k => five d m y c z (some k) | none => none) else none) = _
  rw [if_pos h2, h3, (dy_is h0 h1).1]
theorem five_wk {d m y c z : ByteArray} {v : Int} (h : five d m y c z none = some v) : ∃ wd : Int, 0 ≤ wd ∧ wd ≤ 6 ∧ ∀ k, five d m y c z (some k) = if k = wd then some v else none := by
  obtain ⟨mm, e, h1, h2, h3, h4, h5, h6, _, rfl⟩ := five_some h
  refine ⟨Cv.wday (Cv.num (digV y 4) mm (digV d (dyn d))), by unfold Cv.wday; omega, by unfold Cv.wday; omega, fun k => ?_⟩
  unfold five
  rw [h1, h2]
  simp only [h3, h4, h5, h6, true_and, reduceCtorEq, false_or, Option.some.injEq]
theorem five_un {d m y c z : ByteArray} {v k : Int} (h : five d m y c z (some k) = some v) : five d m y c z none = some v := by
  obtain ⟨mm, e, h1, h2, h3, h4, h5, h6, _, rfl⟩ := five_some h
  unfold five
  rw [h1, h2]
  simp only [h3, h4, h5, h6, true_and, true_or, if_true]
theorem five_nd {d m y c z : ByteArray} {wk : Option Int} (h : digO d (dyn d) = false) : five d m y c z wk = none := by
  cases hf : five d m y c z wk with
  | none => rfl
  | some v =>
    obtain ⟨mm, e, h1, h2, h3, h4, h5, _⟩ := five_some hf
    rw [h] at h3
    cases h3
theorem week_none {s : ByteArray} (h : parseF s = none) {k : Int} (h0 : 0 ≤ k) (h1 : k ≤ 6) : parseF (dyN k ++ ⟨#[44, 32]⟩ ++ s) = none := by
  unfold parseF at h ⊢
  rw [wds_week h0 h1]
  generalize wds s = W at h
  match W, h with
  | [d, m, y, c, z], h =>
    rw [prs_week h0 h1]
    cases hf : five d m y c z (some k) with
    | none => rfl
    | some v =>
      have h : five d m y c z none = none := h
      rw [five_un hf] at h
      cases h
  | [m, y, c, z], _ => exact five_nd (wk_is h0 h1).2.2.2
  | [], _ => rfl
  | [_], _ => rfl
  | [_, _], _ => rfl
  | [_, _, _], _ => rfl
  | _ :: _ :: _ :: _ :: _ :: _ :: t, _ => cases t <;> rfl
theorem comma_head {s : ByteArray} {x y : List UInt8} {t : List (List UInt8)} (h : sp 32 s.data.toList = x :: y :: t) (hc : commaB (mk x) = true) : 3 < s.size ∧ B s 3 = 44 := by
  have hj := sp_join 32 s.data.toList
  rw [h] at hj
  have hj : x ++ 32 :: joinL 32 (y :: t) = s.data.toList := hj
  unfold commaB at hc
  rw [Bool.and_eq_true, decide_eq_true_iff, beq_iff_eq, mk_size, B_mk] at hc
  obtain ⟨a, b, c, e, rfl⟩ := list4 hc.1
  have hl : s.data.toList.length = s.size := by simp
  refine ⟨by rw [← hl, ← hj]; simp, ?_⟩
  rw [B_get 3 e (by rw [← hj]; rfl)]
  exact hc.2
theorem week_some {s : ByteArray} {v : Int} (h : parseF s = some v) (hn : ¬ (3 < s.size ∧ B s 3 = 44)) : ∃ wd : Int, 0 ≤ wd ∧ wd ≤ 6 ∧ ∀ k : Int, 0 ≤ k → k ≤ 6 → parseF (dyN k ++ ⟨#[44, 32]⟩ ++ s) = if k = wd then some v else none := by
  have hW : ∀ k : Int, 0 ≤ k → k ≤ 6 → parseF (dyN k ++ ⟨#[44, 32]⟩ ++ s) = prs ((dyN k ++ ⟨#[44]⟩) :: wds s) := fun k h0 h1 => by
    unfold parseF
    rw [wds_week h0 h1]
  unfold parseF at h
  unfold wds at hW h
  match hs : sp 32 s.data.toList with
  | [d, m, y, c, z] =>
    rw [hs] at h hW
    obtain ⟨wd, w0, w1, w2⟩ := five_wk (show five (mk d) (mk m) (mk y) (mk c) (mk z) none = some v from h)
    refine ⟨wd, w0, w1, fun k h0 h1 => ?_⟩
    rw [hW k h0 h1, ← w2 k]
    exact prs_week h0 h1 _ _ _ _ _
  | [w, d, m, y, c, z] =>
    rw [hs] at h
    have h : (if commaB (mk w) = true then (match dayF ((mk w).extract 0 3) with | some k => five (mk d) (mk m) (mk y) (mk c) (mk z) (some k) | none => none) else none) = some v := h
    split at h
    · rename_i hc
      exact absurd (comma_head hs hc) hn
    · cases h
  | [] => rw [hs] at h; cases h
  | [_] => rw [hs] at h; cases h
  | [_, _] => rw [hs] at h; cases h
  | [_, _, _] => rw [hs] at h; cases h
  | [_, _, _, _] => rw [hs] at h; cases h
  | _ :: _ :: _ :: _ :: _ :: _ :: _ :: t => rw [hs] at h; cases h
/-! What is written is read. -/
theorem five_mk {D M Y C Z : ByteArray} {wk : Option Int} {y m d h mi s : Int} (hm : Cv.mayB y m d h mi s = true) (h1 : monF M = some m) (h2 : zneF Z = some 0) (h3 : digO D (dyn D) = true) (h4 : digV D (dyn D) = d) (h5 : digO Y 4 = true) (h6 : digV Y 4 = y)
    (h7 : hmsB C = true) (h8 : n2 C 0 = h) (h9 : n2 C 3 = mi) (h10 : secOf C = s) (hw : wk = none ∨ wk = some (Cv.wday (Cv.num y m d))) : five D M Y C Z wk = some (Cv.secV y m d h mi s 0) := by
  obtain ⟨hv, hb⟩ := (Cv.may_iff y m d h mi s).1 hm
  have hn := Cv.num_bd hv
  have hok : Cv.secOk y m d h mi s 0 = true := (Cv.secOk_iff _ _ _ _ _ _ _).2 ⟨hm, by omega, by omega, by unfold Cv.secV; omega, by unfold Cv.secV; omega⟩
  unfold five
  rw [h1, h2]
  simp only [h3, h4, h5, h6, h7, h8, h9, h10, hok, true_and]
  rw [if_pos hw]
theorem c_dB (n : Int) : dB (c n) := by
  have := c_nat n
  unfold dB
  omega
theorem c_ne (n : Int) : c n ≠ 58 ∧ c n ≠ 32 := dB_ne (c_dB n)
theorem dd_is {n : Int} (h0 : 0 ≤ n) (h1 : n ≤ 99) : digO (mk [c (n / 10), c n]) 2 = true ∧ digV (mk [c (n / 10), c n]) 2 = n := by
  have ho := (digO_mk2 (c (n / 10)) (c n)).2 ⟨c_dB _, c_dB _⟩
  refine ⟨ho, ?_⟩
  rw [digV_mk2 _ _ ho, c_nat, c_nat]
  omega
theorem d1_is {n : Int} (h0 : 0 ≤ n) (h1 : n ≤ 9) : digO (mk [c n]) 1 = true ∧ digV (mk [c n]) 1 = n := by
  have ho : digO (mk [c n]) 1 = true := (digO_iff _ _).2 ⟨rfl, fun i hi => by
    have : i = 0 := by omega
    subst this
    exact (dig_mk _ 0 (c n) rfl).2 (c_dB n)⟩
  refine ⟨ho, ?_⟩
  unfold digV
  rw [if_pos ho]
  unfold numA numA v
  rw [B_mk]
  have := c_nat n
  simp only [List.getElem?_cons_zero, Option.getD_some, Nat.add_zero]
  omega
theorem d4_is {n : Int} (h0 : 0 ≤ n) (h1 : n ≤ 9999) : digO (mk [c (n / 100 / 10), c (n / 100), c (n / 10), c n]) 4 = true ∧ digV (mk [c (n / 100 / 10), c (n / 100), c (n / 10), c n]) 4 = n := by
  have ho : digO (mk [c (n / 100 / 10), c (n / 100), c (n / 10), c n]) 4 = true := (digO_iff _ _).2 ⟨rfl, fun i hi => by
    match i, hi with
    | 0, _ => exact (dig_mk _ 0 _ rfl).2 (c_dB _)
    | 1, _ => exact (dig_mk _ 1 _ rfl).2 (c_dB _)
    | 2, _ => exact (dig_mk _ 2 _ rfl).2 (c_dB _)
    | 3, _ => exact (dig_mk _ 3 _ rfl).2 (c_dB _)⟩
  refine ⟨ho, ?_⟩
  unfold digV
  rw [if_pos ho, numA_4]
  unfold n4 v
  rw [B_mk, B_mk, B_mk, B_mk]
  have e1 := c_nat (n / 100 / 10)
  have e2 := c_nat (n / 100)
  have e3 := c_nat (n / 10)
  have e4 := c_nat n
  simp only [Nat.zero_add, List.getElem?_cons_zero, List.getElem?_cons_succ, Option.getD_some]
  omega
theorem ck8 {h mi s : Int} (b : 0 ≤ h ∧ h ≤ 23 ∧ 0 ≤ mi ∧ mi ≤ 59 ∧ 0 ≤ s ∧ s ≤ 59) : hmsB (mk [c (h / 10), c h, 58, c (mi / 10), c mi, 58, c (s / 10), c s]) = true ∧ n2 (mk [c (h / 10), c h, 58, c (mi / 10), c mi, 58, c (s / 10), c s]) 0 = h ∧ n2 (mk [c (h / 10), c h, 58, c (mi / 10), c mi, 58, c (s / 10), c s]) 3 = mi ∧ secOf (mk [c (h / 10), c h, 58, c (mi / 10), c mi, 58, c (s / 10), c s]) = s := by
  have e1 := c_nat (h / 10)
  have e2 := c_nat h
  have e3 := c_nat (mi / 10)
  have e4 := c_nat mi
  have e5 := c_nat (s / 10)
  have e6 := c_nat s
  refine ⟨(hms_iff _).2 ⟨(d2_mk _ 0 _ _ rfl rfl).2 ⟨c_dB _, c_dB _⟩, by rw [B_mk]; rfl, (d2_mk _ 3 _ _ rfl rfl).2 ⟨c_dB _, c_dB _⟩, Or.inr ⟨rfl, by rw [B_mk]; rfl, (d2_mk _ 6 _ _ rfl rfl).2 ⟨c_dB _, c_dB _⟩⟩⟩, ?_, ?_, ?_⟩
  · rw [n2_mk _ 0 _ _ rfl rfl]; omega
  · rw [n2_mk _ 3 _ _ rfl rfl]; omega
  · show (if (8 : Nat) = 8 then _ else _) = _
    rw [if_pos rfl, n2_mk _ 6 _ _ rfl rfl]
    omega
theorem ck5 {h mi : Int} (b : 0 ≤ h ∧ h ≤ 23 ∧ 0 ≤ mi ∧ mi ≤ 59) : hmsB (mk [c (h / 10), c h, 58, c (mi / 10), c mi]) = true ∧ n2 (mk [c (h / 10), c h, 58, c (mi / 10), c mi]) 0 = h ∧ n2 (mk [c (h / 10), c h, 58, c (mi / 10), c mi]) 3 = mi ∧ secOf (mk [c (h / 10), c h, 58, c (mi / 10), c mi]) = 0 := by
  have e1 := c_nat (h / 10)
  have e2 := c_nat h
  have e3 := c_nat (mi / 10)
  have e4 := c_nat mi
  refine ⟨(hms_iff _).2 ⟨(d2_mk _ 0 _ _ rfl rfl).2 ⟨c_dB _, c_dB _⟩, by rw [B_mk]; rfl, (d2_mk _ 3 _ _ rfl rfl).2 ⟨c_dB _, c_dB _⟩, Or.inl rfl⟩, ?_, ?_, rfl⟩
  · rw [n2_mk _ 0 _ _ rfl rfl]; omega
  · rw [n2_mk _ 3 _ _ rfl rfl]; omega
theorem sp5 (D M Y C Z : List UInt8) (h1 : (32 : UInt8) ∉ D) (h2 : (32 : UInt8) ∉ M) (h3 : (32 : UInt8) ∉ Y) (h4 : (32 : UInt8) ∉ C) (h5 : (32 : UInt8) ∉ Z) : sp 32 (D ++ 32 :: (M ++ 32 :: (Y ++ 32 :: (C ++ 32 :: Z)))) = [D, M, Y, C, Z] := by
  rw [sp_first _ _ _ h1, sp_first _ _ _ h2, sp_first _ _ _ h3, sp_first _ _ _ h4, sp_none _ _ h5]
theorem mo_32 : (mths.all fun p => decide ((32 : UInt8) ∉ p.data.toList)) = true := by kernel_rfl
theorem gmt_is : zneF (mk [71, 77, 84]) = some 0 := by kernel_rfl
end Ml
namespace Ml
open Sm
theorem c32 (n : Int) : (32 : UInt8) ≠ c n := fun e => (c_ne n).2 e.symm
theorem mo_list {m : Int} (h0 : 1 ≤ m) (h1 : m ≤ 12) : ∃ a b e, moN m = mk [a, b, e] ∧ (32 : UInt8) ∉ [a, b, e] := by
  obtain ⟨k1, k2⟩ := mo_is h0 h1
  have hl : (moN m).data.toList.length = 3 := by simpa using k2
  obtain ⟨a, b, e, h⟩ := list3 hl
  have hm := (nm_mem k1).1
  have := of_decide_eq_true (List.all_eq_true.1 mo_32 _ hm)
  rw [h] at this
  exact ⟨a, b, e, of_list h, this⟩
theorem dy_list {k : Int} (h0 : 0 ≤ k) (h1 : k ≤ 6) : ∃ a b e, dyN k = mk [a, b, e] := by
  have hl : (dyN k).data.toList.length = 3 := by simpa using (dy_is h0 h1).2
  obtain ⟨a, b, e, h⟩ := list3 hl
  exact ⟨a, b, e, of_list h⟩
def bytes (a b e m1 m2 m3 : UInt8) (y d h mi s : Int) : List UInt8 := [a, b, e, 44, 32, c (d / 10), c d, 32, m1, m2, m3, 32, c (y / 100 / 10), c (y / 100), c (y / 10), c y, 32, c (h / 10), c h, 58, c (mi / 10), c mi, 58, c (s / 10), c s, 32, 71, 77, 84]
theorem tx_bytes {y m d h mi s : Int} {a b e m1 m2 m3 : UInt8} (hd : dyN (Cv.wday (Cv.num y m d)) = mk [a, b, e]) (hm : moN m = mk [m1, m2, m3]) : txB y m d h mi s = mk (bytes a b e m1 m2 m3 y d h mi s) := by
  unfold txB
  rw [tx_join]
  unfold txL
  rw [hd, hm]
  rfl
theorem mk_app (x y : List UInt8) : mk x ++ mk y = mk (x ++ y) := of_list (by rw [len_app]; simp [mk])
theorem ext_mk (l : List UInt8) (i j : Nat) : (mk l).extract i j = mk ((l.drop i).take (j - i)) := of_list (by simp [mk])
theorem wds5 {D M Y C : List UInt8} {l : List UInt8} (hl : l = D ++ 32 :: (M ++ 32 :: (Y ++ 32 :: (C ++ 32 :: [71, 77, 84])))) (q1 : (32 : UInt8) ∉ D) (q2 : (32 : UInt8) ∉ M) (q3 : (32 : UInt8) ∉ Y) (q4 : (32 : UInt8) ∉ C) : wds (mk l) = [mk D, mk M, mk Y, mk C, mk [71, 77, 84]] := by
  unfold wds
  rw [show (mk l).data.toList = l from by simp [mk], hl, sp5 D M Y C _ q1 q2 q3 q4 (by decide)]
  rfl
structure Back (S : ByteArray) (v v0 : Int) : Prop where
  size : S.size = 29
  all : parseF S = some v
  five : parseF (S.extract 5 29) = some v
  six : B S 5 = 48 → parseF (S.extract 6 29) = some v
  less : parseF (S.extract 0 22 ++ S.extract 25 29) = some v0
theorem back_all {y m d h mi s : Int} (hm : Cv.mayB y m d h mi s = true) : Back (txB y m d h mi s) (Cv.secV y m d h mi s 0) (Cv.secV y m d h mi 0 0) := by
  obtain ⟨hv, hb⟩ := (Cv.may_iff y m d h mi s).1 hm
  have hvb := Cv.vld_bd hv
  have hm0 : Cv.mayB y m d h mi 0 = true := (Cv.may_iff y m d h mi 0).2 ⟨hv, by omega⟩
  have w0 : 0 ≤ Cv.wday (Cv.num y m d) ∧ Cv.wday (Cv.num y m d) ≤ 6 := by unfold Cv.wday; omega
  obtain ⟨m1, m2, m3, em, q2⟩ := mo_list (m := m) (by omega) (by omega)
  obtain ⟨a, b, e, ed⟩ := dy_list w0.1 w0.2
  have hmo : monF (mk [m1, m2, m3]) = some m := by rw [← em]; exact (mo_is (by omega) (by omega)).1
  have D2 := dd_is (n := d) (by omega) (by omega)
  have Y4 := d4_is (n := y) (by omega) (by omega)
  have C8 := ck8 (h := h) (mi := mi) (s := s) hb
  have C5 := ck5 (h := h) (mi := mi) (by omega)
  have qD : (32 : UInt8) ∉ [c (d / 10), c d] := by simp [c32]
  have qD1 : (32 : UInt8) ∉ [c d] := by simp [c32]
  have qY : (32 : UInt8) ∉ [c (y / 100 / 10), c (y / 100), c (y / 10), c y] := by simp [c32]
  have qC : (32 : UInt8) ∉ [c (h / 10), c h, 58, c (mi / 10), c mi, 58, c (s / 10), c s] := by simp [c32]
  have qC5 : (32 : UInt8) ∉ [c (h / 10), c h, 58, c (mi / 10), c mi] := by simp [c32]
  have F5 : five (mk [c (d / 10), c d]) (mk [m1, m2, m3]) (mk [c (y / 100 / 10), c (y / 100), c (y / 10), c y]) (mk [c (h / 10), c h, 58, c (mi / 10), c mi, 58, c (s / 10), c s]) (mk [71, 77, 84]) (some (Cv.wday (Cv.num y m d))) = some (Cv.secV y m d h mi s 0) :=
    five_mk hm hmo gmt_is D2.1 D2.2 Y4.1 Y4.2 C8.1 C8.2.1 C8.2.2.1 C8.2.2.2 (Or.inr rfl)
  rw [tx_bytes ed em]
  have W5 := wds5 (l := [c (d / 10), c d, 32, m1, m2, m3, 32, c (y / 100 / 10), c (y / 100), c (y / 10), c y, 32, c (h / 10), c h, 58, c (mi / 10), c mi, 58, c (s / 10), c s, 32, 71, 77, 84]) rfl qD q2 qY qC
  have W5b := wds5 (l := [c (d / 10), c d, 32, m1, m2, m3, 32, c (y / 100 / 10), c (y / 100), c (y / 10), c y, 32, c (h / 10), c h, 58, c (mi / 10), c mi, 32, 71, 77, 84]) rfl qD q2 qY qC5
  have W1 := wds5 (l := [c d, 32, m1, m2, m3, 32, c (y / 100 / 10), c (y / 100), c (y / 10), c y, 32, c (h / 10), c h, 58, c (mi / 10), c mi, 58, c (s / 10), c s, 32, 71, 77, 84]) rfl qD1 q2 qY qC
  have hWk : ∀ l : List UInt8, parseF (mk ([a, b, e] ++ [44, 32] ++ l)) = prs ((dyN (Cv.wday (Cv.num y m d)) ++ ⟨#[44]⟩) :: wds (mk l)) := fun l => by
    rw [← mk_app, ← mk_app, ← ed]
    unfold parseF
    rw [← wds_week w0.1 w0.2]
    rfl
  refine ⟨rfl, ?_, ?_, ?_, ?_⟩
  · refine (hWk [c (d / 10), c d, 32, m1, m2, m3, 32, c (y / 100 / 10), c (y / 100), c (y / 10), c y, 32, c (h / 10), c h, 58, c (mi / 10), c mi, 58, c (s / 10), c s, 32, 71, 77, 84]).trans ?_
    rw [W5, prs_week w0.1 w0.2]
    exact F5
  · rw [ext_mk]
    have e : ((bytes a b e m1 m2 m3 y d h mi s).drop 5).take (29 - 5) = [c (d / 10), c d, 32, m1, m2, m3, 32, c (y / 100 / 10), c (y / 100), c (y / 10), c y, 32, c (h / 10), c h, 58, c (mi / 10), c mi, 58, c (s / 10), c s, 32, 71, 77, 84] := rfl
    rw [e]
    unfold parseF
    rw [W5]
    exact five_mk (wk := none) hm hmo gmt_is D2.1 D2.2 Y4.1 Y4.2 C8.1 C8.2.1 C8.2.2.1 C8.2.2.2 (Or.inl rfl)
  · intro h5
    have h9 : d ≤ 9 := by
      have := c_nat (d / 10)
      rw [B_mk] at h5
      have h5 : (c (d / 10)).toNat = 48 := h5
      omega
    have D1 := d1_is (n := d) (by omega) h9
    rw [ext_mk]
    have e : ((bytes a b e m1 m2 m3 y d h mi s).drop 6).take (29 - 6) = [c d, 32, m1, m2, m3, 32, c (y / 100 / 10), c (y / 100), c (y / 10), c y, 32, c (h / 10), c h, 58, c (mi / 10), c mi, 58, c (s / 10), c s, 32, 71, 77, 84] := rfl
    rw [e]
    unfold parseF
    rw [W1]
    exact five_mk (wk := none) hm hmo gmt_is D1.1 D1.2 Y4.1 Y4.2 C8.1 C8.2.1 C8.2.2.1 C8.2.2.2 (Or.inl rfl)
  · rw [ext_mk, ext_mk, mk_app]
    refine (hWk [c (d / 10), c d, 32, m1, m2, m3, 32, c (y / 100 / 10), c (y / 100), c (y / 10), c y, 32, c (h / 10), c h, 58, c (mi / 10), c mi, 32, 71, 77, 84]).trans ?_
    rw [W5b, prs_week w0.1 w0.2]
    exact five_mk hm0 hmo gmt_is D2.1 D2.2 Y4.1 Y4.2 C5.1 C5.2.1 C5.2.2.1 C5.2.2.2 (Or.inr rfl)
end Ml
namespace Ml
open Sm
theorem dy_ext_all : ((List.range 7).all fun n => decide ((⟨#[77, 111, 110, 84, 117, 101, 87, 101, 100, 84, 104, 117, 70, 114, 105, 83, 97, 116, 83, 117, 110]⟩ : ByteArray).extract (3 * n) (3 * n + 3) = dyN (n : Int))) = true := by kernel_rfl
theorem dy_ext (n : Nat) (hn : n ≤ 6) : (⟨#[77, 111, 110, 84, 117, 101, 87, 101, 100, 84, 104, 117, 70, 114, 105, 83, 97, 116, 83, 117, 110]⟩ : ByteArray).extract (3 * n) (3 * n + 3) = dyN (n : Int) := of_decide_eq_true (List.all_eq_true.1 dy_ext_all n (List.mem_range.2 (by omega)))
theorem mo_ext_all : ((List.range 12).all fun n => decide ((⟨#[74, 97, 110, 70, 101, 98, 77, 97, 114, 65, 112, 114, 77, 97, 121, 74, 117, 110, 74, 117, 108, 65, 117, 103, 83, 101, 112, 79, 99, 116, 78, 111, 118, 68, 101, 99]⟩ : ByteArray).extract (3 * n) (3 * n + 3) = moN ((n : Int) + 1))) = true := by kernel_rfl
theorem mo_ext (n : Nat) (hn : n ≤ 11) : (⟨#[74, 97, 110, 70, 101, 98, 77, 97, 114, 65, 112, 114, 77, 97, 121, 74, 117, 110, 74, 117, 108, 65, 117, 103, 83, 101, 112, 79, 99, 116, 78, 111, 118, 68, 101, 99]⟩ : ByteArray).extract (3 * n) (3 * n + 3) = moN ((n : Int) + 1) := of_decide_eq_true (List.all_eq_true.1 mo_ext_all n (List.mem_range.2 (by omega)))
theorem two_mod (y : Int) : two (y % 100) = two y := by
  unfold two c
  rw [show y % 100 / 10 % 10 = y / 10 % 10 by omega, show y % 100 % 10 = y % 10 by omega]
def rtx (n j : Nat) (y d h mi s : Int) : ByteArray := (⟨#[77, 111, 110, 84, 117, 101, 87, 101, 100, 84, 104, 117, 70, 114, 105, 83, 97, 116, 83, 117, 110]⟩ : ByteArray).extract (3 * n) (3 * n + 3) ++ ⟨#[44, 32]⟩ ++ two d ++ ⟨#[32]⟩ ++ (⟨#[74, 97, 110, 70, 101, 98, 77, 97, 114, 65, 112, 114, 77, 97, 121, 74, 117, 110, 74, 117, 108, 65, 117, 103, 83, 101, 112, 79, 99, 116, 78, 111, 118, 68, 101, 99]⟩ : ByteArray).extract (3 * j) (3 * j + 3) ++ ⟨#[32]⟩ ++ two (y / 100) ++ two (y % 100) ++ ⟨#[32]⟩ ++ two h ++ ⟨#[58]⟩ ++ two mi ++ ⟨#[58]⟩ ++ two s ++ ⟨#[32, 71, 77, 84]⟩
theorem rtx_is (n j : Nat) (hn : n ≤ 6) (hj : j ≤ 11) (y d h mi s : Int) (hw : Cv.wday (Cv.num y (j + 1) d) = n) : rtx n j y d h mi s = txB y (j + 1) d h mi s := by
  have e : txB y (j + 1) d h mi s = mk (txL y (j + 1) d h mi s) := by
    unfold txB
    rw [tx_join]
    rfl
  rw [e]
  apply of_list
  unfold rtx txL
  rw [dy_ext n hn, mo_ext j hj, two_mod, hw]
  simp only [len_app]
  simp [two, tw]
end Ml
