/- The walk of the letters' document's Text (cardingref20). -/
import Derived.Test.YtbhafhbaldddiaaMlPg
import Derived.Test.YtbhafhbaldddiaaCivD
import Derived.Test.YtbhafhbaldddiaaMap
import Derived.Laws.IdiomStrings
import Derived.Deep.RegionHeld3
namespace Go.Proofs.Ytbhafhbaldddiaa.T20
open Go.RowKit
open Go
open Go.Proofs.Ytbhafhbaldddiaa
set_option linter.unusedVariables false
theorem gb_of_below {w w' : World} (h : Below w.heap.size w w') (row : Option Nat) : w.grownBy w' row := ⟨h.os, h.tape, h.output, h.size, fun k hk _ => h.block k hk⟩
theorem below_undrew {n : Nat} {w w' : World} (h : Below n w.drew w') : Below n w w' := ⟨h.os, h.tape, h.output, h.size, h.block⟩
def TxtPost (t : ByteArray) (k : Int) (w : World) (e : Ending) (w' : World) : Prop := e = .returned (.tuple #[.string t, .int .i64 k]) ∧ Below w.heap.size w w'
theorem six_far {W W' : World} {c : Nat} {v0 v1 v2 v3 v4 v5 : Value} {row : Option Nat} (h : Six W c v0 v1 v2 v3 v4 v5) (hg : W.grownBy W' row) (hc : c < W.heap.size) (hne : some c ≠ row) : Six W' c v0 v1 v2 v3 v4 v5 :=
  ⟨(gb_cell hg hc hne).trans h.1, (gb_cell hg hc hne).trans h.2.1, (gb_cell hg hc hne).trans h.2.2.1, (gb_cell hg hc hne).trans h.2.2.2.1, (gb_cell hg hc hne).trans h.2.2.2.2.1, (gb_cell hg hc hne).trans h.2.2.2.2.2⟩
def StrPost (s : ByteArray) (w : World) (e : Ending) (w' : World) : Prop := e = .returned (.string s) ∧ Below w.heap.size w w'
theorem two_cells (w : World) (n : Int) : (convert 39 9 (.slice (some ⟨w.heap.size, 0, none⟩) 2 2)).run Try.prog (w.alloc (.cells #[.int .u8 (48 + n / 10 % 10), .int .u8 (48 + n % 10)] 5)) = .ok (.string ⟨#[Sm.c (n / 10), Sm.c n]⟩) (w.alloc (.cells #[.int .u8 (48 + n / 10 % 10), .int .u8 (48 + n % 10)] 5)) :=
  run_convert_bytes_back (P := Try.prog) (w.alloc (.cells #[.int .u8 (48 + n / 10 % 10), .int .u8 (48 + n % 10)] 5)) 39 9 5 ⟨w.heap.size, 0, none⟩ 2 [Sm.c (n / 10), Sm.c n] Try.underlying39 Try.underlying5 Try.underlying9 (fun j hj => by
    rw [Go.WideShapes.add_plain, Nat.zero_add]
    have hj' : j < 2 := hj
    match j, hj' with
    | 0, _ =>
      have := Sm.c_nat (n / 10)
      simp [this]
    | 1, _ =>
      have := Sm.c_nat n
      simp [this])
set_option maxHeartbeats 1000000 in
theorem rtwo_any (n : Int) (h0 : 0 ≤ n) (h1 : n ≤ 99) (w : World) : Calls Try.prog 28 #[.int .i64 n] w (StrPost (Ml.two n) w) := by
  have e1 : n.tdiv 10 = n / 10 % 10 := by rw [Int.tdiv_eq_ediv_of_nonneg h0]; omega
  have e3 : n.tmod 10 = n % 10 := Int.tmod_eq_emod_of_nonneg h0
  have hback := two_cells w n
  go_enter Try.func28, Try.ntmps28
  go_wp2_with fail
  go_ret
  exact ⟨rfl, bbox (Below.refl _ _) _⟩
set_option maxHeartbeats 1000000 in
theorem rtext_no (n : Int) (h : n < -62135596800 ∨ 253402300799 < n) (w : World) : Calls Try.prog 12 #[.int .i64 n] w (TxtPost ⟨#[]⟩ 2 w) := by
  have C := fun w => rciv_no n w h
  clear h
  go_enter Try.func12, Try.ntmps12
  go_wp2_with fail
  refine (C _).mono ?_
  rintro e w1 ⟨rfl, hb⟩
  clear C
  have hz := hb.size
  go_wp2_with fail
  go_ret2
  exact ⟨rfl, by repeat (first | exact hb | (refine Below.setCell ?_ (by simp; omega) _) | (refine Below.alloc ?_ (by omega) _))⟩
set_option maxRecDepth 100000 in
set_option maxHeartbeats 4000000 in
theorem rtext_core (y m d h mi s : Int) (n j : Nat) (hn : n ≤ 6) (hj : j ≤ 11) (hm : Cv.mayB y m d h mi s = true) (hw : Cv.wday (Cv.num y m d) = n) (hmj : m = (j : Int) + 1) (t : ByteArray) (ht : t = Ml.rtx n j y d h mi s) (w : World) : Calls Try.prog 12 #[.int .i64 (Cv.secV y m d h mi s 0)] w (TxtPost t 0 w) := by
  subst hmj
  have HT := Lib.hid ht
  clear ht
  have C := fun w => rciv_yes y (j + 1) d h mi s w hm
  obtain ⟨hv, hb⟩ := (Cv.may_iff y (j + 1) d h mi s).1 hm
  have hv2 := Cv.vld_bd hv
  have D := fun w => rdays_yes y (j + 1) d w hv
  have hnn := Cv.num_bd hv
  have WD := fun w => rwday_any (Cv.num y (j + 1) d) w
  rw [hw] at WD
  clear hm hv
  generalize Cv.secV y (j + 1) d h mi s 0 = sec at C
  go_enter Try.func12, Try.ntmps12
  go_wp2_with fail
  refine (C _).mono ?_
  rintro e w1 ⟨rfl, hb1⟩
  clear C
  have hz := hb1.size
  go_wp2_with (first | (go_at_call 26; (with_reducible refine (D _).mono ?_); rintro e w2 ⟨rfl, rfl⟩; clear D) | (go_at_call 27; (with_reducible refine (WD _).mono ?_); rintro e w2 ⟨rfl, rfl⟩; clear WD))
  have hs6 : Six (w1.alloc (.cells #[.int .i64 y, .int .i64 (j + 1), .int .i64 d, .int .i64 h, .int .i64 mi, .int .i64 s] 44)) w1.heap.size (.int .i64 y) (.int .i64 (j + 1)) (.int .i64 d) (.int .i64 h) (.int .i64 mi) (.int .i64 s) := ⟨by go_simp, by go_simp, by go_simp, by go_simp, by go_simp, by go_simp⟩
  have hx : w1.heap.size < (w1.alloc (.cells #[.int .i64 y, .int .i64 (j + 1), .int .i64 d, .int .i64 h, .int .i64 mi, .int .i64 s] 44)).heap.size := by simp
  have hB : Below w.heap.size w (w1.alloc (.cells #[.int .i64 y, .int .i64 (j + 1), .int .i64 d, .int .i64 h, .int .i64 mi, .int .i64 s] 44)) := hb1.alloc hz _
  generalize (w1.alloc (.cells #[.int .i64 y, .int .i64 (j + 1), .int .i64 d, .int .i64 h, .int .i64 mi, .int .i64 s] 44)) = w2 at hs6 hx hB ⊢
  have k0 := hs6.1
  have k1 := hs6.2.1
  have k2 := hs6.2.2.1
  have k3 := hs6.2.2.2.1
  have k4 := hs6.2.2.2.2.1
  have k5 := hs6.2.2.2.2.2
  have hno : some w1.heap.size ≠ none := by simp
  have T0 := rtwo_any d (by omega) (by omega)
  have T1 := rtwo_any (y / 100) (by omega) (by omega)
  have T2 := rtwo_any (y % 100) (by omega) (by omega)
  have T3 := rtwo_any h (by omega) (by omega)
  have T4 := rtwo_any mi (by omega) (by omega)
  have T5 := rtwo_any s (by omega) (by omega)
  have e100 : y.tdiv 100 = y / 100 := Int.tdiv_eq_ediv_of_nonneg (by omega)
  have f100 : y.tmod 100 = y % 100 := Int.tmod_eq_emod_of_nonneg (by omega)
  have e101 : IntKind.i64.wrap (y / 100) = y / 100 := by simp [IntKind.wrap, IntKind.bits, IntKind.signed]; omega
  have f101 : IntKind.i64.wrap (y % 100) = y % 100 := by simp [IntKind.wrap, IntKind.bits, IntKind.signed]; omega
  have z2 : ∀ x, (Ml.two x).size = 2 := fun _ => rfl
  obtain ⟨a, ha⟩ : ∃ a : Nat, a = 3 * n := ⟨_, rfl⟩
  obtain ⟨b, hbb⟩ : ∃ b : Nat, b = 3 * j := ⟨_, rfl⟩
  have E1 : IntKind.i64.wrap (3 * (n : Int)) = (a : Int) := by simp [IntKind.wrap, IntKind.bits, IntKind.signed]; omega
  have E2 : IntKind.i64.wrap ((a : Int) + 3) = (a : Int) + 3 := by simp [IntKind.wrap, IntKind.bits, IntKind.signed]; omega
  have E3 : IntKind.i64.wrap (3 * ((j : Int) + 1)) = (b : Int) + 3 := by simp [IntKind.wrap, IntKind.bits, IntKind.signed]; omega
  have E4 : IntKind.i64.wrap ((b : Int) + 3 - 3) = (b : Int) := by simp [IntKind.wrap, IntKind.bits, IntKind.signed]; omega
  have l1 : (0 : Int) ≤ (a : Int) := by omega
  have l2 : (a : Int) ≤ (a : Int) + 3 := by omega
  have l3 : (a : Int) + 3 ≤ 21 := by omega
  have l4 : (0 : Int) ≤ (b : Int) := by omega
  have l5 : (b : Int) ≤ (b : Int) + 3 := by omega
  have l6 : (b : Int) + 3 ≤ 36 := by omega
  have E5 : IntKind.i64.wrap (b : Int) = (b : Int) := by simp [IntKind.wrap, IntKind.bits, IntKind.signed]; omega
  have ZA : ((⟨#[77, 111, 110, 84, 117, 101, 87, 101, 100, 84, 104, 117, 70, 114, 105, 83, 97, 116, 83, 117, 110]⟩ : ByteArray).extract a (a + 3)).size = 3 := by rw [Sm.size_extract]; show min _ 21 - _ = 3; omega
  have ZB : ((⟨#[74, 97, 110, 70, 101, 98, 77, 97, 114, 65, 112, 114, 77, 97, 121, 74, 117, 110, 74, 117, 108, 65, 117, 103, 83, 101, 112, 79, 99, 116, 78, 111, 118, 68, 101, 99]⟩ : ByteArray).extract b (b + 3)).size = 3 := by rw [Sm.size_extract]; show min _ 36 - _ = 3; omega
  have F1 : ((a : Int) + 3).toNat = a + 3 := by omega
  have F2 : ((b : Int) + 3).toNat = b + 3 := by omega
  have M1 : min (a + 3) 21 = a + 3 := by omega
  have M2 : min (b + 3) 36 = b + 3 := by omega
  have HA := Lib.hid ha
  have HB := Lib.hid hbb
  clear hw hnn hv2 hb ha hbb
  go_region_held3 (fun w' => w'.cell? ⟨w1.heap.size, 0, none⟩ = some (.int .i64 y) ∧ w'.cell? ⟨w1.heap.size, 1, none⟩ = some (.int .i64 (j + 1)) ∧ w'.cell? ⟨w1.heap.size, 2, none⟩ = some (.int .i64 d) ∧ w'.cell? ⟨w1.heap.size, 3, none⟩ = some (.int .i64 h) ∧ w'.cell? ⟨w1.heap.size, 4, none⟩ = some (.int .i64 mi) ∧ w'.cell? ⟨w1.heap.size, 5, none⟩ = some (.int .i64 s)) (first | exact ⟨by assumption, by assumption, by assumption, by assumption, by assumption, by assumption⟩ | go_keep) ((first | (go_at_call 28; (first | (with_reducible refine (T0 _).mono ?_) | (with_reducible refine (T1 _).mono ?_) | (with_reducible refine (T2 _).mono ?_) | (with_reducible refine (T3 _).mono ?_) | (with_reducible refine (T4 _).mono ?_) | (with_reducible refine (T5 _).mono ?_)); rintro e w' ⟨rfl, hbd⟩; (first | have hbc := below_undrew hbd | have hbc := hbd); clear hbd; have hs6' := six_far hs6 (gb_of_below hbc none) hx hno; have hx' := Nat.lt_of_lt_of_le hx hbc.size; have hB' := hB.trans (hbc.mono (Nat.le_trans hz (Nat.le_of_lt hx))); clear hs6 hx hB hbc k0 k1 k2 k3 k4 k5; have hs6 := hs6'; have hx := hx'; have hB := hB'; clear hs6' hx' hB'; have k0 := hs6.1; have k1 := hs6.2.1; have k2 := hs6.2.2.1; have k3 := hs6.2.2.2.1; have k4 := hs6.2.2.2.2.1; have k5 := hs6.2.2.2.2.2)))
  have hA := HA.out
  have hB2 := HB.out
  have hT := HT.out
  clear HA HB HT
  go_wp2_with fail
  go_ret2
  subst hA
  subst hB2
  rw [hT]
  exact ⟨rfl, hB⟩
theorem rtext_yes (y m d h mi s : Int) (hm : Cv.mayB y m d h mi s = true) (w : World) : Calls Try.prog 12 #[.int .i64 (Cv.secV y m d h mi s 0)] w (TxtPost (Ml.txB y m d h mi s) 0 w) := by
  obtain ⟨hv, hb⟩ := (Cv.may_iff y m d h mi s).1 hm
  have hv2 := Cv.vld_bd hv
  obtain ⟨n, hn⟩ := Int.eq_ofNat_of_zero_le (show 0 ≤ Cv.wday (Cv.num y m d) by unfold Cv.wday; omega)
  have hn6 : n ≤ 6 := by
    have : Cv.wday (Cv.num y m d) ≤ 6 := by unfold Cv.wday; omega
    omega
  obtain ⟨j, hj⟩ := Int.eq_ofNat_of_zero_le (show 0 ≤ m - 1 by omega)
  have hm1 : m = (j : Int) + 1 := by omega
  refine rtext_core y m d h mi s n j hn6 (by omega) hm hn hm1 _ ?_ w
  subst hm1
  exact (Ml.rtx_is n j hn6 (by omega) y d h mi s hn).symm
end Go.Proofs.Ytbhafhbaldddiaa.T20
