/- The walk of Text. -/
import Derived.Test.YtfgchphadeogpaaDoorMlJ
import Derived.Deep.RegionHeld3
namespace Go.Proofs.YtfgchphadeogpaaDoor
open Go.RowKit
open Go
set_option linter.unusedVariables false
theorem below_undrew {n : Nat} {w w' : World} (h : Below n w.drew w') : Below n w w' := ⟨h.os, h.tape, h.output, h.size, h.block⟩
theorem cells_of (w : World) (l : List ByteArray) (t j : Nat) (x : ByteArray) (hj : l[j]? = some x) : (w.alloc (.cells ((l.map Value.string).toArray) t)).cell? ⟨w.heap.size, 0 + j, none⟩ = some (.string x) := by
  have e : ((l.map Value.string).toArray)[0 + j]? = some (.string x) := by simp [hj]
  generalize (l.map Value.string).toArray = A at e ⊢
  clear hj
  go_simp
  rw [Nat.zero_add] at e
  exact e
def TxtPost (t : ByteArray) (k : Int) (w : World) (e : Ending) (w' : World) : Prop := e = .returned (.tuple #[.string t, .int .i64 k]) ∧ Below w.heap.size w w'
set_option maxHeartbeats 1000000 in
theorem text_no (n : Int) (h : n < -62135596800 ∨ 253402300799 < n) (w : World) : Calls Tryd.prog 17 #[.int .i64 n] w (TxtPost ⟨#[]⟩ 2 w) := by
  have C := fun w => civ_no n w h
  clear h
  go_enter Tryd.func17, Tryd.ntmps17
  go_wp2_with fail
  refine (C _).mono ?_
  rintro e w1 ⟨rfl, hb⟩
  clear C
  have hz := hb.size
  go_wp2_with fail
  go_ret2
  exact ⟨rfl, by repeat (first | exact hb | (refine Below.setCell ?_ (by simp; omega) _) | (refine Below.alloc ?_ (by omega) _))⟩
set_option maxRecDepth 100000 in
set_option maxHeartbeats 4000000 in
theorem text_yes (y m d h mi s : Int) (hm : Cv.mayB y m d h mi s = true) (w : World) : Calls Tryd.prog 17 #[.int .i64 (Cv.secV y m d h mi s 0)] w (TxtPost (Ml.txB y m d h mi s) 0 w) := by
  have C := fun w => civ_yes y m d h mi s w hm
  obtain ⟨hv, hb⟩ := (Cv.may_iff y m d h mi s).1 hm
  have hv2 := Cv.vld_bd hv
  have D := fun w => days_yes y m d w hv
  have hn := Cv.num_bd hv
  have hwd : 0 ≤ Cv.wday (Cv.num y m d) ∧ Cv.wday (Cv.num y m d) ≤ 6 := by unfold Cv.wday; omega
  clear hm hv
  obtain ⟨t, ht⟩ : ∃ t, Ml.txB y m d h mi s = t := ⟨_, rfl⟩
  rw [ht]
  have HT := Lib.hid ht
  clear ht
  generalize Cv.secV y m d h mi s 0 = sec at C
  go_enter Tryd.func17, Tryd.ntmps17
  go_wp2_with fail
  refine (C _).mono ?_
  rintro e w1 ⟨rfl, hb1⟩
  clear C
  have hz := hb1.size
  go_wp2_with fail
  refine (D _).mono ?_
  rintro e w2 ⟨rfl, hb2⟩
  clear D
  go_wp2_with fail
  have hB : Below w.heap.size w w2 := (hb1.alloc hz _).trans (hb2.mono (by simp; omega))
  have hx : w1.heap.size < w2.heap.size := by have := hb2.size; simp at this; omega
  have hs6 : Six w2 w1.heap.size (.int .i64 y) (.int .i64 m) (.int .i64 d) (.int .i64 h) (.int .i64 mi) (.int .i64 s) := by
    obtain ⟨hc, hf⟩ := bcell hb2
    exact ⟨(hc _ _ (by simp)).trans (by go_simp), (hc _ _ (by simp)).trans (by go_simp), (hc _ _ (by simp)).trans (by go_simp), (hc _ _ (by simp)).trans (by go_simp), (hc _ _ (by simp)).trans (by go_simp), (hc _ _ (by simp)).trans (by go_simp)⟩
  obtain ⟨k0, k1, k2, k3, k4, k5⟩ := hs6
  have hs6 : Six w2 w1.heap.size (.int .i64 y) (.int .i64 m) (.int .i64 d) (.int .i64 h) (.int .i64 mi) (.int .i64 s) := ⟨k0, k1, k2, k3, k4, k5⟩
  have hno : some w1.heap.size ≠ none := by simp
  have T0 := two_any d (by omega) (by omega)
  have T1 := two_any (y / 100) (by omega) (by omega)
  have T2 := two_any y (by omega) (by omega)
  have T3 := two_any h (by omega) (by omega)
  have T4 := two_any mi (by omega) (by omega)
  have T5 := two_any s (by omega) (by omega)
  have e100 : y.tdiv 100 = y / 100 := Int.tdiv_eq_ediv_of_nonneg (by omega)
  have e101 : IntKind.i64.wrap (y / 100) = y / 100 := by simp [IntKind.wrap, IntKind.bits, IntKind.signed]; omega
  obtain ⟨hwd0, hwd1⟩ := hwd
  have hm0 : 1 ≤ m := by omega
  have hm1 : m ≤ 12 := by omega
  clear hb2 hn hv2
  have z1 : (Ml.dyN (Cv.wday (Cv.num y m d))).size = 3 := (Ml.dy_is hwd0 hwd1).2
  have z2 : ∀ x, (Ml.two x).size = 2 := fun _ => rfl
  have z3 : (⟨#[44]⟩ : ByteArray).size = 1 := rfl
  have z4 : (⟨#[58]⟩ : ByteArray).size = 1 := rfl
  go_region_held3 (fun w' => w'.cell? ⟨w1.heap.size, 0, none⟩ = some (.int .i64 y) ∧ w'.cell? ⟨w1.heap.size, 1, none⟩ = some (.int .i64 m) ∧ w'.cell? ⟨w1.heap.size, 2, none⟩ = some (.int .i64 d) ∧ w'.cell? ⟨w1.heap.size, 3, none⟩ = some (.int .i64 h) ∧ w'.cell? ⟨w1.heap.size, 4, none⟩ = some (.int .i64 mi) ∧ w'.cell? ⟨w1.heap.size, 5, none⟩ = some (.int .i64 s)) (first | exact ⟨by assumption, by assumption, by assumption, by assumption, by assumption, by assumption⟩ | go_keep) (first | (go_at_call 37; (with_reducible refine (days_map _).mono ?_); rintro e w' ⟨b1, rfl, hnd, hbd⟩; have hbc := below_undrew hbd; clear hbd; have hs6' := Six.far hs6 (gb_of_below hbc none) hx hno; have hx' := Nat.lt_of_lt_of_le hx hbc.size; have hB' := hB.trans (hbc.mono (Nat.le_trans hz (Nat.le_of_lt hx))); clear hs6 hx hB hbc k0 k1 k2 k3 k4 k5; have hs6 := hs6'; have hx := hx'; have hB := hB'; clear hs6' hx' hB'; have k0 := hs6.1; have k1 := hs6.2.1; have k2 := hs6.2.2.1; have k3 := hs6.2.2.2.1; have k4 := hs6.2.2.2.2.1; have k5 := hs6.2.2.2.2.2) | (go_at_call 35; (with_reducible refine (months_map _).mono ?_); rintro e w' ⟨b2, rfl, hnm, hbc⟩; have hs6' := Six.far hs6 (gb_of_below hbc none) hx hno; have hx' := Nat.lt_of_lt_of_le hx hbc.size; have hB' := hB.trans (hbc.mono (Nat.le_trans hz (Nat.le_of_lt hx))); clear hs6 hx hB hbc k0 k1 k2 k3 k4 k5; have hs6 := hs6'; have hx := hx'; have hB := hB'; clear hs6' hx' hB'; have k0 := hs6.1; have k1 := hs6.2.1; have k2 := hs6.2.2.1; have k3 := hs6.2.2.2.1; have k4 := hs6.2.2.2.2.1; have k5 := hs6.2.2.2.2.2) | (go_at_call 27; (with_reducible refine (wday_any _ _).mono ?_); rintro e w' ⟨rfl, rfl⟩) | (go_at_call 39; (first | ((with_reducible refine (dname_any hnd _ hwd0 hwd1).mono ?_); rintro e w' ⟨rfl, hbc⟩; clear hnd) | ((with_reducible refine (mname_any hnm _ hm0 hm1).mono ?_); rintro e w' ⟨rfl, hbc⟩; clear hnm)); have hs6' := Six.far hs6 (gb_of_below hbc none) hx hno; have hx' := Nat.lt_of_lt_of_le hx hbc.size; have hB' := hB.trans (hbc.mono (Nat.le_trans hz (Nat.le_of_lt hx))); clear hs6 hx hB hbc k0 k1 k2 k3 k4 k5; have hs6 := hs6'; have hx := hx'; have hB := hB'; clear hs6' hx' hB'; have k0 := hs6.1; have k1 := hs6.2.1; have k2 := hs6.2.2.1; have k3 := hs6.2.2.2.1; have k4 := hs6.2.2.2.2.1; have k5 := hs6.2.2.2.2.2) | (go_at_call 40; (first | (with_reducible refine (T0 _).mono ?_) | (with_reducible refine (T1 _).mono ?_) | (with_reducible refine (T2 _).mono ?_) | (with_reducible refine (T3 _).mono ?_) | (with_reducible refine (T4 _).mono ?_) | (with_reducible refine (T5 _).mono ?_)); rintro e w' ⟨rfl, hbc⟩; have hs6' := Six.far hs6 (gb_of_below hbc none) hx hno; have hx' := Nat.lt_of_lt_of_le hx hbc.size; have hB' := hB.trans (hbc.mono (Nat.le_trans hz (Nat.le_of_lt hx))); clear hs6 hx hB hbc k0 k1 k2 k3 k4 k5; have hs6 := hs6'; have hx := hx'; have hB := hB'; clear hs6' hx' hB'; have k0 := hs6.1; have k1 := hs6.2.1; have k2 := hs6.2.2.1; have k3 := hs6.2.2.2.1; have k4 := hs6.2.2.2.2.1; have k5 := hs6.2.2.2.2.2))
  rename_i hHeld
  clear hHeld hs6 k0 k1 k2 k3 k4 k5 T0 T1 T2 T3 T4 T5 z2
  have J := Tryd.strings_Join w'.heap.size 0 6 (Ml.txS y m d h mi s) ⟨#[32]⟩ (w'.alloc (.cells ((Ml.txS y m d h mi s).map Value.string).toArray 9)) (fun j x hj => cells_of w' _ _ j x hj) (by simp) (by show 6 ≤ _; omega) (Nat.le_refl _) (by show (Go.Lib.join ((Ml.txS y m d h mi s).map (·.data.toList)) [32]).length ≤ _; rw [Ml.tx_len y m d h mi s hwd0 hwd1 hm0 hm1]; omega)
  have hgo := J.mono (R' := fun e w3 => e = .returned (.string t) ∧ Below w.heap.size w w3) (fun e w3 h => ⟨h.1.trans (by rw [← HT.out]; rfl), (hB.alloc (by have := hB.size; omega) _).trans (h.2.mono (by have := hB.size; simp; omega))⟩)
  have hgo2 : Calls Tryd.prog 41 #[.slice (some ⟨w'.heap.size, 0, none⟩) 6 6, .string ⟨#[32]⟩] (w'.alloc (.cells #[.string (Ml.dyN (Cv.wday (Cv.num y m d)) ++ ⟨#[44]⟩), .string (Ml.two d), .string (Ml.moN m), .string (Ml.two (y / 100) ++ Ml.two y), .string (Ml.two h ++ ⟨#[58]⟩ ++ Ml.two mi ++ ⟨#[58]⟩ ++ Ml.two s), .string ⟨#[71, 77, 84]⟩] 9)) (fun e w3 => e = .returned (.string t) ∧ Below w.heap.size w w3) := hgo
  clear hgo J
  go_wp2_with fail
  refine hgo2.mono ?_
  rintro e w3 ⟨rfl, hb3⟩
  go_wp2_with fail
  go_ret2
  exact ⟨rfl, hb3⟩
end Go.Proofs.YtfgchphadeogpaaDoor
