/- The walk of insertion sort, by classes. -/
import Derived.Test.YtahapmpohaaigaaOsB
import Derived.Test.YtahapmpohaaigaaTbA
namespace Go.Proofs.Ytahapmpohaaigaa
open Go.RowKit
open Go
open Stb0
set_option linter.unusedVariables false
theorem bycl_any (a b : Int) (w : World) : Calls Try.prog 27 #[.int .i64 a, .int .i64 b] w fun e w' => e = .returned (.int .i64 (Tb.classI a - Tb.classI b)) ∧ w = w' := by
  have c1 := fun w => class_any a w
  have c2 := fun w => class_any b w
  have b1 := Tb.class_bd a
  have b2 := Tb.class_bd b
  generalize Tb.classI a = x at *
  generalize Tb.classI b = y at *
  go_enter Try.func27, Try.ntmps27
  go_wp2_with fail
  refine (c1 _).mono ?_
  rintro e w' ⟨rfl, rfl⟩
  go_wp2_with fail
  refine (c2 _).mono ?_
  rintro e w' ⟨rfl, rfl⟩
  go_wp2_with fail
  go_ret
  exact ⟨rfl, rfl⟩
theorem bycl_quiet (a b : Int) (w : World) (n : Nat) : Calls Try.prog 27 #[.int .i64 a, .int .i64 b] (w.drewN n) fun e w'' => e = .returned (.int .i64 (Tb.classI a - Tb.classI b)) ∧ ∃ m, w'' = w.drewN m :=
  Calls.quiet_of_same ((bycl_any a b (w.drewN n)).mono fun _ _ h => ⟨h.1, h.2.symm⟩)
theorem ogb_drewN {w w' : World} {row : Option Nat} (h : w.grownBy w' row) (n : Nat) : w.grownBy (w'.drewN n) row := ⟨h.os, h.tape, h.output, h.size, h.block⟩
/-- The comparison, as a value. -/
def FV : Value := .func (.func 27) #[] #[]
def SortPost (fr : Array Value) (g o z : Nat) (W : World) (d : Nat → Int) (a b : Nat) (e : Ending) (W' : World) : Prop :=
  e = .returned (.tuple #[]) ∧ ∃ d', SR fr W' g o z d' ∧ W.grownBy W' (some g) ∧ Srt Tb.classI d' a b ∧ Stb Tb.classI d d' a b ∧ Stb0.Same d d' a b
set_option maxHeartbeats 4000000 in
theorem insort_any (fr : Array Value) (g o z c a b : Nat) (d : Nat → Int) (W : World) (h : SR fr W g o z d) (h1 : a ≤ b) (hb : b ≤ z) (hz : z ≤ 100000) :
    Calls Try.prog 42 #[.slice (some ⟨g, o, none⟩) z c, .int .i64 (a : Int), .int .i64 (b : Int), FV] W (SortPost fr g o z W d a b) := by
  have H := Lib.hid h
  clear h
  unfold FV
  go_enter Try.func42, Try.ntmps42
  go_wp2_with fail
  go_loopw [8] (fun vi wr => ∃ (i : Nat) (e : Nat → Int), vi = .int .i64 (i : Int) ∧ a + 1 ≤ i ∧ (i ≤ b ∨ i = a + 1) ∧ SR fr wr g o z e ∧ W.grownBy wr (some g) ∧ Srt Tb.classI e a i ∧ Stb Tb.classI d e a b ∧ Stb0.Same d e a b) (fun vi _ => b - (intOf vi).toNat)
  case atStart => exact ⟨a + 1, d, by go_num, by omega, Or.inr rfl, H.out, gb_refl _ _, Srt.one (by omega), Stb.refl _ _ _ _, Stb0.Same.refl _ _ _⟩
  case round =>
    obtain ⟨i, e, rfl, hi1, hi2, hR, hG, hS, hst, hsm⟩ := hrel
    have HR := Lib.hid hR
    have HG := Lib.hid hG
    have HS := Lib.hid hS
    have HST := Lib.hid hst
    have HSM := Lib.hid hsm
    clear hR hG hS hst hsm
    by_cases hlt : i < b
    · have hlt2 : (i : Int) < (b : Int) := by omega
      go_wp2_with fail
      go_loopw [9] (fun vj wr2 => ∃ (j : Nat) (f : Nat → Int), vj = .int .i64 (j : Int) ∧ a ≤ j ∧ j ≤ i ∧ SR fr wr2 g o z f ∧ W.grownBy wr2 (some g) ∧ Ins Tb.classI f a j i ∧ Stb Tb.classI d f a b ∧ Stb0.Same d f a b) (fun vj _ => (intOf vj).toNat)
      case atStart => exact ⟨i, e, rfl, by omega, by omega, HR.out, HG.out, Ins.start HS.out, HST.out, HSM.out⟩
      case round =>
        obtain ⟨j, f, rfl, hj1, hj2, hR2, hG2, hI, hst2, hsm2⟩ := hrel
        clear HR HG HS HST HSM
        by_cases hja : a < j
        · obtain ⟨k, hk⟩ : ∃ k, j = k + 1 := ⟨j - 1, by omega⟩
          have p1 : (a : Int) < (j : Int) := by omega
          have k1 := hR2.1 j (by omega)
          have k2 := hR2.1 k (by omega)
          have f1 := hR2.2.1 j (by omega)
          have f2 := hR2.2.1 k (by omega)
          have hby := bycl_quiet (f j) (f k)
          have hsw := hR2.swap (i := j) (j := k) (by omega) (by omega) (by omega)
          have i1 : (j : Int) < (z : Int) := by omega
          have i2 : (j : Int) - 1 < (z : Int) := by omega
          have i3 : (0 : Int) ≤ (j : Int) := by omega
          have i4 : (0 : Int) ≤ (j : Int) - 1 := by omega
          have i9 : (1 : Int) ≤ (j : Int) := by omega
          have i5 : (j : Int).toNat = j := by omega
          have i6 : ((j : Int) - 1).toNat = k := by omega
          have i7 : IntKind.i64.wrap ((j : Int) - 1) = (j : Int) - 1 := by rw [IntKind.wrap_i64]; omega
          by_cases hcl : Tb.classI (f j) < Tb.classI (f k)
          · have hc0 : Tb.classI (f j) - Tb.classI (f k) < 0 := by omega
            have hI2 : Ins Tb.classI (swp f j k) a k i := by rw [hk] at hI hcl ⊢; exact hI.step (by omega) (by omega) hcl
            have hst3 : Stb Tb.classI d (swp f j k) a b := by rw [hk] at hcl ⊢; exact hst2.trans (Stb.swap (d := f) (j := k) (by omega) (by omega) hcl)
            have hsm3 := hsm2.trans (swp_same (d := f) (i := j) (j := k) (a := a) (b := b) (by omega) (by omega) (by omega) (by omega))
            generalize Tb.classI (f j) - Tb.classI (f k) = cc at *
            generalize f j = A at *
            generalize f k = B at *
            have HSW := Lib.hid hsw
            have HI := Lib.hid hI2
            have HST := Lib.hid hst3
            have HSM := Lib.hid hsm3
            have HG := Lib.hid hG2
            have HK := Lib.hid hk
            clear hsw hI2 hst3 hsm3 hG2 hI hst2 hsm2 hR2 hcl hk
            go_wp2_with fail
            go_quiet ((go_at_call 27; with_reducible exact hby _ _))
            go_wp2_with fail
            go_region
            all_goals go_wp2_with fail
            go_roundw
            case rel => exact ⟨k, swp f j k, by have := HK.out; go_num, by have := HK.out; omega, by have := HK.out; omega, HSW.out, gb_same (gb_same (ogb_drewN HG.out _) (ogb_set _ ⟨g, o + j, none⟩ _)) (ogb_set _ ⟨g, o + k, none⟩ _), HI.out, HST.out, HSM.out⟩
            case measure => have := HK.out; simp [intOf]; omega
          · have hc0 : ¬ Tb.classI (f j) - Tb.classI (f k) < 0 := by omega
            have hS2 := hI.stop (Or.inr ⟨k, hk, by omega⟩) hj2
            generalize Tb.classI (f j) - Tb.classI (f k) = cc at *
            generalize hA : f j = A at *
            generalize hB : f k = B at *
            have HR := Lib.hid hR2
            have HS := Lib.hid hS2
            have HST := Lib.hid hst2
            have HSM := Lib.hid hsm2
            have HG := Lib.hid hG2
            clear hsw hS2 hst2 hsm2 hG2 hI hR2 hcl hk hA hB
            go_wp2_with fail
            go_quiet ((go_at_call 27; with_reducible exact hby _ _))
            go_wp2_with fail
            go_roundw
            case rel => exact ⟨i + 1, f, by go_num, by omega, by omega, HR.out, ogb_drewN HG.out _, HS.out, HST.out, HSM.out⟩
            case measure => simp [intOf]; omega
        · obtain rfl : j = a := by omega
          have p1 : ¬ (j : Int) < (j : Int) := by omega
          have hS2 := hI.stop (Or.inl rfl) hj2
          have HR := Lib.hid hR2
          have HS := Lib.hid hS2
          have HST := Lib.hid hst2
          have HSM := Lib.hid hsm2
          have HG := Lib.hid hG2
          clear hS2 hst2 hsm2 hG2 hI hR2
          go_wp2_with fail
          go_quiet (fail)
          go_wp2_with fail
          go_roundw
          case rel => exact ⟨i + 1, f, by go_num, by omega, by omega, HR.out, ogb_drewN HG.out _, HS.out, HST.out, HSM.out⟩
          case measure => simp [intOf]; omega
    · have hlt2 : ¬ (i : Int) < (b : Int) := by omega
      go_wp2_with fail
      go_end0
      exact ⟨rfl, e, HR.out, HG.out, HS.out.part (by omega) (by omega), HST.out, HSM.out⟩
end Go.Proofs.Ytahapmpohaaigaa
