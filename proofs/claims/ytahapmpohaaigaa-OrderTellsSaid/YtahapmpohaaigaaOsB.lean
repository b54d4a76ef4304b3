/- The walk of rotate. -/
import Derived.Test.YtahapmpohaaigaaOsA
namespace Go.Proofs.Ytahapmpohaaigaa
open Go.RowKit
open Go
open Stb0 (swp swR Rot rotT)
set_option linter.unusedVariables false
theorem swR_same {d : Nat → Int} {a b x y n : Nat} (h1 : a ≤ x) (h2 : x + n ≤ b) (h3 : a ≤ y) (h4 : y + n ≤ b) : Stb0.Same d (swR d x y n) a b := fun k hk => Stb0.swR_o (by omega) (by omega)
set_option maxHeartbeats 4000000 in
theorem rot_any (fr : Array Value) (g o z c a m b : Nat) (d : Nat → Int) (W : World) (h : SR fr W g o z d) (h1 : a < m) (h2 : m < b) (hb : b ≤ z) (hz : z ≤ 100000) (F : Value) :
    Calls Try.prog 47 #[.slice (some ⟨g, o, none⟩) z c, .int .i64 (a : Int), .int .i64 (m : Int), .int .i64 (b : Int), F] W (SRPost fr g o z W (rotT d a m b)) := by
  have H := Lib.hid h
  clear h
  go_enter Try.func47, Try.ntmps47
  go_wp2_with fail
  go_loopw [10, 11] (fun vi vj wr => ∃ (l i j : Nat) (e : Nat → Int), vi = .int .i64 (i : Int) ∧ vj = .int .i64 (j : Int) ∧ 0 < i ∧ 0 < j ∧ i ≤ m ∧ j ≤ b ∧ Rot (rotT d a m b) e a l m i j b ∧ SR fr wr g o z e ∧ W.grownBy wr (some g) ∧ Stb0.Same d e a b) (fun vi vj _ => (intOf vi).toNat + (intOf vj).toNat)
  case atStart =>
    exact ⟨a, m - a, b - m, d, by go_num, by go_num, by omega, by omega, by omega, by omega, Rot.start (by omega) (by omega), H.out, gb_refl _ _, Stb0.Same.refl _ _ _⟩
  case round =>
    obtain ⟨l, i, j, e, rfl, rfl, hi0, hj0, him, hjb, hrot, hR, hG, hS⟩ := hrel
    have HROT := Lib.hid hrot
    have HG := Lib.hid hG
    have HR := Lib.hid hR
    have HS := Lib.hid hS
    obtain ⟨r1, r2, r3, -⟩ := hrot
    clear hG hR hS
    have q3 : (m : Int) - (i : Int) = (l : Int) := by omega
    rcases Nat.lt_trichotomy i j with hij | hij | hij
    · have q1 : ((i : Int) == (j : Int)) = false := by simp; omega
      have q2 : ¬ (j : Int) < (i : Int) := by omega
      have hrot2 := HROT.out.right hij
      have hS2 : Stb0.Same d (swR e l (m + j - i) i) a b := HS.out.trans (swR_same (by omega) (by omega) (by omega) (by omega))
      have hc := swr_any fr g o z c l (m + j - i) i e wr HR.out (by omega) (by omega) hz F
      generalize swR e l (m + j - i) i = e2 at *
      obtain ⟨u, hu⟩ : ∃ u, m + j - i = u := ⟨_, rfl⟩
      rw [hu] at hc
      have q4 : (m : Int) + (j : Int) - (i : Int) = (u : Int) := by omega
      have HROT2 := Lib.hid hrot2
      have HS2 := Lib.hid hS2
      clear hrot2 hS2 hu
      go_wp2_with (go_at_call 50; refine hc.mono ?_; rintro e' w' ⟨rfl, hR2, hG2⟩; have HR2 := Lib.hid hR2; have HG2 := Lib.hid (gb_same HG.out hG2); clear hR2 hG2)
      go_roundw
      case rel => exact ⟨l, i, j - i, e2, rfl, by go_num, hi0, by omega, him, by omega, HROT2.out, HR2.out, HG2.out, HS2.out⟩
      case measure => simp [intOf]; omega
    · subst hij
      have hd := HROT.out.done
      have hc := swr_any fr g o z c l m i e wr HR.out (by omega) (by omega) hz F
      have hfin : ∀ k, k < z → rotT d a m b k = swR e l m i k := fun k _ => by
        by_cases q : a ≤ k ∧ k < b
        · exact (hd k q.1 q.2).symm
        · rw [Stb0.rotT_same k q, Stb0.swR_o (by omega) (by omega)]
          exact (HS.out k q).symm
      have HF := Lib.hid hfin
      clear hd hfin
      go_wp2_with (go_at_call 50; refine hc.mono ?_; rintro e' w' ⟨rfl, hR2, hG2⟩; have HR2 := Lib.hid hR2; have HG2 := Lib.hid (gb_same HG.out hG2); clear hR2 hG2)
      go_end0
      exact ⟨rfl, HR2.out.congr HF.out, HG2.out⟩
    · have q1 : ((i : Int) == (j : Int)) = false := by simp; omega
      have q2 : (j : Int) < (i : Int) := by omega
      have hrot2 := HROT.out.left hij
      have hS2 : Stb0.Same d (swR e l m j) a b := HS.out.trans (swR_same (by omega) (by omega) (by omega) (by omega))
      have hc := swr_any fr g o z c l m j e wr HR.out (by omega) (by omega) hz F
      generalize swR e l m j = e2 at *
      have HROT2 := Lib.hid hrot2
      have HS2 := Lib.hid hS2
      clear hrot2 hS2
      go_wp2_with (go_at_call 50; refine hc.mono ?_; rintro e' w' ⟨rfl, hR2, hG2⟩; have HR2 := Lib.hid hR2; have HG2 := Lib.hid (gb_same HG.out hG2); clear hR2 hG2)
      go_roundw
      case rel => exact ⟨l + j, i - j, j, e2, by go_num, rfl, by omega, hj0, by omega, hjb, HROT2.out, HR2.out, HG2.out, HS2.out⟩
      case measure => simp [intOf]; omega
end Go.Proofs.Ytahapmpohaaigaa
