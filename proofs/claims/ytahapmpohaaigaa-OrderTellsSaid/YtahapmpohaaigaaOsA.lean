/- A row of ints that is sorted in place; the walk of swapRange. -/
import Derived.Test.YtahapmpohaaigaaOsP
import Derived.Test.YtahapmpohaaigaaMap
import Derived.BigRegion
namespace Go.Proofs.Ytahapmpohaaigaa
open Go.RowKit
open Go
open Stb0 (swp swR)
set_option linter.unusedVariables false
/-- z ints from o on in the block g. -/
def SR (fr : Array Value) (W : World) (g o z : Nat) (d : Nat → Int) : Prop := (∀ k, k < z → W.cell? ⟨g, o + k, none⟩ = some (.int .i64 (d k))) ∧ (∀ k, k < z → W.frozen? ⟨g, o + k, none⟩ = false) ∧ ∃ cur : Array Value, W.heap[g]? = some (.cells cur 3 (0, 0)) ∧ cur.size = fr.size ∧ ∀ i, ¬ (o ≤ i ∧ i < o + z) → cur[i]? = fr[i]?
theorem ogb_set (w : World) (a : Addr) (v : Value) : w.grownBy (w.setCell a v) (some a.block) := ⟨rfl, rfl, rfl, by simp, fun k _ hk => Below.heap_setCell w a v k (fun e => hk (by rw [e]))⟩
theorem ogb_drew {w w' : World} {row : Option Nat} (h : w.grownBy w' row) : w.grownBy w'.drew row := ⟨h.os, h.tape, h.output, h.size, h.block⟩
theorem SR.drew {fr : Array Value} {W : World} {g o z : Nat} {d : Nat → Int} (h : SR fr W g o z d) : SR fr W.drew g o z d := h
theorem SR.drewN {fr : Array Value} {W : World} {g o z : Nat} {d : Nat → Int} (h : SR fr W g o z d) (n : Nat) : SR fr (W.drewN n) g o z d := h
theorem SR.congr {fr : Array Value} {W : World} {g o z : Nat} {d d' : Nat → Int} (h : SR fr W g o z d) (hd : ∀ k, k < z → d' k = d k) : SR fr W g o z d' := ⟨fun k hk => by rw [hd k hk]; exact h.1 k hk, h.2⟩
theorem SR.swap {fr : Array Value} {W : World} {g o z : Nat} {d : Nat → Int} (h : SR fr W g o z d) {i j : Nat} (hi : i < z) (hj : j < z) (hij : i ≠ j) :
    SR fr ((W.setCell ⟨g, o + i, none⟩ (.int .i64 (d j))).setCell ⟨g, o + j, none⟩ (.int .i64 (d i))) g o z (swp d i j) := by
  obtain ⟨h1, h2, h3⟩ := h
  refine ⟨fun k hk => ?_, fun k hk => by rw [World.frozen?_setCell, World.frozen?_setCell]; exact h2 k hk, ?_⟩
  case refine_2 =>
    obtain ⟨cur, c1, c2, c3⟩ := h3
    refine ⟨_, heap_setCell_same _ g (o + j) _ _ _ (heap_setCell_same _ g (o + i) _ _ _ c1), by simpa using c2, fun k hk => ?_⟩
    rw [Array.getElem?_setIfInBounds_ne (by omega), Array.getElem?_setIfInBounds_ne (by omega)]
    exact c3 k hk
  unfold swp
  by_cases e2 : k = j
  · subst e2
    have hold : (W.setCell ⟨g, o + i, none⟩ (.int .i64 (d k))).cell? ⟨g, o + k, none⟩ = some (.int .i64 (d k)) := by
      rw [World.cell?_setCell_other _ _ _ _ (by intro q; injection q with _ q; omega)]; exact h1 k hk
    rw [World.cell?_setCell_same _ _ _ hold, if_neg (by omega), if_pos rfl]
  · rw [World.cell?_setCell_other _ _ _ _ (by intro q; injection q with _ q; omega)]
    by_cases e1 : k = i
    · subst e1
      rw [World.cell?_setCell_same _ _ _ (h1 k hk), if_pos rfl]
    · rw [World.cell?_setCell_other _ _ _ _ (by intro q; injection q with _ q; omega), if_neg e1, if_neg e2]
      exact h1 k hk
def SRPost (fr : Array Value) (g o z : Nat) (W : World) (d' : Nat → Int) (e : Ending) (W' : World) : Prop := e = .returned (.tuple #[]) ∧ SR fr W' g o z d' ∧ W.grownBy W' (some g)
set_option maxHeartbeats 2000000 in
theorem swr_any (fr : Array Value) (g o z c x y n : Nat) (d : Nat → Int) (W : World) (h : SR fr W g o z d) (hx : x + n ≤ y) (hy : y + n ≤ z) (hz : z ≤ 100000) (F : Value) :
    Calls Try.prog 50 #[.slice (some ⟨g, o, none⟩) z c, .int .i64 (x : Int), .int .i64 (y : Int), .int .i64 (n : Int), F] W (SRPost fr g o z W (swR d x y n)) := by
  have H := Lib.hid h
  clear h
  go_enter Try.func50, Try.ntmps50
  go_wp2_with fail
  go_loopw [10] (fun i wr => ∃ j : Nat, j ≤ n ∧ i = .int .i64 (j : Int) ∧ SR fr wr g o z (swR d x y j) ∧ W.grownBy wr (some g)) (fun i _ => n - (intOf i).toNat)
  case atStart => exact ⟨0, by omega, rfl, by rw [Stb0.swR_zero]; exact H.out, gb_refl _ _⟩
  case round =>
    obtain ⟨j, hj, rfl, hR, hG⟩ := hrel
    have HG := Lib.hid hG
    by_cases hlt : j < n
    · have hj2 : (j : Int) < (n : Int) := by omega
      have hsw := hR.swap (i := x + j) (j := y + j) (by omega) (by omega) (by omega)
      rw [Stb0.swR_succ d x y j (by omega)] at hsw
      have k1 := hR.1 (x + j) (by omega)
      have k2 := hR.1 (y + j) (by omega)
      have f1 := hR.2.1 (x + j) (by omega)
      have f2 := hR.2.1 (y + j) (by omega)
      generalize swR d x y j (x + j) = A at *
      generalize swR d x y j (y + j) = B at *
      have HS := Lib.hid hsw
      have HR := Lib.hid hR
      clear hsw hR hG
      have i1 : (x : Int) + (j : Int) < (z : Int) := by omega
      have i2 : (y : Int) + (j : Int) < (z : Int) := by omega
      have i3 : (0 : Int) ≤ (x : Int) + (j : Int) := by omega
      have i4 : (0 : Int) ≤ (y : Int) + (j : Int) := by omega
      have i5 : ((x : Int) + (j : Int)).toNat = x + j := by omega
      have i6 : ((y : Int) + (j : Int)).toNat = y + j := by omega
      have i7 : IntKind.i64.wrap ((x : Int) + (j : Int)) = (x : Int) + (j : Int) := by rw [IntKind.wrap_i64]; omega
      have i8 : IntKind.i64.wrap ((y : Int) + (j : Int)) = (y : Int) + (j : Int) := by rw [IntKind.wrap_i64]; omega
      go_wp2_with fail
      go_region
      all_goals go_wp2_with fail
      go_roundw
      case rel => exact ⟨j + 1, by omega, by go_num, HS.out.drew, ogb_drew (gb_same (gb_same HG.out (ogb_set wr ⟨g, o + (x + j), none⟩ _)) (ogb_set _ ⟨g, o + (y + j), none⟩ _))⟩
      case measure => simp [intOf]; omega
    · obtain rfl : j = n := by omega
      have hnn : ¬ (j : Int) < (j : Int) := by omega
      have HR := Lib.hid hR
      clear hR hG
      go_wp2
      go_end0
      exact ⟨rfl, HR.out, HG.out⟩
end Go.Proofs.Ytahapmpohaaigaa
