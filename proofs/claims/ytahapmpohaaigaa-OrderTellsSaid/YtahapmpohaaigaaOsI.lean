/- A sorted row's test; the walk of Ordered. -/
import Derived.Test.YtahapmpohaaigaaOsH
namespace Ordl
theorem ord_iff_at {cls : Int → Int} : ∀ r : List Int, ordB cls r = true ↔ ∀ (i : Nat) (x y : Int), r[i]? = some x → r[i + 1]? = some y → ¬ (0 < cls y ∧ cls y < cls x)
  | [] => by simp [ordB]
  | [a] => by simp [ordB]
  | a :: b :: l => by
    show (!(decide (0 < cls b) && decide (cls b < cls a)) && ordB cls (b :: l)) = true ↔ _
    rw [Bool.and_eq_true, ord_iff_at (b :: l)]
    constructor
    · rintro ⟨h1, h2⟩ i x y hx hy
      cases i with
      | zero =>
        simp only [List.getElem?_cons_zero, Option.some.injEq] at hx
        simp only [Nat.zero_add, List.getElem?_cons_succ, List.getElem?_cons_zero, Option.some.injEq] at hy
        subst hx hy
        intro h
        simp [h.1, h.2] at h1
      | succ i => exact h2 i x y (by simpa using hx) (by simpa using hy)
    · intro h
      refine ⟨?_, fun i x y hx hy => h (i + 1) x y (by simpa using hx) (by simpa using hy)⟩
      have := h 0 a b rfl rfl
      by_cases p : 0 < cls b
      · have q : ¬ cls b < cls a := fun q => this ⟨p, q⟩
        simp [q]
      · simp [p]
end Ordl
namespace Go.Proofs.Ytahapmpohaaigaa
open Go.RowKit Go.Shelf
open Go
set_option linter.unusedVariables false
set_option maxRecDepth 100000
attribute [local go_sem] Oper.semAt_some
def IsfPost (r : List Int) (w : World) (e : Ending) (w' : World) : Prop := e = .returned (.bool (Ordl.ordB Tb.classI r)) ∧ ∃ n, w' = w.drewN n
set_option maxHeartbeats 4000000 in
theorem isf_any (g o c : Nat) (r : List Int) (W : World) (hI : Ints W g o r) (hz : r.length ≤ 100000) (hm : ∀ (i : Nat) (y : Int), r[i + 1]? = some y → 0 < Tb.classI y) :
    Calls Try.prog 29 #[.slice (some ⟨g, o, none⟩) r.length c, FV] W (IsfPost r W) := by
  unfold FV
  have HI := Lib.hid hI
  have HM := Lib.hid hm
  clear hI hm
  by_cases h0 : r.length = 0
  · obtain rfl : r = [] := List.length_eq_zero_iff.1 h0
    go_enter Try.func29, Try.ntmps29
    go_wp2_with fail
    go_loopw [5] (fun vi wr => vi = .int .i64 (-1) ∧ W = wr) (fun vi _ => 0)
    case atStart => exact ⟨by go_num, rfl⟩
    case round =>
      obtain ⟨rfl, rfl⟩ := hrel
      go_wp2_with fail
      go_ret
      exact ⟨rfl, 0, rfl⟩
  · obtain ⟨n, hn⟩ : ∃ n, r.length = n := ⟨_, rfl⟩
    rw [hn] at h0 hz ⊢
    have HN := Lib.hid hn
    clear hn
    obtain ⟨m, hmn⟩ : ∃ m, n = m + 1 := ⟨n - 1, by omega⟩
    have e1 : (n : Int) - 1 = (m : Int) := by omega
    have HMN := Lib.hid hmn
    clear hmn
    go_enter Try.func29, Try.ntmps29
    go_wp2_with fail
    go_loopw [5] (fun vi wr => ∃ i : Nat, vi = .int .i64 (i : Int) ∧ i ≤ m ∧ (∀ (j : Nat) (x y : Int), i ≤ j → r[j]? = some x → r[j + 1]? = some y → ¬ (0 < Tb.classI y ∧ Tb.classI y < Tb.classI x)) ∧ ∃ q, wr = W.drewN q) (fun vi _ => (intOf vi).toNat)
    case atStart =>
      refine ⟨m, by go_num, Nat.le_refl _, fun j x y hj hx hy => ?_, 0, rfl⟩
      have := (List.getElem?_eq_some_iff.1 hy).1
      have := HN.out
      have := HMN.out
      omega
    case round =>
      obtain ⟨i, rfl, hi, hall, q, hq⟩ := hrel
      have HALL := Lib.hid hall
      have HQ := Lib.hid hq
      have hIr : Ints wr g o r := by rw [hq]; exact HI.out
      clear hall hq
      by_cases hi0 : 0 < i
      · obtain ⟨k, hk⟩ : ∃ k, i = k + 1 := ⟨i - 1, by omega⟩
        have hl1 : i < r.length := by have := HN.out; have := HMN.out; omega
        have hl2 : k < r.length := by omega
        obtain ⟨y, hy⟩ : ∃ y, r[i]? = some y := ⟨_, List.getElem?_eq_getElem hl1⟩
        obtain ⟨x, hx⟩ : ∃ x, r[k]? = some x := ⟨_, List.getElem?_eq_getElem hl2⟩
        have k1 := hIr.2 i y hy
        have k2 := hIr.2 k x hx
        have hyp : 0 < Tb.classI y := HM.out k y (by rw [← hk]; exact hy)
        have hby := bycl_quiet y x
        have i0 : (0 : Int) < (i : Int) := by omega
        have i1 : (i : Int) < (n : Int) := by have := HMN.out; omega
        have i2 : (i : Int) - 1 < (n : Int) := by have := HMN.out; omega
        have i4 : (0 : Int) ≤ (i : Int) - 1 := by omega
        have i9 : (1 : Int) ≤ (i : Int) := by omega
        have i5 : (i : Int).toNat = i := by omega
        have i6 : ((i : Int) - 1).toNat = k := by omega
        have i7 : IntKind.i64.wrap ((i : Int) - 1) = (i : Int) - 1 := by rw [IntKind.wrap_i64]; omega
        by_cases hcl : Tb.classI y < Tb.classI x
        · have hc0 : Tb.classI y - Tb.classI x < 0 := by omega
          have hB : Ordl.ordB Tb.classI r = false := by
            rw [Bool.eq_false_iff]
            intro h
            exact (Ordl.ord_iff_at r).1 h k x y hx (by rw [← hk]; exact hy) ⟨hyp, hcl⟩
          have HB := Lib.hid hB
          generalize Tb.classI y - Tb.classI x = cc at *
          clear hB hcl hyp hk hl1 hl2 hy hx hIr
          go_wp2_with fail
          go_quiet ((go_at_call 27; with_reducible exact hby _ _))
          go_wp2_with fail
          go_ret
          refine ⟨by rw [HB.out]; rfl, q + nq, ?_⟩
          rw [HQ.out, World.drewN_drewN]
        · have hc0 : ¬ Tb.classI y - Tb.classI x < 0 := by omega
          have hN : Hid (∀ (j : Nat) (x y : Int), k ≤ j → r[j]? = some x → r[j + 1]? = some y → ¬ (0 < Tb.classI y ∧ Tb.classI y < Tb.classI x)) := Lib.hid (fun j u v hj hu hv => by
            by_cases e : j = k
            · subst e
              rw [hx] at hu
              rw [← hk, hy] at hv
              cases hu
              cases hv
              exact fun h => hcl h.2
            · exact HALL.out j u v (by omega) hu hv)
          have HK := Lib.hid hk
          generalize Tb.classI y - Tb.classI x = cc at *
          clear hcl hyp hk hl1 hl2 hy hx hIr
          go_wp2_with fail
          go_quiet ((go_at_call 27; with_reducible exact hby _ _))
          go_wp2_with fail
          go_roundw
          case rel => exact ⟨k, by have := HK.out; go_num, by have := HK.out; omega, hN.out, q + nq, by rw [HQ.out, World.drewN_drewN]⟩
          case measure => have := HK.out; simp [intOf]; omega
      · obtain rfl : i = 0 := by omega
        have hB : Ordl.ordB Tb.classI r = true := (Ordl.ord_iff_at r).2 fun j x y hx hy => HALL.out j x y (Nat.zero_le _) hx hy
        have HB := Lib.hid hB
        clear hB hIr
        go_wp2_with fail
        go_ret
        exact ⟨by rw [HB.out]; rfl, q, HQ.out⟩
end Go.Proofs.Ytahapmpohaaigaa
