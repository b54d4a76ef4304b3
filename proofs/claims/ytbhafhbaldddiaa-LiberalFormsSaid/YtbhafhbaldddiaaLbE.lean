/- The walks of names: HasPrefix, begun, Month, Weekday. -/
import Derived.Test.YtbhafhbaldddiaaLbC
namespace Go.Proofs.Ytbhafhbaldddiaa
open Go.RowKit
open Go
open Lb (R Wd)
set_option linter.unusedVariables false
theorem isPre_iff : ∀ u a : Wd, Lb.isPre u a = decide (u.length ≤ a.length ∧ a.take u.length = u)
  | [], a => by simp [Lb.isPre]
  | x :: u, [] => by simp [Lb.isPre]
  | x :: u, y :: a => by
    show ((x == y) && Lb.isPre u a) = _
    rw [isPre_iff u a]
    rw [Bool.eq_iff_iff]
    simp
    constructor
    · rintro ⟨h1, h2, h3⟩; exact ⟨h2, h1.symm, h3⟩
    · rintro ⟨h1, h2, h3⟩; exact ⟨h2.symm, h1, h3⟩
theorem mk_take (a : Wd) (n : Nat) : (Ml.mk a).extract 0 n = Ml.mk (a.take n) := by
  apply ByteArray.ext
  rw [ByteArray.data_extract]
  show a.toArray.extract 0 n = (a.take n).toArray
  simp
theorem lmk_ne2 {a b : Wd} (h : ¬ a = b) : ((Ml.mk a).toList == (Ml.mk b).toList) = false := by
  rw [beq_eq_false_iff_ne]
  intro e
  apply h
  rw [Go.Lib.toList_data, Go.Lib.toList_data] at e
  exact Ml.mk_inj (ByteArray.ext (Array.toList_inj.1 e))
set_option maxHeartbeats 1000000 in
theorem pre_inner (a u : Wd) (ha : a.length ≤ 100000) (hu : u.length ≤ 100000) (w : World) : Calls Try.prog 50 #[.string (Ml.mk a), .string (Ml.mk u)] w (fun e w' => e = .returned (.bool (Lb.isPre u a)) ∧ w' = w) := by
  have h1 : (Ml.mk a).size = a.length := rfl
  have h2 : (Ml.mk u).size = u.length := rfl
  have h3 := mk_take a u.length
  rw [isPre_iff]
  by_cases l1 : u.length ≤ a.length
  · have l2 : (u.length : Int) ≤ (a.length : Int) := by omega
    by_cases l3 : a.take u.length = u
    · have hd : decide (u.length ≤ a.length ∧ a.take u.length = u) = true := decide_eq_true ⟨l1, l3⟩
      rw [hd]
      rw [l3] at h3
      clear l3 hd l1
      generalize Ml.mk a = A at h1 h3 ⊢
      generalize Ml.mk u = U at h2 h3 ⊢
      generalize a.length = n at *
      generalize u.length = m at *
      go_enter Try.func50, Try.ntmps50
      go_wp2
      go_ret
      exact ⟨rfl, rfl⟩
    · have hd : decide (u.length ≤ a.length ∧ a.take u.length = u) = false := decide_eq_false (fun k => l3 k.2)
      rw [hd]
      have hne := lmk_ne2 l3
      rw [← h3] at hne
      clear l3 hd l1 h3
      generalize Ml.mk a = A at h1 hne ⊢
      generalize Ml.mk u = U at h2 hne ⊢
      generalize a.length = n at *
      generalize u.length = m at *
      go_enter Try.func50, Try.ntmps50
      go_wp2
      go_ret
      exact ⟨rfl, rfl⟩
  · have l2 : ¬ (u.length : Int) ≤ (a.length : Int) := by omega
    have hd : decide (u.length ≤ a.length ∧ a.take u.length = u) = false := decide_eq_false (fun k => l1 k.1)
    rw [hd]
    clear hd l1 h3
    generalize Ml.mk a = A at h1 ⊢
    generalize Ml.mk u = U at h2 ⊢
    generalize a.length = n at *
    generalize u.length = m at *
    go_enter Try.func50, Try.ntmps50
    go_wp2
    go_ret
    exact ⟨rfl, rfl⟩
theorem pre_any (a u : Wd) (ha : a.length ≤ 100000) (hu : u.length ≤ 100000) (w : World) : Calls Try.prog 46 #[.string (Ml.mk a), .string (Ml.mk u)] w (fun e w' => e = .returned (.bool (Lb.isPre u a)) ∧ w' = w) := by
  have h := pre_inner a u ha hu
  go_enter Try.func46, Try.ntmps46
  go_wp2_with (go_at_call 50; refine (h _).mono ?_; rintro e w1 ⟨rfl, rfl⟩)
  go_ret
  exact ⟨rfl, rfl⟩
section
variable (a0 a1 a2 a3 a4 a5 a6 a7 a8 a9 a10 a11 : Wd)
theorem names_ix_0 (w : World) : (Instr.index 57 (.agg #[.string (Ml.mk a0), .string (Ml.mk a1), .string (Ml.mk a2), .string (Ml.mk a3), .string (Ml.mk a4), .string (Ml.mk a5), .string (Ml.mk a6), .string (Ml.mk a7), .string (Ml.mk a8), .string (Ml.mk a9), .string (Ml.mk a10), .string (Ml.mk a11)]) (.int .i64 0)).run Try.prog w = .ok (.string (Ml.mk a0)) w := by kernel_rfl
theorem names_ix_1 (w : World) : (Instr.index 57 (.agg #[.string (Ml.mk a0), .string (Ml.mk a1), .string (Ml.mk a2), .string (Ml.mk a3), .string (Ml.mk a4), .string (Ml.mk a5), .string (Ml.mk a6), .string (Ml.mk a7), .string (Ml.mk a8), .string (Ml.mk a9), .string (Ml.mk a10), .string (Ml.mk a11)]) (.int .i64 1)).run Try.prog w = .ok (.string (Ml.mk a1)) w := by kernel_rfl
theorem names_ix_2 (w : World) : (Instr.index 57 (.agg #[.string (Ml.mk a0), .string (Ml.mk a1), .string (Ml.mk a2), .string (Ml.mk a3), .string (Ml.mk a4), .string (Ml.mk a5), .string (Ml.mk a6), .string (Ml.mk a7), .string (Ml.mk a8), .string (Ml.mk a9), .string (Ml.mk a10), .string (Ml.mk a11)]) (.int .i64 2)).run Try.prog w = .ok (.string (Ml.mk a2)) w := by kernel_rfl
theorem names_ix_3 (w : World) : (Instr.index 57 (.agg #[.string (Ml.mk a0), .string (Ml.mk a1), .string (Ml.mk a2), .string (Ml.mk a3), .string (Ml.mk a4), .string (Ml.mk a5), .string (Ml.mk a6), .string (Ml.mk a7), .string (Ml.mk a8), .string (Ml.mk a9), .string (Ml.mk a10), .string (Ml.mk a11)]) (.int .i64 3)).run Try.prog w = .ok (.string (Ml.mk a3)) w := by kernel_rfl
theorem names_ix_4 (w : World) : (Instr.index 57 (.agg #[.string (Ml.mk a0), .string (Ml.mk a1), .string (Ml.mk a2), .string (Ml.mk a3), .string (Ml.mk a4), .string (Ml.mk a5), .string (Ml.mk a6), .string (Ml.mk a7), .string (Ml.mk a8), .string (Ml.mk a9), .string (Ml.mk a10), .string (Ml.mk a11)]) (.int .i64 4)).run Try.prog w = .ok (.string (Ml.mk a4)) w := by kernel_rfl
theorem names_ix_5 (w : World) : (Instr.index 57 (.agg #[.string (Ml.mk a0), .string (Ml.mk a1), .string (Ml.mk a2), .string (Ml.mk a3), .string (Ml.mk a4), .string (Ml.mk a5), .string (Ml.mk a6), .string (Ml.mk a7), .string (Ml.mk a8), .string (Ml.mk a9), .string (Ml.mk a10), .string (Ml.mk a11)]) (.int .i64 5)).run Try.prog w = .ok (.string (Ml.mk a5)) w := by kernel_rfl
theorem names_ix_6 (w : World) : (Instr.index 57 (.agg #[.string (Ml.mk a0), .string (Ml.mk a1), .string (Ml.mk a2), .string (Ml.mk a3), .string (Ml.mk a4), .string (Ml.mk a5), .string (Ml.mk a6), .string (Ml.mk a7), .string (Ml.mk a8), .string (Ml.mk a9), .string (Ml.mk a10), .string (Ml.mk a11)]) (.int .i64 6)).run Try.prog w = .ok (.string (Ml.mk a6)) w := by kernel_rfl
theorem names_ix_7 (w : World) : (Instr.index 57 (.agg #[.string (Ml.mk a0), .string (Ml.mk a1), .string (Ml.mk a2), .string (Ml.mk a3), .string (Ml.mk a4), .string (Ml.mk a5), .string (Ml.mk a6), .string (Ml.mk a7), .string (Ml.mk a8), .string (Ml.mk a9), .string (Ml.mk a10), .string (Ml.mk a11)]) (.int .i64 7)).run Try.prog w = .ok (.string (Ml.mk a7)) w := by kernel_rfl
theorem names_ix_8 (w : World) : (Instr.index 57 (.agg #[.string (Ml.mk a0), .string (Ml.mk a1), .string (Ml.mk a2), .string (Ml.mk a3), .string (Ml.mk a4), .string (Ml.mk a5), .string (Ml.mk a6), .string (Ml.mk a7), .string (Ml.mk a8), .string (Ml.mk a9), .string (Ml.mk a10), .string (Ml.mk a11)]) (.int .i64 8)).run Try.prog w = .ok (.string (Ml.mk a8)) w := by kernel_rfl
theorem names_ix_9 (w : World) : (Instr.index 57 (.agg #[.string (Ml.mk a0), .string (Ml.mk a1), .string (Ml.mk a2), .string (Ml.mk a3), .string (Ml.mk a4), .string (Ml.mk a5), .string (Ml.mk a6), .string (Ml.mk a7), .string (Ml.mk a8), .string (Ml.mk a9), .string (Ml.mk a10), .string (Ml.mk a11)]) (.int .i64 9)).run Try.prog w = .ok (.string (Ml.mk a9)) w := by kernel_rfl
theorem names_ix_10 (w : World) : (Instr.index 57 (.agg #[.string (Ml.mk a0), .string (Ml.mk a1), .string (Ml.mk a2), .string (Ml.mk a3), .string (Ml.mk a4), .string (Ml.mk a5), .string (Ml.mk a6), .string (Ml.mk a7), .string (Ml.mk a8), .string (Ml.mk a9), .string (Ml.mk a10), .string (Ml.mk a11)]) (.int .i64 10)).run Try.prog w = .ok (.string (Ml.mk a10)) w := by kernel_rfl
theorem names_ix_11 (w : World) : (Instr.index 57 (.agg #[.string (Ml.mk a0), .string (Ml.mk a1), .string (Ml.mk a2), .string (Ml.mk a3), .string (Ml.mk a4), .string (Ml.mk a5), .string (Ml.mk a6), .string (Ml.mk a7), .string (Ml.mk a8), .string (Ml.mk a9), .string (Ml.mk a10), .string (Ml.mk a11)]) (.int .i64 11)).run Try.prog w = .ok (.string (Ml.mk a11)) w := by kernel_rfl
theorem names_ix (j : Nat) (hj : j < 12) (w : World) : (Instr.index 57 (.agg #[.string (Ml.mk a0), .string (Ml.mk a1), .string (Ml.mk a2), .string (Ml.mk a3), .string (Ml.mk a4), .string (Ml.mk a5), .string (Ml.mk a6), .string (Ml.mk a7), .string (Ml.mk a8), .string (Ml.mk a9), .string (Ml.mk a10), .string (Ml.mk a11)]) (.int .i64 (j : Int))).run Try.prog w = .ok (.string (Ml.mk ([a0, a1, a2, a3, a4, a5, a6, a7, a8, a9, a10, a11].getD j []))) w := by
  match j, hj with
  | 0, _ => exact names_ix_0 a0 a1 a2 a3 a4 a5 a6 a7 a8 a9 a10 a11 w
  | 1, _ => exact names_ix_1 a0 a1 a2 a3 a4 a5 a6 a7 a8 a9 a10 a11 w
  | 2, _ => exact names_ix_2 a0 a1 a2 a3 a4 a5 a6 a7 a8 a9 a10 a11 w
  | 3, _ => exact names_ix_3 a0 a1 a2 a3 a4 a5 a6 a7 a8 a9 a10 a11 w
  | 4, _ => exact names_ix_4 a0 a1 a2 a3 a4 a5 a6 a7 a8 a9 a10 a11 w
  | 5, _ => exact names_ix_5 a0 a1 a2 a3 a4 a5 a6 a7 a8 a9 a10 a11 w
  | 6, _ => exact names_ix_6 a0 a1 a2 a3 a4 a5 a6 a7 a8 a9 a10 a11 w
  | 7, _ => exact names_ix_7 a0 a1 a2 a3 a4 a5 a6 a7 a8 a9 a10 a11 w
  | 8, _ => exact names_ix_8 a0 a1 a2 a3 a4 a5 a6 a7 a8 a9 a10 a11 w
  | 9, _ => exact names_ix_9 a0 a1 a2 a3 a4 a5 a6 a7 a8 a9 a10 a11 w
  | 10, _ => exact names_ix_10 a0 a1 a2 a3 a4 a5 a6 a7 a8 a9 a10 a11 w
  | 11, _ => exact names_ix_11 a0 a1 a2 a3 a4 a5 a6 a7 a8 a9 a10 a11 w
def bgV (N : List Wd) (u : Wd) : Int := match Lb.bgF N u with | some i => (i : Int) | none => -1
theorem bgV_some {N : List Wd} {u : Wd} {j : Nat} (h0 : ∀ i, i < j → (decide (3 ≤ u.length) && Lb.isPre u (N.getD i [])) = false) (hj : j < N.length) (h1 : (decide (3 ≤ u.length) && Lb.isPre u (N.getD j [])) = true) : bgV N u = j := by
  have : Lb.bgF N u = some j := by
    unfold Lb.bgF
    rw [List.findIdx?_eq_some_iff_getElem]
    refine ⟨hj, by simpa [List.getD_eq_getElem?_getD, hj] using h1, fun i hi => ?_⟩
    have := h0 i hi
    simpa [List.getD_eq_getElem?_getD, Nat.lt_trans hi hj] using this
  unfold bgV
  rw [this]
theorem bgV_none {N : List Wd} {u : Wd} (h0 : ∀ i, i < N.length → (decide (3 ≤ u.length) && Lb.isPre u (N.getD i [])) = false) : bgV N u = -1 := by
  have : Lb.bgF N u = none := by
    unfold Lb.bgF
    rw [List.findIdx?_eq_none_iff]
    intro x hx
    obtain ⟨i, hi, e⟩ := List.getElem_of_mem hx
    have := h0 i hi
    simpa [List.getD_eq_getElem?_getD, hi, e] using this
  unfold bgV
  rw [this]
set_option maxRecDepth 100000 in
set_option maxHeartbeats 2000000 in
theorem begun_any (u : Wd) (hu : u.length ≤ 100000) (hN : ∀ j, ([a0, a1, a2, a3, a4, a5, a6, a7, a8, a9, a10, a11].getD j []).length ≤ 1000) (w : World) : Calls Try.prog 29 #[.agg #[.string (Ml.mk a0), .string (Ml.mk a1), .string (Ml.mk a2), .string (Ml.mk a3), .string (Ml.mk a4), .string (Ml.mk a5), .string (Ml.mk a6), .string (Ml.mk a7), .string (Ml.mk a8), .string (Ml.mk a9), .string (Ml.mk a10), .string (Ml.mk a11)], .string (Ml.mk u)] w (fun e w' => e = .returned (.int .i64 (bgV [a0, a1, a2, a3, a4, a5, a6, a7, a8, a9, a10, a11] u)) ∧ Below w.heap.size w w') := by
  have hix := names_ix a0 a1 a2 a3 a4 a5 a6 a7 a8 a9 a10 a11
  obtain ⟨N, hNN⟩ : ∃ N : List Wd, [a0, a1, a2, a3, a4, a5, a6, a7, a8, a9, a10, a11] = N := ⟨_, rfl⟩
  have hlen : N.length = 12 := by rw [← hNN]; rfl
  rw [hNN] at hix hN
  rw [hNN]
  clear hNN
  have HIX := Lib.hid hix
  have HN := Lib.hid hN
  have HLEN := Lib.hid hlen
  clear hix hN hlen
  have h2 : (Ml.mk u).size = u.length := rfl
  go_enter Try.func29, Try.ntmps29
  go_wp2_with fail
  have hB : Below w.heap.size w (w.alloc (.cells #[.string (Ml.mk a0), .string (Ml.mk a1), .string (Ml.mk a2), .string (Ml.mk a3), .string (Ml.mk a4), .string (Ml.mk a5), .string (Ml.mk a6), .string (Ml.mk a7), .string (Ml.mk a8), .string (Ml.mk a9), .string (Ml.mk a10), .string (Ml.mk a11)] 57)) := bbox (Below.refl _ _) _
  generalize w.alloc (.cells #[.string (Ml.mk a0), .string (Ml.mk a1), .string (Ml.mk a2), .string (Ml.mk a3), .string (Ml.mk a4), .string (Ml.mk a5), .string (Ml.mk a6), .string (Ml.mk a7), .string (Ml.mk a8), .string (Ml.mk a9), .string (Ml.mk a10), .string (Ml.mk a11)] 57) = W1 at *
  go_loop [8] (fun k => ∃ j : Nat, j ≤ 12 ∧ k = .int .i64 j ∧ ∀ i, i < j → (decide (3 ≤ u.length) && Lb.isPre u (N.getD i [])) = false) (fun k => 12 - (intOf k).toNat)
  case atStart => exact ⟨0, by omega, rfl, fun i h => by omega⟩
  case round =>
    obtain ⟨j, hj, rfl, hr⟩ := hrel
    have HR := Lib.hid hr
    clear hr
    by_cases hlt : j < 12
    · have hi := HIX.out j hlt
      have l1 : (j : Int) < 12 := by omega
      have hp := fun w => pre_any (N.getD j []) u (by have := HN.out j; omega) hu w
      have hs1 := fun h => bgV_some (N := N) (u := u) (j := j) HR.out (by rw [HLEN.out]; exact hlt) h
      have hs2 : (decide (3 ≤ u.length) && Lb.isPre u (N.getD j [])) = false → ∀ i, i < j + 1 → (decide (3 ≤ u.length) && Lb.isPre u (N.getD i [])) = false := fun h i hi => by
        by_cases e : i = j
        · rw [e]; exact h
        · exact HR.out i (by omega)
      have HS1 := Lib.hid hs1
      have HS2 := Lib.hid hs2
      clear hs1 hs2
      obtain ⟨b, hb⟩ : ∃ b, Lb.isPre u (N.getD j []) = b := ⟨_, rfl⟩
      rw [hb] at hp
      have HB := Lib.hid hb
      clear hb
      generalize Ml.mk (N.getD j []) = A at *
      by_cases l3 : (3 : Int) ≤ (u.length : Int)
      · cases b
        · have hnext := HS2.out (by rw [HB.out, Bool.and_false])
          have HNX := Lib.hid hnext
          clear hnext
          go_wp2_with (go_at_call 46; refine (hp _).mono ?_; rintro e w2 ⟨rfl, rfl⟩)
          go_round
          case rel => exact ⟨j + 1, by omega, by go_num, HNX.out⟩
          case measure => simp [intOf]; omega
        · have hres := HS1.out (by rw [HB.out, Bool.and_true]; exact decide_eq_true (by omega))
          have HRS := Lib.hid hres
          clear hres
          go_wp2_with (go_at_call 46; refine (hp _).mono ?_; rintro e w2 ⟨rfl, rfl⟩)
          go_ret
          exact ⟨by rw [HRS.out]; rfl, hB⟩
      · have hnext := HS2.out (by rw [decide_eq_false (by omega), Bool.false_and])
        have HNX := Lib.hid hnext
        clear hnext
        go_wp2
        go_round
        case rel => exact ⟨j + 1, by omega, by go_num, HNX.out⟩
        case measure => simp [intOf]; omega
    · obtain rfl : j = 12 := by omega
      have hres := bgV_none (N := N) (u := u) (by rw [HLEN.out]; exact HR.out)
      have HRS := Lib.hid hres
      clear hres
      go_wp2
      go_ret
      exact ⟨by rw [HRS.out]; rfl, hB⟩
end
theorem bgV_bd (N : List Wd) (u : Wd) (h : N.length ≤ 12) : -1 ≤ bgV N u ∧ bgV N u ≤ 11 := by
  unfold bgV
  split
  · rename_i i e
    have := (List.findIdx?_eq_some_iff_getElem.1 e).1
    omega
  · omega
theorem mon_is (u : Wd) : Lb.monF u = 1 + bgV Lb.months u := by
  unfold Lb.monF bgV
  split
  · rename_i i e; rw [e]; simp; omega
  · rename_i e; rw [e]; rfl
def dayl : List Wd := Lb.days ++ [[], [], [], [], []]
theorem wk_is (u : Wd) : Lb.wkB u = decide (0 ≤ bgV dayl u) := by
  unfold Lb.wkB bgV dayl
  have hnil : ∀ n ∈ ([[], [], [], [], []] : List Wd), (decide (3 ≤ u.length) && Lb.isPre u n) = false := fun n hn => by
    have : n = [] := by simpa using hn
    subst this
    cases u with
    | nil => rfl
    | cons a b => simp [Lb.isPre]
  have e : Lb.bgF (Lb.days ++ [[], [], [], [], []]) u = Lb.bgF Lb.days u := by
    unfold Lb.bgF
    rw [List.findIdx?_append]
    have : List.findIdx? (fun n => decide (3 ≤ u.length) && Lb.isPre u n) ([[], [], [], [], []] : List Wd) = none := by
      rw [List.findIdx?_eq_none_iff]
      exact hnil
    rw [this]
    simp
  rw [e]
  cases Lb.bgF Lb.days u with
  | none => rfl
  | some i => simp
set_option maxRecDepth 100000 in
set_option maxHeartbeats 2000000 in
theorem lmon_any (u : Wd) (hu : u.length ≤ 100000) (w : World) : Calls Try.prog 13 #[.string (Ml.mk u)] w (fun e w' => e = .returned (.int .i64 (Lb.monF u)) ∧ Below w.heap.size w w') := by
  have h := fun w => begun_any [106, 97, 110, 117, 97, 114, 121] [102, 101, 98, 114, 117, 97, 114, 121] [109, 97, 114, 99, 104] [97, 112, 114, 105, 108] [109, 97, 121] [106, 117, 110, 101] [106, 117, 108, 121] [97, 117, 103, 117, 115, 116] [115, 101, 112, 116, 101, 109, 98, 101, 114] [111, 99, 116, 111, 98, 101, 114] [110, 111, 118, 101, 109, 98, 101, 114] [100, 101, 99, 101, 109, 98, 101, 114] u hu (fun j => by
    match j with
    | 0 => decide
    | 1 => decide
    | 2 => decide
    | 3 => decide
    | 4 => decide
    | 5 => decide
    | 6 => decide
    | 7 => decide
    | 8 => decide
    | 9 => decide
    | 10 => decide
    | 11 => decide
    | n + 12 => simp) w
  obtain ⟨v, hv⟩ : ∃ v, bgV Lb.months u = v := ⟨_, rfl⟩
  have hbd := bgV_bd Lb.months u (by decide)
  rw [mon_is]
  rw [hv] at hbd
  rw [hv]
  have hv2 : bgV [[106, 97, 110, 117, 97, 114, 121], [102, 101, 98, 114, 117, 97, 114, 121], [109, 97, 114, 99, 104], [97, 112, 114, 105, 108], [109, 97, 121], [106, 117, 110, 101], [106, 117, 108, 121], [97, 117, 103, 117, 115, 116], [115, 101, 112, 116, 101, 109, 98, 101, 114], [111, 99, 116, 111, 98, 101, 114], [110, 111, 118, 101, 109, 98, 101, 114], [100, 101, 99, 101, 109, 98, 101, 114]] u = v := hv
  rw [hv2] at h
  clear hv hv2
  go_enter Try.func13, Try.ntmps13
  go_wp2_with (go_at_call 29; refine (h _).mono ?_; rintro e w2 ⟨rfl, hB⟩)
  go_ret
  exact ⟨rfl, hB⟩
set_option maxRecDepth 100000 in
set_option maxHeartbeats 2000000 in
theorem lwk_any (u : Wd) (hu : u.length ≤ 100000) (w : World) : Calls Try.prog 14 #[.string (Ml.mk u)] w (fun e w' => e = .returned (.bool (Lb.wkB u)) ∧ Below w.heap.size w w') := by
  have h := fun w => begun_any [109, 111, 110, 100, 97, 121] [116, 117, 101, 115, 100, 97, 121] [119, 101, 100, 110, 101, 115, 100, 97, 121] [116, 104, 117, 114, 115, 100, 97, 121] [102, 114, 105, 100, 97, 121] [115, 97, 116, 117, 114, 100, 97, 121] [115, 117, 110, 100, 97, 121] [] [] [] [] [] u hu (fun j => by
    match j with
    | 0 => decide
    | 1 => decide
    | 2 => decide
    | 3 => decide
    | 4 => decide
    | 5 => decide
    | 6 => decide
    | 7 => decide
    | 8 => decide
    | 9 => decide
    | 10 => decide
    | 11 => decide
    | n + 12 => simp) w
  obtain ⟨v, hv⟩ : ∃ v, bgV dayl u = v := ⟨_, rfl⟩
  rw [wk_is]
  rw [hv]
  have hv2 : bgV [[109, 111, 110, 100, 97, 121], [116, 117, 101, 115, 100, 97, 121], [119, 101, 100, 110, 101, 115, 100, 97, 121], [116, 104, 117, 114, 115, 100, 97, 121], [102, 114, 105, 100, 97, 121], [115, 97, 116, 117, 114, 100, 97, 121], [115, 117, 110, 100, 97, 121], [], [], [], [], []] u = v := hv
  rw [hv2] at h
  clear hv hv2
  go_enter Try.func14, Try.ntmps14
  go_wp2_with (go_at_call 29; refine (h _).mono ?_; rintro e w2 ⟨rfl, hB⟩)
  go_ret
  exact ⟨rfl, hB⟩
end Go.Proofs.Ytbhafhbaldddiaa
