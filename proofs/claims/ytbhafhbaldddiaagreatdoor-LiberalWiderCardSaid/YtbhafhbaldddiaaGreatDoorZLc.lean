/- The walks of names: HasPrefix, begun, Month, Weekday. The walks of a liberal reader's month, weekday, clock and of the three forms. The walk of a zone's name. -/
import Derived.Test.YtbhafhbaldddiaaGreatDoorZLb
namespace Go.Proofs.YtbhafhbaldddiaaGreatDoor
open Go.RowKit
open Go
open Lb (R Wd)
set_option linter.unusedVariables false
theorem isPre_iff : ∀ u a : Wd, Lb.isPre u a = decide (u.length ≤ a.length ∧ a.take u.length = u)
  | [], a => by simp [Lb.isPre]
  | x :: u, [] => by simp [Lb.isPre]
  | x :: u, y :: a => by
    show ((x == y) && Lb.isPre u a) = _
    rw [isPre_iff u a]
    rw [Bool.eq_iff_iff]
    simp
    constructor
    · rintro ⟨h1, h2, h3⟩; exact ⟨h2, h1.symm, h3⟩
    · rintro ⟨h1, h2, h3⟩; exact ⟨h2.symm, h1, h3⟩
theorem mk_take (a : Wd) (n : Nat) : (Ml.mk a).extract 0 n = Ml.mk (a.take n) := by
  apply ByteArray.ext
  rw [ByteArray.data_extract]
  show a.toArray.extract 0 n = (a.take n).toArray
  simp
theorem lmk_ne2 {a b : Wd} (h : ¬ a = b) : ((Ml.mk a).toList == (Ml.mk b).toList) = false := by
  rw [beq_eq_false_iff_ne]
  intro e
  apply h
  rw [Go.Lib.toList_data, Go.Lib.toList_data] at e
  exact Ml.mk_inj (ByteArray.ext (Array.toList_inj.1 e))
set_option maxHeartbeats 1000000 in
theorem pre_inner (a u : Wd) (ha : a.length ≤ 100000) (hu : u.length ≤ 100000) (w : World) : Calls Tryz.prog 113 #[.string (Ml.mk a), .string (Ml.mk u)] w (fun e w' => e = .returned (.bool (Lb.isPre u a)) ∧ w' = w) := by
  have h1 : (Ml.mk a).size = a.length := rfl
  have h2 : (Ml.mk u).size = u.length := rfl
  have h3 := mk_take a u.length
  rw [isPre_iff]
  by_cases l1 : u.length ≤ a.length
  · have l2 : (u.length : Int) ≤ (a.length : Int) := by omega
    by_cases l3 : a.take u.length = u
    · have hd : decide (u.length ≤ a.length ∧ a.take u.length = u) = true := decide_eq_true ⟨l1, l3⟩
      rw [hd]
      rw [l3] at h3
      clear l3 hd l1
      generalize Ml.mk a = A at h1 h3 ⊢
      generalize Ml.mk u = U at h2 h3 ⊢
      generalize a.length = n at *
      generalize u.length = m at *
      go_enter Tryz.func113, Tryz.ntmps113
      go_wp2
      go_ret
      exact ⟨rfl, rfl⟩
    · have hd : decide (u.length ≤ a.length ∧ a.take u.length = u) = false := decide_eq_false (fun k => l3 k.2)
      rw [hd]
      have hne := lmk_ne2 l3
      rw [← h3] at hne
      clear l3 hd l1 h3
      generalize Ml.mk a = A at h1 hne ⊢
      generalize Ml.mk u = U at h2 hne ⊢
      generalize a.length = n at *
      generalize u.length = m at *
      go_enter Tryz.func113, Tryz.ntmps113
      go_wp2
      go_ret
      exact ⟨rfl, rfl⟩
  · have l2 : ¬ (u.length : Int) ≤ (a.length : Int) := by omega
    have hd : decide (u.length ≤ a.length ∧ a.take u.length = u) = false := decide_eq_false (fun k => l1 k.1)
    rw [hd]
    clear hd l1 h3
    generalize Ml.mk a = A at h1 ⊢
    generalize Ml.mk u = U at h2 ⊢
    generalize a.length = n at *
    generalize u.length = m at *
    go_enter Tryz.func113, Tryz.ntmps113
    go_wp2
    go_ret
    exact ⟨rfl, rfl⟩
theorem pre_any (a u : Wd) (ha : a.length ≤ 100000) (hu : u.length ≤ 100000) (w : World) : Calls Tryz.prog 91 #[.string (Ml.mk a), .string (Ml.mk u)] w (fun e w' => e = .returned (.bool (Lb.isPre u a)) ∧ w' = w) := by
  have h := pre_inner a u ha hu
  go_enter Tryz.func91, Tryz.ntmps91
  go_wp2_with (go_at_call 113; refine (h _).mono ?_; rintro e w1 ⟨rfl, rfl⟩)
  go_ret
  exact ⟨rfl, rfl⟩
section
variable (a0 a1 a2 a3 a4 a5 a6 a7 a8 a9 a10 a11 : Wd)
theorem names_ix_0 (w : World) : (Instr.index 53 (.agg #[.string (Ml.mk a0), .string (Ml.mk a1), .string (Ml.mk a2), .string (Ml.mk a3), .string (Ml.mk a4), .string (Ml.mk a5), .string (Ml.mk a6), .string (Ml.mk a7), .string (Ml.mk a8), .string (Ml.mk a9), .string (Ml.mk a10), .string (Ml.mk a11)]) (.int .i64 0)).run Tryz.prog w = .ok (.string (Ml.mk a0)) w := by kernel_rfl
theorem names_ix_1 (w : World) : (Instr.index 53 (.agg #[.string (Ml.mk a0), .string (Ml.mk a1), .string (Ml.mk a2), .string (Ml.mk a3), .string (Ml.mk a4), .string (Ml.mk a5), .string (Ml.mk a6), .string (Ml.mk a7), .string (Ml.mk a8), .string (Ml.mk a9), .string (Ml.mk a10), .string (Ml.mk a11)]) (.int .i64 1)).run Tryz.prog w = .ok (.string (Ml.mk a1)) w := by kernel_rfl
theorem names_ix_2 (w : World) : (Instr.index 53 (.agg #[.string (Ml.mk a0), .string (Ml.mk a1), .string (Ml.mk a2), .string (Ml.mk a3), .string (Ml.mk a4), .string (Ml.mk a5), .string (Ml.mk a6), .string (Ml.mk a7), .string (Ml.mk a8), .string (Ml.mk a9), .string (Ml.mk a10), .string (Ml.mk a11)]) (.int .i64 2)).run Tryz.prog w = .ok (.string (Ml.mk a2)) w := by kernel_rfl
theorem names_ix_3 (w : World) : (Instr.index 53 (.agg #[.string (Ml.mk a0), .string (Ml.mk a1), .string (Ml.mk a2), .string (Ml.mk a3), .string (Ml.mk a4), .string (Ml.mk a5), .string (Ml.mk a6), .string (Ml.mk a7), .string (Ml.mk a8), .string (Ml.mk a9), .string (Ml.mk a10), .string (Ml.mk a11)]) (.int .i64 3)).run Tryz.prog w = .ok (.string (Ml.mk a3)) w := by kernel_rfl
theorem names_ix_4 (w : World) : (Instr.index 53 (.agg #[.string (Ml.mk a0), .string (Ml.mk a1), .string (Ml.mk a2), .string (Ml.mk a3), .string (Ml.mk a4), .string (Ml.mk a5), .string (Ml.mk a6), .string (Ml.mk a7), .string (Ml.mk a8), .string (Ml.mk a9), .string (Ml.mk a10), .string (Ml.mk a11)]) (.int .i64 4)).run Tryz.prog w = .ok (.string (Ml.mk a4)) w := by kernel_rfl
theorem names_ix_5 (w : World) : (Instr.index 53 (.agg #[.string (Ml.mk a0), .string (Ml.mk a1), .string (Ml.mk a2), .string (Ml.mk a3), .string (Ml.mk a4), .string (Ml.mk a5), .string (Ml.mk a6), .string (Ml.mk a7), .string (Ml.mk a8), .string (Ml.mk a9), .string (Ml.mk a10), .string (Ml.mk a11)]) (.int .i64 5)).run Tryz.prog w = .ok (.string (Ml.mk a5)) w := by kernel_rfl
theorem names_ix_6 (w : World) : (Instr.index 53 (.agg #[.string (Ml.mk a0), .string (Ml.mk a1), .string (Ml.mk a2), .string (Ml.mk a3), .string (Ml.mk a4), .string (Ml.mk a5), .string (Ml.mk a6), .string (Ml.mk a7), .string (Ml.mk a8), .string (Ml.mk a9), .string (Ml.mk a10), .string (Ml.mk a11)]) (.int .i64 6)).run Tryz.prog w = .ok (.string (Ml.mk a6)) w := by kernel_rfl
theorem names_ix_7 (w : World) : (Instr.index 53 (.agg #[.string (Ml.mk a0), .string (Ml.mk a1), .string (Ml.mk a2), .string (Ml.mk a3), .string (Ml.mk a4), .string (Ml.mk a5), .string (Ml.mk a6), .string (Ml.mk a7), .string (Ml.mk a8), .string (Ml.mk a9), .string (Ml.mk a10), .string (Ml.mk a11)]) (.int .i64 7)).run Tryz.prog w = .ok (.string (Ml.mk a7)) w := by kernel_rfl
theorem names_ix_8 (w : World) : (Instr.index 53 (.agg #[.string (Ml.mk a0), .string (Ml.mk a1), .string (Ml.mk a2), .string (Ml.mk a3), .string (Ml.mk a4), .string (Ml.mk a5), .string (Ml.mk a6), .string (Ml.mk a7), .string (Ml.mk a8), .string (Ml.mk a9), .string (Ml.mk a10), .string (Ml.mk a11)]) (.int .i64 8)).run Tryz.prog w = .ok (.string (Ml.mk a8)) w := by kernel_rfl
theorem names_ix_9 (w : World) : (Instr.index 53 (.agg #[.string (Ml.mk a0), .string (Ml.mk a1), .string (Ml.mk a2), .string (Ml.mk a3), .string (Ml.mk a4), .string (Ml.mk a5), .string (Ml.mk a6), .string (Ml.mk a7), .string (Ml.mk a8), .string (Ml.mk a9), .string (Ml.mk a10), .string (Ml.mk a11)]) (.int .i64 9)).run Tryz.prog w = .ok (.string (Ml.mk a9)) w := by kernel_rfl
theorem names_ix_10 (w : World) : (Instr.index 53 (.agg #[.string (Ml.mk a0), .string (Ml.mk a1), .string (Ml.mk a2), .string (Ml.mk a3), .string (Ml.mk a4), .string (Ml.mk a5), .string (Ml.mk a6), .string (Ml.mk a7), .string (Ml.mk a8), .string (Ml.mk a9), .string (Ml.mk a10), .string (Ml.mk a11)]) (.int .i64 10)).run Tryz.prog w = .ok (.string (Ml.mk a10)) w := by kernel_rfl
theorem names_ix_11 (w : World) : (Instr.index 53 (.agg #[.string (Ml.mk a0), .string (Ml.mk a1), .string (Ml.mk a2), .string (Ml.mk a3), .string (Ml.mk a4), .string (Ml.mk a5), .string (Ml.mk a6), .string (Ml.mk a7), .string (Ml.mk a8), .string (Ml.mk a9), .string (Ml.mk a10), .string (Ml.mk a11)]) (.int .i64 11)).run Tryz.prog w = .ok (.string (Ml.mk a11)) w := by kernel_rfl
theorem names_ix (j : Nat) (hj : j < 12) (w : World) : (Instr.index 53 (.agg #[.string (Ml.mk a0), .string (Ml.mk a1), .string (Ml.mk a2), .string (Ml.mk a3), .string (Ml.mk a4), .string (Ml.mk a5), .string (Ml.mk a6), .string (Ml.mk a7), .string (Ml.mk a8), .string (Ml.mk a9), .string (Ml.mk a10), .string (Ml.mk a11)]) (.int .i64 (j : Int))).run Tryz.prog w = .ok (.string (Ml.mk ([a0, a1, a2, a3, a4, a5, a6, a7, a8, a9, a10, a11].getD j []))) w := by
  match j, hj with
  | 0, _ => exact names_ix_0 a0 a1 a2 a3 a4 a5 a6 a7 a8 a9 a10 a11 w
  | 1, _ => exact names_ix_1 a0 a1 a2 a3 a4 a5 a6 a7 a8 a9 a10 a11 w
  | 2, _ => exact names_ix_2 a0 a1 a2 a3 a4 a5 a6 a7 a8 a9 a10 a11 w
  | 3, _ => exact names_ix_3 a0 a1 a2 a3 a4 a5 a6 a7 a8 a9 a10 a11 w
  | 4, _ => exact names_ix_4 a0 a1 a2 a3 a4 a5 a6 a7 a8 a9 a10 a11 w
  | 5, _ => exact names_ix_5 a0 a1 a2 a3 a4 a5 a6 a7 a8 a9 a10 a11 w
  | 6, _ => exact names_ix_6 a0 a1 a2 a3 a4 a5 a6 a7 a8 a9 a10 a11 w
  | 7, _ => exact names_ix_7 a0 a1 a2 a3 a4 a5 a6 a7 a8 a9 a10 a11 w
  | 8, _ => exact names_ix_8 a0 a1 a2 a3 a4 a5 a6 a7 a8 a9 a10 a11 w
  | 9, _ => exact names_ix_9 a0 a1 a2 a3 a4 a5 a6 a7 a8 a9 a10 a11 w
  | 10, _ => exact names_ix_10 a0 a1 a2 a3 a4 a5 a6 a7 a8 a9 a10 a11 w
  | 11, _ => exact names_ix_11 a0 a1 a2 a3 a4 a5 a6 a7 a8 a9 a10 a11 w
def bgV (N : List Wd) (u : Wd) : Int := match Lb.bgF N u with | some i => (i : Int) | none => -1
theorem bgV_some {N : List Wd} {u : Wd} {j : Nat} (h0 : ∀ i, i < j → (decide (3 ≤ u.length) && Lb.isPre u (N.getD i [])) = false) (hj : j < N.length) (h1 : (decide (3 ≤ u.length) && Lb.isPre u (N.getD j [])) = true) : bgV N u = j := by
  have : Lb.bgF N u = some j := by
    unfold Lb.bgF
    rw [List.findIdx?_eq_some_iff_getElem]
    refine ⟨hj, by simpa [List.getD_eq_getElem?_getD, hj] using h1, fun i hi => ?_⟩
    have := h0 i hi
    simpa [List.getD_eq_getElem?_getD, Nat.lt_trans hi hj] using this
  unfold bgV
  rw [this]
theorem bgV_none {N : List Wd} {u : Wd} (h0 : ∀ i, i < N.length → (decide (3 ≤ u.length) && Lb.isPre u (N.getD i [])) = false) : bgV N u = -1 := by
  have : Lb.bgF N u = none := by
    unfold Lb.bgF
    rw [List.findIdx?_eq_none_iff]
    intro x hx
    obtain ⟨i, hi, e⟩ := List.getElem_of_mem hx
    have := h0 i hi
    simpa [List.getD_eq_getElem?_getD, hi, e] using this
  unfold bgV
  rw [this]
set_option maxRecDepth 100000 in
set_option maxHeartbeats 2000000 in
theorem begun_any (u : Wd) (hu : u.length ≤ 100000) (hN : ∀ j, ([a0, a1, a2, a3, a4, a5, a6, a7, a8, a9, a10, a11].getD j []).length ≤ 1000) (w : World) : Calls Tryz.prog 40 #[.agg #[.string (Ml.mk a0), .string (Ml.mk a1), .string (Ml.mk a2), .string (Ml.mk a3), .string (Ml.mk a4), .string (Ml.mk a5), .string (Ml.mk a6), .string (Ml.mk a7), .string (Ml.mk a8), .string (Ml.mk a9), .string (Ml.mk a10), .string (Ml.mk a11)], .string (Ml.mk u)] w (fun e w' => e = .returned (.int .i64 (bgV [a0, a1, a2, a3, a4, a5, a6, a7, a8, a9, a10, a11] u)) ∧ Below w.heap.size w w') := by
  have hix := names_ix a0 a1 a2 a3 a4 a5 a6 a7 a8 a9 a10 a11
  obtain ⟨N, hNN⟩ : ∃ N : List Wd, [a0, a1, a2, a3, a4, a5, a6, a7, a8, a9, a10, a11] = N := ⟨_, rfl⟩
  have hlen : N.length = 12 := by rw [← hNN]; rfl
  rw [hNN] at hix hN
  rw [hNN]
  clear hNN
  have HIX := Lib.hid hix
  have HN := Lib.hid hN
  have HLEN := Lib.hid hlen
  clear hix hN hlen
  have h2 : (Ml.mk u).size = u.length := rfl
  go_enter Tryz.func40, Tryz.ntmps40
  go_wp2_with fail
  have hB : Below w.heap.size w (w.alloc (.cells #[.string (Ml.mk a0), .string (Ml.mk a1), .string (Ml.mk a2), .string (Ml.mk a3), .string (Ml.mk a4), .string (Ml.mk a5), .string (Ml.mk a6), .string (Ml.mk a7), .string (Ml.mk a8), .string (Ml.mk a9), .string (Ml.mk a10), .string (Ml.mk a11)] 53)) := bbox (Below.refl _ _) _
  generalize w.alloc (.cells #[.string (Ml.mk a0), .string (Ml.mk a1), .string (Ml.mk a2), .string (Ml.mk a3), .string (Ml.mk a4), .string (Ml.mk a5), .string (Ml.mk a6), .string (Ml.mk a7), .string (Ml.mk a8), .string (Ml.mk a9), .string (Ml.mk a10), .string (Ml.mk a11)] 53) = W1 at *
  go_loop [8] (fun k => ∃ j : Nat, j ≤ 12 ∧ k = .int .i64 j ∧ ∀ i, i < j → (decide (3 ≤ u.length) && Lb.isPre u (N.getD i [])) = false) (fun k => 12 - (intOf k).toNat)
  case atStart => exact ⟨0, by omega, rfl, fun i h => by omega⟩
  case round =>
    obtain ⟨j, hj, rfl, hr⟩ := hrel
    have HR := Lib.hid hr
    clear hr
    by_cases hlt : j < 12
    · have hi := HIX.out j hlt
      have l1 : (j : Int) < 12 := by omega
      have hp := fun w => pre_any (N.getD j []) u (by have := HN.out j; omega) hu w
      have hs1 := fun h => bgV_some (N := N) (u := u) (j := j) HR.out (by rw [HLEN.out]; exact hlt) h
      have hs2 : (decide (3 ≤ u.length) && Lb.isPre u (N.getD j [])) = false → ∀ i, i < j + 1 → (decide (3 ≤ u.length) && Lb.isPre u (N.getD i [])) = false := fun h i hi => by
        by_cases e : i = j
        · rw [e]; exact h
        · exact HR.out i (by omega)
      have HS1 := Lib.hid hs1
      have HS2 := Lib.hid hs2
      clear hs1 hs2
      obtain ⟨b, hb⟩ : ∃ b, Lb.isPre u (N.getD j []) = b := ⟨_, rfl⟩
      rw [hb] at hp
      have HB := Lib.hid hb
      clear hb
      generalize Ml.mk (N.getD j []) = A at *
      by_cases l3 : (3 : Int) ≤ (u.length : Int)
      · cases b
        · have hnext := HS2.out (by rw [HB.out, Bool.and_false])
          have HNX := Lib.hid hnext
          clear hnext
          go_wp2_with (go_at_call 91; refine (hp _).mono ?_; rintro e w2 ⟨rfl, rfl⟩)
          go_round
          case rel => exact ⟨j + 1, by omega, by go_num, HNX.out⟩
          case measure => simp [intOf]; omega
        · have hres := HS1.out (by rw [HB.out, Bool.and_true]; exact decide_eq_true (by omega))
          have HRS := Lib.hid hres
          clear hres
          go_wp2_with (go_at_call 91; refine (hp _).mono ?_; rintro e w2 ⟨rfl, rfl⟩)
          go_ret
          exact ⟨by rw [HRS.out]; rfl, hB⟩
      · have hnext := HS2.out (by rw [decide_eq_false (by omega), Bool.false_and])
        have HNX := Lib.hid hnext
        clear hnext
        go_wp2
        go_round
        case rel => exact ⟨j + 1, by omega, by go_num, HNX.out⟩
        case measure => simp [intOf]; omega
    · obtain rfl : j = 12 := by omega
      have hres := bgV_none (N := N) (u := u) (by rw [HLEN.out]; exact HR.out)
      have HRS := Lib.hid hres
      clear hres
      go_wp2
      go_ret
      exact ⟨by rw [HRS.out]; rfl, hB⟩
end
theorem bgV_bd (N : List Wd) (u : Wd) (h : N.length ≤ 12) : -1 ≤ bgV N u ∧ bgV N u ≤ 11 := by
  unfold bgV
  split
  · rename_i i e
    have := (List.findIdx?_eq_some_iff_getElem.1 e).1
    omega
  · omega
theorem mon_is (u : Wd) : Lb.monF u = 1 + bgV Lb.months u := by
  unfold Lb.monF bgV
  split
  · rename_i i e; rw [e]; simp; omega
  · rename_i e; rw [e]; rfl
def dayl : List Wd := Lb.days ++ [[], [], [], [], []]
theorem wk_is (u : Wd) : Lb.wkB u = decide (0 ≤ bgV dayl u) := by
  unfold Lb.wkB bgV dayl
  have hnil : ∀ n ∈ ([[], [], [], [], []] : List Wd), (decide (3 ≤ u.length) && Lb.isPre u n) = false := fun n hn => by
    have : n = [] := by simpa using hn
    subst this
    cases u with
    | nil => rfl
    | cons a b => simp [Lb.isPre]
  have e : Lb.bgF (Lb.days ++ [[], [], [], [], []]) u = Lb.bgF Lb.days u := by
    unfold Lb.bgF
    rw [List.findIdx?_append]
    have : List.findIdx? (fun n => decide (3 ≤ u.length) && Lb.isPre u n) ([[], [], [], [], []] : List Wd) = none := by
      rw [List.findIdx?_eq_none_iff]
      exact hnil
    rw [this]
    simp
  rw [e]
  cases Lb.bgF Lb.days u with
  | none => rfl
  | some i => simp
set_option maxRecDepth 100000 in
set_option maxHeartbeats 2000000 in
theorem lmon_any (u : Wd) (hu : u.length ≤ 100000) (w : World) : Calls Tryz.prog 13 #[.string (Ml.mk u)] w (fun e w' => e = .returned (.int .i64 (Lb.monF u)) ∧ Below w.heap.size w w') := by
  have h := fun w => begun_any [106, 97, 110, 117, 97, 114, 121] [102, 101, 98, 114, 117, 97, 114, 121] [109, 97, 114, 99, 104] [97, 112, 114, 105, 108] [109, 97, 121] [106, 117, 110, 101] [106, 117, 108, 121] [97, 117, 103, 117, 115, 116] [115, 101, 112, 116, 101, 109, 98, 101, 114] [111, 99, 116, 111, 98, 101, 114] [110, 111, 118, 101, 109, 98, 101, 114] [100, 101, 99, 101, 109, 98, 101, 114] u hu (fun j => by
    match j with
    | 0 => decide
    | 1 => decide
    | 2 => decide
    | 3 => decide
    | 4 => decide
    | 5 => decide
    | 6 => decide
    | 7 => decide
    | 8 => decide
    | 9 => decide
    | 10 => decide
    | 11 => decide
    | n + 12 => simp) w
  obtain ⟨v, hv⟩ : ∃ v, bgV Lb.months u = v := ⟨_, rfl⟩
  have hbd := bgV_bd Lb.months u (by decide)
  rw [mon_is]
  rw [hv] at hbd
  rw [hv]
  have hv2 : bgV [[106, 97, 110, 117, 97, 114, 121], [102, 101, 98, 114, 117, 97, 114, 121], [109, 97, 114, 99, 104], [97, 112, 114, 105, 108], [109, 97, 121], [106, 117, 110, 101], [106, 117, 108, 121], [97, 117, 103, 117, 115, 116], [115, 101, 112, 116, 101, 109, 98, 101, 114], [111, 99, 116, 111, 98, 101, 114], [110, 111, 118, 101, 109, 98, 101, 114], [100, 101, 99, 101, 109, 98, 101, 114]] u = v := hv
  rw [hv2] at h
  clear hv hv2
  go_enter Tryz.func13, Tryz.ntmps13
  go_wp2_with (go_at_call 40; refine (h _).mono ?_; rintro e w2 ⟨rfl, hB⟩)
  go_ret
  exact ⟨rfl, hB⟩
set_option maxRecDepth 100000 in
set_option maxHeartbeats 2000000 in
theorem lwk_any (u : Wd) (hu : u.length ≤ 100000) (w : World) : Calls Tryz.prog 15 #[.string (Ml.mk u)] w (fun e w' => e = .returned (.bool (Lb.wkB u)) ∧ Below w.heap.size w w') := by
  have h := fun w => begun_any [109, 111, 110, 100, 97, 121] [116, 117, 101, 115, 100, 97, 121] [119, 101, 100, 110, 101, 115, 100, 97, 121] [116, 104, 117, 114, 115, 100, 97, 121] [102, 114, 105, 100, 97, 121] [115, 97, 116, 117, 114, 100, 97, 121] [115, 117, 110, 100, 97, 121] [] [] [] [] [] u hu (fun j => by
    match j with
    | 0 => decide
    | 1 => decide
    | 2 => decide
    | 3 => decide
    | 4 => decide
    | 5 => decide
    | 6 => decide
    | 7 => decide
    | 8 => decide
    | 9 => decide
    | 10 => decide
    | 11 => decide
    | n + 12 => simp) w
  obtain ⟨v, hv⟩ : ∃ v, bgV dayl u = v := ⟨_, rfl⟩
  rw [wk_is]
  rw [hv]
  have hv2 : bgV [[109, 111, 110, 100, 97, 121], [116, 117, 101, 115, 100, 97, 121], [119, 101, 100, 110, 101, 115, 100, 97, 121], [116, 104, 117, 114, 115, 100, 97, 121], [102, 114, 105, 100, 97, 121], [115, 97, 116, 117, 114, 100, 97, 121], [115, 117, 110, 100, 97, 121], [], [], [], [], []] u = v := hv
  rw [hv2] at h
  clear hv hv2
  go_enter Tryz.func15, Tryz.ntmps15
  go_wp2_with (go_at_call 40; refine (h _).mono ?_; rintro e w2 ⟨rfl, hB⟩)
  go_ret
  exact ⟨rfl, hB⟩
end Go.Proofs.YtbhafhbaldddiaaGreatDoor
namespace Go.Proofs.YtbhafhbaldddiaaGreatDoor
open Go.RowKit
open Go
open Lb (R Wd)
set_option linter.unusedVariables false
theorem mb_yes {u : Wd} {r : R} (h : Lb.mbB u r = true) : Lb.mbR u r = Lb.tl r := by
  unfold Lb.mbB at h
  unfold Lb.mbR
  rw [if_pos (of_decide_eq_true h)]
theorem mb_no {u : Wd} {r : R} (h : Lb.mbB u r = false) : Lb.mbR u r = r := by
  unfold Lb.mbB at h
  unfold Lb.mbR
  rw [if_neg (of_decide_eq_false h)]
theorem PRow.setB {W : World} {B : Nat} {v : Value} {l : List Wd} (h : PRow W B v l) (j : Nat) (x : Value) : PRow (W.setCell ⟨B, j, none⟩ x) B v l :=
  h.far fun a ha => World.cell?_setCell_other _ _ _ _ (fun e => absurd (congrArg Addr.block e) (by show ¬ B = _; omega))
section
variable {w0 W : World} {B : Nat} {r : R}
def Tail2 (w0 W : World) (B : Nat) (r : R) : Prop :=
  (∃ g i, W.cell? ⟨B, 0, none⟩ = some (.slice (some ⟨g, i, none⟩) 1 1) ∧ W.cell? ⟨g, i, none⟩ = some (.string (Ml.mk (Lb.nx r))) ∧ W.frozen? ⟨B, 0, none⟩ = false ∧ Hid (PRow W B (.slice (some ⟨g, i, none⟩) 0 0) r.l.tail)) ∨
  (∃ g i n c, W.cell? ⟨B, 0, none⟩ = some (.slice (some ⟨g, i, none⟩) (n + 1) (c + 2)) ∧ n ≤ c + 1 ∧ W.cell? ⟨g, i, none⟩ = some (.string (Ml.mk (Lb.nx r))) ∧ W.frozen? ⟨B, 0, none⟩ = false ∧ Hid (PRow W B (.slice (some ⟨g, i + 1, none⟩) n (c + 1)) r.l.tail))
theorem Rd.tail2 (h : Rd w0 W B r) (hl : r.l ≠ []) : Tail2 w0 W B r := by
  obtain ⟨p, c, ⟨k0, hc⟩, hp, _, f0, _⟩ := h.open_
  unfold Tail2
  have hnx : ∀ x t, r.l = x :: t → Lb.nx r = x := fun x t e => by unfold Lb.nx; rw [e]; rfl
  obtain ⟨l, e⟩ : ∃ l, r.l = l := ⟨_, rfl⟩
  rw [e] at k0 hc hp hl ⊢
  cases l with
  | nil => exact absurd rfl hl
  | cons x t =>
    rw [hnx x t e]
    obtain ⟨g, i, rfl, hx, hr⟩ := hp.first
    rw [List.length_cons] at k0 hc
    match c, hc with
    | 1, hc =>
      have ht : t.length = 0 := by omega
      rw [ht] at k0 hr
      exact Or.inl ⟨g, i, k0, hx, f0, Lib.hid hr⟩
    | c + 2, hc =>
      have e1 : c + 2 - 1 = c + 1 := rfl
      rw [if_pos (by omega), e1] at hr
      exact Or.inr ⟨g, i, t.length, c, k0, by omega, hx, f0, Lib.hid hr⟩
theorem Rd.num12 (h : Rd w0 W B r) : Calls Tryz.prog 56 #[.pointer (some ⟨B, 0, none⟩), .int .i64 1, .int .i64 2] W (RdPost (.int .i64 (Lb.nmV 1 2 r)) w0 B (Lb.nmR 1 2 r)) := h.number 1 2 (by omega) (by omega)
theorem Rd.dig12 (h : Rd w0 W B r) : Calls Tryz.prog 59 #[.pointer (some ⟨B, 0, none⟩), .int .i64 1, .int .i64 2] W (RdPost (.bool (Lb.dgs 1 2 r)) w0 B r) := h.digits 1 2 (by omega) (by omega)
theorem Rd.num22 (h : Rd w0 W B r) : Calls Tryz.prog 56 #[.pointer (some ⟨B, 0, none⟩), .int .i64 2, .int .i64 2] W (RdPost (.int .i64 (Lb.nmV 2 2 r)) w0 B (Lb.nmR 2 2 r)) := h.number 2 2 (by omega) (by omega)
theorem Rd.dig22 (h : Rd w0 W B r) : Calls Tryz.prog 59 #[.pointer (some ⟨B, 0, none⟩), .int .i64 2, .int .i64 2] W (RdPost (.bool (Lb.dgs 2 2 r)) w0 B r) := h.digits 2 2 (by omega) (by omega)
theorem Rd.num44 (h : Rd w0 W B r) : Calls Tryz.prog 56 #[.pointer (some ⟨B, 0, none⟩), .int .i64 4, .int .i64 4] W (RdPost (.int .i64 (Lb.nmV 4 4 r)) w0 B (Lb.nmR 4 4 r)) := h.number 4 4 (by omega) (by omega)
theorem Rd.dig44 (h : Rd w0 W B r) : Calls Tryz.prog 59 #[.pointer (some ⟨B, 0, none⟩), .int .i64 4, .int .i64 4] W (RdPost (.bool (Lb.dgs 4 4 r)) w0 B r) := h.digits 4 4 (by omega) (by omega)
theorem Rd.num1m (h : Rd w0 W B r) : Calls Tryz.prog 56 #[.pointer (some ⟨B, 0, none⟩), .int .i64 1, .int .i64 1048576] W (RdPost (.int .i64 (Lb.nmV 1 1048576 r)) w0 B (Lb.nmR 1 1048576 r)) := h.number 1 1048576 (by omega) (by omega)
theorem Rd.dig1m (h : Rd w0 W B r) : Calls Tryz.prog 59 #[.pointer (some ⟨B, 0, none⟩), .int .i64 1, .int .i64 1048576] W (RdPost (.bool (Lb.dgs 1 1048576 r)) w0 B r) := h.digits 1 1048576 (by omega) (by omega)
theorem Rd.mb58 (h : Rd w0 W B r) : Calls Tryz.prog 58 #[.pointer (some ⟨B, 0, none⟩), .string ⟨#[58]⟩] W (RdPost (.bool (Lb.mbB [58] r)) w0 B (Lb.mbR [58] r)) := h.maybe [58] (by simp) (by simp)
theorem Rd.mb46 (h : Rd w0 W B r) : Calls Tryz.prog 58 #[.pointer (some ⟨B, 0, none⟩), .string ⟨#[46]⟩] W (RdPost (.bool (Lb.mbB [46] r)) w0 B (Lb.mbR [46] r)) := h.maybe [46] (by simp) (by simp)
theorem Rd.mb45 (h : Rd w0 W B r) : Calls Tryz.prog 58 #[.pointer (some ⟨B, 0, none⟩), .string ⟨#[45]⟩] W (RdPost (.bool (Lb.mbB [45] r)) w0 B (Lb.mbR [45] r)) := h.maybe [45] (by simp) (by simp)
theorem Rd.mb44 (h : Rd w0 W B r) : Calls Tryz.prog 58 #[.pointer (some ⟨B, 0, none⟩), .string ⟨#[44]⟩] W (RdPost (.bool (Lb.mbB [44] r)) w0 B (Lb.mbR [44] r)) := h.maybe [44] (by simp) (by simp)
theorem Rd.mb116 (h : Rd w0 W B r) : Calls Tryz.prog 58 #[.pointer (some ⟨B, 0, none⟩), .string ⟨#[116]⟩] W (RdPost (.bool (Lb.mbB [116] r)) w0 B (Lb.mbR [116] r)) := h.maybe [116] (by simp) (by simp)
theorem Rd.mb43 (h : Rd w0 W B r) : Calls Tryz.prog 58 #[.pointer (some ⟨B, 0, none⟩), .string ⟨#[43]⟩] W (RdPost (.bool (Lb.mbB [43] r)) w0 B (Lb.mbR [43] r)) := h.maybe [43] (by simp) (by simp)
theorem Rd.mu58 (h : Rd w0 W B r) : Calls Tryz.prog 57 #[.pointer (some ⟨B, 0, none⟩), .string ⟨#[58]⟩] W (RdPost (.tuple #[]) w0 B (Lb.muR [58] r)) := h.must [58] (by simp) (by simp)
theorem Rd.mu45 (h : Rd w0 W B r) : Calls Tryz.prog 57 #[.pointer (some ⟨B, 0, none⟩), .string ⟨#[45]⟩] W (RdPost (.tuple #[]) w0 B (Lb.muR [45] r)) := h.must [45] (by simp) (by simp)
set_option maxHeartbeats 2000000 in
theorem Rd.clock (h : Rd w0 W B r) : Calls Tryz.prog 24 #[.pointer (some ⟨B, 0, none⟩)] W (RdPost (.bool (Lb.clB r)) w0 B (Lb.clR r)) := by
  have H := Lib.hid h
  clear h
  unfold RdPost Lb.clR
  obtain ⟨b, hb⟩ : ∃ b, Lb.clB r = b := ⟨_, rfl⟩
  rw [hb]
  have hb2 : Lb.dgs 1 1048576 r = b := hb
  clear hb
  cases b
  · rw [if_neg (by decide)]
    go_enter Tryz.func24, Tryz.ntmps24
    go_wp2_with fail
    have hm := H.out.dig1m
    rw [hb2] at hm
    refine hm.mono ?_
    clear hm
    rintro e w1 ⟨rfl, h1⟩
    obtain ⟨_, _, -, -, ⟨k1, k2, k3, k4, k5, k6, k7, k8⟩, f0, f1, f2, f3, f4, f5, f6, f7, f8⟩ := h1.open_
    have H1 : Hid (Rd w0 _ B (r)) := Lib.hid (h1)
    clear H h1
    go_wp2_with fail
    go_ret
    exact ⟨rfl, H1.out⟩
  · rw [if_pos rfl]
    obtain ⟨b, hb⟩ : ∃ b, Lb.mbB [58] (Lb.cl3 r) = b := ⟨_, rfl⟩
    rw [hb]
    cases b
    · rw [if_neg (by decide)]
      go_enter Tryz.func24, Tryz.ntmps24
      go_wp2_with fail
      have hm := H.out.dig1m
      rw [hb2] at hm
      refine hm.mono ?_
      clear hm
      rintro e w1 ⟨rfl, h1⟩
      obtain ⟨_, _, -, -, ⟨k1, k2, k3, k4, k5, k6, k7, k8⟩, f0, f1, f2, f3, f4, f5, f6, f7, f8⟩ := h1.open_
      have H1 : Hid (Rd w0 _ B (r)) := Lib.hid (h1)
      clear H h1
      go_wp2_with fail
      refine H1.out.num12.mono ?_
      rintro e w2 ⟨rfl, h1⟩
      clear k1 k2 k3 k4 k5 k6 k7 k8 f0 f1 f2 f3 f4 f5 f6 f7 f8
      obtain ⟨_, _, -, -, ⟨k1, k2, k3, k4, k5, k6, k7, k8⟩, f0, f1, f2, f3, f4, f5, f6, f7, f8⟩ := h1.open_
      have H2 : Hid (Rd w0 _ B (Lb.cl1 r)) := Lib.hid (h1.sH _)
      clear H1 h1
      go_wp2_with fail
      refine H2.out.mu58.mono ?_
      rintro e w3 ⟨rfl, h1⟩
      clear k1 k2 k3 k4 k5 k6 k7 k8 f0 f1 f2 f3 f4 f5 f6 f7 f8
      obtain ⟨_, _, -, -, ⟨k1, k2, k3, k4, k5, k6, k7, k8⟩, f0, f1, f2, f3, f4, f5, f6, f7, f8⟩ := h1.open_
      have H3 : Hid (Rd w0 _ B (Lb.cl2 r)) := Lib.hid (h1)
      clear H2 h1
      go_wp2_with fail
      refine H3.out.num22.mono ?_
      rintro e w4 ⟨rfl, h1⟩
      clear k1 k2 k3 k4 k5 k6 k7 k8 f0 f1 f2 f3 f4 f5 f6 f7 f8
      obtain ⟨_, _, -, -, ⟨k1, k2, k3, k4, k5, k6, k7, k8⟩, f0, f1, f2, f3, f4, f5, f6, f7, f8⟩ := h1.open_
      have H4 : Hid (Rd w0 _ B (Lb.cl3 r)) := Lib.hid (h1.sMi _)
      clear H3 h1
      go_wp2_with fail
      have hm := H4.out.mb58
      rw [hb, mb_no hb] at hm
      refine hm.mono ?_
      clear hm
      rintro e w5 ⟨rfl, h1⟩
      clear k1 k2 k3 k4 k5 k6 k7 k8 f0 f1 f2 f3 f4 f5 f6 f7 f8
      obtain ⟨_, _, -, -, ⟨k1, k2, k3, k4, k5, k6, k7, k8⟩, f0, f1, f2, f3, f4, f5, f6, f7, f8⟩ := h1.open_
      have H5 : Hid (Rd w0 _ B (Lb.cl3 r)) := Lib.hid (h1)
      clear H4 h1
      go_wp2_with fail
      go_ret
      exact ⟨rfl, H5.out⟩
    · rw [if_pos rfl]
      obtain ⟨b, hb3⟩ : ∃ b, Lb.mbB [46] (Lb.cl4 (Lb.tl (Lb.cl3 r))) = b := ⟨_, rfl⟩
      rw [hb3]
      cases b
      · rw [if_neg (by decide)]
        go_enter Tryz.func24, Tryz.ntmps24
        go_wp2_with fail
        have hm := H.out.dig1m
        rw [hb2] at hm
        refine hm.mono ?_
        clear hm
        rintro e w1 ⟨rfl, h1⟩
        obtain ⟨_, _, -, -, ⟨k1, k2, k3, k4, k5, k6, k7, k8⟩, f0, f1, f2, f3, f4, f5, f6, f7, f8⟩ := h1.open_
        have H1 : Hid (Rd w0 _ B (r)) := Lib.hid (h1)
        clear H h1
        go_wp2_with fail
        refine H1.out.num12.mono ?_
        rintro e w2 ⟨rfl, h1⟩
        clear k1 k2 k3 k4 k5 k6 k7 k8 f0 f1 f2 f3 f4 f5 f6 f7 f8
        obtain ⟨_, _, -, -, ⟨k1, k2, k3, k4, k5, k6, k7, k8⟩, f0, f1, f2, f3, f4, f5, f6, f7, f8⟩ := h1.open_
        have H2 : Hid (Rd w0 _ B (Lb.cl1 r)) := Lib.hid (h1.sH _)
        clear H1 h1
        go_wp2_with fail
        refine H2.out.mu58.mono ?_
        rintro e w3 ⟨rfl, h1⟩
        clear k1 k2 k3 k4 k5 k6 k7 k8 f0 f1 f2 f3 f4 f5 f6 f7 f8
        obtain ⟨_, _, -, -, ⟨k1, k2, k3, k4, k5, k6, k7, k8⟩, f0, f1, f2, f3, f4, f5, f6, f7, f8⟩ := h1.open_
        have H3 : Hid (Rd w0 _ B (Lb.cl2 r)) := Lib.hid (h1)
        clear H2 h1
        go_wp2_with fail
        refine H3.out.num22.mono ?_
        rintro e w4 ⟨rfl, h1⟩
        clear k1 k2 k3 k4 k5 k6 k7 k8 f0 f1 f2 f3 f4 f5 f6 f7 f8
        obtain ⟨_, _, -, -, ⟨k1, k2, k3, k4, k5, k6, k7, k8⟩, f0, f1, f2, f3, f4, f5, f6, f7, f8⟩ := h1.open_
        have H4 : Hid (Rd w0 _ B (Lb.cl3 r)) := Lib.hid (h1.sMi _)
        clear H3 h1
        go_wp2_with fail
        have hm := H4.out.mb58
        rw [hb, mb_yes hb] at hm
        refine hm.mono ?_
        clear hm
        rintro e w5 ⟨rfl, h1⟩
        clear k1 k2 k3 k4 k5 k6 k7 k8 f0 f1 f2 f3 f4 f5 f6 f7 f8
        obtain ⟨_, _, -, -, ⟨k1, k2, k3, k4, k5, k6, k7, k8⟩, f0, f1, f2, f3, f4, f5, f6, f7, f8⟩ := h1.open_
        have H5 : Hid (Rd w0 _ B (Lb.tl (Lb.cl3 r))) := Lib.hid (h1)
        clear H4 h1
        go_wp2_with fail
        refine H5.out.num22.mono ?_
        rintro e w6 ⟨rfl, h1⟩
        clear k1 k2 k3 k4 k5 k6 k7 k8 f0 f1 f2 f3 f4 f5 f6 f7 f8
        obtain ⟨_, _, -, -, ⟨k1, k2, k3, k4, k5, k6, k7, k8⟩, f0, f1, f2, f3, f4, f5, f6, f7, f8⟩ := h1.open_
        have H6 : Hid (Rd w0 _ B (Lb.cl4 (Lb.tl (Lb.cl3 r)))) := Lib.hid (h1.sS _)
        clear H5 h1
        go_wp2_with fail
        have hm := H6.out.mb46
        rw [hb3, mb_no hb3] at hm
        refine hm.mono ?_
        clear hm
        rintro e w7 ⟨rfl, h1⟩
        clear k1 k2 k3 k4 k5 k6 k7 k8 f0 f1 f2 f3 f4 f5 f6 f7 f8
        obtain ⟨_, _, -, -, ⟨k1, k2, k3, k4, k5, k6, k7, k8⟩, f0, f1, f2, f3, f4, f5, f6, f7, f8⟩ := h1.open_
        have H7 : Hid (Rd w0 _ B (Lb.cl4 (Lb.tl (Lb.cl3 r)))) := Lib.hid (h1)
        clear H6 h1
        go_wp2_with fail
        go_ret
        exact ⟨rfl, H7.out⟩
      · rw [if_pos rfl]
        go_enter Tryz.func24, Tryz.ntmps24
        go_wp2_with fail
        have hm := H.out.dig1m
        rw [hb2] at hm
        refine hm.mono ?_
        clear hm
        rintro e w1 ⟨rfl, h1⟩
        obtain ⟨_, _, -, -, ⟨k1, k2, k3, k4, k5, k6, k7, k8⟩, f0, f1, f2, f3, f4, f5, f6, f7, f8⟩ := h1.open_
        have H1 : Hid (Rd w0 _ B (r)) := Lib.hid (h1)
        clear H h1
        go_wp2_with fail
        refine H1.out.num12.mono ?_
        rintro e w2 ⟨rfl, h1⟩
        clear k1 k2 k3 k4 k5 k6 k7 k8 f0 f1 f2 f3 f4 f5 f6 f7 f8
        obtain ⟨_, _, -, -, ⟨k1, k2, k3, k4, k5, k6, k7, k8⟩, f0, f1, f2, f3, f4, f5, f6, f7, f8⟩ := h1.open_
        have H2 : Hid (Rd w0 _ B (Lb.cl1 r)) := Lib.hid (h1.sH _)
        clear H1 h1
        go_wp2_with fail
        refine H2.out.mu58.mono ?_
        rintro e w3 ⟨rfl, h1⟩
        clear k1 k2 k3 k4 k5 k6 k7 k8 f0 f1 f2 f3 f4 f5 f6 f7 f8
        obtain ⟨_, _, -, -, ⟨k1, k2, k3, k4, k5, k6, k7, k8⟩, f0, f1, f2, f3, f4, f5, f6, f7, f8⟩ := h1.open_
        have H3 : Hid (Rd w0 _ B (Lb.cl2 r)) := Lib.hid (h1)
        clear H2 h1
        go_wp2_with fail
        refine H3.out.num22.mono ?_
        rintro e w4 ⟨rfl, h1⟩
        clear k1 k2 k3 k4 k5 k6 k7 k8 f0 f1 f2 f3 f4 f5 f6 f7 f8
        obtain ⟨_, _, -, -, ⟨k1, k2, k3, k4, k5, k6, k7, k8⟩, f0, f1, f2, f3, f4, f5, f6, f7, f8⟩ := h1.open_
        have H4 : Hid (Rd w0 _ B (Lb.cl3 r)) := Lib.hid (h1.sMi _)
        clear H3 h1
        go_wp2_with fail
        have hm := H4.out.mb58
        rw [hb, mb_yes hb] at hm
        refine hm.mono ?_
        clear hm
        rintro e w5 ⟨rfl, h1⟩
        clear k1 k2 k3 k4 k5 k6 k7 k8 f0 f1 f2 f3 f4 f5 f6 f7 f8
        obtain ⟨_, _, -, -, ⟨k1, k2, k3, k4, k5, k6, k7, k8⟩, f0, f1, f2, f3, f4, f5, f6, f7, f8⟩ := h1.open_
        have H5 : Hid (Rd w0 _ B (Lb.tl (Lb.cl3 r))) := Lib.hid (h1)
        clear H4 h1
        go_wp2_with fail
        refine H5.out.num22.mono ?_
        rintro e w6 ⟨rfl, h1⟩
        clear k1 k2 k3 k4 k5 k6 k7 k8 f0 f1 f2 f3 f4 f5 f6 f7 f8
        obtain ⟨_, _, -, -, ⟨k1, k2, k3, k4, k5, k6, k7, k8⟩, f0, f1, f2, f3, f4, f5, f6, f7, f8⟩ := h1.open_
        have H6 : Hid (Rd w0 _ B (Lb.cl4 (Lb.tl (Lb.cl3 r)))) := Lib.hid (h1.sS _)
        clear H5 h1
        go_wp2_with fail
        have hm := H6.out.mb46
        rw [hb3, mb_yes hb3] at hm
        refine hm.mono ?_
        clear hm
        rintro e w7 ⟨rfl, h1⟩
        clear k1 k2 k3 k4 k5 k6 k7 k8 f0 f1 f2 f3 f4 f5 f6 f7 f8
        obtain ⟨_, _, -, -, ⟨k1, k2, k3, k4, k5, k6, k7, k8⟩, f0, f1, f2, f3, f4, f5, f6, f7, f8⟩ := h1.open_
        have H7 : Hid (Rd w0 _ B (Lb.tl (Lb.cl4 (Lb.tl (Lb.cl3 r))))) := Lib.hid (h1)
        clear H6 h1
        go_wp2_with fail
        refine H7.out.num1m.mono ?_
        rintro e w8 ⟨rfl, h1⟩
        clear k1 k2 k3 k4 k5 k6 k7 k8 f0 f1 f2 f3 f4 f5 f6 f7 f8
        obtain ⟨_, _, -, -, ⟨k1, k2, k3, k4, k5, k6, k7, k8⟩, f0, f1, f2, f3, f4, f5, f6, f7, f8⟩ := h1.open_
        have H8 : Hid (Rd w0 _ B (Lb.nmR 1 1048576 (Lb.tl (Lb.cl4 (Lb.tl (Lb.cl3 r)))))) := Lib.hid (h1)
        clear H7 h1
        go_wp2_with fail
        go_ret
        exact ⟨rfl, H8.out⟩
set_option maxHeartbeats 2000000 in
theorem Rd.first (h : Rd w0 W B r) : Calls Tryz.prog 21 #[.pointer (some ⟨B, 0, none⟩)] W (RdPost (.tuple #[]) w0 B (Lb.fst r)) := by
  have H := Lib.hid h
  clear h
  unfold RdPost Lb.fst Lb.fT
  obtain ⟨b, hb⟩ : ∃ b, Lb.mbB [116] (Lb.nmD (Lb.f1b (Lb.f1a r))) = b := ⟨_, rfl⟩
  rw [hb]
  cases b
  · rw [if_neg (by decide)]
    go_enter Tryz.func21, Tryz.ntmps21
    go_wp2_with fail
    refine H.out.num44.mono ?_
    rintro e w1 ⟨rfl, h1⟩
    obtain ⟨_, _, -, -, ⟨k1, k2, k3, k4, k5, k6, k7, k8⟩, f0, f1, f2, f3, f4, f5, f6, f7, f8⟩ := h1.open_
    have H1 : Hid (Rd w0 _ B (Lb.sY (Lb.nmV 4 4 r) (Lb.nmR 4 4 r))) := Lib.hid (h1.sY _)
    clear H h1
    go_wp2_with fail
    refine H1.out.mu45.mono ?_
    rintro e w2 ⟨rfl, h1⟩
    clear k1 k2 k3 k4 k5 k6 k7 k8 f0 f1 f2 f3 f4 f5 f6 f7 f8
    obtain ⟨_, _, -, -, ⟨k1, k2, k3, k4, k5, k6, k7, k8⟩, f0, f1, f2, f3, f4, f5, f6, f7, f8⟩ := h1.open_
    have H2 : Hid (Rd w0 _ B (Lb.f1a r)) := Lib.hid (h1)
    clear H1 h1
    go_wp2_with fail
    refine H2.out.num12.mono ?_
    rintro e w3 ⟨rfl, h1⟩
    clear k1 k2 k3 k4 k5 k6 k7 k8 f0 f1 f2 f3 f4 f5 f6 f7 f8
    obtain ⟨_, _, -, -, ⟨k1, k2, k3, k4, k5, k6, k7, k8⟩, f0, f1, f2, f3, f4, f5, f6, f7, f8⟩ := h1.open_
    have H3 : Hid (Rd w0 _ B (Lb.sMo (Lb.nmV 1 2 (Lb.f1a r)) (Lb.nmR 1 2 (Lb.f1a r)))) := Lib.hid (h1.sMo _)
    clear H2 h1
    go_wp2_with fail
    refine H3.out.mu45.mono ?_
    rintro e w4 ⟨rfl, h1⟩
    clear k1 k2 k3 k4 k5 k6 k7 k8 f0 f1 f2 f3 f4 f5 f6 f7 f8
    obtain ⟨_, _, -, -, ⟨k1, k2, k3, k4, k5, k6, k7, k8⟩, f0, f1, f2, f3, f4, f5, f6, f7, f8⟩ := h1.open_
    have H4 : Hid (Rd w0 _ B (Lb.f1b (Lb.f1a r))) := Lib.hid (h1)
    clear H3 h1
    go_wp2_with fail
    refine H4.out.num12.mono ?_
    rintro e w5 ⟨rfl, h1⟩
    clear k1 k2 k3 k4 k5 k6 k7 k8 f0 f1 f2 f3 f4 f5 f6 f7 f8
    obtain ⟨_, _, -, -, ⟨k1, k2, k3, k4, k5, k6, k7, k8⟩, f0, f1, f2, f3, f4, f5, f6, f7, f8⟩ := h1.open_
    have H5 : Hid (Rd w0 _ B (Lb.nmD (Lb.f1b (Lb.f1a r)))) := Lib.hid (h1.sD _)
    clear H4 h1
    go_wp2_with fail
    have hm := H5.out.mb116
    rw [hb, mb_no hb] at hm
    refine hm.mono ?_
    clear hm
    rintro e w6 ⟨rfl, h1⟩
    clear k1 k2 k3 k4 k5 k6 k7 k8 f0 f1 f2 f3 f4 f5 f6 f7 f8
    obtain ⟨_, _, -, -, ⟨k1, k2, k3, k4, k5, k6, k7, k8⟩, f0, f1, f2, f3, f4, f5, f6, f7, f8⟩ := h1.open_
    have H6 : Hid (Rd w0 _ B (Lb.nmD (Lb.f1b (Lb.f1a r)))) := Lib.hid (h1)
    clear H5 h1
    go_wp2_with fail
    go_end0
    exact ⟨rfl, H6.out⟩
  · rw [if_pos rfl]
    obtain ⟨b, hb3⟩ : ∃ b, Lb.dgs 1 1048576 (Lb.tl (Lb.nmD (Lb.f1b (Lb.f1a r)))) = b := ⟨_, rfl⟩
    rw [hb3]
    cases b
    · rw [if_neg (by decide)]
      go_enter Tryz.func21, Tryz.ntmps21
      go_wp2_with fail
      refine H.out.num44.mono ?_
      rintro e w1 ⟨rfl, h1⟩
      obtain ⟨_, _, -, -, ⟨k1, k2, k3, k4, k5, k6, k7, k8⟩, f0, f1, f2, f3, f4, f5, f6, f7, f8⟩ := h1.open_
      have H1 : Hid (Rd w0 _ B (Lb.sY (Lb.nmV 4 4 r) (Lb.nmR 4 4 r))) := Lib.hid (h1.sY _)
      clear H h1
      go_wp2_with fail
      refine H1.out.mu45.mono ?_
      rintro e w2 ⟨rfl, h1⟩
      clear k1 k2 k3 k4 k5 k6 k7 k8 f0 f1 f2 f3 f4 f5 f6 f7 f8
      obtain ⟨_, _, -, -, ⟨k1, k2, k3, k4, k5, k6, k7, k8⟩, f0, f1, f2, f3, f4, f5, f6, f7, f8⟩ := h1.open_
      have H2 : Hid (Rd w0 _ B (Lb.f1a r)) := Lib.hid (h1)
      clear H1 h1
      go_wp2_with fail
      refine H2.out.num12.mono ?_
      rintro e w3 ⟨rfl, h1⟩
      clear k1 k2 k3 k4 k5 k6 k7 k8 f0 f1 f2 f3 f4 f5 f6 f7 f8
      obtain ⟨_, _, -, -, ⟨k1, k2, k3, k4, k5, k6, k7, k8⟩, f0, f1, f2, f3, f4, f5, f6, f7, f8⟩ := h1.open_
      have H3 : Hid (Rd w0 _ B (Lb.sMo (Lb.nmV 1 2 (Lb.f1a r)) (Lb.nmR 1 2 (Lb.f1a r)))) := Lib.hid (h1.sMo _)
      clear H2 h1
      go_wp2_with fail
      refine H3.out.mu45.mono ?_
      rintro e w4 ⟨rfl, h1⟩
      clear k1 k2 k3 k4 k5 k6 k7 k8 f0 f1 f2 f3 f4 f5 f6 f7 f8
      obtain ⟨_, _, -, -, ⟨k1, k2, k3, k4, k5, k6, k7, k8⟩, f0, f1, f2, f3, f4, f5, f6, f7, f8⟩ := h1.open_
      have H4 : Hid (Rd w0 _ B (Lb.f1b (Lb.f1a r))) := Lib.hid (h1)
      clear H3 h1
      go_wp2_with fail
      refine H4.out.num12.mono ?_
      rintro e w5 ⟨rfl, h1⟩
      clear k1 k2 k3 k4 k5 k6 k7 k8 f0 f1 f2 f3 f4 f5 f6 f7 f8
      obtain ⟨_, _, -, -, ⟨k1, k2, k3, k4, k5, k6, k7, k8⟩, f0, f1, f2, f3, f4, f5, f6, f7, f8⟩ := h1.open_
      have H5 : Hid (Rd w0 _ B (Lb.nmD (Lb.f1b (Lb.f1a r)))) := Lib.hid (h1.sD _)
      clear H4 h1
      go_wp2_with fail
      have hm := H5.out.mb116
      rw [hb, mb_yes hb] at hm
      refine hm.mono ?_
      clear hm
      rintro e w6 ⟨rfl, h1⟩
      clear k1 k2 k3 k4 k5 k6 k7 k8 f0 f1 f2 f3 f4 f5 f6 f7 f8
      obtain ⟨_, _, -, -, ⟨k1, k2, k3, k4, k5, k6, k7, k8⟩, f0, f1, f2, f3, f4, f5, f6, f7, f8⟩ := h1.open_
      have H6 : Hid (Rd w0 _ B (Lb.tl (Lb.nmD (Lb.f1b (Lb.f1a r))))) := Lib.hid (h1)
      clear H5 h1
      go_wp2_with fail
      have hm := H6.out.dig1m
      rw [hb3] at hm
      refine hm.mono ?_
      clear hm
      rintro e w7 ⟨rfl, h1⟩
      clear k1 k2 k3 k4 k5 k6 k7 k8 f0 f1 f2 f3 f4 f5 f6 f7 f8
      obtain ⟨_, _, -, -, ⟨k1, k2, k3, k4, k5, k6, k7, k8⟩, f0, f1, f2, f3, f4, f5, f6, f7, f8⟩ := h1.open_
      have H7 : Hid (Rd w0 _ B (Lb.mkBad (Lb.tl (Lb.nmD (Lb.f1b (Lb.f1a r)))))) := Lib.hid (h1.mkBad)
      clear H6 h1
      go_wp2_with fail
      go_end0
      exact ⟨rfl, H7.out⟩
    · rw [if_pos rfl]
      go_enter Tryz.func21, Tryz.ntmps21
      go_wp2_with fail
      refine H.out.num44.mono ?_
      rintro e w1 ⟨rfl, h1⟩
      obtain ⟨_, _, -, -, ⟨k1, k2, k3, k4, k5, k6, k7, k8⟩, f0, f1, f2, f3, f4, f5, f6, f7, f8⟩ := h1.open_
      have H1 : Hid (Rd w0 _ B (Lb.sY (Lb.nmV 4 4 r) (Lb.nmR 4 4 r))) := Lib.hid (h1.sY _)
      clear H h1
      go_wp2_with fail
      refine H1.out.mu45.mono ?_
      rintro e w2 ⟨rfl, h1⟩
      clear k1 k2 k3 k4 k5 k6 k7 k8 f0 f1 f2 f3 f4 f5 f6 f7 f8
      obtain ⟨_, _, -, -, ⟨k1, k2, k3, k4, k5, k6, k7, k8⟩, f0, f1, f2, f3, f4, f5, f6, f7, f8⟩ := h1.open_
      have H2 : Hid (Rd w0 _ B (Lb.f1a r)) := Lib.hid (h1)
      clear H1 h1
      go_wp2_with fail
      refine H2.out.num12.mono ?_
      rintro e w3 ⟨rfl, h1⟩
      clear k1 k2 k3 k4 k5 k6 k7 k8 f0 f1 f2 f3 f4 f5 f6 f7 f8
      obtain ⟨_, _, -, -, ⟨k1, k2, k3, k4, k5, k6, k7, k8⟩, f0, f1, f2, f3, f4, f5, f6, f7, f8⟩ := h1.open_
      have H3 : Hid (Rd w0 _ B (Lb.sMo (Lb.nmV 1 2 (Lb.f1a r)) (Lb.nmR 1 2 (Lb.f1a r)))) := Lib.hid (h1.sMo _)
      clear H2 h1
      go_wp2_with fail
      refine H3.out.mu45.mono ?_
      rintro e w4 ⟨rfl, h1⟩
      clear k1 k2 k3 k4 k5 k6 k7 k8 f0 f1 f2 f3 f4 f5 f6 f7 f8
      obtain ⟨_, _, -, -, ⟨k1, k2, k3, k4, k5, k6, k7, k8⟩, f0, f1, f2, f3, f4, f5, f6, f7, f8⟩ := h1.open_
      have H4 : Hid (Rd w0 _ B (Lb.f1b (Lb.f1a r))) := Lib.hid (h1)
      clear H3 h1
      go_wp2_with fail
      refine H4.out.num12.mono ?_
      rintro e w5 ⟨rfl, h1⟩
      clear k1 k2 k3 k4 k5 k6 k7 k8 f0 f1 f2 f3 f4 f5 f6 f7 f8
      obtain ⟨_, _, -, -, ⟨k1, k2, k3, k4, k5, k6, k7, k8⟩, f0, f1, f2, f3, f4, f5, f6, f7, f8⟩ := h1.open_
      have H5 : Hid (Rd w0 _ B (Lb.nmD (Lb.f1b (Lb.f1a r)))) := Lib.hid (h1.sD _)
      clear H4 h1
      go_wp2_with fail
      have hm := H5.out.mb116
      rw [hb, mb_yes hb] at hm
      refine hm.mono ?_
      clear hm
      rintro e w6 ⟨rfl, h1⟩
      clear k1 k2 k3 k4 k5 k6 k7 k8 f0 f1 f2 f3 f4 f5 f6 f7 f8
      obtain ⟨_, _, -, -, ⟨k1, k2, k3, k4, k5, k6, k7, k8⟩, f0, f1, f2, f3, f4, f5, f6, f7, f8⟩ := h1.open_
      have H6 : Hid (Rd w0 _ B (Lb.tl (Lb.nmD (Lb.f1b (Lb.f1a r))))) := Lib.hid (h1)
      clear H5 h1
      go_wp2_with fail
      have hm := H6.out.dig1m
      rw [hb3] at hm
      refine hm.mono ?_
      clear hm
      rintro e w7 ⟨rfl, h1⟩
      clear k1 k2 k3 k4 k5 k6 k7 k8 f0 f1 f2 f3 f4 f5 f6 f7 f8
      obtain ⟨_, _, -, -, ⟨k1, k2, k3, k4, k5, k6, k7, k8⟩, f0, f1, f2, f3, f4, f5, f6, f7, f8⟩ := h1.open_
      have H7 : Hid (Rd w0 _ B (Lb.tl (Lb.nmD (Lb.f1b (Lb.f1a r))))) := Lib.hid (h1)
      clear H6 h1
      go_wp2_with fail
      go_end0
      exact ⟨rfl, H7.out⟩
end
end Go.Proofs.YtbhafhbaldddiaaGreatDoor
namespace Go.Proofs.YtbhafhbaldddiaaGreatDoor
open Go.RowKit
open Go
open Lb (R Wd)
set_option linter.unusedVariables false
def HrPost (u : Wd) (w : World) (e : Ending) (w' : World) : Prop := e = .returned (.tuple #[.int .i64 (Lb.hrF u).1, .bool (Lb.hrF u).2]) ∧ w' = w
theorem hlit_ne {u l : Wd} (h : ¬ u = l) : ((Ml.mk u).toList == l) = false := by
  rw [beq_eq_false_iff_ne]
  intro e
  apply h
  rw [Go.Lib.toList_data] at e
  rw [← e]
  exact (Ml.list_mk u).symm
def oneB : Wd → Bool
  | [c] => Lb.srt c == 2 && !(decide (([c] : Wd) = [106]))
  | _ => false
theorem hr_none {u : Wd} (h : ∀ p ∈ Lb.zones, u ≠ p.1) : Lb.hrF u = (0, oneB u) := by
  unfold Lb.hrF
  have : Lb.zones.find? (fun p => decide (p.1 = u)) = none := by
    rw [List.find?_eq_none]
    intro p hp
    simpa using fun e => h p hp e.symm
  rw [this]
  match u with
  | [] => rfl
  | [c] => rfl
  | c :: d :: q => rfl
set_option maxRecDepth 100000 in
theorem hr_z (w : World) : Calls Tryz.prog 62 #[.string ⟨#[122]⟩] w (HrPost [122] w) := by
  have e : Lb.hrF [122] = (0, true) := by decide +kernel
  unfold HrPost
  rw [e]
  go_enter Tryz.func62, Tryz.ntmps62
  go_wp2
  go_ret2
  exact ⟨rfl, rfl⟩
set_option maxRecDepth 100000 in
theorem hr_ut (w : World) : Calls Tryz.prog 62 #[.string ⟨#[117, 116]⟩] w (HrPost [117, 116] w) := by
  have e : Lb.hrF [117, 116] = (0, true) := by decide +kernel
  unfold HrPost
  rw [e]
  go_enter Tryz.func62, Tryz.ntmps62
  go_wp2
  go_ret2
  exact ⟨rfl, rfl⟩
set_option maxRecDepth 100000 in
theorem hr_utc (w : World) : Calls Tryz.prog 62 #[.string ⟨#[117, 116, 99]⟩] w (HrPost [117, 116, 99] w) := by
  have e : Lb.hrF [117, 116, 99] = (0, true) := by decide +kernel
  unfold HrPost
  rw [e]
  go_enter Tryz.func62, Tryz.ntmps62
  go_wp2
  go_ret2
  exact ⟨rfl, rfl⟩
set_option maxRecDepth 100000 in
theorem hr_gmt (w : World) : Calls Tryz.prog 62 #[.string ⟨#[103, 109, 116]⟩] w (HrPost [103, 109, 116] w) := by
  have e : Lb.hrF [103, 109, 116] = (0, true) := by decide +kernel
  unfold HrPost
  rw [e]
  go_enter Tryz.func62, Tryz.ntmps62
  go_wp2
  go_ret2
  exact ⟨rfl, rfl⟩
set_option maxRecDepth 100000 in
theorem hr_edt (w : World) : Calls Tryz.prog 62 #[.string ⟨#[101, 100, 116]⟩] w (HrPost [101, 100, 116] w) := by
  have e : Lb.hrF [101, 100, 116] = (-4, true) := by decide +kernel
  unfold HrPost
  rw [e]
  go_enter Tryz.func62, Tryz.ntmps62
  go_wp2
  go_ret2
  exact ⟨rfl, rfl⟩
set_option maxRecDepth 100000 in
theorem hr_est (w : World) : Calls Tryz.prog 62 #[.string ⟨#[101, 115, 116]⟩] w (HrPost [101, 115, 116] w) := by
  have e : Lb.hrF [101, 115, 116] = (-5, true) := by decide +kernel
  unfold HrPost
  rw [e]
  go_enter Tryz.func62, Tryz.ntmps62
  go_wp2
  go_ret2
  exact ⟨rfl, rfl⟩
set_option maxRecDepth 100000 in
theorem hr_cdt (w : World) : Calls Tryz.prog 62 #[.string ⟨#[99, 100, 116]⟩] w (HrPost [99, 100, 116] w) := by
  have e : Lb.hrF [99, 100, 116] = (-5, true) := by decide +kernel
  unfold HrPost
  rw [e]
  go_enter Tryz.func62, Tryz.ntmps62
  go_wp2
  go_ret2
  exact ⟨rfl, rfl⟩
set_option maxRecDepth 100000 in
theorem hr_cst (w : World) : Calls Tryz.prog 62 #[.string ⟨#[99, 115, 116]⟩] w (HrPost [99, 115, 116] w) := by
  have e : Lb.hrF [99, 115, 116] = (-6, true) := by decide +kernel
  unfold HrPost
  rw [e]
  go_enter Tryz.func62, Tryz.ntmps62
  go_wp2
  go_ret2
  exact ⟨rfl, rfl⟩
set_option maxRecDepth 100000 in
theorem hr_mdt (w : World) : Calls Tryz.prog 62 #[.string ⟨#[109, 100, 116]⟩] w (HrPost [109, 100, 116] w) := by
  have e : Lb.hrF [109, 100, 116] = (-6, true) := by decide +kernel
  unfold HrPost
  rw [e]
  go_enter Tryz.func62, Tryz.ntmps62
  go_wp2
  go_ret2
  exact ⟨rfl, rfl⟩
set_option maxRecDepth 100000 in
theorem hr_mst (w : World) : Calls Tryz.prog 62 #[.string ⟨#[109, 115, 116]⟩] w (HrPost [109, 115, 116] w) := by
  have e : Lb.hrF [109, 115, 116] = (-7, true) := by decide +kernel
  unfold HrPost
  rw [e]
  go_enter Tryz.func62, Tryz.ntmps62
  go_wp2
  go_ret2
  exact ⟨rfl, rfl⟩
set_option maxRecDepth 100000 in
theorem hr_pdt (w : World) : Calls Tryz.prog 62 #[.string ⟨#[112, 100, 116]⟩] w (HrPost [112, 100, 116] w) := by
  have e : Lb.hrF [112, 100, 116] = (-7, true) := by decide +kernel
  unfold HrPost
  rw [e]
  go_enter Tryz.func62, Tryz.ntmps62
  go_wp2
  go_ret2
  exact ⟨rfl, rfl⟩
set_option maxRecDepth 100000 in
theorem hr_pst (w : World) : Calls Tryz.prog 62 #[.string ⟨#[112, 115, 116]⟩] w (HrPost [112, 115, 116] w) := by
  have e : Lb.hrF [112, 115, 116] = (-8, true) := by decide +kernel
  unfold HrPost
  rw [e]
  go_enter Tryz.func62, Tryz.ntmps62
  go_wp2
  go_ret2
  exact ⟨rfl, rfl⟩
set_option maxRecDepth 100000 in
set_option maxHeartbeats 2000000 in
theorem hr_any (u : Wd) (hu : u.length ≤ 100000) (w : World) : Calls Tryz.prog 62 #[.string (Ml.mk u)] w (HrPost u w) := by
  by_cases h0 : u = [122]
  · subst h0; exact hr_z w
  have x0 : ((Ml.mk u).toList == [122]) = false := hlit_ne h0
  by_cases h1 : u = [117, 116]
  · subst h1; exact hr_ut w
  have x1 : ((Ml.mk u).toList == [117, 116]) = false := hlit_ne h1
  by_cases h2 : u = [117, 116, 99]
  · subst h2; exact hr_utc w
  have x2 : ((Ml.mk u).toList == [117, 116, 99]) = false := hlit_ne h2
  by_cases h3 : u = [103, 109, 116]
  · subst h3; exact hr_gmt w
  have x3 : ((Ml.mk u).toList == [103, 109, 116]) = false := hlit_ne h3
  by_cases h4 : u = [101, 100, 116]
  · subst h4; exact hr_edt w
  have x4 : ((Ml.mk u).toList == [101, 100, 116]) = false := hlit_ne h4
  by_cases h5 : u = [101, 115, 116]
  · subst h5; exact hr_est w
  have x5 : ((Ml.mk u).toList == [101, 115, 116]) = false := hlit_ne h5
  by_cases h6 : u = [99, 100, 116]
  · subst h6; exact hr_cdt w
  have x6 : ((Ml.mk u).toList == [99, 100, 116]) = false := hlit_ne h6
  by_cases h7 : u = [99, 115, 116]
  · subst h7; exact hr_cst w
  have x7 : ((Ml.mk u).toList == [99, 115, 116]) = false := hlit_ne h7
  by_cases h8 : u = [109, 100, 116]
  · subst h8; exact hr_mdt w
  have x8 : ((Ml.mk u).toList == [109, 100, 116]) = false := hlit_ne h8
  by_cases h9 : u = [109, 115, 116]
  · subst h9; exact hr_mst w
  have x9 : ((Ml.mk u).toList == [109, 115, 116]) = false := hlit_ne h9
  by_cases h10 : u = [112, 100, 116]
  · subst h10; exact hr_pdt w
  have x10 : ((Ml.mk u).toList == [112, 100, 116]) = false := hlit_ne h10
  by_cases h11 : u = [112, 115, 116]
  · subst h11; exact hr_pst w
  have x11 : ((Ml.mk u).toList == [112, 115, 116]) = false := hlit_ne h11
  have hn : ∀ p ∈ Lb.zones, u ≠ p.1 := by
    intro p hp
    simp only [Lb.zones, List.mem_cons, List.not_mem_nil, or_false] at hp
    rcases hp with rfl | rfl | rfl | rfl | rfl | rfl | rfl | rfl | rfl | rfl | rfl | rfl
    · exact h0
    · exact h1
    · exact h2
    · exact h3
    · exact h4
    · exact h5
    · exact h6
    · exact h7
    · exact h8
    · exact h9
    · exact h10
    · exact h11
  unfold HrPost
  rw [hr_none hn]
  clear hn h0 h1 h2 h3 h4 h5 h6 h7 h8 h9 h10 h11
  match u, hu with
  | [], _ =>
    have hz : (Ml.mk []).size = 0 := rfl
    generalize Ml.mk [] = T at *
    go_enter Tryz.func62, Tryz.ntmps62
    go_wp2
    go_ret2
    exact ⟨rfl, rfl⟩
  | c :: d :: q, hu =>
    have hz : (Ml.mk (c :: d :: q)).size = q.length + 2 := rfl
    have hq : q.length ≤ 100000 := by simp at hu; omega
    have hne : ((q.length : Int) + 2 == 1) = false := by simp; omega
    generalize Ml.mk (c :: d :: q) = T at *
    generalize q.length = n at *
    go_enter Tryz.func62, Tryz.ntmps62
    go_wp2
    go_ret2
    exact ⟨rfl, rfl⟩
  | [c], hu =>
    have hz : (Ml.mk [c]).size = 1 := rfl
    have hix : ∀ h, (((Ml.mk [c])[0]'h).toNat : Int) = (c.toNat : Int) := fun h => rfl
    have hsr := srt_any c
    by_cases hj : ([c] : Wd) = [106]
    · have hc : c = 106 := by injection hj
      subst hc
      have e : oneB [106] = false := by decide +kernel
      rw [e]
      have e2 : Lb.srt 106 = 2 := by decide +kernel
      rw [e2] at hsr
      clear hz hix
      have hx : ((Ml.mk [106]).toList == [106]) = true := by rw [beq_iff_eq, Go.Lib.toList_data]; exact Ml.list_mk _
      have hx2 : ((Ml.mk [106]).toList != [106]) = false := by simp [bne, hx]
      go_enter Tryz.func62, Tryz.ntmps62
      go_wp2_with (go_at_call 33; refine (hsr _).mono ?_; rintro e w2 ⟨rfl, rfl⟩)
      go_ret2
      exact ⟨rfl, rfl⟩
    · have hx : ((Ml.mk [c]).toList == [106]) = false := hlit_ne hj
      have hx2 : ((Ml.mk [c]).toList != [106]) = true := by simp [bne, hx]
      have e : oneB [c] = (Lb.srt c == 2) := by
        show (Lb.srt c == 2 && !(decide (([c] : Wd) = [106]))) = _
        rw [decide_eq_false hj]
        simp
      rw [e]
      clear e hj
      generalize Ml.mk [c] = T at *
      generalize Lb.srt c = k at *
      generalize (c.toNat : Int) = cn at *
      by_cases h2 : k = 2
      · subst h2
        go_enter Tryz.func62, Tryz.ntmps62
        go_wp2_with (go_at_call 33; refine (hsr _).mono ?_; rintro e w2 ⟨rfl, rfl⟩)
        go_ret2
        exact ⟨rfl, rfl⟩
      · have h3 : (k == 2) = false := by simpa using h2
        have h4 : ((k : Int) == 2) = false := by simp; omega
        rw [h3]
        go_enter Tryz.func62, Tryz.ntmps62
        go_wp2_with (go_at_call 33; refine (hsr _).mono ?_; rintro e w2 ⟨rfl, rfl⟩)
        go_ret2
        exact ⟨rfl, rfl⟩
end Go.Proofs.YtbhafhbaldddiaaGreatDoor
