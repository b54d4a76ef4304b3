/- The walks of a byte's sort, of white space, of lower case. -/
import Derived.Test.YtbhafhbaldddiaaLbS
import Derived.Laws.BitsAll
namespace Go.Proofs.Ytbhafhbaldddiaa
open Go.RowKit
open Go
set_option linter.unusedVariables false
theorem spc_any (c : UInt8) (w : World) : Calls Try.prog 22 #[.int .i64 (c.toNat : Int)] w (fun e w' => e = .returned (.bool (Lb.spc c)) ∧ w' = w) := by
  have h : c.toNat < 256 := UInt8.toNat_lt c
  unfold Lb.spc
  generalize c.toNat = n at h
  go_enter Try.func22, Try.ntmps22
  by_cases h1 : n = 32
  · subst h1; go_wp2; go_ret; exact ⟨rfl, rfl⟩
  by_cases h2 : n = 9
  · subst h2; go_wp2; go_ret; exact ⟨rfl, rfl⟩
  by_cases h3 : n = 10
  · subst h3; go_wp2; go_ret; exact ⟨rfl, rfl⟩
  by_cases h4 : n = 13
  · subst h4; go_wp2; go_ret; exact ⟨rfl, rfl⟩
  have e1 : ((n : Int) == 32) = false := by simp; omega
  have e2 : ((n : Int) == 9) = false := by simp; omega
  have e3 : ((n : Int) == 10) = false := by simp; omega
  have e4 : ((n : Int) == 13) = false := by simp; omega
  have f1 : (n == 32) = false := by simp; omega
  have f2 : (n == 9) = false := by simp; omega
  have f3 : (n == 10) = false := by simp; omega
  have f4 : (n == 13) = false := by simp; omega
  rw [f1, f2, f3, f4]
  go_wp2
  go_ret
  exact ⟨rfl, rfl⟩
theorem or32 {n : Nat} (h : n < 256) : bits .or .u8 (n : Int) 32 = ((n ||| 32 : Nat) : Int) := by
  have h1 : (List.range 256).all (fun n => decide (bits .or .u8 (n : Int) 32 = ((n ||| 32 : Nat) : Int))) = true := by decide +kernel
  exact of_decide_eq_true (List.all_eq_true.1 h1 n (List.mem_range.2 h))
theorem srt_any (c : UInt8) (w : World) : Calls Try.prog 21 #[.int .u8 (c.toNat : Int)] w (fun e w' => e = .returned (.int .i64 (Lb.srt c : Nat)) ∧ w' = w) := by
  have h : c.toNat < 256 := UInt8.toNat_lt c
  unfold Lb.srt
  generalize c.toNat = n at h
  obtain ⟨k, hk⟩ : ∃ k, Lb.srtN n = k := ⟨_, rfl⟩
  rw [hk]
  have hor := or32 h
  unfold Lb.srtN at hk
  generalize n ||| 32 = m at hk hor
  have HK := Lib.hid hk
  clear hk
  go_enter Try.func21, Try.ntmps21
  go_wp2
  all_goals
    have hk := HK.out
    go_ret
    first
    | (rw [if_pos (by omega)] at hk; subst hk; exact ⟨rfl, rfl⟩)
    | (rw [if_neg (by omega), if_pos (by omega)] at hk; subst hk; exact ⟨rfl, rfl⟩)
    | (rw [if_neg (by omega), if_neg (by omega)] at hk; subst hk; exact ⟨rfl, rfl⟩)
end Go.Proofs.Ytbhafhbaldddiaa
