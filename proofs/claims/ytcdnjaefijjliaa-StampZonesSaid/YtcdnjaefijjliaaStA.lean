/- The walks of the stamp's small helpers: form, number. -/
import Derived.Test.YtcdnjaefijjliaaBase
import Derived.Test.YtcdnjaefijjliaaSm
import Derived.Laws.IdiomStrings
namespace Go.Proofs.Ytcdnjaefijjliaa
open Go.RowKit
open Go
set_option linter.unusedVariables false
theorem row_byte (s : ByteArray) (cap j : Nat) (w : World) (e : TypeId) (fr : Nat × Nat) (hj : j < s.size) : (w.alloc (.cells (bytesRow s cap) e fr)).drew.cell? ⟨w.heap.size, j, none⟩ = some (.int .u8 (Sm.B s j : Int)) := by
  have h1 : (w.alloc (.cells (bytesRow s cap) e fr)).drew.cell? ⟨w.heap.size, j, none⟩ = (w.alloc (.cells (bytesRow s cap) e fr)).cell? ⟨w.heap.size, j, none⟩ := rfl
  rw [h1, World.cell?_alloc_mark, bytesRow_at s cap j hj, ← Sm.B_at s j hj]
  rfl
set_option maxHeartbeats 1000000 in
theorem form_any (s a : ByteArray) (ha : a.size ≤ 1000) (w : World) : Calls Try.prog 24 #[.string s, .string a] w (fun e w' => e = .returned (.bool (Sm.formB s a)) ∧ Below w.heap.size w w') := by
  by_cases h : s.size = a.size
  · have hconv := run_bytes_of_string (P := Try.prog) w 9 50 5 s (by kernel_rfl) (by kernel_rfl) (by kernel_rfl)
    have H := Lib.hid h
    go_enter Try.func24, Try.ntmps24
    go_wp2_with fail
    have hcell := fun j hj => row_byte s (grownCap w a.size 0 5) j w 5 ((bytesRow s (grownCap w a.size 0 5)).size, (bytesRow s (grownCap w a.size 0 5)).size + 1) hj
    have hB : Below w.heap.size w (w.alloc (Obj.cells (bytesRow s (grownCap w a.size 0 5)) 5 ((bytesRow s (grownCap w a.size 0 5)).size, (bytesRow s (grownCap w a.size 0 5)).size + 1))).drew := (bbox (Below.refl _ _) _).drew
    clear hconv
    generalize (w.alloc (Obj.cells (bytesRow s (grownCap w a.size 0 5)) 5 ((bytesRow s (grownCap w a.size 0 5)).size, (bytesRow s (grownCap w a.size 0 5)).size + 1))).drew = W1 at *
    have HC := Lib.hid hcell
    clear hcell h
    go_loop [15] (fun k => ∃ j : Nat, j ≤ a.size ∧ k = .int .i64 j ∧ ∀ i, i < j → Sm.okc (Sm.B s i) (Sm.B a i) = true) (fun k => a.size - (intOf k).toNat)
    case atStart => exact ⟨0, by omega, rfl, fun i h => by omega⟩
    case round =>
      obtain ⟨j, hj, rfl, hr⟩ := hrel
      have HR := Lib.hid hr
      clear hr
      by_cases hlt : j < a.size
      · have c0 := HC.out j (by rw [H.out]; exact hlt)
        have hno : Sm.okc (Sm.B s j) (Sm.B a j) = false → Sm.formB s a = false := fun e => by
          unfold Sm.formB
          rw [decide_eq_false_iff_not]
          rintro ⟨_, k⟩
          have := k j (by rw [H.out]; exact hlt)
          rw [e] at this; cases this
        have HN := Lib.hid hno
        clear hno
        obtain ⟨c, hc⟩ : ∃ c : Int, c = (Sm.B s j : Int) := ⟨_, rfl⟩
        obtain ⟨p, hp⟩ : ∃ p : Int, p = (Sm.B a j : Int) := ⟨_, rfl⟩
        have hidx : ((a[j]'hlt).toNat : Int) = p := by rw [hp, Sm.B_at a j hlt]
        rw [← hc] at c0
        have HP := Lib.hid hp
        have HCC := Lib.hid hc
        clear hp hc
        by_cases h48 : p = 48
        · subst h48
          by_cases h1 : c < 48
          · go_wp2
            go_ret
            exact ⟨ret_bool (HN.out (by have e1 := HP.out; have e2 := HCC.out; unfold Sm.okc; rw [if_pos (by omega)]; simp; omega)).symm, hB⟩
          · by_cases h2 : 57 < c
            · go_wp2
              go_ret
              exact ⟨ret_bool (HN.out (by have e1 := HP.out; have e2 := HCC.out; unfold Sm.okc; rw [if_pos (by omega)]; simp; omega)).symm, hB⟩
            · go_wp2
              go_round
              case rel =>
                refine ⟨j + 1, by omega, by go_num, fun i hi => ?_⟩
                by_cases e : i = j
                · subst e; have e1 := HP.out; have e2 := HCC.out; unfold Sm.okc; rw [if_pos (by omega)]; simp; omega
                · exact HR.out i (by omega)
              case measure => simp [intOf]; omega
        · by_cases h1 : c = p
          · subst h1
            go_wp2
            go_round
            case rel =>
              refine ⟨j + 1, by omega, by go_num, fun i hi => ?_⟩
              by_cases e : i = j
              · subst e; have e1 := HP.out; have e2 := HCC.out; unfold Sm.okc; rw [if_neg (by omega)]; simp; omega
              · exact HR.out i (by omega)
            case measure => simp [intOf]; omega
          · have h1' : (c != p) = true := by simpa using h1
            have h48' : (p != 48) = true := by simpa using h48
            go_wp2
            go_ret
            exact ⟨ret_bool (HN.out (by have e1 := HP.out; have e2 := HCC.out; unfold Sm.okc; rw [if_neg (by omega)]; simp; omega)).symm, hB⟩
      · go_wp2
        go_ret
        have : Sm.formB s a = true := by
          unfold Sm.formB
          rw [decide_eq_true_eq]
          exact ⟨H.out, fun i hi => HR.out i (by have := H.out; omega)⟩
        exact ⟨ret_bool this.symm, hB⟩
  · have this : Sm.formB s a = false := by unfold Sm.formB; simp [h]
    rw [this]
    have h' : ¬ (s.size : Int) = a.size := by omega
    go_enter Try.func24, Try.ntmps24
    go_wp2
    go_ret
    exact ⟨rfl, Below.refl _ _⟩
theorem u8_and15 (n : Nat) (h : n < 256) : bits .and .u8 (n : Int) 15 = ((n % 16 : Nat) : Int) := by
  have h3 : (BitVec.ofInt 8 15).toNat = 2 ^ 4 - 1 := by decide
  have key : (BitVec.ofInt 8 (n : Int) &&& BitVec.ofInt 8 15).toNat = ((n : Int) % ((2 ^ 8 : Nat) : Int)).toNat % 2 ^ 4 := by
    rw [BitVec.toNat_and, BitVec.toNat_ofInt, h3, Nat.and_two_pow_sub_one_eq_mod]
  show IntKind.u8.wrap ((BitVec.ofInt 8 (n : Int) &&& BitVec.ofInt 8 15).toNat : Nat) = _
  rw [key]
  simp [IntKind.wrap, IntKind.bits, IntKind.signed]
  omega
set_option maxHeartbeats 1000000 in
theorem number_any (s : ByteArray) (hs : s.size ≤ 10) (w : World) : Calls Try.prog 28 #[.string s] w (fun e w' => e = .returned (.int .i64 (Sm.numN s s.size)) ∧ Below w.heap.size w w') := by
  have hconv := run_bytes_of_string (P := Try.prog) w 9 50 5 s (by kernel_rfl) (by kernel_rfl) (by kernel_rfl)
  go_enter Try.func28, Try.ntmps28
  go_wp2_with fail
  have hcell := fun j hj => row_byte s (grownCap w s.size 0 5) j w 5 ((bytesRow s (grownCap w s.size 0 5)).size, (bytesRow s (grownCap w s.size 0 5)).size + 1) hj
  have hB : Below w.heap.size w (w.alloc (Obj.cells (bytesRow s (grownCap w s.size 0 5)) 5 ((bytesRow s (grownCap w s.size 0 5)).size, (bytesRow s (grownCap w s.size 0 5)).size + 1))).drew := (bbox (Below.refl _ _) _).drew
  clear hconv
  generalize (w.alloc (Obj.cells (bytesRow s (grownCap w s.size 0 5)) 5 ((bytesRow s (grownCap w s.size 0 5)).size, (bytesRow s (grownCap w s.size 0 5)).size + 1))).drew = W1 at *
  have HC := Lib.hid hcell
  clear hcell
  go_loop [2, 8] (fun n k => ∃ j : Nat, j ≤ s.size ∧ n = .int .i64 (Sm.numN s j) ∧ k = .int .i64 j) (fun _ k => s.size - (intOf k).toNat)
  case atStart => exact ⟨0, by omega, rfl, rfl⟩
  case round =>
    obtain ⟨j, hj, rfl, rfl⟩ := hrel
    by_cases hlt : j < s.size
    · have c0 := HC.out j hlt
      have hb := Sm.B_lt s j
      have h15 := u8_and15 (Sm.B s j) hb
      have hbd := Sm.numN_bd s j
      have hp : (10 : Int) ^ j ≤ 1000000000 := by
        have : j = 0 ∨ j = 1 ∨ j = 2 ∨ j = 3 ∨ j = 4 ∨ j = 5 ∨ j = 6 ∨ j = 7 ∨ j = 8 ∨ j = 9 := by omega
        rcases this with rfl | rfl | rfl | rfl | rfl | rfl | rfl | rfl | rfl | rfl <;> decide
      have hn0 : 0 ≤ Sm.numN s j := hbd.1
      have hn1 : Sm.numN s j ≤ 2000000000 := by omega
      have hst : Sm.numN s (j + 1) = Sm.numN s j * 10 + ((Sm.B s j % 16 : Nat) : Int) := rfl
      have HST := Lib.hid hst
      clear hst hbd hp
      generalize Sm.numN s j = x at *
      generalize Sm.B s j = c at *
      go_wp2
      go_round
      case rel =>
        refine ⟨j + 1, by omega, ?_, by go_num⟩
        rw [HST.out]
        go_num
      case measure => simp [intOf]; omega
    · obtain rfl : j = s.size := by omega
      go_wp2
      go_ret
      exact ⟨rfl, hB⟩
end Go.Proofs.Ytcdnjaefijjliaa
