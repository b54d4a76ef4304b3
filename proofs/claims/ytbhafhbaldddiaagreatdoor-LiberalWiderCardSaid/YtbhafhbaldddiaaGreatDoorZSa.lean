/- The walks of the stamp's small helpers: form, number. The walks of the library's search for one byte, and of its Cut at 'T'. The walk of the stamp's Clock. The walks of the stamp's Clock, whole, and Zone. -/
import Derived.Test.YtbhafhbaldddiaaGreatDoorZA
import Derived.Laws.IdiomStrings
import Derived.Lib.Bytealg
import Derived.BigRegion
import Derived.Test.YtbhafhbaldddiaaGreatDoorZC
import Derived.Deep.RegionWith
import Derived.Deep.RegionHeld3
namespace Go.Proofs.YtbhafhbaldddiaaGreatDoor
open Go.RowKit
open Go
set_option linter.unusedVariables false
theorem row_byte (s : ByteArray) (cap j : Nat) (w : World) (e : TypeId) (fr : Nat × Nat) (hj : j < s.size) : (w.alloc (.cells (bytesRow s cap) e fr)).drew.cell? ⟨w.heap.size, j, none⟩ = some (.int .u8 (Sm.B s j : Int)) := by
  have h1 : (w.alloc (.cells (bytesRow s cap) e fr)).drew.cell? ⟨w.heap.size, j, none⟩ = (w.alloc (.cells (bytesRow s cap) e fr)).cell? ⟨w.heap.size, j, none⟩ := rfl
  rw [h1, World.cell?_alloc_mark, bytesRow_at s cap j hj, ← Sm.B_at s j hj]
  rfl
set_option maxHeartbeats 1000000 in
theorem form_any (s a : ByteArray) (ha : a.size ≤ 1000) (w : World) : Calls Tryz.prog 74 #[.string s, .string a] w (fun e w' => e = .returned (.bool (Sm.formB s a)) ∧ Below w.heap.size w w') := by
  by_cases h : s.size = a.size
  · have hconv := run_bytes_of_string (P := Tryz.prog) w 9 88 5 s (by kernel_rfl) (by kernel_rfl) (by kernel_rfl)
    have H := Lib.hid h
    go_enter Tryz.func74, Tryz.ntmps74
    go_wp2_with fail
    have hcell := fun j hj => row_byte s (grownCap w a.size 0 5) j w 5 ((bytesRow s (grownCap w a.size 0 5)).size, (bytesRow s (grownCap w a.size 0 5)).size + 1) hj
    have hB : Below w.heap.size w (w.alloc (Obj.cells (bytesRow s (grownCap w a.size 0 5)) 5 ((bytesRow s (grownCap w a.size 0 5)).size, (bytesRow s (grownCap w a.size 0 5)).size + 1))).drew := (bbox (Below.refl _ _) _).drew
    clear hconv
    generalize (w.alloc (Obj.cells (bytesRow s (grownCap w a.size 0 5)) 5 ((bytesRow s (grownCap w a.size 0 5)).size, (bytesRow s (grownCap w a.size 0 5)).size + 1))).drew = W1 at *
    have HC := Lib.hid hcell
    clear hcell h
    go_loop [15] (fun k => ∃ j : Nat, j ≤ a.size ∧ k = .int .i64 j ∧ ∀ i, i < j → Sm.okc (Sm.B s i) (Sm.B a i) = true) (fun k => a.size - (intOf k).toNat)
    case atStart => exact ⟨0, by omega, rfl, fun i h => by omega⟩
    case round =>
      obtain ⟨j, hj, rfl, hr⟩ := hrel
      have HR := Lib.hid hr
      clear hr
      by_cases hlt : j < a.size
      · have c0 := HC.out j (by rw [H.out]; exact hlt)
        have hno : Sm.okc (Sm.B s j) (Sm.B a j) = false → Sm.formB s a = false := fun e => by
          unfold Sm.formB
          rw [decide_eq_false_iff_not]
          rintro ⟨_, k⟩
          have := k j (by rw [H.out]; exact hlt)
          rw [e] at this; cases this
        have HN := Lib.hid hno
        clear hno
        obtain ⟨c, hc⟩ : ∃ c : Int, c = (Sm.B s j : Int) := ⟨_, rfl⟩
        obtain ⟨p, hp⟩ : ∃ p : Int, p = (Sm.B a j : Int) := ⟨_, rfl⟩
        have hidx : ((a[j]'hlt).toNat : Int) = p := by rw [hp, Sm.B_at a j hlt]
        rw [← hc] at c0
        have HP := Lib.hid hp
        have HCC := Lib.hid hc
        clear hp hc
        by_cases h48 : p = 48
        · subst h48
          by_cases h1 : c < 48
          · go_wp2
            go_ret
            exact ⟨ret_bool (HN.out (by have e1 := HP.out; have e2 := HCC.out; unfold Sm.okc; rw [if_pos (by omega)]; simp; omega)).symm, hB⟩
          · by_cases h2 : 57 < c
            · go_wp2
              go_ret
              exact ⟨ret_bool (HN.out (by have e1 := HP.out; have e2 := HCC.out; unfold Sm.okc; rw [if_pos (by omega)]; simp; omega)).symm, hB⟩
            · go_wp2
              go_round
              case rel =>
                refine ⟨j + 1, by omega, by go_num, fun i hi => ?_⟩
                by_cases e : i = j
                · subst e; have e1 := HP.out; have e2 := HCC.out; unfold Sm.okc; rw [if_pos (by omega)]; simp; omega
                · exact HR.out i (by omega)
              case measure => simp [intOf]; omega
        · by_cases h1 : c = p
          · subst h1
            go_wp2
            go_round
            case rel =>
              refine ⟨j + 1, by omega, by go_num, fun i hi => ?_⟩
              by_cases e : i = j
              · subst e; have e1 := HP.out; have e2 := HCC.out; unfold Sm.okc; rw [if_neg (by omega)]; simp; omega
              · exact HR.out i (by omega)
            case measure => simp [intOf]; omega
          · have h1' : (c != p) = true := by simpa using h1
            have h48' : (p != 48) = true := by simpa using h48
            go_wp2
            go_ret
            exact ⟨ret_bool (HN.out (by have e1 := HP.out; have e2 := HCC.out; unfold Sm.okc; rw [if_neg (by omega)]; simp; omega)).symm, hB⟩
      · go_wp2
        go_ret
        have : Sm.formB s a = true := by
          unfold Sm.formB
          rw [decide_eq_true_eq]
          exact ⟨H.out, fun i hi => HR.out i (by have := H.out; omega)⟩
        exact ⟨ret_bool this.symm, hB⟩
  · have this : Sm.formB s a = false := by unfold Sm.formB; simp [h]
    rw [this]
    have h' : ¬ (s.size : Int) = a.size := by omega
    go_enter Tryz.func74, Tryz.ntmps74
    go_wp2
    go_ret
    exact ⟨rfl, Below.refl _ _⟩
theorem u8_and15 (n : Nat) (h : n < 256) : bits .and .u8 (n : Int) 15 = ((n % 16 : Nat) : Int) := by
  have h3 : (BitVec.ofInt 8 15).toNat = 2 ^ 4 - 1 := by decide
  have key : (BitVec.ofInt 8 (n : Int) &&& BitVec.ofInt 8 15).toNat = ((n : Int) % ((2 ^ 8 : Nat) : Int)).toNat % 2 ^ 4 := by
    rw [BitVec.toNat_and, BitVec.toNat_ofInt, h3, Nat.and_two_pow_sub_one_eq_mod]
  show IntKind.u8.wrap ((BitVec.ofInt 8 (n : Int) &&& BitVec.ofInt 8 15).toNat : Nat) = _
  rw [key]
  simp [IntKind.wrap, IntKind.bits, IntKind.signed]
  omega
set_option maxHeartbeats 1000000 in
theorem snumber_any (s : ByteArray) (hs : s.size ≤ 10) (w : World) : Calls Tryz.prog 104 #[.string s] w (fun e w' => e = .returned (.int .i64 (Sm.numN s s.size)) ∧ Below w.heap.size w w') := by
  have hconv := run_bytes_of_string (P := Tryz.prog) w 9 88 5 s (by kernel_rfl) (by kernel_rfl) (by kernel_rfl)
  go_enter Tryz.func104, Tryz.ntmps104
  go_wp2_with fail
  have hcell := fun j hj => row_byte s (grownCap w s.size 0 5) j w 5 ((bytesRow s (grownCap w s.size 0 5)).size, (bytesRow s (grownCap w s.size 0 5)).size + 1) hj
  have hB : Below w.heap.size w (w.alloc (Obj.cells (bytesRow s (grownCap w s.size 0 5)) 5 ((bytesRow s (grownCap w s.size 0 5)).size, (bytesRow s (grownCap w s.size 0 5)).size + 1))).drew := (bbox (Below.refl _ _) _).drew
  clear hconv
  generalize (w.alloc (Obj.cells (bytesRow s (grownCap w s.size 0 5)) 5 ((bytesRow s (grownCap w s.size 0 5)).size, (bytesRow s (grownCap w s.size 0 5)).size + 1))).drew = W1 at *
  have HC := Lib.hid hcell
  clear hcell
  go_loop [2, 8] (fun n k => ∃ j : Nat, j ≤ s.size ∧ n = .int .i64 (Sm.numN s j) ∧ k = .int .i64 j) (fun _ k => s.size - (intOf k).toNat)
  case atStart => exact ⟨0, by omega, rfl, rfl⟩
  case round =>
    obtain ⟨j, hj, rfl, rfl⟩ := hrel
    by_cases hlt : j < s.size
    · have c0 := HC.out j hlt
      have hb := Sm.B_lt s j
      have h15 := u8_and15 (Sm.B s j) hb
      have hbd := Sm.numN_bd s j
      have hp : (10 : Int) ^ j ≤ 1000000000 := by
        have : j = 0 ∨ j = 1 ∨ j = 2 ∨ j = 3 ∨ j = 4 ∨ j = 5 ∨ j = 6 ∨ j = 7 ∨ j = 8 ∨ j = 9 := by omega
        rcases this with rfl | rfl | rfl | rfl | rfl | rfl | rfl | rfl | rfl | rfl <;> decide
      have hn0 : 0 ≤ Sm.numN s j := hbd.1
      have hn1 : Sm.numN s j ≤ 2000000000 := by omega
      have hst : Sm.numN s (j + 1) = Sm.numN s j * 10 + ((Sm.B s j % 16 : Nat) : Int) := rfl
      have HST := Lib.hid hst
      clear hst hbd hp
      generalize Sm.numN s j = x at *
      generalize Sm.B s j = c at *
      go_wp2
      go_round
      case rel =>
        refine ⟨j + 1, by omega, ?_, by go_num⟩
        rw [HST.out]
        go_num
      case measure => simp [intOf]; omega
    · obtain rfl : j = s.size := by omega
      go_wp2
      go_ret
      exact ⟨rfl, hB⟩
end Go.Proofs.YtbhafhbaldddiaaGreatDoor
namespace Go.Proofs.YtbhafhbaldddiaaGreatDoor
open Go.RowKit
open Go
set_option linter.unusedVariables false
set_option maxRecDepth 100000
/-- Where a byte stands first, or -1. -/
def FirstAt (s : ByteArray) (c : Nat) (k : Int) : Prop := (∃ n : Nat, k = n ∧ n < s.size ∧ Sm.B s n = c ∧ ∀ i, i < n → Sm.B s i ≠ c) ∨ (k = -1 ∧ ∀ i, i < s.size → Sm.B s i ≠ c)
theorem idx_hit (c : UInt8) : ∀ (l : List UInt8) (k : Nat), l[k]? = some c → (∀ i, i < k → l[i]? ≠ some c) → Lib.indexByte l c = k := by
  intro l
  induction l with
  | nil => intro k h; simp at h
  | cons b l ih =>
    intro k h hn
    unfold Lib.indexByte
    cases k with
    | zero =>
      simp at h
      rw [h]; simp
    | succ k =>
      have h0 := hn 0 (by omega)
      simp at h0
      have : (b == c) = false := by simpa using h0
      rw [this]
      have e := ih k (by simpa using h) (fun i hi => by have := hn (i + 1) (by omega); simpa using this)
      rw [e]
      have e2 : ((k : Int) == -1) = false := by
        rw [beq_eq_false_iff_ne]; omega
      rw [e2]
      simp
theorem idx_miss (c : UInt8) : ∀ (l : List UInt8), (∀ i : Nat, l[i]? ≠ some c) → Lib.indexByte l c = -1 := by
  intro l
  induction l with
  | nil => intro _; rfl
  | cons b l ih =>
    intro hn
    unfold Lib.indexByte
    have h0 := hn 0
    simp at h0
    have : (b == c) = false := by simpa using h0
    rw [this, ih (fun i => by have := hn (i + 1); simpa using this)]
    simp
theorem at_list (s : ByteArray) (i : Nat) (h : i < s.size) : s.data.toList[i]? = some (s[i]'h) := by
  simp [ByteArray.getElem_eq_getElem_data]
theorem idx_first {s : ByteArray} {c : Nat} {k : Int} (hc : c < 256) (h : FirstAt s c k) : Lib.indexByte s.data.toList ((c : Int)).toNat.toUInt8 = k := by
  have hcc : ((c : Int).toNat.toUInt8).toNat = c := by
    show (UInt8.ofNat c).toNat = c
    rw [UInt8.toNat_ofNat']
    omega
  have key : ∀ i, s.data.toList[i]? = some ((c : Int).toNat.toUInt8) ↔ i < s.size ∧ Sm.B s i = c := by
    intro i
    constructor
    · intro e
      have hi : i < s.size := by
        have := (List.getElem?_eq_some_iff.1 e).1
        simpa using this
      rw [at_list s i hi] at e
      refine ⟨hi, ?_⟩
      rw [← Sm.B_at s i hi, Option.some.inj e, hcc]
    · rintro ⟨hi, e⟩
      rw [at_list s i hi]
      congr 1
      apply UInt8.toNat_inj.1
      rw [hcc, Sm.B_at s i hi, e]
  rcases h with ⟨n, rfl, hn, h1, h2⟩ | ⟨rfl, h2⟩
  · exact idx_hit _ _ n ((key n).2 ⟨hn, h1⟩) (fun i hi e => h2 i hi ((key i).1 e).2)
  · exact idx_miss _ _ (fun i e => h2 i ((key i).1 e).1 ((key i).1 e).2)
set_option maxHeartbeats 400000 in
theorem indexByte_any (s : ByteArray) (c : Nat) (hc : c < 256) (k : Int) (h : FirstAt s c k) (w : World) : Calls Tryz.prog 128 #[.string s, .int .u8 c] w (fun e w' => e = .returned (.int .i64 k) ∧ w = w') := by
  go_enter Tryz.func128, Tryz.ntmps128
  go_wp2
  rw [run_callFunc_extern Tryz.func133 (by kernel_rfl) (by kernel_rfl) (by kernel_rfl) (e := Extern.BytealgIndexByte.indexByte) (by kernel_rfl), Lib.run_indexByteString, idx_first hc h]
  simp only [Result.andThen]
  rw [Oper.upon_value]
  go_wp2
  go_ret
  exact ⟨rfl, rfl⟩
set_option maxHeartbeats 400000 in
theorem indexT_any (s : ByteArray) (k : Int) (h : FirstAt s 84 k) (hs : s.size ≤ 1000000) (w : World) : Calls Tryz.prog 124 #[.string s, .string ⟨#[84]⟩] w (fun e w' => e = .returned (.int .i64 k) ∧ w = w') := by
  have C := fun w => indexByte_any s 84 (by omega) k h w
  cases he : ([84] == s.toList)
  · go_enter Tryz.func124, Tryz.ntmps124
    go_wp2_with fail
    refine (C _).mono ?_
    rintro e w1 ⟨rfl, rfl⟩
    go_wp2
    go_ret
    exact ⟨rfl, rfl⟩
  · have hk : k = 0 := by
      have e : s.toList = [84] := by
        have := beq_iff_eq.1 he
        exact this.symm
      have e2 : s.data.toList = [84] := by rw [← ByteArray.toList_eq]; exact e
      have hsz : s.size = 1 := by
        have : s.data.toList.length = 1 := by rw [e2]; rfl
        simpa using this
      have hb : Sm.B s 0 = 84 := by
        rw [← Sm.B_at s 0 (by omega)]
        have := at_list s 0 (by omega)
        rw [e2] at this
        have := Option.some.inj this
        rw [← this]; rfl
      rcases h with ⟨n, rfl, hn, h1, h2⟩ | ⟨rfl, h2⟩
      · omega
      · exact absurd hb (h2 0 (by omega))
    subst hk
    go_enter Tryz.func124, Tryz.ntmps124
    go_wp2_with fail
    go_ret
    exact ⟨rfl, rfl⟩
/-- What Cut at 'T' gives. -/
def cutT (s : ByteArray) (k : Int) : Value := if k = -1 then .tuple #[.string s, .string ⟨#[]⟩, .bool false] else .tuple #[.string (s.extract 0 k.toNat), .string (s.extract (k.toNat + 1) s.size), .bool true]
set_option maxHeartbeats 400000 in
theorem lcut_any (s : ByteArray) (k : Int) (h : FirstAt s 84 k) (hs : s.size ≤ 1000000) (w : World) : Calls Tryz.prog 117 #[.string s, .string ⟨#[84]⟩] w (fun e w' => e = .returned (cutT s k) ∧ Below w.heap.size w w') := by
  have C := fun w => indexT_any s k h hs w
  rcases h with ⟨n, rfl, hn, _, _⟩ | ⟨rfl, _⟩
  · have : cutT s n = .tuple #[.string (s.extract 0 n), .string (s.extract (n + 1) s.size), .bool true] := by
      unfold cutT; rw [if_neg (by omega)]; rfl
    rw [this]
    go_enter Tryz.func117, Tryz.ntmps117
    go_wp2_with fail
    refine (C _).mono ?_
    rintro e w1 ⟨rfl, rfl⟩
    clear C
    have c1 : (0 : Int) ≤ ↑n := by omega
    have c2 : (↑n : Int) ≤ ↑s.size := by omega
    have c3 : (0 : Int) ≤ ↑n + 1 := by omega
    have c4 : (↑n + 1 : Int) ≤ ↑s.size := by omega
    go_wp2_with fail
    go_region
    go_wp2
    go_ret3
    exact ⟨rfl, (Below.refl _ _).drew⟩
  · go_enter Tryz.func117, Tryz.ntmps117
    go_wp2_with fail
    refine (C _).mono ?_
    rintro e w1 ⟨rfl, rfl⟩
    go_wp2
    go_ret3
    exact ⟨rfl, Below.refl _ _⟩
set_option maxHeartbeats 400000 in
theorem cut_any (s : ByteArray) (k : Int) (h : FirstAt s 84 k) (hs : s.size ≤ 1000000) (w : World) : Calls Tryz.prog 105 #[.string s, .string ⟨#[84]⟩] w (fun e w' => e = .returned (cutT s k) ∧ Below w.heap.size w w') := by
  have C := fun w => lcut_any s k h hs w
  unfold cutT at C ⊢
  split
  all_goals (
    rename_i hk
    simp only [hk, if_true, if_false] at C
    go_enter Tryz.func105, Tryz.ntmps105
    go_wp2_with fail
    refine (C _).mono ?_
    rintro e w1 ⟨rfl, hb⟩
    clear C
    go_wp2
    go_ret3
    exact ⟨rfl, hb⟩)
end Go.Proofs.YtbhafhbaldddiaaGreatDoor
namespace Go.Proofs.YtbhafhbaldddiaaGreatDoor
open Go.RowKit
open Go
set_option linter.unusedVariables false
/-- A time of the day as a value. -/
def clkV (h m x : Int) : Value := .agg #[.int .i64 0, .int .i64 0, .int .i64 0, .int .i64 h, .int .i64 m, .int .i64 x]
/-- What a contract of Clock says. -/
def ClkPost (r : Int × Int × Int × Nat × Bool) (w : World) (e : Ending) (w' : World) : Prop := e = .returned (.tuple #[clkV r.1 r.2.1 r.2.2.1, .int .i64 r.2.2.2.1, .bool r.2.2.2.2]) ∧ Below w.heap.size w w'
theorem fm (s a : ByteArray) (b : Bool) (hb : Sm.formB s a = b) (ha : a.size ≤ 1000) (w : World) : Calls Tryz.prog 74 #[.string s, .string a] w (fun e w' => e = .returned (.bool b) ∧ Below w.heap.size w w') := by
  subst hb; exact form_any s a ha w
theorem nm2 (s : ByteArray) (a b : Nat) (hb : b = a + 2) (h : Sm.d2 s a = true) (w : World) : Calls Tryz.prog 104 #[.string (s.extract a b)] w (fun e w' => e = .returned (.int .i64 (Sm.n2 s a)) ∧ Below w.heap.size w w') := by
  subst hb
  obtain ⟨h1, h2⟩ := Sm.num_d2 h
  have := snumber_any (s.extract a (a + 2)) (by omega) w
  rw [h1, h2] at this; exact this
/-- The box of Clock's answer. -/
def CB (w W : World) (v3 v4 v5 : Value) : Prop := Six W w.heap.size (.int .i64 0) (.int .i64 0) (.int .i64 0) v3 v4 v5 ∧ (∀ o, W.frozen? ⟨w.heap.size, o, none⟩ = false) ∧ w.heap.size < W.heap.size ∧ Below w.heap.size w W
theorem CB.first (w : World) (t : TypeId) : CB w (w.alloc (.cells #[.int .i64 0, .int .i64 0, .int .i64 0, .int .i64 0, .int .i64 0, .int .i64 0] t)) (.int .i64 0) (.int .i64 0) (.int .i64 0) :=
  ⟨⟨by simp, by simp, by simp, by simp, by simp, by simp⟩, fun o => by simp, by simp, bbox (Below.refl _ _) _⟩
theorem CB.drew {w W : World} {v3 v4 v5 : Value} (h : CB w W v3 v4 v5) : CB w W.drew v3 v4 v5 := ⟨h.1, h.2.1, h.2.2.1, h.2.2.2.drew⟩
theorem CB.step {w W W' : World} {v3 v4 v5 : Value} (h : CB w W v3 v4 v5) (hb : Below W.heap.size W W') : CB w W' v3 v4 v5 := by
  obtain ⟨⟨q0, q1, q2, q3, q4, q5⟩, hf, hz, hB⟩ := h
  exact ⟨⟨(hb.cell (p := ⟨w.heap.size, 0, none⟩) hz).trans q0, (hb.cell (p := ⟨w.heap.size, 1, none⟩) hz).trans q1, (hb.cell (p := ⟨w.heap.size, 2, none⟩) hz).trans q2, (hb.cell (p := ⟨w.heap.size, 3, none⟩) hz).trans q3, (hb.cell (p := ⟨w.heap.size, 4, none⟩) hz).trans q4, (hb.cell (p := ⟨w.heap.size, 5, none⟩) hz).trans q5⟩,
    fun o => (hb.frozen (p := ⟨w.heap.size, o, none⟩) hz).trans (hf o), Nat.lt_of_lt_of_le hz hb.size, bn hB hb⟩
theorem CB.stepd {w W W' : World} {v3 v4 v5 : Value} (h : CB w W v3 v4 v5) (hb : Below W.drew.heap.size W.drew W') : CB w W' v3 v4 v5 := h.drew.step hb
theorem CB.s3 {w W : World} {v3 v4 v5 : Value} (h : CB w W v3 v4 v5) (x : Value) : CB w (W.setCell ⟨w.heap.size, 3, none⟩ x) x v4 v5 := ⟨h.1.s3 x, fun o => by rw [World.frozen?_setCell]; exact h.2.1 o, by simpa using h.2.2.1, h.2.2.2.setCell (Nat.le_refl _) _⟩
theorem CB.s4 {w W : World} {v3 v4 v5 : Value} (h : CB w W v3 v4 v5) (x : Value) : CB w (W.setCell ⟨w.heap.size, 4, none⟩ x) v3 x v5 := ⟨h.1.s4 x, fun o => by rw [World.frozen?_setCell]; exact h.2.1 o, by simpa using h.2.2.1, h.2.2.2.setCell (Nat.le_refl _) _⟩
theorem CB.s5 {w W : World} {v3 v4 v5 : Value} (h : CB w W v3 v4 v5) (x : Value) : CB w (W.setCell ⟨w.heap.size, 5, none⟩ x) v3 v4 x := ⟨h.1.s5 x, fun o => by rw [World.frozen?_setCell]; exact h.2.1 o, by simpa using h.2.2.1, h.2.2.2.setCell (Nat.le_refl _) _⟩
theorem CB.all {w W : World} {v3 v4 v5 : Value} (h : CB w W v3 v4 v5) (x3 x4 x5 : Value) : CB w ((((((W.setCell ⟨w.heap.size, 0, none⟩ (.int .i64 0)).setCell ⟨w.heap.size, 1, none⟩ (.int .i64 0)).setCell ⟨w.heap.size, 2, none⟩ (.int .i64 0)).setCell ⟨w.heap.size, 3, none⟩ x3).setCell ⟨w.heap.size, 4, none⟩ x4).setCell ⟨w.heap.size, 5, none⟩ x5) x3 x4 x5 := by
  have h3 : CB w (((W.setCell ⟨w.heap.size, 0, none⟩ (.int .i64 0)).setCell ⟨w.heap.size, 1, none⟩ (.int .i64 0)).setCell ⟨w.heap.size, 2, none⟩ (.int .i64 0)) v3 v4 v5 :=
    ⟨((h.1.s0 _).s1 _).s2 _, fun o => by rw [World.frozen?_setCell, World.frozen?_setCell, World.frozen?_setCell]; exact h.2.1 o, by simpa using h.2.2.1, ((h.2.2.2.setCell (Nat.le_refl _) _).setCell (Nat.le_refl _) _).setCell (Nat.le_refl _) _⟩
  exact ((h3.s3 x3).s4 x4).s5 x5
theorem clk_ret (tmps : Array Value) (W w : World) (h m x n : Int) (ok : Bool) (h2 : tmps[2]?.getD undef = .pointer (some ⟨w.heap.size, 0, none⟩)) (h3 : tmps[3]?.getD undef = .int .i64 n) (h4 : tmps[4]?.getD undef = .bool ok)
    (hc : CB w W (.int .i64 h) (.int .i64 m) (.int .i64 x)) (Q : Ending → World → Prop) (hQ : Below w.heap.size w W → Q (.returned (.tuple #[clkV h m x, .int .i64 n, .bool ok])) W) :
    bodyPost Tryz.prog Tryz.f106 Q Exit.ret ⟨tmps, []⟩ W := by
  obtain ⟨⟨k0, k1, k2, k3, k4, k5⟩, _, _, hb⟩ := hc
  exact bodyPost_ret (v := .tuple #[clkV h m x, .int .i64 n, .bool ok]) (by unfold clkV; simp [results, go_sem, h2, h3, h4, k0, k1, k2, k3, k4, k5]) rfl (hQ hb)
set_option maxHeartbeats 1000000 in
theorem clock_lo (s : ByteArray) (h : s.size < 5) (w : World) : Calls Tryz.prog 106 #[.string s] w (ClkPost (0, 0, 0, 0, false) w) := by
  have h' : (s.size : Int) < 5 := by omega
  go_enter Tryz.func106, Tryz.ntmps106
  go_wp2_with fail
  exact clk_ret _ _ w 0 0 0 0 false rfl rfl rfl (CB.first w _) _ (fun hb => ⟨rfl, hb⟩)
set_option maxHeartbeats 1000000 in
theorem clock_no (s : ByteArray) (h : 5 ≤ s.size) (hs : s.size ≤ 1000) (hh : Sm.hmB s = false) (w : World) : Calls Tryz.prog 106 #[.string s] w (ClkPost (0, 0, 0, 0, false) w) := by
  have h' : ¬ (s.size : Int) < 5 := by omega
  have h5 : (5 : Int) ≤ s.size := by omega
  go_enter Tryz.func106, Tryz.ntmps106
  go_wp2_with fail
  refine (fm _ _ false ((Sm.form_hm s h).trans hh) (by decide) _).mono ?_
  rintro e w1 ⟨rfl, hb1⟩
  have hc := (CB.first w _).step hb1
  obtain ⟨⟨q0, q1, q2, q3, q4, q5⟩, hf, hz, hB⟩ := id hc
  go_wp2_with fail
  exact clk_ret _ _ w 0 0 0 0 false rfl rfl rfl (hc.all _ _ _) _ (fun hb => ⟨rfl, hb⟩)
set_option maxHeartbeats 6000000 in
theorem clock_yes (s : ByteArray) (h : 5 ≤ s.size) (hs : s.size ≤ 1000) (hh : Sm.hmB s = true) (w : World) : Calls Tryz.prog 106 #[.string s] w (ClkPost (Sm.clkF s) w) := by
  obtain ⟨d0, _, d3⟩ := (Sm.hmB_iff s).1 hh
  have h' : ¬ (s.size : Int) < 5 := by omega
  have h5 : (5 : Int) ≤ s.size := by omega
  have h2 : (2 : Int) ≤ s.size := by omega
  have C0 := fun w => nm2 s 0 2 rfl d0 w
  have C3 := fun w => nm2 s 3 5 rfl d3 w
  have F : Sm.clkF s = if Sm.n2 s 0 ≤ 23 ∧ Sm.n2 s 3 ≤ 59 then (if Sm.seB s = true ∧ Sm.n2 s 6 ≤ 59 then (Sm.n2 s 0, Sm.n2 s 3, Sm.n2 s 6, Sm.endN s, true) else (Sm.n2 s 0, Sm.n2 s 3, 0, 5, true)) else (0, 0, 0, 0, false) := by unfold Sm.clkF; simp only [hh, true_and]
  generalize Sm.clkF s = res at *
  have HF := Lib.hid F
  clear F
  go_enter Tryz.func106, Tryz.ntmps106
  go_wp2_with fail
  refine (fm _ _ true ((Sm.form_hm s h).trans hh) (by decide) _).mono ?_
  rintro e w1 ⟨rfl, hb1⟩
  have hc := (CB.first w _).step hb1
  obtain ⟨⟨q0, q1, q2, q3, q4, q5⟩, hf, hz, hB⟩ := id hc
  generalize Sm.n2 s 0 = hr at *
  generalize Sm.n2 s 3 = mi at *
  have f3 := hf 3
  have f4 := hf 4
  clear hf hz hB q0 q1 q2 q5
  go_wp2_with fail
  go_region_held3 (fun _ => True) (trivial) (first | (go_at_call 104; (first | (with_reducible refine (C0 _).mono ?_) | (with_reducible refine (C3 _).mono ?_)); rintro e w' ⟨rfl, hb⟩; (first | (replace hc := CB.step hc hb) | (replace hc := CB.stepd hc hb)); have k3 := hc.1.2.2.2.1; have k4 := hc.1.2.2.2.2.1; have f3 := hc.2.1 3; have f4 := hc.2.1 4))
  replace hc := (hc.s3 (.int .i64 hr)).s4 (.int .i64 mi)
  generalize ((w'.setCell ⟨w.heap.size, 3, none⟩ (.int .i64 hr)).setCell ⟨w.heap.size, 4, none⟩ (.int .i64 mi)) = W3 at *
  clear hb k3 k4 f3 f4
  obtain ⟨⟨q0, q1, q2, q3, q4, q5⟩, hf, hz, hB⟩ := id hc
  by_cases h23 : 23 < hr
  · go_wp2_with fail
    refine clk_ret _ _ w 0 0 0 0 false rfl rfl rfl (hc.all _ _ _) _ (fun hb => ?_)
    rw [show res = (0, 0, 0, 0, false) by rw [HF.out, if_neg (by omega)]]
    exact ⟨rfl, hb⟩
  by_cases h59 : 59 < mi
  · go_wp2_with fail
    refine clk_ret _ _ w 0 0 0 0 false rfl rfl rfl (hc.all _ _ _) _ (fun hb => ?_)
    rw [show res = (0, 0, 0, 0, false) by rw [HF.out, if_neg (by omega)]]
    exact ⟨rfl, hb⟩
  have HF := Lib.hid (show res = if Sm.seB s = true ∧ Sm.n2 s 6 ≤ 59 then (hr, mi, Sm.n2 s 6, Sm.endN s, true) else (hr, mi, 0, 5, true) from by rw [HF.out, if_pos (by omega)])
  by_cases h8 : (s.size : Int) < 8
  · go_wp2_with fail
    refine clk_ret _ _ w hr mi 0 5 true rfl rfl rfl (hc.all _ _ _) _ (fun hb => ?_)
    rw [show res = (hr, mi, 0, 5, true) by rw [HF.out, if_neg (fun k => by have := Sm.se_size k.1; omega)]]
    exact ⟨rfl, hb⟩
  have h88 : (8 : Int) ≤ s.size := by omega
  cases hse : Sm.seB s
  · go_wp2_with fail
    refine (fm _ _ false ((Sm.form_se s (by omega)).trans hse) (by decide) _).mono ?_
    rintro e w4 ⟨rfl, hb4⟩
    have hc := hc.step hb4
    clear hb4 q0 q1 q2 q3 q4 q5 hf hz hB
    obtain ⟨⟨q0, q1, q2, q3, q4, q5⟩, hf, hz, hB⟩ := id hc
    go_wp2_with fail
    refine clk_ret _ _ w hr mi 0 5 true rfl rfl rfl (hc.all _ _ _) _ (fun hb => ?_)
    rw [show res = (hr, mi, 0, 5, true) by rw [HF.out, if_neg (fun k => by rw [hse] at k; cases k.1)]]
    exact ⟨rfl, hb⟩
  have d6 := ((Sm.seB_iff s).1 hse).2
  have C6 := fun w => nm2 s 6 8 rfl d6 w
  go_wp2_with fail
  refine (fm _ _ true ((Sm.form_se s (by omega)).trans hse) (by decide) _).mono ?_
  rintro e w4 ⟨rfl, hb4⟩
  replace hc := hc.step hb4
  clear hb4 q0 q1 q2 q3 q4 q5 hf hz hB
  obtain ⟨⟨q0, q1, q2, q3, q4, q5⟩, hf, hz, hB⟩ := id hc
  have HF := Lib.hid (show res = if Sm.n2 s 6 ≤ 59 then (hr, mi, Sm.n2 s 6, Sm.endN s, true) else (hr, mi, 0, 5, true) from by rw [HF.out]; simp only [hse, true_and])
  generalize Sm.n2 s 6 = se at *
  go_wp2_with fail
  refine (C6 _).mono ?_
  rintro e w5 ⟨rfl, hb5⟩
  replace hc := hc.step hb5
  clear hb5 q0 q1 q2 q3 q4 q5 hf hz hB
  obtain ⟨⟨q0, q1, q2, q3, q4, q5⟩, hf, hz, hB⟩ := id hc
  by_cases h59x : 59 < se
  · go_wp2_with fail
    refine clk_ret _ _ w hr mi 0 5 true rfl rfl rfl (hc.all _ _ _) _ (fun hb => ?_)
    rw [show res = (hr, mi, 0, 5, true) by rw [HF.out, if_neg (by omega)]]
    exact ⟨rfl, hb⟩
  have HF := Lib.hid (show res = (hr, mi, se, Sm.endN s, true) from by rw [HF.out, if_pos (by omega)])
  go_wp2_with fail
  refine (C6 _).mono ?_
  rintro e w6 ⟨rfl, hb6⟩
  replace hc := hc.step hb6
  clear hb6 q0 q1 q2 q3 q4 q5 hf hz hB
  obtain ⟨⟨q0, q1, q2, q3, q4, q5⟩, hf, hz, hB⟩ := id hc
  have hd6 := Sm.dig_in ((Sm.d2_iff s 6).1 d6).2
  by_cases h9 : 9 < (s.size : Int)
  · obtain ⟨p, hp⟩ : ∃ p : Int, p = (Sm.B s 8 : Int) := ⟨_, rfl⟩
    have hidx : ((s[8]'(by omega)).toNat : Int) = p := by rw [hp, Sm.B_at s 8 (by omega)]
    have HP := Lib.hid hp
    clear hp
    by_cases hdot : p = 46
    · subst hdot
      go_wp2_with fail
      go_loopw [3] (fun k wr => ∃ j : Nat, 9 ≤ j ∧ j ≤ s.size ∧ k = .int .i64 j ∧ (∀ i, 9 ≤ i → i < j → Sm.dig s i = true) ∧ CB w wr (.int .i64 hr) (.int .i64 mi) (.int .i64 se)) (fun k _ => s.size - (intOf k).toNat)
      case atStart => exact ⟨9, by omega, by omega, rfl, fun i a b => by omega, hc.s5 (.int .i64 se)⟩
      case round =>
        obtain ⟨j, h9j, hj, rfl, hr', hc⟩ := hrel
        have HR := Lib.hid hr'
        clear hr'
        obtain ⟨⟨q0, q1, q2, q3, q4, q5⟩, hf, hz, hB⟩ := id hc
        have fin : ∀ hd : Sm.dig s j = false, res = (hr, mi, se, (if j = 9 then 8 else j), true) := fun hd => by
          rw [HF.out]
          by_cases e : j = 9
          · subst e; rw [if_pos rfl, Sm.endN_9 s hd]
          · rw [if_neg e, Sm.endN_exit s j (by have := HP.out; omega) (by omega) hj HR.out hd]
        have FIN := Lib.hid fin
        clear fin
        by_cases hlt : j < s.size
        · have hlt' : (j : Int) + 1 ≤ s.size := by omega
          cases hd : Sm.dig s j
          · go_wp2_with fail
            refine (fm _ _ false ((Sm.form_one s j hlt).trans hd) (by decide) _).mono ?_
            rintro e w7 ⟨rfl, hb7⟩
            replace hc := hc.step hb7
            clear hb7 q0 q1 q2 q3 q4 q5 hf hz hB
            obtain ⟨⟨q0, q1, q2, q3, q4, q5⟩, hf, hz, hB⟩ := id hc
            by_cases e : j = 9
            · subst e
              go_wp2_with fail
              refine clk_ret _ _ w hr mi se 8 true rfl rfl rfl (hc.all _ _ _) _ (fun hb => ?_)
              rw [FIN.out hd]
              exact ⟨rfl, hb⟩
            · have e' : ¬ ((j : Int) = 9) := by omega
              go_wp2_with fail
              refine clk_ret _ _ w hr mi se j true rfl rfl rfl (hc.all _ _ _) _ (fun hb => ?_)
              rw [FIN.out hd, if_neg e]
              exact ⟨rfl, hb⟩
          · go_wp2_with fail
            refine (fm _ _ true ((Sm.form_one s j hlt).trans hd) (by decide) _).mono ?_
            rintro e w7 ⟨rfl, hb7⟩
            replace hc := hc.step hb7
            go_wp2_with fail
            go_roundw
            case rel =>
              refine ⟨j + 1, by omega, by omega, by go_num, fun i a b => ?_, hc⟩
              by_cases e : i = j
              · subst e; exact hd
              · exact HR.out i a (by omega)
            case measure => simp [intOf]; omega
        · have hd : Sm.dig s j = false := Sm.dig_out s j (by omega)
          have e : ¬ j = 9 := by omega
          have e' : ¬ ((j : Int) = 9) := by omega
          go_wp2_with fail
          refine clk_ret _ _ w hr mi se j true rfl rfl rfl (hc.all _ _ _) _ (fun hb => ?_)
          rw [FIN.out hd, if_neg e]
          exact ⟨rfl, hb⟩
    · have hdot' : (p == 46) = false := by simpa using hdot
      go_wp2_with fail
      refine clk_ret _ _ w hr mi se 8 true rfl rfl rfl ((hc.s5 (.int .i64 se)).all _ _ _) _ (fun hb => ?_)
      rw [show res = (hr, mi, se, 8, true) by rw [HF.out]; unfold Sm.endN; rw [if_neg (fun k => hdot (by have := HP.out; omega))]]
      exact ⟨rfl, hb⟩
  · go_wp2_with fail
    refine clk_ret _ _ w hr mi se 8 true rfl rfl rfl ((hc.s5 (.int .i64 se)).all _ _ _) _ (fun hb => ?_)
    rw [show res = (hr, mi, se, 8, true) by rw [HF.out]; unfold Sm.endN; rw [if_neg (fun k => by have := Sm.dig_in k.2; omega)]]
    exact ⟨rfl, hb⟩
end Go.Proofs.YtbhafhbaldddiaaGreatDoor
namespace Go.Proofs.YtbhafhbaldddiaaGreatDoor
open Go.RowKit
open Go
set_option linter.unusedVariables false
theorem sclock_any (s : ByteArray) (hs : s.size ≤ 1000) (w : World) : Calls Tryz.prog 106 #[.string s] w (ClkPost (Sm.clkF s) w) := by
  cases hh : Sm.hmB s
  · have : Sm.clkF s = (0, 0, 0, 0, false) := by unfold Sm.clkF; rw [if_neg (fun k => by rw [hh] at k; cases k.1)]
    rw [this]
    by_cases h : s.size < 5
    · exact clock_lo s h w
    · exact clock_no s (by omega) hs hh w
  · exact clock_yes s (Sm.hm_size hh) hs hh w
def ZonPost (r : Int × Bool) (w : World) (e : Ending) (w' : World) : Prop := e = .returned (.tuple #[.int .i64 r.1, .bool r.2]) ∧ Below w.heap.size w w'
theorem eq_list {s t : ByteArray} : s.toList = t.toList ↔ s = t := by
  rw [ByteArray.toList_eq, ByteArray.toList_eq]
  constructor
  · intro h
    apply ByteArray.ext
    apply Array.ext'
    exact h
  · intro h; rw [h]
set_option maxHeartbeats 1000000 in
theorem zone_z (w : World) : Calls Tryz.prog 107 #[.string ⟨#[90]⟩] w (ZonPost (0, true) w) := by
  go_enter Tryz.func107, Tryz.ntmps107
  go_wp2_with fail
  go_ret2
  exact ⟨rfl, Below.refl _ _⟩
set_option maxHeartbeats 1000000 in
theorem zone_no (s : ByteArray) (hz : (s.toList == [90]) = false) (h1 : Sm.formB s ⟨#[43, 48, 48, 58, 48, 48]⟩ = false) (h2 : Sm.formB s ⟨#[45, 48, 48, 58, 48, 48]⟩ = false) (w : World) : Calls Tryz.prog 107 #[.string s] w (ZonPost (0, false) w) := by
  have hz' : ¬ s.toList = [90] := by simpa using hz
  go_enter Tryz.func107, Tryz.ntmps107
  go_wp2_with fail
  refine (fm _ _ false h1 (by decide) _).mono ?_
  rintro e w1 ⟨rfl, hb1⟩
  go_wp2_with fail
  refine (fm _ _ false h2 (by decide) _).mono ?_
  rintro e w2 ⟨rfl, hb2⟩
  go_wp2_with fail
  go_ret2
  exact ⟨rfl, bn hb1 hb2⟩
theorem bbb {w W W' : World} (h : Below w.heap.size w W) (k : Below W.heap.size W W' ∨ Below W.drew.heap.size W.drew W') : Below w.heap.size w W' := by
  rcases k with k | k
  · exact bn h k
  · exact bn h.drew k
set_option maxHeartbeats 1000000 in
theorem zone_east (s : ByteArray) (hz : (s.toList == [90]) = false) (h1 : Sm.formB s ⟨#[43, 48, 48, 58, 48, 48]⟩ = true) (h6 : s.size = 6) (h0 : Sm.B s 0 = 43) (d1 : Sm.d2 s 1 = true) (d4 : Sm.d2 s 4 = true) (w : World) :
    Calls Tryz.prog 107 #[.string s] w (ZonPost (if Sm.n2 s 1 ≤ 23 ∧ Sm.n2 s 4 ≤ 59 then (Sm.n2 s 1 * 60 + Sm.n2 s 4, true) else (0, false)) w) := by
  have hz' : ¬ s.toList = [90] := by simpa using hz
  have h6' : (s.size : Int) = 6 := by omega
  have C1 := fun w => nm2 s 1 3 rfl d1 w
  have C4 := fun w => nm2 s 4 s.size h6 d4 w
  rw [h6] at C4
  have b1 := Sm.n2_bd d1
  have b4 := Sm.n2_bd d4
  obtain ⟨b10, b11⟩ := b1
  obtain ⟨b40, b41⟩ := b4
  have hidx : ((s[0]'(by omega)).toNat : Int) = 43 := by rw [Sm.B_at s 0 (by omega), h0]; rfl
  generalize Sm.n2 s 1 = h at *
  generalize Sm.n2 s 4 = m at *
  generalize hF : (if h ≤ 23 ∧ m ≤ 59 then (h * 60 + m, true) else (0, false)) = res
  have HF := Lib.hid hF
  clear hF
  go_enter Tryz.func107, Tryz.ntmps107
  go_wp2_with fail
  refine (fm _ _ true h1 (by decide) _).mono ?_
  rintro e w1 ⟨rfl, hb1⟩
  go_wp2_with fail
  go_region_held3 (fun _ => True) (trivial) (first | (go_at_call 104; (first | (with_reducible refine (C1 _).mono ?_) | (with_reducible refine (C4 _).mono ?_)); rintro e w' ⟨rfl, hb⟩; replace hb1 : Below w.heap.size w w' := (by first | exact bn hb1 hb | exact bn hb1.drew hb); clear hb))
  by_cases hh : 23 < h
  · go_wp2_with fail
    go_ret2
    rw [← HF.out, if_neg (by omega)]
    exact ⟨rfl, hb1⟩
  by_cases hm : 59 < m
  · go_wp2_with fail
    go_ret2
    rw [← HF.out, if_neg (by omega)]
    exact ⟨rfl, hb1⟩
  go_wp2_with fail
  go_ret2
  rw [← HF.out, if_pos (by omega)]
  refine ⟨?_, hb1⟩
  first | rfl | (go_num; rfl) | skip
set_option maxHeartbeats 1000000 in
theorem zone_west (s : ByteArray) (hz : (s.toList == [90]) = false) (h0' : Sm.formB s ⟨#[43, 48, 48, 58, 48, 48]⟩ = false) (h1 : Sm.formB s ⟨#[45, 48, 48, 58, 48, 48]⟩ = true) (h6 : s.size = 6) (h0 : Sm.B s 0 = 45) (d1 : Sm.d2 s 1 = true) (d4 : Sm.d2 s 4 = true) (w : World) :
    Calls Tryz.prog 107 #[.string s] w (ZonPost (if Sm.n2 s 1 ≤ 23 ∧ Sm.n2 s 4 ≤ 59 then (-(Sm.n2 s 1 * 60 + Sm.n2 s 4), true) else (0, false)) w) := by
  have hz' : ¬ s.toList = [90] := by simpa using hz
  have h6' : (s.size : Int) = 6 := by omega
  have C1 := fun w => nm2 s 1 3 rfl d1 w
  have C4 := fun w => nm2 s 4 s.size h6 d4 w
  rw [h6] at C4
  have b1 := Sm.n2_bd d1
  have b4 := Sm.n2_bd d4
  obtain ⟨b10, b11⟩ := b1
  obtain ⟨b40, b41⟩ := b4
  have hidx : ((s[0]'(by omega)).toNat : Int) = 45 := by rw [Sm.B_at s 0 (by omega), h0]; rfl
  generalize Sm.n2 s 1 = h at *
  generalize Sm.n2 s 4 = m at *
  generalize hF : (if h ≤ 23 ∧ m ≤ 59 then (-(h * 60 + m), true) else (0, false)) = res
  have HF := Lib.hid hF
  clear hF
  go_enter Tryz.func107, Tryz.ntmps107
  go_wp2_with fail
  refine (fm _ _ false h0' (by decide) _).mono ?_
  rintro e w0 ⟨rfl, hb0⟩
  go_wp2_with fail
  refine (fm _ _ true h1 (by decide) _).mono ?_
  rintro e w1 ⟨rfl, hb1⟩
  replace hb1 := bn hb0 hb1
  go_wp2_with fail
  go_region_held3 (fun _ => True) (trivial) (first | (go_at_call 104; (first | (with_reducible refine (C1 _).mono ?_) | (with_reducible refine (C4 _).mono ?_)); rintro e w' ⟨rfl, hb⟩; replace hb1 : Below w.heap.size w w' := (by first | exact bn hb1 hb | exact bn hb1.drew hb); clear hb))
  by_cases hh : 23 < h
  · go_wp2_with fail
    go_ret2
    rw [← HF.out, if_neg (by omega)]
    exact ⟨rfl, hb1⟩
  by_cases hm : 59 < m
  · go_wp2_with fail
    go_ret2
    rw [← HF.out, if_neg (by omega)]
    exact ⟨rfl, hb1⟩
  go_wp2_with fail
  go_ret2
  rw [← HF.out, if_pos (by omega)]
  refine ⟨?_, hb1⟩
  first | rfl | (go_num; rfl) | skip
end Go.Proofs.YtbhafhbaldddiaaGreatDoor
