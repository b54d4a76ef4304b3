/- The walks of the library's Split at one byte: a text's pieces. -/
import Derived.Test.YtfgchphadeogpaaDoorBase
import Derived.Test.YtfgchphadeogpaaDoorMl
import Derived.Test.YtfgchphadeogpaaDoorShelf
import Derived.Lib.SplitLaws
namespace Go.Proofs.YtfgchphadeogpaaDoor
open Go.RowKit Go.Shelf
open Go
set_option linter.unusedVariables false
theorem idx_1 (s : ByteArray) (c : UInt8) : Lib.indexB s ⟨#[c]⟩ = Lib.indexByte s.data.toList c := Lib.index_one _ _
theorem cnt_1 (s : ByteArray) (c : UInt8) : Lib.countB s ⟨#[c]⟩ = s.data.toList.count c := Lib.count_one _ _
theorem sp_step (c : UInt8) : ∀ (l : List UInt8) (i : Nat), Lib.indexByte l c = i → Ml.sp c l = l.take i :: Ml.sp c (l.drop (i + 1))
  | [], i, h => by simp [Lib.indexByte] at h
  | b :: l, i, h => by
    rw [Ml.sp_cons]
    unfold Lib.indexByte at h
    by_cases e : b = c
    · subst e
      simp at h
      have : i = 0 := by omega
      subst this
      simp
    · have e2 : (b == c) = false := by simpa using e
      rw [e2] at h
      rw [if_neg e]
      by_cases hm : Lib.indexByte l c = -1
      · rw [hm] at h
        simp at h
      · have hb : (Lib.indexByte l c == -1) = false := by simpa using hm
        rw [hb] at h
        simp only [Bool.false_eq_true, if_false] at h
        have hg := Lib.indexByte_ge l c
        obtain ⟨j, rfl⟩ : ∃ j, i = j + 1 := ⟨i - 1, by omega⟩
        rw [sp_step c l j (by omega)]
        simp
theorem split_pieces (c : UInt8) : ∀ (k : Nat) (s : ByteArray), k = s.data.toList.count c → Lib.splitB ⟨#[c]⟩ 0 k s = (Ml.sp c s.data.toList).map Ml.mk
  | 0, s, h => by
    have h2 : c ∉ s.data.toList := fun e => by
      have := List.count_pos_iff.2 e
      omega
    rw [Ml.sp_none c _ h2, List.map_singleton, Ml.mk_list]
    rfl
  | k + 1, s, h => by
    rcases Lib.indexB_cases s ⟨#[c]⟩ with hm | ⟨i, hi, hi2⟩
    · have := Lib.countB_miss s ⟨#[c]⟩ hm
      rw [cnt_1] at this
      omega
    · have h3 := Lib.countB_hit s ⟨#[c]⟩ i (Nat.le_refl 1) hi
      rw [cnt_1, cnt_1] at h3
      have h4 : (⟨#[c]⟩ : ByteArray).size = 1 := rfl
      rw [h4] at h3
      rw [Lib.splitB_hit _ _ _ _ i hi, h4, split_pieces c k _ (by omega)]
      rw [idx_1] at hi
      rw [sp_step c _ i hi, List.map_cons, Lib.extract_to_end, Nat.add_zero]
      congr 1
      rw [← Lib.extract_from_zero, Ml.mk_list]
theorem info_str : (Tryd.prog.info? 9).map (fun i => (i.zero, i.size, i.bytes)) = some (some (.string ByteArray.empty), 1, 16) := by kernel_rfl
def SplitPost (s : ByteArray) (c : UInt8) (w : World) (e : Ending) (w' : World) : Prop :=
  e = .returned (.slice (some ⟨w.heap.size, 0, none⟩) (Ml.sp c s.data.toList).length (Ml.sp c s.data.toList).length) ∧ w' = w.alloc (.cells (((Ml.sp c s.data.toList).map Ml.mk).map Value.string).toArray 9)
set_option maxHeartbeats 1000000 in
theorem split_any (s : ByteArray) (c : UInt8) (hs : s.size ≤ 100000) (w : World) : Calls Tryd.prog 19 #[.string s, .string ⟨#[c]⟩] w (SplitPost s c w) := by
  have hle := Lib.countB_le ⟨#[c]⟩ (Nat.le_refl 1) s.size s (Nat.le_refl _)
  have hlen := Lib.splitB_all ⟨#[c]⟩ (Nat.le_refl 1) 0 _ s rfl
  have c1 := Any.strings_genSplit_core Tryd.lays221 info_str s ⟨#[c]⟩ 0 (-1) (Lib.countB s ⟨#[c]⟩ + 1) w (by omega) (Nat.le_refl 1) (Nat.zero_le _)
    (fun x cs hx => (Tryd.strings_Index_one x c _).mono fun e w' ⟨h1, h2⟩ => ⟨by rw [h1, idx_1], h2⟩)
    ((Tryd.strings_Count_one s c w).mono fun e w' ⟨h1, h2⟩ => ⟨by rw [h1, cnt_1]; rfl, h2⟩) (by decide) (by decide) (by rw [if_pos (by decide)]; omega)
  rw [Nat.add_sub_cancel, hlen] at c1
  have e2 : Lib.cellsOf (Lib.splitB ⟨#[c]⟩ 0 (Lib.countB s ⟨#[c]⟩) s) (Lib.countB s ⟨#[c]⟩ + 1) = ((Lib.splitB ⟨#[c]⟩ 0 (Lib.countB s ⟨#[c]⟩) s).map Value.string).toArray := by rw [← hlen]; exact Lib.cellsOf_full _
  rw [e2, split_pieces c _ s (cnt_1 s c)] at c1
  rw [split_pieces c _ s (cnt_1 s c), List.length_map] at hlen
  rw [← hlen] at c1
  clear hlen e2 hle
  go_enter Tryd.func19, Tryd.ntmps19
  go_wp2_with fail
  refine c1.mono ?_
  rintro e w1 ⟨rfl, rfl⟩
  go_wp2_with fail
  go_ret
  exact ⟨rfl, by rw [List.map_map]; rfl⟩
end Go.Proofs.YtfgchphadeogpaaDoor
