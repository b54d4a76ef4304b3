/- The walk of the document's words. -/
import Derived.Test.YtfgchphadeogpaaDoorMlT
import Derived.Test.YtfgchphadeogpaaDoorMlPh
import Derived.Deep.AppendLies
namespace Go.Proofs.YtfgchphadeogpaaDoor
open Go.RowKit
open Go
set_option linter.unusedVariables false
def OW (w : World) (base : Nat) (v : Value) (out : List ByteArray) : Prop := ∃ a cap, v = .slice a out.length cap ∧ w.ownsRow base 9 1 v out.length (out.map Value.string)
def WordsPost (s : ByteArray) (w : World) (e : Ending) (w' : World) : Prop := ∃ v, e = .returned v ∧ OW w' w.heap.size v ((Ml.wds s).take 9) ∧ Below w.heap.size w w'
theorem one_str (x : ByteArray) : ∀ u ∈ [Value.string x], u.oneCell' = true := by
  intro u hu
  simp at hu
  subst hu
  rfl
set_option maxRecDepth 100000 in
set_option maxHeartbeats 2000000 in
theorem words_any (s : ByteArray) (hs : s.size ≤ 100000) (w : World) : Calls Tryd.prog 28 #[.string s] w (WordsPost s w) := by
  obtain ⟨L, hL⟩ : ∃ L, (Ml.wds s).take 9 = L := ⟨_, rfl⟩
  unfold WordsPost
  rw [hL]
  have HL := Lib.hid hL
  clear hL
  obtain ⟨i0, hi, hi0, hi1, hi2⟩ := info_parts info_str
  go_enter Tryd.func28, Tryd.ntmps28
  go_wp2
  go_loopw [3, 4, 5] (fun v f k wr => ∃ (i fr : Nat) (out : List ByteArray), i ≤ s.size + 1 ∧ out.length ≤ 9 ∧ k = .int .i64 i ∧ f = .int .i64 fr ∧ Ml.WR s i fr out ∧ OW wr w.heap.size v out ∧ Below w.heap.size w wr) (fun _ _ k _ => s.size + 1 - (intOf k).toNat)
  case atStart => exact ⟨0, 0, [], by omega, by simp, rfl, rfl, Ml.WR.start s, ⟨none, 0, rfl, World.ownsRow_nil _ _ _ _⟩, Below.refl _ _⟩
  case round =>
    obtain ⟨i, fr, out, hi1', h9, rfl, rfl, hWR, ⟨ad, cap, rfl, hown⟩, hB⟩ := hrel
    have HW := Lib.hid hWR
    have hzz := hB.size
    obtain ⟨n, hn⟩ : ∃ n, out.length = n := ⟨_, rfl⟩
    have HN := Lib.hid hn
    rw [hn]
    rw [hn] at h9 hown
    have HO := Lib.hid hown
    clear hn hown
    by_cases hle : i ≤ s.size
    · have i1 : (i : Int) ≤ (s.size : Int) := by omega
      have hfr := hWR.from_le hle
      have i2 : (fr : Int) ≤ (i : Int) := by omega
      have i3 : (0 : Int) ≤ (fr : Int) := by omega
      by_cases h8 : n ≤ 8
      · have n1 : (n : Int) ≤ 8 := by omega
        by_cases hend : i = s.size
        · have e1 : ((i : Int) == (s.size : Int)) = true := by simp [hend]
          have hnew := hWR.end_ hend
          have HNEW := Lib.hid hnew
          clear hWR hnew hend hle h8
          go_wp2_with (at_builtin; refine wpList_append_lies _ rfl (.tmp 27) (.tmp 32) _ rfl w.heap.size 9 i0 _ 1 16 Tryd.underlying33 hi hi0 hi1 hi2 rfl (by omega) _ _ _ (by rfl) (HO.out.alloc _) ⟨wr.heap.size, 0, none⟩ 1 1 [.string (s.extract fr i)] (by rfl) rfl (World.news_of_block (heap_alloc_new _ _)) (one_str _) (by omega) (by unfold maxLen; omega) (by omega) (by simp; omega) _ rfl ?_; intro g1 cap1 w2 hown2 hgrow2 hat2 hlt2)
          go_roundw
          case rel => exact ⟨i + 1, i + 1, out ++ [s.extract fr i], by omega, by rw [List.length_append, HN.out]; simp; omega, by go_num, by go_num, HNEW.out, ⟨_, _, by rw [List.length_append, HN.out]; rfl, by rw [List.length_append, HN.out, List.map_append]; exact hown2⟩, (hB.alloc (by omega) _).grown hgrow2 (by simp; omega) (fun k hk => (HO.out.lt k hk).1)⟩
          case measure => simp [intOf]; omega
        · have hlt : i < s.size := by omega
          have e1 : ((i : Int) == (s.size : Int)) = false := by simp; omega
          have hidx := byte_at s i hlt
          have i4 : (i : Int) < (s.size : Int) := by omega
          by_cases hb : Sm.B s i = 32
          · have hnew := hWR.cut hlt hb
            have HNEW := Lib.hid hnew
            rw [hb] at hidx
            clear hWR hnew hend hle h8 hb
            go_wp2_with (at_builtin; refine wpList_append_lies _ rfl (.tmp 27) (.tmp 32) _ rfl w.heap.size 9 i0 _ 1 16 Tryd.underlying33 hi hi0 hi1 hi2 rfl (by omega) _ _ _ (by rfl) (HO.out.alloc _) ⟨wr.heap.size, 0, none⟩ 1 1 [.string (s.extract fr i)] (by rfl) rfl (World.news_of_block (heap_alloc_new _ _)) (one_str _) (by omega) (by unfold maxLen; omega) (by omega) (by simp; omega) _ rfl ?_; intro g1 cap1 w2 hown2 hgrow2 hat2 hlt2)
            go_roundw
            case rel => exact ⟨i + 1, i + 1, out ++ [s.extract fr i], by omega, by rw [List.length_append, HN.out]; simp; omega, by go_num, by go_num, HNEW.out, ⟨_, _, by rw [List.length_append, HN.out]; rfl, by rw [List.length_append, HN.out, List.map_append]; exact hown2⟩, (hB.alloc (by omega) _).grown hgrow2 (by simp; omega) (fun k hk => (HO.out.lt k hk).1)⟩
            case measure => simp [intOf]; omega
          · have hnew := hWR.step hlt hb
            have HNEW := Lib.hid hnew
            have e2 : ((Sm.B s i : Int) == 32) = false := by simp; omega
            clear hWR hnew hend hle h8 hb
            go_wp2
            go_roundw
            case rel => exact ⟨i + 1, fr, out, by omega, by rw [HN.out]; omega, by go_num, rfl, HNEW.out, ⟨_, _, by rw [HN.out], by rw [HN.out]; exact HO.out⟩, hB⟩
            case measure => simp [intOf]; omega
      · have n1 : ¬ ((n : Int) ≤ 8) := by omega
        have hfin := hWR.done (Or.inr (by rw [HN.out]; omega)) (by rw [HN.out]; omega)
        have HFIN : Hid (out = L) := Lib.hid (hfin.symm.trans HL.out)
        clear hWR hfin hle h8
        go_wp2
        go_ret
        have hres : OW wr w.heap.size (.slice ad n cap) L := ⟨ad, cap, by rw [← HFIN.out, HN.out], by rw [← HFIN.out, HN.out]; exact HO.out⟩
        exact ⟨.slice ad n cap, rfl, hres, hB⟩
    · have i1 : ¬ ((i : Int) ≤ (s.size : Int)) := by omega
      have hfin := hWR.done (Or.inl (by omega)) (by rw [HN.out]; omega)
      have HFIN : Hid (out = L) := Lib.hid (hfin.symm.trans HL.out)
      clear hWR hfin hle
      go_wp2
      go_ret
      have hres : OW wr w.heap.size (.slice ad n cap) L := ⟨ad, cap, by rw [← HFIN.out, HN.out], by rw [← HFIN.out, HN.out]; exact HO.out⟩
      exact ⟨.slice ad n cap, rfl, hres, hB⟩
end Go.Proofs.YtfgchphadeogpaaDoor
