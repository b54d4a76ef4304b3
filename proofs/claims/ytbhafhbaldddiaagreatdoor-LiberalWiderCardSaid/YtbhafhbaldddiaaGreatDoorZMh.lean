/- The walk of the document's clock. Plain laws on letters' dates: a text's words, met one by one. No program in sight. The walk of the document's words. -/
import Derived.Test.YtbhafhbaldddiaaGreatDoorZMg
import Derived.Test.YtbhafhbaldddiaaGreatDoorZMf
import Derived.Deep.AppendLies
namespace Go.Proofs.YtbhafhbaldddiaaGreatDoor
open Go.RowKit
open Go
set_option linter.unusedVariables false
def CkP (s : ByteArray) (w : World) (e : Ending) (w' : World) : Prop := ∃ a b c, e = .returned (.tuple #[.int .i64 a, .int .i64 b, .int .i64 c, .bool (Ml.hmsB s)]) ∧ (Ml.hmsB s = true → a = Sm.n2 s 0 ∧ b = Sm.n2 s 3 ∧ c = Ml.secOf s) ∧ Below w.heap.size w w'
theorem hms_false {s : ByteArray} (h : ¬ (Sm.d2 s 0 = true ∧ Sm.B s 2 = 58 ∧ Sm.d2 s 3 = true ∧ (s.size = 5 ∨ s.size = 8 ∧ Sm.B s 5 = 58 ∧ Sm.d2 s 6 = true))) : Ml.hmsB s = false := by
  cases hh : Ml.hmsB s with
  | false => rfl
  | true => exact absurd ((Ml.hms_iff s).1 hh) h
set_option maxRecDepth 100000 in
set_option maxHeartbeats 2000000 in
theorem rclock_any (s : ByteArray) (hs : s.size ≤ 100000) (w : World) : Calls Tryz.prog 48 #[.string s] w (CkP s w) := by
  by_cases h5 : s.size = 5
  · have n5 : ((s.size : Int) == 5) = true := by simp [h5]
    have n5' : ((s.size : Int) != 5) = false := by simp [h5]
    have c1 := fun w => num2_any s 0 2 rfl (by omega) hs w
    have c2 := fun w => num2_any s 3 5 rfl (by omega) hs w
    have v1 : Sm.d2 s 0 = true → numV (s.extract 0 2) = Sm.n2 s 0 := fun h => num2_val rfl (by omega) h
    have v2 : Sm.d2 s 3 = true → numV (s.extract 3 5) = Sm.n2 s 3 := fun h => num2_val rfl (by omega) h
    have g2 : 2 < s.size := by omega
    have hb2 := byte_at s 2 g2
    have i1 : (2 : Int) ≤ (s.size : Int) := by omega
    have i2 : (5 : Int) ≤ (s.size : Int) := by omega
    have i3 : (2 : Int) < (s.size : Int) := by omega
    by_cases hq : Sm.B s 2 = 58
    · have hh : Ml.hmsB s = (Sm.d2 s 0 && Sm.d2 s 3) := by
        rw [Bool.eq_iff_iff, Ml.hms_iff, Bool.and_eq_true]
        exact ⟨fun h => ⟨h.1, h.2.2.1⟩, fun h => ⟨h.1, hq, h.2, Or.inl h5⟩⟩
      rw [hq] at hb2
      have hsec : Ml.secOf s = 0 := by unfold Ml.secOf; rw [if_neg (by omega)]
      have HH := Lib.hid hh
      have H5 := Lib.hid h5
      clear hq hh h5
      cases hp1 : Sm.d2 s 0 <;> cases hp2 : Sm.d2 s 3 <;> rw [hp1] at c1 <;> rw [hp2] at c2
      all_goals
        have HP1 := Lib.hid hp1
        have HP2 := Lib.hid hp2
        clear hp1 hp2
        go_enter Tryz.func48, Tryz.ntmps48
        go_wp2_with (go_at_call 47; (first | (with_reducible refine (c1 _).mono ?_) | (with_reducible refine (c2 _).mono ?_)); rintro e w3 ⟨rfl, rfl⟩)
        have hf := HH.out
        rw [HP1.out, HP2.out] at hf
        refine bodyPost_ret (v := .tuple #[.int .i64 (numV (s.extract 0 2)), .int .i64 (numV (s.extract 3 5)), .int .i64 0, .bool (Ml.hmsB s)]) (by simp [results, Tryz.results48, go_sem, hf]) rfl ⟨_, _, _, rfl, fun h => ?_, by first | exact Below.refl _ _ | exact below_drewN (Below.refl _ _) _⟩
        first | (rw [hf] at h; cases h; done) | exact ⟨v1 HP1.out, v2 HP2.out, hsec.symm⟩
    · have hh : Ml.hmsB s = false := hms_false (fun h => hq h.2.1)
      have e1 : ((Sm.B s 2 : Int) == 58) = false := by simp; omega
      have e2 : ((Sm.B s 2 : Int) != 58) = true := by simp; omega
      have HH := Lib.hid hh
      clear hq hh v1 v2 h5
      go_enter Tryz.func48, Tryz.ntmps48
      go_wp2_with fail
      refine bodyPost_ret (v := .tuple #[.int .i64 0, .int .i64 0, .int .i64 0, .bool (Ml.hmsB s)]) (by simp [results, Tryz.results48, go_sem, HH.out]) rfl ⟨_, _, _, rfl, fun h => ?_, by first | exact Below.refl _ _ | exact below_drewN (Below.refl _ _) _⟩
      rw [HH.out] at h
      cases h
  · by_cases h8 : s.size = 8
    · have n5 : ((s.size : Int) == 5) = false := by simp [h8]
      have n5' : ((s.size : Int) != 5) = true := by simp [h8]
      have n8 : ((s.size : Int) == 8) = true := by simp [h8]
      have n8' : ((s.size : Int) != 8) = false := by simp [h8]
      have c1 := fun w => num2_any s 0 2 rfl (by omega) hs w
      have c2 := fun w => num2_any s 3 5 rfl (by omega) hs w
      have c3 := fun w => num2_any s 6 s.size (by omega) (by omega) hs w
      have v1 : Sm.d2 s 0 = true → numV (s.extract 0 2) = Sm.n2 s 0 := fun h => num2_val rfl (by omega) h
      have v2 : Sm.d2 s 3 = true → numV (s.extract 3 5) = Sm.n2 s 3 := fun h => num2_val rfl (by omega) h
      have v3 : Sm.d2 s 6 = true → numV (s.extract 6 s.size) = Sm.n2 s 6 := fun h => num2_val (by omega) (by omega) h
      have g2 : 2 < s.size := by omega
      have g5 : 5 < s.size := by omega
      have hb2 := byte_at s 2 g2
      have hb5 := byte_at s 5 g5
      have i1 : (2 : Int) ≤ (s.size : Int) := by omega
      have i2 : (5 : Int) ≤ (s.size : Int) := by omega
      have i3 : (2 : Int) < (s.size : Int) := by omega
      have i4 : (6 : Int) ≤ (s.size : Int) := by omega
      have i5 : (5 : Int) < (s.size : Int) := by omega
      by_cases hq : Sm.B s 2 = 58
      · have hh : Ml.hmsB s = (Sm.d2 s 0 && Sm.d2 s 3 && Sm.d2 s 6 && decide (Sm.B s 5 = 58)) := by
          rw [Bool.eq_iff_iff, Ml.hms_iff, Bool.and_eq_true, Bool.and_eq_true, Bool.and_eq_true, decide_eq_true_iff]
          exact ⟨fun h => by
            rcases h.2.2.2 with k | k
            · omega
            · exact ⟨⟨⟨h.1, h.2.2.1⟩, k.2.2⟩, k.2.1⟩, fun h => ⟨h.1.1.1, hq, h.1.1.2, Or.inr ⟨h8, h.2, h.1.2⟩⟩⟩
        rw [hq] at hb2
        have hsec : Ml.secOf s = Sm.n2 s 6 := by unfold Ml.secOf; rw [if_pos h8]
        have HH := Lib.hid hh
        clear hq hh h5 h8
        have hr : ∃ r : Bool, decide (Sm.B s 5 = 58) = r ∧ ((Sm.B s 5 : Int) == 58) = r := ⟨_, rfl, by rw [Bool.eq_iff_iff, beq_iff_eq, decide_eq_true_iff]; omega⟩
        obtain ⟨r, hr1, hr2⟩ := hr
        have HR := Lib.hid hr1
        clear hr1
        cases hp1 : Sm.d2 s 0 <;> cases hp2 : Sm.d2 s 3 <;> cases hp3 : Sm.d2 s 6 <;> cases r <;> rw [hp1] at c1 <;> rw [hp2] at c2 <;> rw [hp3] at c3
        all_goals
          have HP1 := Lib.hid hp1
          have HP2 := Lib.hid hp2
          have HP3 := Lib.hid hp3
          clear hp1 hp2 hp3
          go_enter Tryz.func48, Tryz.ntmps48
          go_wp2_with (go_at_call 47; (first | (with_reducible refine (c1 _).mono ?_) | (with_reducible refine (c2 _).mono ?_) | (with_reducible refine (c3 _).mono ?_)); rintro e w3 ⟨rfl, rfl⟩)
          go_quiet (fail)
          go_wp2_with fail
          have hf := HH.out
          rw [HP1.out, HP2.out, HP3.out, HR.out] at hf
          refine bodyPost_ret (v := .tuple #[.int .i64 (numV (s.extract 0 2)), .int .i64 (numV (s.extract 3 5)), .int .i64 (numV (s.extract 6 s.size)), .bool (Ml.hmsB s)]) (by simp [results, Tryz.results48, go_sem, hf]) rfl ⟨_, _, _, rfl, fun h => ?_, by first | exact Below.refl _ _ | exact below_drewN (Below.refl _ _) _⟩
          first | (rw [hf] at h; cases h; done) | exact ⟨v1 HP1.out, v2 HP2.out, (v3 HP3.out).trans hsec.symm⟩
      · have hh : Ml.hmsB s = false := hms_false (fun h => hq h.2.1)
        have e1 : ((Sm.B s 2 : Int) == 58) = false := by simp; omega
        have e2 : ((Sm.B s 2 : Int) != 58) = true := by simp; omega
        have HH := Lib.hid hh
        clear hq hh v1 v2 v3 h5 h8
        go_enter Tryz.func48, Tryz.ntmps48
        go_wp2_with fail
        refine bodyPost_ret (v := .tuple #[.int .i64 0, .int .i64 0, .int .i64 0, .bool (Ml.hmsB s)]) (by simp [results, Tryz.results48, go_sem, HH.out]) rfl ⟨_, _, _, rfl, fun h => ?_, by first | exact Below.refl _ _ | exact below_drewN (Below.refl _ _) _⟩
        rw [HH.out] at h
        cases h
    · have n5 : ((s.size : Int) == 5) = false := by simp; omega
      have n5' : ((s.size : Int) != 5) = true := by simp; omega
      have n8 : ((s.size : Int) == 8) = false := by simp; omega
      have n8' : ((s.size : Int) != 8) = true := by simp; omega
      have hh : Ml.hmsB s = false := hms_false (fun h => by rcases h.2.2.2 with k | k <;> omega)
      have HH := Lib.hid hh
      clear hh h5 h8
      go_enter Tryz.func48, Tryz.ntmps48
      go_wp2_with fail
      refine bodyPost_ret (v := .tuple #[.int .i64 0, .int .i64 0, .int .i64 0, .bool (Ml.hmsB s)]) (by simp [results, Tryz.results48, go_sem, HH.out]) rfl ⟨_, _, _, rfl, fun h => ?_, by first | exact Below.refl _ _ | exact below_drewN (Below.refl _ _) _⟩
      rw [HH.out] at h
      cases h
end Go.Proofs.YtbhafhbaldddiaaGreatDoor
namespace Ml
open Sm
def WR (s : ByteArray) (i fr : Nat) (out : List ByteArray) : Prop := (i ≤ s.size ∧ fr ≤ i ∧ wds s = out ++ (sp 32 (s.data.toList.drop fr)).map mk ∧ ∀ k, fr ≤ k → k < i → B s k ≠ 32) ∨ (i = s.size + 1 ∧ wds s = out)
theorem WR.start (s : ByteArray) : WR s 0 0 [] := Or.inl ⟨by omega, by omega, by simp [wds], fun k _ h => absurd h (by omega)⟩
theorem WR.from_le {s : ByteArray} {i fr : Nat} {out : List ByteArray} (h : WR s i fr out) (hi : i ≤ s.size) : fr ≤ i := by
  rcases h with h | h
  · exact h.2.1
  · omega
theorem WR.step {s : ByteArray} {i fr : Nat} {out : List ByteArray} (h : WR s i fr out) (hi : i < s.size) (hb : B s i ≠ 32) : WR s (i + 1) fr out := by
  rcases h with ⟨_, h2, h3, h4⟩ | ⟨h, _⟩
  · refine Or.inl ⟨by omega, by omega, h3, fun k hk hk2 => ?_⟩
    by_cases e : k = i
    · rw [e]
      exact hb
    · exact h4 k hk (by omega)
  · omega
theorem seg_mk (s : ByteArray) (fr i : Nat) : s.extract fr i = mk ((s.data.toList.drop fr).take (i - fr)) := by
  have e := ext_mk s.data.toList fr i
  rw [mk_list] at e
  exact e
theorem seg_no {s : ByteArray} {fr i : Nat} (hi : i ≤ s.size) (h : ∀ k, fr ≤ k → k < i → B s k ≠ 32) : (32 : UInt8) ∉ (s.data.toList.drop fr).take (i - fr) := by
  intro hm
  obtain ⟨k, hk, e⟩ := List.mem_iff_getElem.1 hm
  have hk2 : k < i - fr := by
    rw [List.length_take] at hk
    omega
  have e2 : s.data.toList[fr + k]? = some 32 := by
    have : ((s.data.toList.drop fr).take (i - fr))[k]? = some 32 := by rw [List.getElem?_eq_getElem hk, e]
    rw [List.getElem?_take, if_pos hk2, List.getElem?_drop] at this
    exact this
  exact h (fr + k) (by omega) (by omega) (B_get _ _ e2)
theorem seg_cut (l : List UInt8) (fr i : Nat) (h : fr ≤ i) : l.drop fr = (l.drop fr).take (i - fr) ++ l.drop i := by
  have e := (List.take_append_drop (i - fr) (l.drop fr)).symm
  rw [List.drop_drop, show fr + (i - fr) = i by omega] at e
  exact e
theorem WR.cut {s : ByteArray} {i fr : Nat} {out : List ByteArray} (h : WR s i fr out) (hi : i < s.size) (hb : B s i = 32) : WR s (i + 1) (i + 1) (out ++ [s.extract fr i]) := by
  rcases h with ⟨_, h2, h3, h4⟩ | ⟨h, _⟩
  · refine Or.inl ⟨by omega, by omega, ?_, fun k hk hk2 => by omega⟩
    have hl : i < s.data.toList.length := by simpa using hi
    have hx : s.data.toList[i]'hl = 32 := by
      have := B_get (s := s) i (s.data.toList[i]'hl) (List.getElem?_eq_getElem hl)
      apply UInt8.toNat_inj.1
      rw [← this, hb]
      rfl
    have hd : s.data.toList.drop i = 32 :: s.data.toList.drop (i + 1) := by rw [List.drop_eq_getElem_cons hl, hx]
    rw [h3, seg_cut s.data.toList fr i h2, hd, sp_first _ _ _ (seg_no (by omega) h4), List.map_cons, ← seg_mk]
    simp
  · omega
theorem WR.end_ {s : ByteArray} {i fr : Nat} {out : List ByteArray} (h : WR s i fr out) (hi : i = s.size) : WR s (i + 1) (i + 1) (out ++ [s.extract fr i]) := by
  rcases h with ⟨_, h2, h3, h4⟩ | ⟨h, _⟩
  · refine Or.inr ⟨by omega, ?_⟩
    have hd : s.data.toList.drop i = [] := List.drop_eq_nil_of_le (by simp [hi])
    rw [h3, seg_cut s.data.toList fr i h2, hd, List.append_nil, sp_none _ _ (seg_no (by omega) h4), List.map_cons, List.map_nil, ← seg_mk]
  · omega
theorem WR.done {s : ByteArray} {i fr : Nat} {out : List ByteArray} (h : WR s i fr out) (h2 : s.size < i ∨ out.length = 9) (h9 : out.length ≤ 9) : (wds s).take 9 = out := by
  rcases h with ⟨a, _, h3, _⟩ | ⟨_, h3⟩
  · have h9' : out.length = 9 := by omega
    rw [h3, ← h9', List.take_left']
    rfl
  · rw [h3, List.take_of_length_le h9]
end Ml
namespace Go.Proofs.YtbhafhbaldddiaaGreatDoor
open Go.RowKit
open Go
set_option linter.unusedVariables false
def OW (w : World) (base : Nat) (v : Value) (out : List ByteArray) : Prop := ∃ a cap, v = .slice a out.length cap ∧ w.ownsRow base 9 1 v out.length (out.map Value.string)
def WordsPost (s : ByteArray) (w : World) (e : Ending) (w' : World) : Prop := ∃ v, e = .returned v ∧ OW w' w.heap.size v ((Ml.wds s).take 9) ∧ Below w.heap.size w w'
theorem one_str (x : ByteArray) : ∀ u ∈ [Value.string x], u.oneCell' = true := by
  intro u hu
  simp at hu
  subst hu
  rfl
set_option maxRecDepth 100000 in
set_option maxHeartbeats 2000000 in
theorem words_any (s : ByteArray) (hs : s.size ≤ 100000) (w : World) : Calls Tryz.prog 43 #[.string s] w (WordsPost s w) := by
  obtain ⟨L, hL⟩ : ∃ L, (Ml.wds s).take 9 = L := ⟨_, rfl⟩
  unfold WordsPost
  rw [hL]
  have HL := Lib.hid hL
  clear hL
  obtain ⟨i0, hi, hi0, hi1, hi2⟩ := info_parts info_str
  go_enter Tryz.func43, Tryz.ntmps43
  go_wp2
  go_loopw [3, 4, 5] (fun v f k wr => ∃ (i fr : Nat) (out : List ByteArray), i ≤ s.size + 1 ∧ out.length ≤ 9 ∧ k = .int .i64 i ∧ f = .int .i64 fr ∧ Ml.WR s i fr out ∧ OW wr w.heap.size v out ∧ Below w.heap.size w wr) (fun _ _ k _ => s.size + 1 - (intOf k).toNat)
  case atStart => exact ⟨0, 0, [], by omega, by simp, rfl, rfl, Ml.WR.start s, ⟨none, 0, rfl, World.ownsRow_nil _ _ _ _⟩, Below.refl _ _⟩
  case round =>
    obtain ⟨i, fr, out, hi1', h9, rfl, rfl, hWR, ⟨ad, cap, rfl, hown⟩, hB⟩ := hrel
    have HW := Lib.hid hWR
    have hzz := hB.size
    obtain ⟨n, hn⟩ : ∃ n, out.length = n := ⟨_, rfl⟩
    have HN := Lib.hid hn
    rw [hn]
    rw [hn] at h9 hown
    have HO := Lib.hid hown
    clear hn hown
    by_cases hle : i ≤ s.size
    · have i1 : (i : Int) ≤ (s.size : Int) := by omega
      have hfr := hWR.from_le hle
      have i2 : (fr : Int) ≤ (i : Int) := by omega
      have i3 : (0 : Int) ≤ (fr : Int) := by omega
      by_cases h8 : n ≤ 8
      · have n1 : (n : Int) ≤ 8 := by omega
        by_cases hend : i = s.size
        · have e1 : ((i : Int) == (s.size : Int)) = true := by simp [hend]
          have hnew := hWR.end_ hend
          have HNEW := Lib.hid hnew
          clear hWR hnew hend hle h8
          go_wp2_with (at_builtin; refine wpList_append_lies _ rfl (.tmp 27) (.tmp 32) _ rfl w.heap.size 9 i0 _ 1 16 Tryz.underlying26 hi hi0 hi1 hi2 rfl (by omega) _ _ _ (by rfl) (HO.out.alloc _) ⟨wr.heap.size, 0, none⟩ 1 1 [.string (s.extract fr i)] (by rfl) rfl (World.news_of_block (heap_alloc_new _ _)) (one_str _) (by omega) (by unfold maxLen; omega) (by omega) (by simp; omega) _ rfl ?_; intro g1 cap1 w2 hown2 hgrow2 hat2 hlt2)
          go_roundw
          case rel => exact ⟨i + 1, i + 1, out ++ [s.extract fr i], by omega, by rw [List.length_append, HN.out]; simp; omega, by go_num, by go_num, HNEW.out, ⟨_, _, by rw [List.length_append, HN.out]; rfl, by rw [List.length_append, HN.out, List.map_append]; exact hown2⟩, (hB.alloc (by omega) _).grown hgrow2 (by simp; omega) (fun k hk => (HO.out.lt k hk).1)⟩
          case measure => simp [intOf]; omega
        · have hlt : i < s.size := by omega
          have e1 : ((i : Int) == (s.size : Int)) = false := by simp; omega
          have hidx := byte_at s i hlt
          have i4 : (i : Int) < (s.size : Int) := by omega
          by_cases hb : Sm.B s i = 32
          · have hnew := hWR.cut hlt hb
            have HNEW := Lib.hid hnew
            rw [hb] at hidx
            clear hWR hnew hend hle h8 hb
            go_wp2_with (at_builtin; refine wpList_append_lies _ rfl (.tmp 27) (.tmp 32) _ rfl w.heap.size 9 i0 _ 1 16 Tryz.underlying26 hi hi0 hi1 hi2 rfl (by omega) _ _ _ (by rfl) (HO.out.alloc _) ⟨wr.heap.size, 0, none⟩ 1 1 [.string (s.extract fr i)] (by rfl) rfl (World.news_of_block (heap_alloc_new _ _)) (one_str _) (by omega) (by unfold maxLen; omega) (by omega) (by simp; omega) _ rfl ?_; intro g1 cap1 w2 hown2 hgrow2 hat2 hlt2)
            go_roundw
            case rel => exact ⟨i + 1, i + 1, out ++ [s.extract fr i], by omega, by rw [List.length_append, HN.out]; simp; omega, by go_num, by go_num, HNEW.out, ⟨_, _, by rw [List.length_append, HN.out]; rfl, by rw [List.length_append, HN.out, List.map_append]; exact hown2⟩, (hB.alloc (by omega) _).grown hgrow2 (by simp; omega) (fun k hk => (HO.out.lt k hk).1)⟩
            case measure => simp [intOf]; omega
          · have hnew := hWR.step hlt hb
            have HNEW := Lib.hid hnew
            have e2 : ((Sm.B s i : Int) == 32) = false := by simp; omega
            clear hWR hnew hend hle h8 hb
            go_wp2
            go_roundw
            case rel => exact ⟨i + 1, fr, out, by omega, by rw [HN.out]; omega, by go_num, rfl, HNEW.out, ⟨_, _, by rw [HN.out], by rw [HN.out]; exact HO.out⟩, hB⟩
            case measure => simp [intOf]; omega
      · have n1 : ¬ ((n : Int) ≤ 8) := by omega
        have hfin := hWR.done (Or.inr (by rw [HN.out]; omega)) (by rw [HN.out]; omega)
        have HFIN : Hid (out = L) := Lib.hid (hfin.symm.trans HL.out)
        clear hWR hfin hle h8
        go_wp2
        go_ret
        have hres : OW wr w.heap.size (.slice ad n cap) L := ⟨ad, cap, by rw [← HFIN.out, HN.out], by rw [← HFIN.out, HN.out]; exact HO.out⟩
        exact ⟨.slice ad n cap, rfl, hres, hB⟩
    · have i1 : ¬ ((i : Int) ≤ (s.size : Int)) := by omega
      have hfin := hWR.done (Or.inl (by omega)) (by rw [HN.out]; omega)
      have HFIN : Hid (out = L) := Lib.hid (hfin.symm.trans HL.out)
      clear hWR hfin hle
      go_wp2
      go_ret
      have hres : OW wr w.heap.size (.slice ad n cap) L := ⟨ad, cap, by rw [← HFIN.out, HN.out], by rw [← HFIN.out, HN.out]; exact HO.out⟩
      exact ⟨.slice ad n cap, rfl, hres, hB⟩
end Go.Proofs.YtbhafhbaldddiaaGreatDoor
