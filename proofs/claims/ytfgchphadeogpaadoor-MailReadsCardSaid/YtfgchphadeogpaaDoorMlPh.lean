/- Plain laws on letters' dates: a text's words, met one by one. No program in sight. -/
import Derived.Test.YtfgchphadeogpaaDoorMlPg
namespace Ml
open Sm
def WR (s : ByteArray) (i fr : Nat) (out : List ByteArray) : Prop := (i ≤ s.size ∧ fr ≤ i ∧ wds s = out ++ (sp 32 (s.data.toList.drop fr)).map mk ∧ ∀ k, fr ≤ k → k < i → B s k ≠ 32) ∨ (i = s.size + 1 ∧ wds s = out)
theorem WR.start (s : ByteArray) : WR s 0 0 [] := Or.inl ⟨by omega, by omega, by simp [wds], fun k _ h => absurd h (by omega)⟩
theorem WR.from_le {s : ByteArray} {i fr : Nat} {out : List ByteArray} (h : WR s i fr out) (hi : i ≤ s.size) : fr ≤ i := by
  rcases h with h | h
  · exact h.2.1
  · omega
theorem WR.step {s : ByteArray} {i fr : Nat} {out : List ByteArray} (h : WR s i fr out) (hi : i < s.size) (hb : B s i ≠ 32) : WR s (i + 1) fr out := by
  rcases h with ⟨_, h2, h3, h4⟩ | ⟨h, _⟩
  · refine Or.inl ⟨by omega, by omega, h3, fun k hk hk2 => ?_⟩
    by_cases e : k = i
    · rw [e]
      exact hb
    · exact h4 k hk (by omega)
  · omega
theorem seg_mk (s : ByteArray) (fr i : Nat) : s.extract fr i = mk ((s.data.toList.drop fr).take (i - fr)) := by
  have e := ext_mk s.data.toList fr i
  rw [mk_list] at e
  exact e
theorem seg_no {s : ByteArray} {fr i : Nat} (hi : i ≤ s.size) (h : ∀ k, fr ≤ k → k < i → B s k ≠ 32) : (32 : UInt8) ∉ (s.data.toList.drop fr).take (i - fr) := by
  intro hm
  obtain ⟨k, hk, e⟩ := List.mem_iff_getElem.1 hm
  have hk2 : k < i - fr := by
    rw [List.length_take] at hk
    omega
  have e2 : s.data.toList[fr + k]? = some 32 := by
    have : ((s.data.toList.drop fr).take (i - fr))[k]? = some 32 := by rw [List.getElem?_eq_getElem hk, e]
    rw [List.getElem?_take, if_pos hk2, List.getElem?_drop] at this
    exact this
  exact h (fr + k) (by omega) (by omega) (B_get _ _ e2)
theorem seg_cut (l : List UInt8) (fr i : Nat) (h : fr ≤ i) : l.drop fr = (l.drop fr).take (i - fr) ++ l.drop i := by
  have e := (List.take_append_drop (i - fr) (l.drop fr)).symm
  rw [List.drop_drop, show fr + (i - fr) = i by omega] at e
  exact e
theorem WR.cut {s : ByteArray} {i fr : Nat} {out : List ByteArray} (h : WR s i fr out) (hi : i < s.size) (hb : B s i = 32) : WR s (i + 1) (i + 1) (out ++ [s.extract fr i]) := by
  rcases h with ⟨_, h2, h3, h4⟩ | ⟨h, _⟩
  · refine Or.inl ⟨by omega, by omega, ?_, fun k hk hk2 => by omega⟩
    have hl : i < s.data.toList.length := by simpa using hi
    have hx : s.data.toList[i]'hl = 32 := by
      have := B_get (s := s) i (s.data.toList[i]'hl) (List.getElem?_eq_getElem hl)
      apply UInt8.toNat_inj.1
      rw [← this, hb]
      rfl
    have hd : s.data.toList.drop i = 32 :: s.data.toList.drop (i + 1) := by rw [List.drop_eq_getElem_cons hl, hx]
    rw [h3, seg_cut s.data.toList fr i h2, hd, sp_first _ _ _ (seg_no (by omega) h4), List.map_cons, ← seg_mk]
    simp
  · omega
theorem WR.end_ {s : ByteArray} {i fr : Nat} {out : List ByteArray} (h : WR s i fr out) (hi : i = s.size) : WR s (i + 1) (i + 1) (out ++ [s.extract fr i]) := by
  rcases h with ⟨_, h2, h3, h4⟩ | ⟨h, _⟩
  · refine Or.inr ⟨by omega, ?_⟩
    have hd : s.data.toList.drop i = [] := List.drop_eq_nil_of_le (by simp [hi])
    rw [h3, seg_cut s.data.toList fr i h2, hd, List.append_nil, sp_none _ _ (seg_no (by omega) h4), List.map_cons, List.map_nil, ← seg_mk]
  · omega
theorem WR.done {s : ByteArray} {i fr : Nat} {out : List ByteArray} (h : WR s i fr out) (h2 : s.size < i ∨ out.length = 9) (h9 : out.length ≤ 9) : (wds s).take 9 = out := by
  rcases h with ⟨a, _, h3, _⟩ | ⟨_, h3⟩
  · have h9' : out.length = 9 := by omega
    rw [h3, ← h9', List.take_left']
    rfl
  · rw [h3, List.take_of_length_le h9]
end Ml
