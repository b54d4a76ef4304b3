/- Plain laws on letters' dates: zones, weekdays. No program in sight. -/
import Derived.Test.YtbhafhbaldddiaaMlPc
namespace Ml
open Sm
theorem parse_w0 : parseF ⟨#[84, 104, 117, 44, 32, 48, 49, 32, 74, 97, 110, 32, 49, 57, 55, 48, 32, 48, 48, 58, 48, 48, 58, 48, 48, 32, 71, 77, 84]⟩ = some 0 := by kernel_rfl
theorem parse_w1 : parseF ⟨#[49, 32, 74, 97, 110, 32, 49, 57, 55, 48, 32, 48, 48, 58, 48, 49, 32, 43, 48, 49, 48, 48]⟩ = some (-3540) := by kernel_rfl
theorem text_w0 : txB 1970 1 1 0 0 0 = ⟨#[84, 104, 117, 44, 32, 48, 49, 32, 74, 97, 110, 32, 49, 57, 55, 48, 32, 48, 48, 58, 48, 48, 58, 48, 48, 32, 71, 77, 84]⟩ := by kernel_rfl
theorem sec_w0 : Cv.secV 1970 1 1 0 0 0 0 = 0 := by kernel_rfl
theorem may_w0 : Cv.mayB 1970 1 1 0 0 0 = true := by kernel_rfl
theorem five_zone {d m y c z z' : ByteArray} {wk : Option Int} {a b u v : Int} (h : five d m y c z wk = some a) (h' : five d m y c z' wk = some b) (hu : zneF z = some u) (hv : zneF z' = some v) : a + 60 * u = b + 60 * v := by
  obtain ⟨mm, e, h1, h2, _, _, _, _, _, rfl⟩ := five_some h
  obtain ⟨mm', e', h1', h2', _, _, _, _, _, rfl⟩ := five_some h'
  rw [h1] at h1'
  rw [hu] at h2
  rw [hv] at h2'
  cases h1'
  cases h2
  cases h2'
  unfold Cv.secV
  omega
theorem prs_zone {W : List ByteArray} {z z' : ByteArray} {a b u v : Int} (h : prs (W ++ [z]) = some a) (h' : prs (W ++ [z']) = some b) (hu : zneF z = some u) (hv : zneF z' = some v) : a + 60 * u = b + 60 * v := by
  match W, h, h' with
  | [d, m, y, c], h, h' => exact five_zone h h' hu hv
  | [w, d, m, y, c], h, h' =>
    have h : (if commaB w = true then (match dayF (w.extract 0 3) with | some k => five d m y c z (some k) | none => none) else none) = some a := h
    have h' : (if commaB w = true then (match dayF (w.extract 0 3) with | some k => five d m y c z' (some k) | none => none) else none) = some b := h'
    split at h
    · rename_i hc
      rw [if_pos hc] at h'
      split at h
      · rename_i k hk
        rw [hk] at h'
        exact five_zone h h' hu hv
      · cases h
    · cases h
  | [], h, _ => cases h
  | [_], h, _ => cases h
  | [_, _], h, _ => cases h
  | [_, _, _], h, _ => cases h
  | _ :: _ :: _ :: _ :: _ :: _ :: t, h, _ => cases t <;> cases h
theorem zn_32 : (znames.all fun p => decide ((32 : UInt8) ∉ p.1.data.toList)) = true := by kernel_rfl
theorem B_get {s : ByteArray} (i : Nat) (x : UInt8) (h : s.data.toList[i]? = some x) : B s i = x.toNat := by
  have e := of_list (s := s) rfl
  rw [e, B_mk, h]
  rfl
theorem zne_32 {z : ByteArray} {u : Int} (h : zneF z = some u) : (32 : UInt8) ∉ z.data.toList := by
  unfold zneF at h
  split at h
  · rename_i k hk
    exact of_decide_eq_true (List.all_eq_true.1 zn_32 _ (hour_mem hk))
  · split at h
    · rename_i ho
      obtain ⟨h1, h2, h3, _, _, h6⟩ := (off_iff z).1 ho
      intro hm
      obtain ⟨i, hi, e⟩ := List.mem_iff_getElem.1 hm
      have hb := B_get i 32 (by rw [List.getElem?_eq_getElem hi, e])
      have hl : z.data.toList.length = 5 := by simpa using h1
      rw [d2_iff, dig_iff, dig_iff] at h2 h3
      have hi5 : i = 0 ∨ i = 1 ∨ i = 2 ∨ i = 3 ∨ i = 4 := by omega
      have h32 : (32 : UInt8).toNat = 32 := rfl
      rw [h32] at hb
      rcases hi5 with rfl | rfl | rfl | rfl | rfl <;> simp only [Nat.reduceAdd] at h2 h3 <;> omega
    · cases h
theorem wds_zone (s z : ByteArray) (h : (32 : UInt8) ∉ z.data.toList) : wds (s ++ ⟨#[32]⟩ ++ z) = wds s ++ [z] := by
  unfold wds
  have e : (s ++ ⟨#[32]⟩ ++ z).data.toList = s.data.toList ++ 32 :: z.data.toList := by
    rw [len_app, len_app]
    simp
  rw [e, sp_app, sp_none _ _ h, List.map_append, List.map_cons, List.map_nil, mk_list]
theorem zones {s a b : ByteArray} {x y u v : Int} (h1 : parseF (s ++ ⟨#[32]⟩ ++ a) = some x) (h2 : parseF (s ++ ⟨#[32]⟩ ++ b) = some y) (h3 : zneF a = some u) (h4 : zneF b = some v) : x + 60 * u = y + 60 * v := by
  unfold parseF at h1 h2
  rw [wds_zone s a (zne_32 h3)] at h1
  rw [wds_zone s b (zne_32 h4)] at h2
  exact prs_zone h1 h2 h3 h4
theorem five_bd {d m y c z : ByteArray} {wk : Option Int} {a : Int} (h : five d m y c z wk = some a) : -62135596800 ≤ a ∧ a ≤ 253402300799 := by
  obtain ⟨mm, e, _, _, _, _, _, h6, _, rfl⟩ := five_some h
  obtain ⟨_, _, _, h7, h8⟩ := (Cv.secOk_iff _ _ _ _ _ _ _).1 h6
  exact ⟨h7, h8⟩
theorem parse_bd {s : ByteArray} {a : Int} (h : parseF s = some a) : -62135596800 ≤ a ∧ a ≤ 253402300799 := by
  unfold parseF at h
  generalize wds s = W at h
  match W, h with
  | [d, m, y, c, z], h => exact five_bd (show five d m y c z none = some a from h)
  | [w, d, m, y, c, z], h =>
    have h : (if commaB w = true then (match dayF (w.extract 0 3) with | some k => five d m y c z (some k) | none => none) else none) = some a := h
    split at h
    · split at h
      · exact five_bd h
      · cases h
    · cases h
end Ml
