/- The walk of Nfc, Is. -/
import Derived.Test.YthepfbkbfkhcaaaGreatNfF
import Derived.Test.YthepfbkbfkhcaaaGreatNfG
import Derived.Laws.RangeAny
import Derived.Laws.RangeString
import Derived.Lib.OthersKept
namespace Go.Proofs.YthepfbkbfkhcaaaGreat
open Go.RowKit Go.Shelf
open Go
set_option linter.unusedVariables false
set_option maxRecDepth 100000
def nnfcB (s : ByteArray) : ByteArray := ncompB (ndecB s)
theorem text_bytes {l : List Int} (h : Ut.AllSc l) : ∀ b ∈ Ut.text l, b < 256 := by
  intro b hb
  unfold Ut.text at hb
  rw [List.mem_flatten] at hb
  obtain ⟨u, hu, hb⟩ := hb
  obtain ⟨r, hr, rfl⟩ := List.mem_map.1 hu
  obtain ⟨n, rfl⟩ := Ut.sc_nat (h r hr)
  exact Ut.enc_bytes (h _ hr) b hb
theorem scal_mk {l : List Int} (h : Ut.AllSc l) : Ut.scal (Ut.bsL (Ut.mk (Ut.text l))) = some l := by
  rw [Ut.mk_bytes (text_bytes h)]
  exact Ut.scal_text l h
theorem ndec_some {s : ByteArray} {L : List Int} (h : Ut.scal (Ut.bsL s) = some L) : ndecB s = Ut.mk (Ut.text (Tb.dcmp L)) := by unfold ndecB wholeB; rw [h]
theorem ndec_none {s : ByteArray} (h : Ut.scal (Ut.bsL s) = none) : ndecB s = s := by unfold ndecB wholeB; rw [h]
theorem ncomp_some {s : ByteArray} {L : List Int} (h : Ut.scal (Ut.bsL s) = some L) : ncompB s = Ut.mk (Ut.text (Tb.compL L)) := by unfold ncompB wholeB; rw [h]
theorem ncomp_none {s : ByteArray} (h : Ut.scal (Ut.bsL s) = none) : ncompB s = s := by unfold ncompB wholeB; rw [h]
theorem nnfc_some {s : ByteArray} {L : List Int} (h : Ut.scal (Ut.bsL s) = some L) : nnfcB s = Ut.mk (Ut.text (Tb.nfcL L)) := by
  unfold nnfcB
  rw [ndec_some h, ncomp_some (scal_mk (Tb.dcmp_sc (Ut.scal_some h).1))]
  rfl
theorem nnfc_none {s : ByteArray} (h : Ut.scal (Ut.bsL s) = none) : nnfcB s = s := by
  unfold nnfcB
  rw [ndec_none h, ncomp_none h]
theorem text_asc : ∀ u : List Nat, (∀ b ∈ u, b < 128) → Ut.text (u.map Int.ofNat) = u
  | [], _ => rfl
  | b :: u, h => by
    rw [List.map_cons, Ut.text_cons, text_asc u (fun x hx => h x (List.mem_cons_of_mem _ hx))]
    have hb := h b (List.mem_cons_self ..)
    have : Ut.encI (Int.ofNat b) = [b] := by
      show Ut.enc b = [b]
      unfold Ut.enc
      rw [if_pos hb]
    rw [this]
    rfl
theorem nnfc_asc {s : ByteArray} (h : ∀ i, i < s.size → Sm.B s i < 128) : nnfcB s = s := by
  have hb : ∀ b ∈ Ut.bsL s, b < 128 := fun b hb => by
    obtain ⟨i, hi, e⟩ := List.getElem_of_mem hb
    have hi2 : i < s.size := by rw [← Ut.bsL_len]; exact hi
    have h2 := Ut.bsL_get s i hi2
    rw [List.getElem?_eq_getElem hi, e] at h2
    rw [Option.some.inj h2]
    exact h i hi2
  have ht := text_asc _ hb
  have hsc : Ut.AllSc ((Ut.bsL s).map Int.ofNat) := fun x hx => by
    obtain ⟨b, hb2, rfl⟩ := List.mem_map.1 hx
    have := hb b hb2
    exact ⟨by simp, by simp; omega, Or.inl (by simp; omega)⟩
  have hs := Ut.scal_text _ hsc
  rw [ht] at hs
  rw [nnfc_some hs, Tb.ascii_nfc (fun x hx => ?_), ht, Ut.mk_of]
  obtain ⟨b, hb2, rfl⟩ := List.mem_map.1 hx
  have := hb b hb2
  exact ⟨by simp, by simp; omega⟩
def GoodB (s : ByteArray) : Prop := s.size ≤ 100000 ∧ ∀ L, Ut.scal (Ut.bsL s) = some L → Tb.Good L
theorem good_dec {s : ByteArray} (h : GoodB s) : DecP s := fun L hL => by
  have hg := h.2 L hL
  exact ⟨by have := hg.2.2; omega, Tb.dcmp_sc hg.1, by rw [Tb.dcmp_len]; have := hg.2.2; omega⟩
theorem good_comp {s : ByteArray} (h : GoodB s) : CompP s := fun L hL => by
  have hg := h.2 L hL
  exact ⟨Tb.comp_sc hg.1, by have := (Tb.comp_short L).1; have := hg.2.1; omega⟩
theorem good_mk {L : List Int} (h : Tb.Good L) : GoodB (Ut.mk (Ut.text L)) := by
  refine ⟨?_, fun L' hL => ?_⟩
  · rw [Ut.mk_size]
    have := (Ut.text_len L).2
    have := h.2.1
    omega
  · rw [scal_mk h.1] at hL
    cases hL
    exact h
theorem good_ndec {s : ByteArray} (h : GoodB s) : GoodB (ndecB s) := by
  cases hL : Ut.scal (Ut.bsL s) with
  | none => rw [ndec_none hL]; exact h
  | some L => rw [ndec_some hL]; exact good_mk (Tb.good_dcmp (h.2 L hL))
theorem good_nnfc {s : ByteArray} (h : GoodB s) : GoodB (nnfcB s) := by
  cases hL : Ut.scal (Ut.bsL s) with
  | none => rw [nnfc_none hL]; exact h
  | some L => rw [nnfc_some hL]; exact good_mk (Tb.good_nfc (h.2 L hL))
theorem good_600 {s : ByteArray} (h : s.size ≤ 600) : GoodB s := ⟨by omega, fun L hL => Tb.good_small (Ut.scal_some hL).1 (by have := Ut.scal_len hL; rw [Ut.bsL_len] at this; omega)⟩
def itPos (W : World) (k : Nat) : Nat := match W.heap[k]? with | some (.stringIter _ p) => p | _ => 0
set_option maxHeartbeats 4000000 in
theorem nfc_any (s : ByteArray) (hg : GoodB s) (w : World) : Calls Tryz.prog 28 #[.string s] w (StrPost (nnfcB s) w) := by
  have C1 := fun w => decomposed_any s hg.1 w (good_dec hg)
  have C2 := fun w => composed_any (ndecB s) (good_ndec hg).1 w (good_comp (good_ndec hg))
  obtain ⟨t, ht⟩ : ∃ t, nnfcB s = t := ⟨_, rfl⟩
  have C3 : ∀ w, Calls Tryz.prog 37 #[.string (ndecB s)] w (StrPost t w) := fun w => by
    rw [← ht]
    exact C2 w
  have HASC : Hid ((∀ i, i < s.size → Sm.B s i < 128) → t = s) := Lib.hid (fun h => by rw [← ht]; exact nnfc_asc h)
  rw [ht]
  have hsz := hg.1
  clear C2 ht hg
  generalize ndecB s = d at *
  go_enter Tryz.func28, Tryz.ntmps28
  go_wp2_with fail
  go_loopw [4] (fun _ wr => ∃ pos : Nat, pos ≤ s.size ∧ wr.heap[w.heap.size]? = some (.stringIter s pos) ∧ Hid (∀ i, i < pos → Sm.B s i < 128) ∧ Below w.heap.size w wr) (fun _ wr => s.size - itPos wr w.heap.size)
  case atStart => exact ⟨0, Nat.zero_le _, World.iter_heap _ _ _, Lib.hid (fun i hi => absurd hi (Nat.not_lt_zero _)), (Below.refl _ w).alloc (Nat.le_refl _) _⟩
  case round =>
    obtain ⟨pos, hpos, hit, HA, hB⟩ := hrel
    by_cases hlt : pos < s.size
    · have hbb := Sm.B_at s pos hlt
      by_cases hlow : Sm.B s pos < 128
      · have hd := decode_ascii s pos hlt (by rw [hbb]; exact hlow)
        rw [hbb] at hd
        obtain ⟨W1, hW1⟩ : ∃ W, wr.iterAt w.heap.size s (pos + 1) = W := ⟨_, rfl⟩
        have hnx : ∀ ty, (Instr.next (.pointer (some ⟨w.heap.size, 0, none⟩)) true ty).run Tryz.prog wr = .ok (.tuple #[.bool true, .int .i64 (pos : Int), .int .i32 (Sm.B s pos : Int)]) W1 := fun ty => by
          rw [Lib.run_next_any_at wr w.heap.size s pos ty hit hlt, hd, ← hW1]
        have g1 := gb_iterAt wr w.heap.size s (pos + 1)
        have hit1 := Lib.iterAt_heap wr w.heap.size s pos (pos + 1) hit
        rw [hW1] at g1 hit1
        have HA2 : Hid (∀ i, i < pos + 1 → Sm.B s i < 128) := Lib.hid (fun i hi => by
          by_cases e : i = pos
          · rw [e]; exact hlow
          · exact HA.out i (by omega))
        have hB1 : Below w.heap.size w W1 := hB.grown g1 hB.size (fun r e => by cases e; exact Nat.le_refl _)
        have hp0 : itPos wr w.heap.size = pos := by unfold itPos; rw [hit]
        have hp1 : itPos W1 w.heap.size = pos + 1 := by unfold itPos; rw [hit1]
        have HP0 := Lib.hid hp0
        have HP1 := Lib.hid hp1
        have hq : ¬ (128 : Int) ≤ (Sm.B s pos : Int) := by omega
        clear hd hbb hW1 g1 hit hp0 hp1 HA hB hlow
        generalize Sm.B s pos = q at *
        go_wp2_with fail
        go_roundw
        case rel => exact ⟨pos + 1, by omega, hit1, HA2, hB1⟩
        case measure => rw [HP0.out, HP1.out]; omega
      · have hd := decode_high s pos hlt (by rw [hbb]; omega)
        have hle := decode_le s pos
        obtain ⟨W1, hW1⟩ : ∃ W, wr.iterAt w.heap.size s (pos + (Utf8.decode s pos).2) = W := ⟨_, rfl⟩
        have hnx : ∀ ty, (Instr.next (.pointer (some ⟨w.heap.size, 0, none⟩)) true ty).run Tryz.prog wr = .ok (.tuple #[.bool true, .int .i64 (pos : Int), .int .i32 ((Utf8.decode s pos).1 : Int)]) W1 := fun ty => by
          rw [Lib.run_next_any_at wr w.heap.size s pos ty hit hlt, ← hW1]
        have g1 := gb_iterAt wr w.heap.size s (pos + (Utf8.decode s pos).2)
        rw [hW1] at g1
        have hB1 : Below w.heap.size w W1 := hB.grown g1 hB.size (fun r e => by cases e; exact Nat.le_refl _)
        have hq : (128 : Int) ≤ ((Utf8.decode s pos).1 : Int) := by have := hd.1; omega
        clear hd hbb hW1 g1 hit HA hB hlow
        generalize (Utf8.decode s pos).1 = q at *
        go_wp2_with (first | (go_at_call 38; refine (C1 _).mono ?_; rintro e w1 ⟨rfl, hb1⟩) | (go_at_call 37; refine (C3 _).mono ?_; rintro e w2 ⟨rfl, hb2⟩))
        go_ret
        exact ⟨rfl, (hB1.trans (hb1.mono hB1.size)).trans (hb2.mono (Nat.le_trans hB1.size hb1.size))⟩
    · obtain rfl : pos = s.size := by omega
      have hnx : ∀ ty, (Instr.next (.pointer (some ⟨w.heap.size, 0, none⟩)) true ty).run Tryz.prog wr = _ := fun ty => Lib.run_next_end_at wr w.heap.size s s.size ty hit (by omega)
      have e := HASC.out HA.out
      clear HA HASC
      go_wp2_with fail
      go_ret
      exact ⟨by rw [e]; rfl, hB⟩
end Go.Proofs.YthepfbkbfkhcaaaGreat
