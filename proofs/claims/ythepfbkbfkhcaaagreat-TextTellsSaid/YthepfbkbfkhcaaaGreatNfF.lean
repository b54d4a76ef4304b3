/- The walks of whole, Decomposed, Composed. -/
import Derived.Test.YthepfbkbfkhcaaaGreatNfE
import Derived.Test.YthepfbkbfkhcaaaGreatUtH
namespace Go.Proofs.YthepfbkbfkhcaaaGreat
open Go.RowKit Go.Shelf
open Go
set_option linter.unusedVariables false
set_option maxRecDepth 100000
def StrPost (t : ByteArray) (w : World) (e : Ending) (w' : World) : Prop := e = .returned (.string t) ∧ Below w.heap.size w w'
def wholeB (D : List Int → List Int) (s : ByteArray) : ByteArray := match Ut.scal (Ut.bsL s) with | some L => Ut.mk (Ut.text (D L)) | none => s
theorem sc_64 {L : List Int} (h : Ut.AllSc L) : All64 L := fun x hx => by
  have := h x hx
  exact ⟨by have := this.1; omega, by have := this.2.1; omega⟩
set_option maxHeartbeats 4000000 in
theorem whole_dec (s : ByteArray) (hs : s.size ≤ 100000) (w : World) (hD : ∀ L, Ut.scal (Ut.bsL s) = some L → (Tb.dec L).length ≤ 100000 ∧ Ut.AllSc (Tb.dcmp L) ∧ (Tb.dcmp L).length ≤ 100000) :
    Calls Tryz.prog 47 #[.string s, .func (.func 49) #[] #[]] w (StrPost (wholeB Tb.dcmp s) w) := by
  have C := fun w => scalars_any s hs w
  cases hv : Ut.scal (Ut.bsL s) with
  | none =>
    have e : wholeB Tb.dcmp s = s := by unfold wholeB; rw [hv]
    rw [e]
    unfold ScPost at C
    rw [hv] at C
    clear e hv hD
    go_enter Tryz.func47, Tryz.ntmps47
    go_wp2_with (go_at_call 62; refine (C _).mono ?_; rintro e w1 ⟨rfl, hb1⟩)
    go_ret
    exact ⟨rfl, hb1⟩
  | some L =>
    have e : wholeB Tb.dcmp s = Ut.mk (Ut.text (Tb.dcmp L)) := by unfold wholeB; rw [hv]
    rw [e]
    unfold ScPost at C
    rw [hv] at C
    have hlen := Ut.scal_len hv
    rw [Ut.bsL_len] at hlen
    have hsc := (Ut.scal_some hv).1
    obtain ⟨hdd, hda, hdl⟩ := hD L hv
    have HSC := Lib.hid hsc
    have HDA := Lib.hid hda
    have HDD := Lib.hid hdd
    clear e hv hD hsc hda
    go_enter Tryz.func47, Tryz.ntmps47
    go_wp2_with (first | (go_at_call 62; refine (C _).mono ?_; rintro e w1 ⟨⟨v1, rfl, ho1⟩, hb1⟩; obtain ⟨p1, cc1, rfl, hr1⟩ := nown_rowp ho1; have HR1 := Lib.hid hr1; have HB1 := Lib.hid hb1; clear ho1 hr1 hb1) | (go_at_call 49; refine (dcmp1_any p1 cc1 L w1 (by omega) hdd (sc_64 HSC.out) HR1.out).mono ?_; rintro e w2 ⟨v2, rfl, ho2, hb2⟩; obtain ⟨p2, cc2, rfl, hr2⟩ := nown_rowp ho2; have HR2 := Lib.hid hr2; have HB2 := Lib.hid hb2; clear ho2 hr2 hb2) | (go_at_call 63; refine (text_any p2 cc2 (Tb.dcmp L) w2 HR2.out hdl HDA.out).mono ?_; rintro e w3 ⟨rfl, hb3⟩; have HB3 := Lib.hid hb3; clear hb3))
    go_ret
    exact ⟨rfl, (HB1.out.trans (HB2.out.mono HB1.out.size)).trans (HB3.out.mono (Nat.le_trans HB1.out.size HB2.out.size))⟩
set_option maxHeartbeats 4000000 in
theorem whole_comp (s : ByteArray) (hs : s.size ≤ 100000) (w : World) (hD : ∀ L, Ut.scal (Ut.bsL s) = some L →  Ut.AllSc (Tb.compL L) ∧ (Tb.compL L).length ≤ 100000) :
    Calls Tryz.prog 47 #[.string s, .func (.func 48) #[] #[]] w (StrPost (wholeB Tb.compL s) w) := by
  have C := fun w => scalars_any s hs w
  cases hv : Ut.scal (Ut.bsL s) with
  | none =>
    have e : wholeB Tb.compL s = s := by unfold wholeB; rw [hv]
    rw [e]
    unfold ScPost at C
    rw [hv] at C
    clear e hv hD
    go_enter Tryz.func47, Tryz.ntmps47
    go_wp2_with (go_at_call 62; refine (C _).mono ?_; rintro e w1 ⟨rfl, hb1⟩)
    go_ret
    exact ⟨rfl, hb1⟩
  | some L =>
    have e : wholeB Tb.compL s = Ut.mk (Ut.text (Tb.compL L)) := by unfold wholeB; rw [hv]
    rw [e]
    unfold ScPost at C
    rw [hv] at C
    have hlen := Ut.scal_len hv
    rw [Ut.bsL_len] at hlen
    have hsc := (Ut.scal_some hv).1
    obtain ⟨hda, hdl⟩ := hD L hv
    have HSC := Lib.hid hsc
    have HDA := Lib.hid hda
    skip
    clear e hv hD hsc hda
    go_enter Tryz.func47, Tryz.ntmps47
    go_wp2_with (first | (go_at_call 62; refine (C _).mono ?_; rintro e w1 ⟨⟨v1, rfl, ho1⟩, hb1⟩; obtain ⟨p1, cc1, rfl, hr1⟩ := nown_rowp ho1; have HR1 := Lib.hid hr1; have HB1 := Lib.hid hb1; clear ho1 hr1 hb1) | (go_at_call 48; refine (compose_any p1 cc1 L w1 (by omega) (sc_64 HSC.out) HR1.out).mono ?_; rintro e w2 ⟨v2, rfl, ho2, hb2⟩; obtain ⟨p2, cc2, rfl, hr2⟩ := nown_rowp ho2; have HR2 := Lib.hid hr2; have HB2 := Lib.hid hb2; clear ho2 hr2 hb2) | (go_at_call 63; refine (text_any p2 cc2 (Tb.compL L) w2 HR2.out hdl HDA.out).mono ?_; rintro e w3 ⟨rfl, hb3⟩; have HB3 := Lib.hid hb3; clear hb3))
    go_ret
    exact ⟨rfl, (HB1.out.trans (HB2.out.mono HB1.out.size)).trans (HB3.out.mono (Nat.le_trans HB1.out.size HB2.out.size))⟩
def DecP (s : ByteArray) : Prop := ∀ L, Ut.scal (Ut.bsL s) = some L → (Tb.dec L).length ≤ 100000 ∧ Ut.AllSc (Tb.dcmp L) ∧ (Tb.dcmp L).length ≤ 100000
def CompP (s : ByteArray) : Prop := ∀ L, Ut.scal (Ut.bsL s) = some L → Ut.AllSc (Tb.compL L) ∧ (Tb.compL L).length ≤ 100000
def ndecB (s : ByteArray) : ByteArray := wholeB Tb.dcmp s
def ncompB (s : ByteArray) : ByteArray := wholeB Tb.compL s
theorem decomposed_any (s : ByteArray) (hs : s.size ≤ 100000) (w : World) (hD : DecP s) : Calls Tryz.prog 38 #[.string s] w (StrPost (ndecB s) w) := by
  have C := fun w => whole_dec s hs w hD
  clear hD
  go_enter Tryz.func38, Tryz.ntmps38
  go_wp2_with (go_at_call 47; refine (C _).mono ?_; rintro e w1 ⟨rfl, hb1⟩)
  go_ret
  exact ⟨rfl, hb1⟩
theorem composed_any (s : ByteArray) (hs : s.size ≤ 100000) (w : World) (hD : CompP s) : Calls Tryz.prog 37 #[.string s] w (StrPost (ncompB s) w) := by
  have C := fun w => whole_comp s hs w hD
  clear hD
  go_enter Tryz.func37, Tryz.ntmps37
  go_wp2_with (go_at_call 47; refine (C _).mono ?_; rintro e w1 ⟨rfl, hb1⟩)
  go_ret
  exact ⟨rfl, hb1⟩
end Go.Proofs.YthepfbkbfkhcaaaGreat
