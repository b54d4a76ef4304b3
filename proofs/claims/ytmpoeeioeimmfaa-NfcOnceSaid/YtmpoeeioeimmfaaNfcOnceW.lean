/- The walk of the statement NfcOnce. -/
import Derived.Test.YtmpoeeioeimmfaaNfL
import Derived.Test.YtmpoeeioeimmfaaR2B
namespace Go.Proofs.Ytmpoeeioeimmfaa
open Go.RowKit Go.Shelf
open Go
set_option linter.unusedVariables false
set_option maxRecDepth 100000
theorem once_facts (s : ByteArray) : nnfcB (nnfcB s) = nnfcB s ∧ ndecB (nnfcB s) = ndecB s ∧ ndecB (ndecB s) = ndecB s ∧ nnfcB (ndecB s) = nnfcB s ∧ ncompB (ndecB s) = nnfcB s ∧ isF (nnfcB s) = (Ut.scal (Ut.bsL s)).isSome := by
  cases h : Ut.scal (Ut.bsL s) with
  | none =>
    simp only [nnfc_none h, ndec_none h, ncomp_none h]
    refine ⟨trivial, trivial, trivial, trivial, trivial, ?_⟩
    unfold isF
    rw [h]
    rfl
  | some L =>
    have hL := (Ut.scal_some h).1
    have h1 := scal_mk (Tb.nfc_sc hL)
    have h2 := scal_mk (Tb.dcmp_sc hL)
    rw [nnfc_some h, ndec_some h, nnfc_some h1, nnfc_some h2, ndec_some h1, ndec_some h2, ncomp_some h2, Tb.nfc_idem, Tb.dcmp_nfc, Tb.dcmp_idem, Tb.nfc_dcmp]
    refine ⟨rfl, rfl, rfl, rfl, rfl, ?_⟩
    unfold isF
    rw [h1, nnfc_some h1, Tb.nfc_idem]
    simp
set_option maxHeartbeats 4000000 in
theorem nfcOnce_walk {w : World} (s : ByteArray) (hs : s.size ≤ maxLen) : Calls Try.prog 3 #[.string s] w (LawTrue w) := by
  have k9 := nwakes_any
  unfold LawTrue at k9 ⊢
  have hb0 : Below w.heap.size w w := Below.refl _ _
  by_cases hlen : 600 < s.size
  · have hl : (600 : Int) < (s.size : Int) := by omega
    go_enter Try.func3, Try.ntmps3
    go_wp2_with (go_at_call 9; refine (k9 _).mono ?_; rintro e w1 ⟨rfl, hb1⟩; replace hb0 := bl hb0 hb1; clear hb1)
    go_ret
    exact ⟨rfl, hb0⟩
  · have hl : ¬ (600 : Int) < (s.size : Int) := by omega
    have g := good_600 (s := s) (by omega)
    have gn := good_nnfc g
    have gd := good_ndec g
    obtain ⟨f1, f2, f3, f4, f5, f6⟩ := once_facts s
    have c1 := fun w => nfc_any s g w
    have c2 := fun w => decomposed_any s g.1 w (good_dec g)
    have c3 := fun w => nfc_any (nnfcB s) gn w
    have c4 := fun w => decomposed_any (nnfcB s) gn.1 w (good_dec gn)
    have c5 := fun w => decomposed_any (ndecB s) gd.1 w (good_dec gd)
    have c6 := fun w => nfc_any (ndecB s) gd w
    have c7 := fun w => composed_any (ndecB s) gd.1 w (good_comp gd)
    have c8 := fun w => nis_any (nnfcB s) gn w
    have c9 := fun w => rvalid_any s (by omega) w
    rw [f1] at c3
    rw [f2] at c4
    rw [f3] at c5
    rw [f4] at c6
    rw [f5] at c7
    rw [f6] at c8
    clear f1 f2 f3 f4 f5 f6 g gn gd
    generalize nnfcB s = a at *
    generalize ndecB s = d at *
    generalize (Ut.scal (Ut.bsL s)).isSome = v at *
    go_enter Try.func3, Try.ntmps3
    go_wp2_with (first | (go_at_call 10; (first | (with_reducible refine (c1 _).mono ?_) | (with_reducible refine (c3 _).mono ?_) | (with_reducible refine (c6 _).mono ?_)); rintro e w2 ⟨rfl, hb2⟩; replace hb0 := bl hb0 hb2; clear hb2) | (go_at_call 11; (first | (with_reducible refine (c2 _).mono ?_) | (with_reducible refine (c4 _).mono ?_) | (with_reducible refine (c5 _).mono ?_)); rintro e w2 ⟨rfl, hb2⟩; replace hb0 := bl hb0 hb2; clear hb2) | (go_at_call 12; refine (c7 _).mono ?_; rintro e w2 ⟨rfl, hb2⟩; replace hb0 := bl hb0 hb2; clear hb2) | (go_at_call 13; refine (c8 _).mono ?_; rintro e w2 ⟨rfl, hb2⟩; replace hb0 := bl hb0 hb2; clear hb2) | (go_at_call 14; refine (c9 _).mono ?_; rintro e w2 ⟨rfl, hb2⟩; replace hb0 := bl hb0 hb2; clear hb2) | (go_at_call 9; refine (k9 _).mono ?_; rintro e w5 ⟨rfl, hb5⟩; replace hb0 := bl hb0 hb5; clear hb5))
    go_ret
    exact ⟨rfl, hb0⟩
end Go.Proofs.Ytmpoeeioeimmfaa
