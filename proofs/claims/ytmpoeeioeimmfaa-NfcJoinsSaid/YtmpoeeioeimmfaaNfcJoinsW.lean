/- The walk of the statement NfcJoins. -/
import Derived.Test.YtmpoeeioeimmfaaR12
namespace Go.Proofs.Ytmpoeeioeimmfaa
open Go.RowKit Go.Shelf
open Go
set_option linter.unusedVariables false
set_option maxRecDepth 100000
theorem bsl_app (a b : ByteArray) : Ut.bsL (a ++ b) = Ut.bsL a ++ Ut.bsL b := by
  unfold Ut.bsL
  rw [ByteArray.data_append]
  simp
theorem scal_app {a b : ByteArray} {L M : List Int} (h : Ut.scal (Ut.bsL a) = some L) (k : Ut.scal (Ut.bsL b) = some M) : Ut.scal (Ut.bsL (a ++ b)) = some (L ++ M) := by
  obtain ⟨h1, h2⟩ := Ut.scal_some h
  obtain ⟨k1, k2⟩ := Ut.scal_some k
  rw [bsl_app, ← h2, ← k2, ← Ut.text_app]
  exact Ut.scal_text _ (fun x hx => (List.mem_append.1 hx).elim (h1 x) (k1 x))
theorem ap_apart {M : List Int} (h : apB M = true) : Tb.ApartL M := fun x t e => by
  subst e
  unfold apB at h
  simpa using h
theorem joins_facts {a b : ByteArray} {L : List Int} (h : Ut.scal (Ut.bsL a) = some L) (k : apF b = true) : nnfcB (a ++ b) = nnfcB a ++ nnfcB b ∧ ndecB (a ++ b) = ndecB a ++ ndecB b := by
  unfold apF at k
  cases hb : Ut.scal (Ut.bsL b) with
  | none => rw [hb] at k; cases k
  | some M =>
    rw [hb] at k
    have hA := ap_apart k
    rw [nnfc_some (scal_app h hb), ndec_some (scal_app h hb), nnfc_some h, nnfc_some hb, ndec_some h, ndec_some hb, Tb.nfc_app L hA, Tb.dcmp_app L hA, Ut.text_app, Ut.text_app, Ut.mk_app, Ut.mk_app]
    exact ⟨rfl, rfl⟩
set_option maxHeartbeats 8000000 in
theorem nfcJoins_walk {w : World} (s : ByteArray) (hs : s.size ≤ 140737488355328) (t : ByteArray) (ht : t.size ≤ 140737488355328) : Calls Try.prog 6 #[.string s, .string t] w (LawTrue w) := by
  have k9 := nwakes_any
  unfold LawTrue at k9 ⊢
  have hb0 : Below w.heap.size w w := Below.refl _ _
  by_cases hlen : 600 < s.size + t.size
  · have hl : (600 : Int) < (s.size : Int) + (t.size : Int) := by omega
    have hl2 : (s.size : Int) ≤ 140737488355328 := by omega
    have hl3 : (t.size : Int) ≤ 140737488355328 := by omega
    go_enter Try.func6, Try.ntmps6
    go_wp2_with (go_at_call 9; refine (k9 _).mono ?_; rintro e w1 ⟨rfl, hb1⟩; replace hb0 := bl hb0 hb1; clear hb1)
    go_ret
    exact ⟨rfl, hb0⟩
  · have hl : ¬ (600 : Int) < (s.size : Int) + (t.size : Int) := by omega
    have c1 := fun w => rvalid_any s (by omega) w
    have c2 := fun w => rapart_any t (by omega) w
    cases hv : Ut.scal (Ut.bsL s) with
    | none =>
      rw [hv] at c1
      have c1' : ∀ w : World, Calls Try.prog 14 #[.string s] w (fun e w' => e = .returned (.bool false) ∧ Below w.heap.size w w') := c1
      clear c1 c2 hv
      go_enter Try.func6, Try.ntmps6
      go_wp2_with (first | (go_at_call 14; refine (c1' _).mono ?_; rintro e w1 ⟨rfl, hb1⟩; replace hb0 := bl hb0 hb1; clear hb1) | (go_at_call 9; refine (k9 _).mono ?_; rintro e w1 ⟨rfl, hb1⟩; replace hb0 := bl hb0 hb1; clear hb1))
      go_ret
      exact ⟨rfl, hb0⟩
    | some L =>
      rw [hv] at c1
      have c1' : ∀ w : World, Calls Try.prog 14 #[.string s] w (fun e w' => e = .returned (.bool true) ∧ Below w.heap.size w w') := c1
      clear c1
      cases ha : apF t with
      | false =>
        rw [ha] at c2
        clear ha hv
        go_enter Try.func6, Try.ntmps6
        go_wp2_with (first | (go_at_call 14; refine (c1' _).mono ?_; rintro e w1 ⟨rfl, hb1⟩; replace hb0 := bl hb0 hb1; clear hb1) | (go_at_call 16; refine (c2 _).mono ?_; rintro e w1 ⟨rfl, hb1⟩; replace hb0 := bl hb0 hb1; clear hb1) | (go_at_call 9; refine (k9 _).mono ?_; rintro e w1 ⟨rfl, hb1⟩; replace hb0 := bl hb0 hb1; clear hb1))
        go_ret
        exact ⟨rfl, hb0⟩
      | true =>
        rw [ha] at c2
        obtain ⟨f1, f2⟩ := joins_facts hv ha
        have gs := good_600 (s := s) (by omega)
        have gt := good_600 (s := t) (by omega)
        have gst := good_600 (s := s ++ t) (by rw [ByteArray.size_append]; omega)
        have c3 := fun w => nfc_any s gs w
        have c4 := fun w => nfc_any t gt w
        have c5 := fun w => nfc_any (s ++ t) gst w
        have c6 := fun w => decomposed_any s gs.1 w (good_dec gs)
        have c7 := fun w => decomposed_any t gt.1 w (good_dec gt)
        have c8 := fun w => decomposed_any (s ++ t) gst.1 w (good_dec gst)
        rw [f1] at c5
        rw [f2] at c8
        have z1 := (good_nnfc gs).1
        have z2 := (good_nnfc gt).1
        have z3 := (good_ndec gs).1
        have z4 := (good_ndec gt).1
        clear f1 f2 gs gt gst ha hv
        generalize nnfcB s = a1 at *
        generalize nnfcB t = a2 at *
        generalize ndecB s = d1 at *
        generalize ndecB t = d2 at *
        have y0 : ¬ 9223372036854775807 < s.size + t.size := by omega
        have y1 : ¬ 9223372036854775807 < a1.size + a2.size := by omega
        have y2 : ¬ 9223372036854775807 < d1.size + d2.size := by omega
        go_enter Try.func6, Try.ntmps6
        go_wp2_with (first | (go_at_call 14; refine (c1' _).mono ?_; rintro e w1 ⟨rfl, hb1⟩; replace hb0 := bl hb0 hb1; clear hb1) | (go_at_call 16; refine (c2 _).mono ?_; rintro e w1 ⟨rfl, hb1⟩; replace hb0 := bl hb0 hb1; clear hb1) | (go_at_call 10; (first | (with_reducible refine (c3 _).mono ?_) | (with_reducible refine (c4 _).mono ?_) | (with_reducible refine (c5 _).mono ?_)); rintro e w2 ⟨rfl, hb2⟩; replace hb0 := bl hb0 hb2; clear hb2) | (go_at_call 11; (first | (with_reducible refine (c6 _).mono ?_) | (with_reducible refine (c7 _).mono ?_) | (with_reducible refine (c8 _).mono ?_)); rintro e w2 ⟨rfl, hb2⟩; replace hb0 := bl hb0 hb2; clear hb2) | (go_at_call 9; refine (k9 _).mono ?_; rintro e w1 ⟨rfl, hb1⟩; replace hb0 := bl hb0 hb1; clear hb1))
        go_ret
        exact ⟨rfl, hb0⟩
end Go.Proofs.Ytmpoeeioeimmfaa
