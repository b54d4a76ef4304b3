/- The walk of the statement NfcLike. -/
import Derived.Test.YtmpoeeioeimmfaaNfL
namespace Go.Proofs.Ytmpoeeioeimmfaa
open Go.RowKit Go.Shelf
open Go
set_option linter.unusedVariables false
set_option maxRecDepth 100000
theorem bsl_text2 {s : ByteArray} {L : List Int} (h : Ut.scal (Ut.bsL s) = some L) : s = Ut.mk (Ut.text L) := by rw [(Ut.scal_some h).2, Ut.mk_of]
theorem mkt_inj2 {a b : List Int} (ha : Ut.AllSc a) (hb : Ut.AllSc b) (h : Ut.mk (Ut.text a) = Ut.mk (Ut.text b)) : a = b := by
  have h1 := congrArg Ut.bsL h
  rw [Ut.mk_bytes (text_bytes ha), Ut.mk_bytes (text_bytes hb)] at h1
  exact Ut.text_inj ha hb h1
/-- Two texts, be they right or not, have one NFC just if they have one decomposition. -/
theorem like_all (a b : ByteArray) : (decide (nnfcB a = nnfcB b)) = decide (ndecB a = ndecB b) := by
  rw [decide_eq_decide]
  cases ha : Ut.scal (Ut.bsL a) with
  | none =>
    cases hb : Ut.scal (Ut.bsL b) with
    | none => rw [nnfc_none ha, nnfc_none hb, ndec_none ha, ndec_none hb]
    | some M =>
      rw [nnfc_none ha, ndec_none ha, nnfc_some hb, ndec_some hb]
      have hM := (Ut.scal_some hb).1
      constructor
      · intro h
        rw [h, scal_mk (Tb.nfc_sc hM)] at ha
        cases ha
      · intro h
        rw [h, scal_mk (Tb.dcmp_sc hM)] at ha
        cases ha
  | some L =>
    have hL := (Ut.scal_some ha).1
    cases hb : Ut.scal (Ut.bsL b) with
    | none =>
      rw [nnfc_none hb, ndec_none hb, nnfc_some ha, ndec_some ha]
      constructor
      · intro h
        rw [← h, scal_mk (Tb.nfc_sc hL)] at hb
        cases hb
      · intro h
        rw [← h, scal_mk (Tb.dcmp_sc hL)] at hb
        cases hb
    | some M =>
      have hM := (Ut.scal_some hb).1
      rw [nnfc_some ha, nnfc_some hb, ndec_some ha, ndec_some hb]
      constructor
      · intro h
        rw [(Tb.nfc_like L M).1 (mkt_inj2 (Tb.nfc_sc hL) (Tb.nfc_sc hM) h)]
      · intro h
        rw [(Tb.nfc_like L M).2 (mkt_inj2 (Tb.dcmp_sc hL) (Tb.dcmp_sc hM) h)]
set_option maxHeartbeats 4000000 in
theorem nfcLike_walk {w : World} (s : ByteArray) (hs : s.size ≤ 140737488355328) (t : ByteArray) (ht : t.size ≤ 140737488355328) : Calls Try.prog 4 #[.string s, .string t] w (LawTrue w) := by
  have k9 := nwakes_any
  unfold LawTrue at k9 ⊢
  by_cases hlen : 600 < s.size + t.size
  · have hl : (600 : Int) < (s.size : Int) + (t.size : Int) := by omega
    have hl2 : (s.size : Int) ≤ 140737488355328 := by omega
    have hl3 : (t.size : Int) ≤ 140737488355328 := by omega
    go_enter Try.func4, Try.ntmps4
    go_wp2_with (go_at_call 9; refine (k9 _).mono ?_; rintro e w1 ⟨rfl, hb1⟩)
    go_ret
    exact ⟨rfl, hb1⟩
  · have hl : ¬ (600 : Int) < (s.size : Int) + (t.size : Int) := by omega
    have c1 := fun w => nfc_any s (good_600 (by omega)) w
    have c2 := fun w => nfc_any t (good_600 (by omega)) w
    have c3 := fun w => decomposed_any s (by omega) w (good_dec (good_600 (by omega)))
    have c4 := fun w => decomposed_any t (by omega) w (good_dec (good_600 (by omega)))
    have hlike := like_all s t
    have HL := Lib.hid hlike
    clear hlike
    generalize nnfcB s = a at *
    generalize nnfcB t = b at *
    generalize ndecB s = c at *
    generalize ndecB t = d at *
    have e : ((a.toList == b.toList) == (c.toList == d.toList)) = true := by rw [str_eq, str_eq, HL.out]; simp
    clear HL
    have hb0 : Below w.heap.size w w := Below.refl _ _
    go_enter Try.func4, Try.ntmps4
    go_wp2_with (first | (go_at_call 10; (first | (with_reducible refine (c1 _).mono ?_) | (with_reducible refine (c2 _).mono ?_)); rintro e w2 ⟨rfl, hb2⟩; replace hb0 := bl hb0 hb2; clear hb2) | (go_at_call 11; (first | (with_reducible refine (c3 _).mono ?_) | (with_reducible refine (c4 _).mono ?_)); rintro e w2 ⟨rfl, hb2⟩; replace hb0 := bl hb0 hb2; clear hb2) | (go_at_call 9; refine (k9 _).mono ?_; rintro e w5 ⟨rfl, hb5⟩; replace hb0 := bl hb0 hb5; clear hb5))
    go_ret
    exact ⟨rfl, hb0⟩
end Go.Proofs.Ytmpoeeioeimmfaa
