/- The walk of the statement NfcQuick. -/
import Derived.Test.YtmpoeeioeimmfaaNfL
namespace Go.Proofs.Ytmpoeeioeimmfaa
open Go.RowKit Go.Shelf
open Go
set_option linter.unusedVariables false
set_option maxRecDepth 100000
theorem mkt_inj {a b : List Int} (ha : Ut.AllSc a) (hb : Ut.AllSc b) (h : Ut.mk (Ut.text a) = Ut.mk (Ut.text b)) : a = b := by
  have h1 := congrArg Ut.bsL h
  rw [Ut.mk_bytes (text_bytes ha), Ut.mk_bytes (text_bytes hb)] at h1
  exact Ut.text_inj ha hb h1
theorem bsl_text {s : ByteArray} {L : List Int} (h : Ut.scal (Ut.bsL s) = some L) : s = Ut.mk (Ut.text L) := by rw [(Ut.scal_some h).2, Ut.mk_of]
theorem isF_some {s : ByteArray} {L : List Int} (h : Ut.scal (Ut.bsL s) = some L) : isF s = decide (Tb.nfcL L = L) := by
  have hL := (Ut.scal_some h).1
  unfold isF
  rw [h, nnfc_some h]
  show (true && _) = _
  rw [Bool.true_and, decide_eq_decide]
  constructor
  · intro e
    exact mkt_inj (Tb.nfc_sc hL) hL (e.trans (bsl_text h))
  · intro e
    rw [e, ← bsl_text h]
theorem no_one {L : List Int} (h : L.any oneB = false) : Tb.NoOne L := by
  intro x hx a b hm hb
  have := List.any_eq_false.1 h x hx
  apply this
  unfold oneB
  rw [hm]
  simp [hb]
theorem quick_cases (s : ByteArray) : (quickF s = 2 ∧ isF s = true) ∨ quickF s = 1 ∨ (quickF s = 0 ∧ isF s = false) := by
  cases h : Ut.scal (Ut.bsL s) with
  | none =>
    refine Or.inr (Or.inr ⟨by unfold quickF; rw [h], by unfold isF; rw [h]; rfl⟩)
  | some L =>
    have e : quickF s = if Ordl.ordB Tb.classI L = true then qkL L else 0 := by unfold quickF; rw [h]
    rw [e, isF_some h]
    by_cases ho : Ordl.ordB Tb.classI L = true
    · rw [if_pos ho]
      unfold qkL
      by_cases h1 : L.any oneB = true
      · rw [if_pos h1]
        refine Or.inr (Or.inr ⟨rfl, decide_eq_false fun hn => ?_⟩)
        obtain ⟨x, hx, hx1⟩ := List.any_eq_true.1 h1
        have hno := Tb.nfc_one L
        rw [hn] at hno
        unfold oneB at hx1
        cases hm : Tb.madeF x with
        | none => rw [hm] at hx1; cases hx1
        | some p =>
          obtain ⟨a, b⟩ := p
          rw [hm] at hx1
          exact hno x hx a b hm (by simpa using hx1)
      · rw [if_neg h1]
        have h1f : L.any oneB = false := by simpa using h1
        by_cases h2 : L.any Tb.isSec = true
        · rw [if_pos h2]; exact Or.inr (Or.inl rfl)
        · rw [if_neg h2]
          have h2f : L.any Tb.isSec = false := by simpa using h2
          refine Or.inl ⟨rfl, decide_eq_true (Tb.quick_nfc L ⟨ho, no_one h1f, fun x hx => ?_⟩)⟩
          have := List.any_eq_false.1 h2f x hx
          simpa using this
    · rw [if_neg ho]
      refine Or.inr (Or.inr ⟨rfl, decide_eq_false fun hn => ho ?_⟩)
      have := Tb.nfc_ord L
      rw [hn] at this
      exact this
set_option maxHeartbeats 4000000 in
theorem nfcQuick_walk {w : World} (s : ByteArray) (hs : s.size ≤ maxLen) : Calls Try.prog 5 #[.string s] w (LawTrue w) := by
  have k9 := nwakes_any
  unfold LawTrue at k9 ⊢
  have hb0 : Below w.heap.size w w := Below.refl _ _
  by_cases hlen : 600 < s.size
  · have hl : (600 : Int) < (s.size : Int) := by omega
    go_enter Try.func5, Try.ntmps5
    go_wp2_with (go_at_call 9; refine (k9 _).mono ?_; rintro e w1 ⟨rfl, hb1⟩; replace hb0 := bl hb0 hb1; clear hb1)
    go_ret
    exact ⟨rfl, hb0⟩
  · have hl : ¬ (600 : Int) < (s.size : Int) := by omega
    have c1 := fun w => quick_any s (by omega) w
    have c2 := fun w => nis_any s (good_600 (by omega)) w
    have hq := quick_cases s
    rcases hq with ⟨e1, e2⟩ | e1 | ⟨e1, e2⟩
    · rw [e1] at c1
      rw [e2] at c2
      clear e1 e2
      go_enter Try.func5, Try.ntmps5
      go_wp2_with (first | (go_at_call 15; refine (c1 _).mono ?_; rintro e w2 ⟨rfl, hb2⟩; replace hb0 := bl hb0 hb2; clear hb2) | (go_at_call 13; refine (c2 _).mono ?_; rintro e w2 ⟨rfl, hb2⟩; replace hb0 := bl hb0 hb2; clear hb2) | (go_at_call 9; refine (k9 _).mono ?_; rintro e w2 ⟨rfl, hb2⟩; replace hb0 := bl hb0 hb2; clear hb2))
      go_ret
      exact ⟨rfl, hb0⟩
    · rw [e1] at c1
      clear e1
      generalize isF s = b at *
      cases b
      · go_enter Try.func5, Try.ntmps5
        go_wp2_with (first | (go_at_call 15; refine (c1 _).mono ?_; rintro e w2 ⟨rfl, hb2⟩; replace hb0 := bl hb0 hb2; clear hb2) | (go_at_call 13; refine (c2 _).mono ?_; rintro e w2 ⟨rfl, hb2⟩; replace hb0 := bl hb0 hb2; clear hb2) | (go_at_call 9; refine (k9 _).mono ?_; rintro e w2 ⟨rfl, hb2⟩; replace hb0 := bl hb0 hb2; clear hb2))
        go_ret
        exact ⟨rfl, hb0⟩
      · go_enter Try.func5, Try.ntmps5
        go_wp2_with (first | (go_at_call 15; refine (c1 _).mono ?_; rintro e w2 ⟨rfl, hb2⟩; replace hb0 := bl hb0 hb2; clear hb2) | (go_at_call 13; refine (c2 _).mono ?_; rintro e w2 ⟨rfl, hb2⟩; replace hb0 := bl hb0 hb2; clear hb2) | (go_at_call 9; refine (k9 _).mono ?_; rintro e w2 ⟨rfl, hb2⟩; replace hb0 := bl hb0 hb2; clear hb2))
        go_ret
        exact ⟨rfl, hb0⟩
    · rw [e1] at c1
      rw [e2] at c2
      clear e1 e2
      go_enter Try.func5, Try.ntmps5
      go_wp2_with (first | (go_at_call 15; refine (c1 _).mono ?_; rintro e w2 ⟨rfl, hb2⟩; replace hb0 := bl hb0 hb2; clear hb2) | (go_at_call 13; refine (c2 _).mono ?_; rintro e w2 ⟨rfl, hb2⟩; replace hb0 := bl hb0 hb2; clear hb2) | (go_at_call 9; refine (k9 _).mono ?_; rintro e w2 ⟨rfl, hb2⟩; replace hb0 := bl hb0 hb2; clear hb2))
      go_ret
      exact ⟨rfl, hb0⟩
end Go.Proofs.Ytmpoeeioeimmfaa
