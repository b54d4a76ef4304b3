/- The walk of the statement NfcTells. The statement NfcTells of cardinglaw12: for every input the law returns true, and its arguments read afterwards as they did. Conditions: none beside the statement's own. -/
import Derived.Test.YtmpoeeioeimmfaaGreatR12E
namespace Go.Proofs.YtmpoeeioeimmfaaGreat
open Go.RowKit Go.Shelf
open Go
set_option linter.unusedVariables false
set_option maxRecDepth 100000
set_option maxHeartbeats 8000000 in
theorem nfcTells_walk {w : World} (s : ByteArray) (hs : s.size ≤ maxLen) : Calls Tryz.prog 3 #[.string s] w (LawTrue w) := by
  have k9 := nwakes_any
  unfold LawTrue at k9 ⊢
  have hb0 : Below w.heap.size w w := Below.refl _ _
  by_cases hlen : 600 < s.size
  · have hl : (600 : Int) < (s.size : Int) := by omega
    go_enter Tryz.func3, Tryz.ntmps3
    go_wp2_with (go_at_call 4; refine (k9 _).mono ?_; rintro e w1 ⟨rfl, hb1⟩; replace hb0 := bl hb0 hb1; clear hb1)
    go_ret
    exact ⟨rfl, hb0⟩
  · have hl : ¬ (600 : Int) < (s.size : Int) := by omega
    have g := good_600 (s := s) (by omega)
    have c1 := fun w => nfc_any s g w
    have c2 := fun w => decomposed_any s g.1 w (good_dec g)
    have c3 := fun w => composed_any s g.1 w (good_comp g)
    have c4 := fun w => nis_any s g w
    have c5 := fun w => quick_any s g.1 w
    have d1 := fun w => rnfc_any s g w
    have d2 := fun w => rdecomposed_any s g w
    have d3 := fun w => rcomposed_any s g w
    have d4 := fun w => rnis_any s g w
    have d5 := fun w => rquick_any s g.1 w
    generalize nnfcB s = a at *
    generalize ndecB s = d at *
    generalize ncompB s = b at *
    generalize isF s = i at *
    generalize quickF s = q at *
    clear g
    go_enter Tryz.func3, Tryz.ntmps3
    go_wp2_with (first | (go_at_call 9; refine (c1 _).mono ?_; rintro e w2 ⟨rfl, hb2⟩; replace hb0 := bl hb0 hb2; clear hb2) | (go_at_call 5; refine (c2 _).mono ?_; rintro e w2 ⟨rfl, hb2⟩; replace hb0 := bl hb0 hb2; clear hb2) | (go_at_call 7; refine (c3 _).mono ?_; rintro e w2 ⟨rfl, hb2⟩; replace hb0 := bl hb0 hb2; clear hb2) | (go_at_call 11; refine (c4 _).mono ?_; rintro e w2 ⟨rfl, hb2⟩; replace hb0 := bl hb0 hb2; clear hb2) | (go_at_call 13; refine (c5 _).mono ?_; rintro e w2 ⟨rfl, hb2⟩; replace hb0 := bl hb0 hb2; clear hb2) | (go_at_call 10; refine (d1 _).mono ?_; rintro e w2 ⟨rfl, hb2⟩; replace hb0 := bl hb0 hb2; clear hb2) | (go_at_call 6; refine (d2 _).mono ?_; rintro e w2 ⟨rfl, hb2⟩; replace hb0 := bl hb0 hb2; clear hb2) | (go_at_call 8; refine (d3 _).mono ?_; rintro e w2 ⟨rfl, hb2⟩; replace hb0 := bl hb0 hb2; clear hb2) | (go_at_call 12; refine (d4 _).mono ?_; rintro e w2 ⟨rfl, hb2⟩; replace hb0 := bl hb0 hb2; clear hb2) | (go_at_call 14; refine (d5 _).mono ?_; rintro e w2 ⟨rfl, hb2⟩; replace hb0 := bl hb0 hb2; clear hb2) | (go_at_call 4; refine (k9 _).mono ?_; rintro e w5 ⟨rfl, hb5⟩; replace hb0 := bl hb0 hb5; clear hb5))
    go_ret
    exact ⟨rfl, hb0⟩
end Go.Proofs.YtmpoeeioeimmfaaGreat
namespace Go.Proofs.YtmpoeeioeimmfaaGreat
open Go.ChangeShapes Go.WideShapes Go.ChangeAt Go.RowKit
open Go.ChangeMaps (open_string)
open Go
set_option maxRecDepth 100000 in
theorem nfcTells_lifted (os : Os) (started : os.Started) (H : Type) (enc : TypeId × Value → H) :
    ReturnsInHanded {} Tryz.checked os 3 .any (Rows.nfcTellsSpec.pre6 enc Tryz.prog Tryz.f3 Rows.nfcTellsRow.domain false) (Rows.nfcTellsSpec.post enc Tryz.prog Tryz.f3 false true false false) := by
  refine returnsInHanded_of_change (C := Tryz.checked) own started (by kernel_rfl) Tryz.func3
    (ChangeSpec.witness6 (enc := enc) (C := Tryz.checked) false ⟨#[], #[.string ⟨#[]⟩], []⟩ 8 (by kernel_rfl) (by kernel_rfl) (by kernel_rfl) (by kernel_rfl)) ?_
  intro W base args ds gs before hval0 hW hcnd _
  have hval : ∀ (j : Nat) t v, Tryz.f3.params[j]? = some t → args[j]? = some v → Value.okWide Tryz.prog W .any base t v := hval0
  have hW' := hW
  obtain ⟨p, q, hA0, hV, rfl, hfz, hnd⟩ := hW
  have hA : DataW.TrodAll enc Tryz.prog W 0 (fun _ => true) true Tryz.f3.params.toList args.toList ds p := hA0
  rw [Tryz.params3] at hA hval
  obtain ⟨v0, vs0, d0x, ds0, p0, q0, hargs, rfl, rfl, h0, r0⟩ := trodAll_cons hA
  obtain ⟨rfl, rfl, rfl⟩ := trodAll_nil r0
  obtain rfl : args = #[v0] := by cases args; simp_all
  obtain ⟨rfl, rfl⟩ := trodVars_none hV
  obtain ⟨a0, rfl, rfl, rfl, w0⟩ := open_string Tryz.underlying9 (hval 0 9 v0 rfl rfl) h0
  clear hval0
  simp only [List.append_nil] at hW'
  refine (nfcTells_walk (w := W) a0 w0).mono fun e W' ⟨he, hb⟩ => ?_
  subst he
  exact ⟨_, rfl, law_post (bt := 4) laidOut (by kernel_rfl) (by simpa only [List.append_nil] using hA0) hW' rfl rfl rfl rfl (by kernel_rfl) Tryz.underlying4 hb⟩
theorem nfcTells_holds : Rows.NfcTellsSaid :=
  OpenClaim.holds_of_wide 3 Tryz.f3 rfl rfl rfl rfl rfl rfl rfl ⟨rfl, rfl, rfl, rfl, rfl⟩ rfl rfl rfl rfl rfl (by kernel_rfl) Tryz.func3 (by kernel_rfl)
    (of_decide_eq_true (by kernel_rfl)) (by unfold Func.isWrapper; first | (rw [if_pos (by decide +kernel)]; kernel_rfl) | (rw [if_neg (by decide +kernel)]; exact ⟨rfl, rfl⟩))
    (fun os started H enc _ => nfcTells_lifted os started H enc)
#print axioms nfcTells_holds
end Go.Proofs.YtmpoeeioeimmfaaGreat
