/- The walk of the statement on case and white space. -/
import Derived.Test.YtbhafhbaldddiaaLbN
namespace Go.Proofs.Ytbhafhbaldddiaa
open Go.RowKit
open Go
open Lb (R Wd)
set_option linter.unusedVariables false
def wht : Wd := [32, 32, 9, 10, 13, 32]
theorem wht_spc (k : Nat) : ∀ c ∈ wht.take k, Lb.spc c = true := fun c hc => by
  have h : wht.all (fun c => Lb.spc c) = true := by decide +kernel
  exact List.all_eq_true.1 h c (List.mem_of_mem_take hc)
theorem mk_app (a b : Wd) : Ml.mk a ++ Ml.mk b = Ml.mk (a ++ b) := by
  apply ByteArray.ext
  rw [ByteArray.data_append]
  show a.toArray ++ b.toArray = (a ++ b).toArray
  simp
theorem seven (n : Int) : ∃ k : Nat, IntKind.i64.wrap (n.tmod 7 + 7) = n.tmod 7 + 7 ∧ (n.tmod 7 + 7).tmod 7 = (k : Int) ∧ n.tmod 7 % 7 = (k : Int) ∧ (n.tmod 7 + 7) % 7 = (k : Int) ∧ k ≤ 6 := by
  have h1 : -7 < n.tmod 7 ∧ n.tmod 7 < 7 := by
    have := Int.tmod_eq_emod (a := n) (b := 7)
    split at this <;> omega
  have h2 : (n.tmod 7 + 7).tmod 7 = (n.tmod 7 + 7) % 7 := Int.tmod_eq_emod_of_nonneg (by omega)
  refine ⟨((n.tmod 7 + 7) % 7).toNat, ?_, ?_, ?_, ?_, ?_⟩
  · rw [IntKind.wrap_i64]; omega
  · rw [h2]; omega
  · omega
  · omega
  · omega
set_option maxRecDepth 100000 in
set_option maxHeartbeats 4000000 in
theorem liberalCase_walk {w : World} (s : ByteArray) (_ : (s.size : Nat) ≤ maxLen) (ah : Int) (_ : Is64 ah) (be : Int) (_ : Is64 be) : Calls Try.prog 3 #[.string s, .int .i64 ah, .int .i64 be] w (LawTrue w) := by
  have hs : s = Ml.mk s.data.toList := (Ml.mk_list s).symm
  by_cases hgr : 300 < s.size
  · have k8 := fun w => lwakes_any w
    have h1 : (300 : Int) < (s.size : Int) := by omega
    clear hs
    unfold LawTrue at k8 ⊢
    go_enter Try.func3, Try.ntmps3
    go_wp2_with fail
    refine (k8 _).mono ?_
    rintro e w1 ⟨rfl, b1⟩
    go_wp2
    go_ret
    exact ⟨rfl, b1⟩
  · have h1 : ¬ (300 : Int) < (s.size : Int) := by omega
    obtain ⟨l, hl⟩ : ∃ l, s.data.toList = l := ⟨_, rfl⟩
    have hlen : l.length ≤ 300 := by
      rw [← hl, Array.length_toList]
      show s.size ≤ 300
      omega
    rw [hl] at hs
    clear hl
    subst hs
    obtain ⟨ka, wa, a1, a2, a3, a4⟩ := seven ah
    obtain ⟨kb, wb, b1, b2, b3, b4⟩ := seven be
    have k7 := rg (W := w) fun w => rlow_any l (by omega) w
    have hsz : (Ml.mk l).size = l.length := rfl
    have ea : (⟨#[32, 32, 9, 10, 13, 32]⟩ : ByteArray).extract 0 ka = Ml.mk (wht.take ka) := mk_take2 wht ka
    have eb : (⟨#[32, 32, 9, 10, 13, 32]⟩ : ByteArray).extract 0 kb = Ml.mk (wht.take kb) := mk_take2 wht kb
    have z1 : (Ml.mk (wht.take ka)).size ≤ 6 := by show (wht.take ka).length ≤ 6; rw [List.length_take]; show min ka 6 ≤ 6; omega
    have z2 : (Ml.mk (wht.take kb)).size ≤ 6 := by show (wht.take kb).length ≤ 6; rw [List.length_take]; show min kb 6 ≤ 6; omega
    have z3 : (Ml.mk (l.map Lb.lw)).size ≤ 300 := by show (l.map Lb.lw).length ≤ 300; rw [List.length_map]; omega
    have hcase := Lb.pcs_case (wht.take ka) l (wht.take kb) (wht_spc ka) (wht_spc kb)
    have hm1 : Ml.mk (wht.take ka) ++ Ml.mk (l.map Lb.lw) = Ml.mk (wht.take ka ++ l.map Lb.lw) := mk_app _ _
    have hm2 : Ml.mk (wht.take ka ++ l.map Lb.lw) ++ Ml.mk (wht.take kb) = Ml.mk (wht.take ka ++ l.map Lb.lw ++ wht.take kb) := mk_app _ _
    have z4 : (Ml.mk (wht.take ka ++ l.map Lb.lw)).size ≤ 306 := by rw [← hm1, ByteArray.size_append]; omega
    have z5 : (wht.take ka ++ l.map Lb.lw ++ wht.take kb).length ≤ 312 := by
      have : (Ml.mk (wht.take ka ++ l.map Lb.lw ++ wht.take kb)).size ≤ 312 := by rw [← hm2, ByteArray.size_append]; omega
      exact this
    generalize wht.take ka ++ l.map Lb.lw ++ wht.take kb = m at hcase hm2 z5
    have q1 := fun w => lparse_any l (by omega) w
    have q2 := fun w => lparse_any m (by omega) w
    have g1 := fun w => pcs_any l (by omega) w
    have g2 := fun w => pcs_any m (by omega) w
    unfold ParPost Lb.parse at q1 q2
    unfold PcsPost at g1 g2
    rw [hcase] at q2 g2
    have hps : (Lb.pcs l).length ≤ 100000 ∧ ∀ s ∈ Lb.pcs l, s.length ≤ 100000 := ⟨Nat.le_trans (Lb.pcs_len l).1 (by omega), fun s hs => Nat.le_trans ((Lb.pcs_len l).2 s hs) (by omega)⟩
    have k9 := lwakes_any
    clear hcase
    unfold LowPost at k7
    generalize Lb.pcs l = P at *
    generalize (Lb.parseL P).getD 0 = v at *
    generalize (Lb.parseL P).isSome = b at *
    generalize Ml.mk (wht.take ka ++ l.map Lb.lw) = T4 at *
    generalize Ml.mk (wht.take ka) = T1 at *
    generalize Ml.mk (wht.take kb) = T2 at *
    generalize Ml.mk (l.map Lb.lw) = T3 at *
    generalize Ml.mk m = T5 at *
    generalize Ml.mk l = T at *
    have ha0 : (0 : Int) ≤ (ka : Int) := by omega
    have hb0 : (0 : Int) ≤ (kb : Int) := by omega
    have ha6 : (ka : Int) ≤ 6 := by omega
    have hb6 : (kb : Int) ≤ 6 := by omega
    have s1 : ¬ 9223372036854775807 < T1.size + T3.size := by omega
    have s2 : ¬ 9223372036854775807 < T4.size + T2.size := by omega
    have HP := Lib.hid hps
    clear hps
    unfold LawTrue
    go_enter Try.func3, Try.ntmps3
    go_wp2_with fail
    refine wp_region_quiet_below (by kernel_rfl) (by kernel_rfl) ?_
    repeat (quiet_step (first | (go_at_call 7; exact k7 _ _)))
    refine wpQuiet_nil ?_
    intro _ hw'
    obtain ⟨⟨dq, osq⟩, hw''⟩ := hw'
    subst hw''
    have hB := below_regrown w dq osq
    simp only at hB ⊢
    generalize «Sort».grow (redrawn w dq) osq = w1 at *
    have HB := Lib.hid hB
    clear hB k7
    go_wp2_with fail
    refine (q1 _).mono ?_
    rintro e w2 ⟨rfl, c1⟩
    have HC1 := Lib.hid (bn HB.out c1)
    clear c1 HB q1
    go_wp2_with fail
    refine (q2 _).mono ?_
    rintro e w3 ⟨rfl, c2⟩
    have HC2 := Lib.hid (bn HC1.out c2)
    clear c2 HC1 q2
    go_wp2_with fail
    refine (g1 _).mono ?_
    rintro e w4 ⟨v1, rfl, o1, c3⟩
    have HC3 := Lib.hid (bn HC2.out c3)
    have HO1 := Lib.hid o1
    clear c3 HC2 g1 o1
    go_wp2_with fail
    refine (g2 _).mono ?_
    rintro e w5 ⟨v2, rfl, o2, c4⟩
    have HC4 := Lib.hid (bn HC3.out c4)
    have HT := Lib.hid (texts_eq w5 _ _ v1 v2 P HP.out.1 HP.out.2 (HO1.out.below c4).row o2.row)
    clear c4 HC3 g2 o2 HO1
    go_wp2_with fail
    refine (HT.out).mono ?_
    rintro e w6 ⟨rfl, c5⟩
    have HC5 := Lib.hid (bn HC4.out c5)
    clear c5 HC4 HT
    go_wp2_with fail
    refine (k9 _).mono ?_
    rintro e w7 ⟨rfl, c6⟩
    go_wp2
    go_ret
    exact ⟨rfl, bn HC5.out c6⟩
end Go.Proofs.Ytbhafhbaldddiaa
