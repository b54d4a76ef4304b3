/- The walk of the statement on pieces. -/
import Derived.Test.YtbhafhbaldddiaaLbO
namespace Go.Proofs.Ytbhafhbaldddiaa
open Go.RowKit
open Go
open Lb (R Wd)
set_option linter.unusedVariables false
theorem glue_len (sep : Wd) (hs : sep.length ≤ 3) : ∀ P : List Wd, (∀ p ∈ P, p.length ≤ 300) → (Lb.glue sep P).length ≤ 303 * P.length
  | [], _ => by simp [Lb.glue]
  | p :: P, h => by
    have h1 := glue_len sep hs P (fun q hq => h q (by simp [hq]))
    have h2 := h p (by simp)
    simp only [Lb.glue, List.length_append, List.length_cons]
    omega
theorem glue_step (sep : Wd) (P : List Wd) (j : Nat) (h : j < P.length) : Lb.glue sep (P.take (j + 1)) = Lb.glue sep (P.take j) ++ (P[j] ++ sep) := by
  rw [List.take_succ_eq_append_getElem h, Lb.glue_snoc]
theorem plit_ne {u l : Wd} (h : ¬ u = l) : ((Ml.mk u).toList == l) = false := by
  rw [beq_eq_false_iff_ne]
  intro e
  apply h
  rw [Go.Lib.toList_data] at e
  rw [← e]
  exact (Ml.list_mk u).symm
set_option maxRecDepth 100000 in
set_option maxHeartbeats 4000000 in
theorem pieces_small {w : World} (l : Wd) (hlen : l.length ≤ 300) (tabs : Bool) (sep : Wd) (hsep : sep = if tabs = true then [9, 32, 10] else [32]) : Calls Try.prog 5 #[.string (Ml.mk l), .bool tabs] w (LawTrue w) := by
  have hpl := Lb.pcs_len l
  have hpp := Lb.pcs_piece l
  have hs3 : sep.length ≤ 3 := by rw [hsep]; cases tabs <;> decide
  have hsn : sep ≠ [] := by rw [hsep]; cases tabs <;> decide
  have hss : ∀ c ∈ sep, Lb.spc c = true := by
    have : sep.all (fun c => Lb.spc c) = true := by rw [hsep]; cases tabs <;> decide +kernel
    exact fun c hc => List.all_eq_true.1 this c hc
  have hglue := Lb.pcs_glue sep hss hsn (Lb.pcs l) hpp
  have hgl := glue_len sep hs3 (Lb.pcs l) (fun p hp => Nat.le_trans (hpl.2 p hp) hlen)
  have q1 := fun w => lparse_any l (by omega) w
  have q2 := fun w => lparse_any (Lb.glue sep (Lb.pcs l)) (by omega) w
  have g1 := fun w => pcs_any l (by omega) w
  have g2 := fun w => pcs_any (Lb.glue sep (Lb.pcs l)) (by omega) w
  unfold ParPost Lb.parse at q1 q2
  unfold PcsPost at g1 g2
  rw [hglue] at q2 g2
  have hps : (Lb.pcs l).length ≤ 300 ∧ ∀ s ∈ Lb.pcs l, s.length ≤ 300 := ⟨Nat.le_trans hpl.1 hlen, fun s hs => Nat.le_trans (hpl.2 s hs) hlen⟩
  have k9 := lwakes_any
  have hsz : (Ml.mk l).size = l.length := rfl
  clear hglue hgl hpl
  generalize Lb.pcs l = P at *
  generalize (Lb.parseL P).getD 0 = v at *
  generalize (Lb.parseL P).isSome = b at *
  generalize Ml.mk l = T at *
  have h1 : ¬ (300 : Int) < (T.size : Int) := by omega
  have HP := Lib.hid hps
  have HPP := Lib.hid hpp
  have Q2 := Lib.hid q2
  have G2 := Lib.hid g2
  have HSEP := Lib.hid (And.intro hs3 (And.intro hsn hss))
  clear hps hpp q2 g2 hs3 hsn hss
  have hlw : ∀ j (hj : j < P.length) w, Calls Try.prog 7 #[.string (Ml.mk P[j])] w (fun e w' => e = .returned (.string (Ml.mk P[j])) ∧ Below w.heap.size w w') := fun j hj w => by
    have h := rlow_any P[j] (by have := HP.out.2 P[j] (List.getElem_mem hj); omega) w
    unfold LowPost at h
    rw [(HPP.out P[j] (List.getElem_mem hj)).2.1] at h
    exact h
  have HLW := Lib.hid hlw
  clear hlw
  have hsepv : (if tabs = true then (⟨#[9, 32, 10]⟩ : ByteArray) else ⟨#[32]⟩) = Ml.mk sep := by rw [hsep]; cases tabs <;> rfl
  unfold LawTrue
  cases tabs
  all_goals
    have hsv := hsepv
    simp only [if_true, if_false, Bool.false_eq_true] at hsv
    have hsvz : (Ml.mk sep).size ≤ 3 := HSEP.out.1
    go_enter Try.func5, Try.ntmps5
    go_wp2_with fail
    refine (g1 _).mono ?_
    rintro e w1 ⟨v1, rfl, o1, c1⟩
    have HC1 := Lib.hid c1
    have HO1 := Lib.hid o1
    obtain ⟨ad, cap, rfl, -⟩ := o1
    obtain ⟨n, hn⟩ : ∃ n, P.length = n := ⟨_, rfl⟩
    have HN := Lib.hid hn
    rw [hn]
    clear c1 g1 hn hsepv hsep
    go_wp2_with fail
    have HSV := Lib.hid hsv
    clear hsv
    go_loopw [7, 23] (fun t i wr => ∃ j : Nat, j ≤ n ∧ i = .int .i64 (j : Int) ∧ t = .string (Ml.mk (Lb.glue sep (P.take j))) ∧ Below w1.heap.size w1 wr) (fun _ i _ => n - (intOf i).toNat)
    case atStart => exact ⟨0, by omega, rfl, rfl, Below.refl _ _⟩
    case round =>
      obtain ⟨j, hj, rfl, rfl, hB⟩ := hrel
      have HB := Lib.hid hB
      have hn300 : n ≤ 300 := by rw [← HN.out]; exact HP.out.1
      by_cases hlt : j < n
      · have hj2 : (j : Int) < (n : Int) := by omega
        have hjl : j < P.length := by rw [HN.out]; exact hlt
        have hne : P ≠ [] := fun e => by rw [e] at hjl; simp at hjl
        obtain ⟨p1, c1, e1, hcc, hr⟩ := (HO1.out.below hB).row
        obtain ⟨g, i, e2, hg, hx⟩ := hr hne
        injection e1 with e1 e3 e4
        rw [e2] at e1
        subst e1
        subst e4
        clear e3
        have y := hx j P[j] (List.getElem?_eq_getElem hjl)
        have hst := glue_step sep P j hjl
        have hlwj := HLW.out j hjl
        obtain ⟨hal, hlow, -⟩ := HPP.out P[j] (List.getElem_mem hjl)
        have hspc := (HPP.out P[j] (List.getElem_mem hjl)).2.2
        have hp1 : ¬ P[j] = [] := by obtain ⟨c, q, e, _⟩ := hal; rw [e]; simp
        have hp2 : ¬ P[j] = [32] := fun e => by have := hspc 32 [] e; exact absurd this (by decide)
        have x1 := plit_ne hp1
        have x2 := plit_ne hp2
        have z1 : (Ml.mk P[j]).size ≤ 300 := HP.out.2 P[j] (List.getElem_mem hjl)
        have z2 : (Ml.mk (Lb.glue sep (P.take j))).size ≤ 90900 := by
          have h := glue_len sep HSEP.out.1 (P.take j) (fun p hp => HP.out.2 p (List.mem_of_mem_take hp))
          have h2 : (P.take j).length ≤ 300 := by rw [List.length_take]; have := HP.out.1; omega
          show (Lb.glue sep (P.take j)).length ≤ _
          omega
        have m1 : Ml.mk P[j] ++ Ml.mk sep = Ml.mk (P[j] ++ sep) := mk_app _ _
        have m2 : Ml.mk (Lb.glue sep (P.take j)) ++ Ml.mk (P[j] ++ sep) = Ml.mk (Lb.glue sep (P.take (j + 1))) := by rw [hst]; exact mk_app _ _
        have z3 : (Ml.mk (P[j] ++ sep)).size ≤ 303 := by rw [← m1, ByteArray.size_append]; omega
        have s1 : ¬ 9223372036854775807 < (Ml.mk P[j]).size + (Ml.mk sep).size := by omega
        have s2 : ¬ 9223372036854775807 < (Ml.mk (Lb.glue sep (P.take j))).size + (Ml.mk (P[j] ++ sep)).size := by omega
        rw [← HSV.out] at m1 s1
        clear hst hal hlow hspc hp1 hp2 hx hr hcc hne hB
        generalize Ml.mk P[j] = A at *
        generalize Ml.mk (P[j] ++ sep) = C at *
        generalize Ml.mk (Lb.glue sep (P.take j)) = D at *
        obtain ⟨E, hE⟩ : ∃ E, Ml.mk (Lb.glue sep (P.take (j + 1))) = E := ⟨_, rfl⟩
        rw [hE] at m2
        have HE := Lib.hid hE
        clear hE
        go_wp2_with (go_at_call 7; refine (hlwj _).mono ?_; rintro e w2 ⟨rfl, hb2⟩; have HB2 := Lib.hid (bn HB.out hb2); clear hb2)
        go_roundw
        case rel =>
          exact ⟨j + 1, by omega, by go_num, by rw [HE.out], HB2.out⟩
        case measure => simp [intOf]; omega
      · obtain rfl : j = n := by omega
        have hjj : ¬ (j : Int) < (j : Int) := by omega
        have htk : P.take j = P := by rw [← HN.out, List.take_length]
        rw [htk]
        have q2 := Q2.out
        have g2 := G2.out
        have HB0 := Lib.hid (bn HC1.out hB)
        have HO2 := Lib.hid (HO1.out.below hB)
        clear hB HB htk
        generalize Ml.mk (Lb.glue sep P) = U at *
        go_wp2_with fail
        refine (q1 _).mono ?_
        rintro e w2 ⟨rfl, c1⟩
        have HC2 := Lib.hid (bn HB0.out c1)
        have HO3 := Lib.hid (HO2.out.below c1)
        clear c1 q1 HB0 HO2
        go_wp2_with fail
        refine (q2 _).mono ?_
        rintro e w3 ⟨rfl, c2⟩
        have HC3 := Lib.hid (bn HC2.out c2)
        have HO4 := Lib.hid (HO3.out.below c2)
        clear c2 q2 HC2 HO3
        go_wp2_with fail
        refine (g2 _).mono ?_
        rintro e w4 ⟨v2, rfl, o2, c3⟩
        have HC4 := Lib.hid (bn HC3.out c3)
        have HT := Lib.hid (texts_eq w4 _ _ v2 _ P (by have := HP.out.1; omega) (fun s hs => by have := HP.out.2 s hs; omega) o2.row (HO4.out.below c3).row)
        rw [HN.out] at HT
        clear c3 g2 o2 HC3 HO4
        go_wp2_with fail
        refine (HT.out).mono ?_
        rintro e w5 ⟨rfl, c4⟩
        have HC5 := Lib.hid (bn HC4.out c4)
        clear c4 HT HC4
        go_wp2_with fail
        refine (k9 _).mono ?_
        rintro e w6 ⟨rfl, c5⟩
        go_wp2
        go_ret
        exact ⟨rfl, bn HC5.out c5⟩
theorem liberalPieces_walk {w : World} (s : ByteArray) (_ : (s.size : Nat) ≤ maxLen) (tabs : Bool) : Calls Try.prog 5 #[.string s, .bool tabs] w (LawTrue w) := by
  by_cases hgr : 300 < s.size
  · have k8 := fun w => lwakes_any w
    have h1 : (300 : Int) < (s.size : Int) := by omega
    unfold LawTrue at k8 ⊢
    go_enter Try.func5, Try.ntmps5
    go_wp2_with fail
    refine (k8 _).mono ?_
    rintro e w1 ⟨rfl, b1⟩
    go_wp2
    go_ret
    exact ⟨rfl, b1⟩
  · have hs : s = Ml.mk s.data.toList := (Ml.mk_list s).symm
    rw [hs]
    exact pieces_small _ (by rw [Array.length_toList]; show s.size ≤ 300; omega) tabs _ rfl
end Go.Proofs.Ytbhafhbaldddiaa
