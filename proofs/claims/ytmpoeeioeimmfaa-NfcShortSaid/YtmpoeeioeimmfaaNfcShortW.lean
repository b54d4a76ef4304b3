/- The walk of the statement NfcShort. -/
import Derived.Test.YtmpoeeioeimmfaaNfL
import Derived.Test.YtmpoeeioeimmfaaR2B
namespace Go.Proofs.Ytmpoeeioeimmfaa
open Go.RowKit Go.Shelf
open Go
set_option linter.unusedVariables false
set_option maxRecDepth 100000
theorem c0_take {L : List Int} {i : Nat} (h : i < L.length) : Tb.c0 (L.take (i + 1)) = Tb.c0 (L.take i) + (if Tb.classI L[i] = 0 then 1 else 0) := by
  rw [List.take_succ_eq_append_getElem h, Tb.c0_app]
  congr 1
  unfold Tb.c0
  by_cases e : Tb.classI L[i] = 0
  · rw [if_pos e]; simp [e]
  · rw [if_neg e]; simp [e]
theorem row_cells {W : World} {p : Option Addr} {c : Nat} {L : List Int} (h : RowP W p c L) : ∃ g o, ∀ j (h : j < L.length), p = some ⟨g, o, none⟩ ∧ W.cell? ⟨g, o + j, none⟩ = some (.int .i64 L[j]) := by
  obtain ⟨g, o, hgo⟩ := rowP_at h 0
  refine ⟨g, o, fun j hj => ?_⟩
  rcases hgo with ⟨e, _⟩ | ⟨e, hI, hl⟩
  · subst e; exact absurd hj (Nat.not_lt_zero _)
  · exact ⟨e, hI.2 j _ (List.getElem?_eq_getElem hj)⟩
set_option maxHeartbeats 8000000 in
theorem nfcShort_walk {w : World} (s : ByteArray) (hs : s.size ≤ maxLen) : Calls Try.prog 8 #[.string s] w (LawTrue w) := by
  have k9 := nwakes_any
  unfold LawTrue at k9 ⊢
  have hb0 : Below w.heap.size w w := Below.refl _ _
  by_cases hlen : 600 < s.size
  · have hl : (600 : Int) < (s.size : Int) := by omega
    go_enter Try.func8, Try.ntmps8
    go_wp2_with (go_at_call 9; refine (k9 _).mono ?_; rintro e w1 ⟨rfl, hb1⟩; replace hb0 := bl hb0 hb1; clear hb1)
    go_ret
    exact ⟨rfl, hb0⟩
  · have hl : ¬ (600 : Int) < (s.size : Int) := by omega
    have g := good_600 (s := s) (by omega)
    have gn := good_nnfc g
    have gd := good_ndec g
    have c1 := fun w => nfc_any s g w
    have c2 := fun w => decomposed_any s g.1 w (good_dec g)
    have c3 := fun w => rscalars_any (nnfcB s) gn.1 w
    have c4 := fun w => rscalars_any (ndecB s) gd.1 w
    cases h : Ut.scal (Ut.bsL s) with
    | none =>
      have f1 := nnfc_none h
      have f2 := ndec_none h
      rw [f1] at c1 c3
      rw [f2] at c2 c4
      unfold ScPost at c3
      rw [h] at c3
      clear f1 f2 g gn gd h c4
      go_enter Try.func8, Try.ntmps8
      go_wp2_with (first | (go_at_call 10; refine (c1 _).mono ?_; rintro e w2 ⟨rfl, hb2⟩; replace hb0 := bl hb0 hb2; clear hb2) | (go_at_call 11; refine (c2 _).mono ?_; rintro e w2 ⟨rfl, hb2⟩; replace hb0 := bl hb0 hb2; clear hb2) | (go_at_call 17; refine (c3 _).mono ?_; rintro e w2 ⟨rfl, hb2⟩; replace hb0 := bl hb0 hb2; clear hb2) | (go_at_call 9; refine (k9 _).mono ?_; rintro e w5 ⟨rfl, hb5⟩; replace hb0 := bl hb0 hb5; clear hb5))
      go_ret
      exact ⟨rfl, hb0⟩
    | some L =>
      have hL := (Ut.scal_some h).1
      have h1 := scal_mk (Tb.nfc_sc hL)
      have h2 := scal_mk (Tb.dcmp_sc hL)
      rw [← nnfc_some h] at h1
      rw [← ndec_some h] at h2
      unfold ScPost at c3 c4
      rw [h1] at c3
      rw [h2] at c4
      obtain ⟨e1, e2, e3⟩ := Tb.comp_short (Tb.dcmp L)
      have q1 := Ut.scal_len h1
      have q2 := Ut.scal_len h2
      rw [Ut.bsL_len] at q1 q2
      have q3 := gn.1
      have q4 := gd.1
      have E1 : Hid ((Tb.nfcL L).length ≤ (Tb.dcmp L).length) := Lib.hid e1
      have E2 : Hid (Tb.c0 (Tb.nfcL L) ≤ Tb.c0 (Tb.dcmp L)) := Lib.hid e2
      have E3 : Hid ((Tb.nfcL L).length = 0 ↔ (Tb.dcmp L).length = 0) := Lib.hid e3
      have q5 : (Tb.nfcL L).length ≤ 100000 := by omega
      have q6 : (Tb.dcmp L).length ≤ 100000 := by omega
      clear h1 h2 hL e1 e2 e3 g gn gd h q1 q2 q3 q4
      generalize nnfcB s = a at *
      generalize ndecB s = d at *
      generalize Tb.nfcL L = N at *
      generalize Tb.dcmp L = M at *
      obtain ⟨n, hn⟩ : ∃ n, N.length = n := ⟨_, rfl⟩
      obtain ⟨m, hm⟩ : ∃ m, M.length = m := ⟨_, rfl⟩
      have HN := Lib.hid hn
      have HM := Lib.hid hm
      rw [hn] at q5
      rw [hm] at q6
      clear hn hm
      go_enter Try.func8, Try.ntmps8
      go_wp2_with (first | (go_at_call 10; refine (c1 _).mono ?_; rintro e w2 ⟨rfl, hb2⟩; replace hb0 := bl hb0 hb2; clear hb2) | (go_at_call 11; refine (c2 _).mono ?_; rintro e w2 ⟨rfl, hb2⟩; replace hb0 := bl hb0 hb2; have HR2 := Lib.hid (rowp_below HR1.out hb2); clear hb2) | (go_at_call 17; (first | (with_reducible refine (c3 _).mono ?_; rintro e w1 ⟨⟨v1, rfl, ho1⟩, hb1⟩; obtain ⟨p1, cc1, rfl, hr1⟩ := nown_rowp ho1; have HR1 := Lib.hid hr1; replace hb0 := bl hb0 hb1; clear ho1 hr1 hb1) | (with_reducible refine (c4 _).mono ?_; rintro e w3 ⟨⟨v2, rfl, ho2⟩, hb2⟩; obtain ⟨p2, cc2, rfl, hr2⟩ := nown_rowp ho2; have HR3 := Lib.hid (rowp_below HR2.out hb2); have HR4 := Lib.hid hr2; replace hb0 := bl hb0 hb2; clear ho2 hr2 hb2))))
      obtain ⟨g1, o1, hc1⟩ := row_cells HR3.out
      obtain ⟨g2, o2, hc2⟩ := row_cells HR4.out
      have HC1 := Lib.hid hc1
      have HC2 := Lib.hid hc2
      clear hc1 hc2 HR1 HR2 HR3 HR4 c1 c2 c3 c4
      rw [HN.out, HM.out]
      go_loop [7, 9] (fun av iv => ∃ i x : Nat, i ≤ n ∧ iv = .int .i64 (i : Int) ∧ av = .int .i64 (x : Int) ∧ x ≤ i ∧ Hid (x = Tb.c0 (N.take i))) (fun _ iv => n - (intOf iv).toNat)
      case atStart => exact ⟨0, 0, Nat.zero_le _, rfl, rfl, Nat.le_refl _, Lib.hid rfl⟩
      case round =>
        obtain ⟨i, x, hi, rfl, rfl, hxi, HX⟩ := hrel
        by_cases hlt : i < n
        · have hil : i < N.length := by rw [HN.out]; exact hlt
          obtain ⟨hp, hci⟩ := HC1.out i hil
          have HT := Lib.hid (c0_take hil)
          have c5 := rclass_any N[i]
          have ii : (i : Int) < (n : Int) := by omega
          subst hp
          generalize N[i] = r at *
          by_cases hcl : Tb.classI r = 0
          · have hT2 : Hid (Tb.c0 (N.take (i + 1)) = x + 1) := Lib.hid (by rw [HT.out, if_pos hcl, HX.out])
            rw [hcl] at c5
            clear hcl HT
            go_wp2_with (go_at_call 18; refine (c5 _).mono ?_; rintro e w2 ⟨rfl, rfl⟩)
            go_round
            case rel => exact ⟨i + 1, x + 1, by omega, by go_num, by go_num, by omega, Lib.hid hT2.out.symm⟩
            case measure => simp [intOf]; omega
          · have hT2 : Hid (Tb.c0 (N.take (i + 1)) = x) := Lib.hid (by rw [HT.out, if_neg hcl, HX.out]; rfl)
            have hb : (Tb.classI r == 0) = false := by simpa using hcl
            generalize Tb.classI r = cr at *
            clear hcl HT
            go_wp2_with (go_at_call 18; refine (c5 _).mono ?_; rintro e w2 ⟨rfl, rfl⟩)
            go_round
            case rel => exact ⟨i + 1, x, by omega, by go_num, rfl, by omega, Lib.hid hT2.out.symm⟩
            case measure => simp [intOf]; omega
        · obtain rfl : i = n := by omega
          have htk : Hid (x = Tb.c0 N) := Lib.hid (by rw [HX.out, List.take_of_length_le (by have := HN.out; omega)])
          have q1 : ¬ (i : Int) < (i : Int) := by omega
          clear HX
          go_wp2_with fail
          go_loop [8, 10] (fun av iv => ∃ k y : Nat, k ≤ m ∧ iv = .int .i64 (k : Int) ∧ av = .int .i64 (y : Int) ∧ y ≤ k ∧ Hid (y = Tb.c0 (M.take k))) (fun _ iv => m - (intOf iv).toNat)
          case atStart => exact ⟨0, 0, Nat.zero_le _, rfl, rfl, Nat.le_refl _, Lib.hid rfl⟩
          case round =>
            obtain ⟨k, y, hk, rfl, rfl, hyk, HY⟩ := hrel
            by_cases hlt : k < m
            · have hil : k < M.length := by rw [HM.out]; exact hlt
              obtain ⟨hp, hci⟩ := HC2.out k hil
              have HT := Lib.hid (c0_take hil)
              have c5 := rclass_any M[k]
              have ii : (k : Int) < (m : Int) := by omega
              subst hp
              generalize M[k] = r at *
              by_cases hcl : Tb.classI r = 0
              · have hT2 : Hid (Tb.c0 (M.take (k + 1)) = y + 1) := Lib.hid (by rw [HT.out, if_pos hcl, HY.out])
                rw [hcl] at c5
                clear hcl HT
                go_wp2_with (go_at_call 18; refine (c5 _).mono ?_; rintro e w2 ⟨rfl, rfl⟩)
                go_round
                case rel => exact ⟨k + 1, y + 1, by omega, by go_num, by go_num, by omega, Lib.hid hT2.out.symm⟩
                case measure => simp [intOf]; omega
              · have hT2 : Hid (Tb.c0 (M.take (k + 1)) = y) := Lib.hid (by rw [HT.out, if_neg hcl, HY.out]; rfl)
                have hb : (Tb.classI r == 0) = false := by simpa using hcl
                generalize Tb.classI r = cr at *
                clear hcl HT
                go_wp2_with (go_at_call 18; refine (c5 _).mono ?_; rintro e w2 ⟨rfl, rfl⟩)
                go_round
                case rel => exact ⟨k + 1, y, by omega, by go_num, rfl, by omega, Lib.hid hT2.out.symm⟩
                case measure => simp [intOf]; omega
            · obtain rfl : k = m := by omega
              have htk2 : Hid (y = Tb.c0 M) := Lib.hid (by rw [HY.out, List.take_of_length_le (by have := HM.out; omega)])
              have q2 : ¬ (k : Int) < (k : Int) := by omega
              have r1 : (i : Int) ≤ (k : Int) := by have := E1.out; rw [HN.out, HM.out] at this; omega
              have r2 : (x : Int) ≤ (y : Int) := by have := E2.out; rw [← htk.out, ← htk2.out] at this; omega
              have r3 := E3.out
              rw [HN.out, HM.out] at r3
              clear HY
              by_cases hz : i = 0
              · have z1 : ((i : Int) == 0) = true := by simp; exact hz
                have z2 : ((k : Int) == 0) = true := by simp; exact r3.1 hz
                clear r3
                go_wp2_with (go_at_call 9; refine (k9 _).mono ?_; rintro e w5 ⟨rfl, hb5⟩; replace hb0 := bl hb0 hb5; clear hb5)
                go_ret
                exact ⟨rfl, hb0⟩
              · have z1 : ((i : Int) == 0) = false := by simp; exact hz
                have z2 : ((k : Int) == 0) = false := by simp; exact fun e => hz (r3.2 e)
                clear r3
                go_wp2_with (go_at_call 9; refine (k9 _).mono ?_; rintro e w5 ⟨rfl, hb5⟩; replace hb0 := bl hb0 hb5; clear hb5)
                go_ret
                exact ⟨rfl, hb0⟩
end Go.Proofs.Ytmpoeeioeimmfaa
