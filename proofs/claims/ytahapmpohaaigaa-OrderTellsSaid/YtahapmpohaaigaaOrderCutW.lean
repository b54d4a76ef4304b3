/- The walk of the statement on scalars put together. -/
import Derived.Test.YtahapmpohaaigaaOrderPartsW
namespace Go.Proofs.Ytahapmpohaaigaa
open Go.RowKit
open Go
set_option linter.unusedVariables false
theorem eqT (L : List Int) : decide (L = L) = true := by simp
theorem rowp_of {W : World} {base : Nat} {p : Option Addr} {n c : Nat} {L : List Int} (h : OwnL W base (.slice p n c) L) (hn : L.length = n) : RowP W p c L := by
  rw [← hn] at h
  obtain ⟨_, _, e1, e2⟩ := h.rowp
  injection e1 with e3 e4 e5
  rw [e3, e5]
  exact e2
set_option maxHeartbeats 8000000 in
theorem orderCut_walk {w : World} (p : Option Addr) (c : Nat) (L : List Int) (h : RowP w p c L) (h64 : All64 L) (q : Option Addr) (d : Nat) (M : List Int) (h' : RowP w q d M) (h64' : All64 M) : Calls Try.prog 7 #[.slice p L.length c, .slice q M.length d] w (LawTrue w) := by
  have k9 := fun w => wakes_any w
  unfold LawTrue at k9 ⊢
  have HL := Lib.hid h
  have HM := Lib.hid h'
  clear h h'
  obtain ⟨n, hn⟩ : ∃ n, L.length = n := ⟨_, rfl⟩
  obtain ⟨m, hm⟩ : ∃ m, M.length = m := ⟨_, rfl⟩
  rw [hn, hm]
  have HN := Lib.hid hn
  have HK := Lib.hid hm
  clear hn hm
  by_cases hbig : 200 < n
  · have q0 : (200 : Int) < (n : Int) := by omega
    go_enter Try.func7, Try.ntmps7
    go_wp2_with fail
    refine (k9 _).mono ?_
    rintro e w1 ⟨rfl, hb⟩
    go_wp2_with fail
    go_ret
    exact ⟨rfl, hb⟩
  · by_cases hbig2 : 200 < m
    · have q0 : ¬ (200 : Int) < (n : Int) := by omega
      have q1 : (200 : Int) < (m : Int) := by omega
      go_enter Try.func7, Try.ntmps7
      go_wp2_with fail
      refine (k9 _).mono ?_
      rintro e w1 ⟨rfl, hb⟩
      go_wp2_with fail
      go_ret
      exact ⟨rfl, hb⟩
    · have q0 : ¬ (200 : Int) < (n : Int) := by omega
      have q1 : ¬ (200 : Int) < (m : Int) := by omega
      obtain ⟨LM, hLM⟩ : ∃ X, L ++ M = X := ⟨_, rfl⟩
      obtain ⟨k, hk⟩ : ∃ k, LM.length = k := ⟨_, rfl⟩
      have hkn : k = n + m := by rw [← hk, ← hLM, List.length_append, HN.out, HK.out]
      have h64c : All64 LM := fun x hx => by
        rw [← hLM] at hx
        rcases List.mem_append.1 hx with h1 | h1
        · exact h64 x h1
        · exact h64' x h1
      obtain ⟨DL, hDL⟩ : ∃ X, Tb.dec L = X := ⟨_, rfl⟩
      obtain ⟨dl, hdl⟩ : ∃ k, DL.length = k := ⟨_, rfl⟩
      obtain ⟨DM, hDM⟩ : ∃ X, Tb.dec M = X := ⟨_, rfl⟩
      obtain ⟨dm, hdm⟩ : ∃ k, DM.length = k := ⟨_, rfl⟩
      obtain ⟨DC, hDC⟩ : ∃ X, DL ++ DM = X := ⟨_, rfl⟩
      obtain ⟨dc, hdc⟩ : ∃ k, DC.length = k := ⟨_, rfl⟩
      have hdec : Tb.dec LM = DC := by rw [← hDC, ← hDL, ← hDM, ← hLM, Tb.dec_app]
      have b1 := (Tb.dec_len L).2
      have b2 := (Tb.dec_len M).2
      rw [hDL, hdl, HN.out] at b1
      rw [hDM, hdm, HK.out] at b2
      have hdcn : dc = dl + dm := by rw [← hdc, ← hDC, List.length_append, hdl, hdm]
      have c1 : ∀ W, RowP W p c L → Calls Try.prog 16 #[.slice p n c] W (OutPost DL W) := fun W hW => by
        have := pdec_any p c L W (by have := HN.out; omega) hW h64
        rw [HN.out, hDL] at this
        exact this
      have c2 : ∀ W, RowP W q d M → Calls Try.prog 16 #[.slice q m d] W (OutPost DM W) := fun W hW => by
        have := pdec_any q d M W (by have := HK.out; omega) hW h64'
        rw [HK.out, hDM] at this
        exact this
      have c3 : ∀ W pb cb, RowP W pb cb LM → Calls Try.prog 16 #[.slice pb k cb] W (OutPost DC W) := fun W pb cb hW => by
        have := pdec_any pb cb LM W (by omega) hW h64c
        rw [hk, hdec] at this
        exact this
      have HKNM := Lib.hid hkn
      have HDN := Lib.hid hdcn
      have HC1 := Lib.hid c1
      have HC2 := Lib.hid c2
      have HC3 := Lib.hid c3
      have HLM := Lib.hid hLM
      have HKN := Lib.hid hk
      have HDL := Lib.hid hdl
      have HDM := Lib.hid hdm
      have HDC := Lib.hid hDC
      have HDCN := Lib.hid hdc
      clear hkn hdcn c1 c2 c3 hDL hDM hdec h64 h64' h64c hLM hk hdl hdm hDC hdc
      go_enter Try.func7, Try.ntmps7
      go_wp2_with (first
        | (at_builtin; refine wpList_app _ rfl _ _ rfl w.heap.size (.slice (some ⟨w.heap.size, 0, none⟩) 0 0) [] rfl (own_empty w) p n c L HN.out rfl (HL.out.below (ba1 w _) (Nat.le_refl _)) (by have := HN.out; simp; omega) (by simp) ?_; intro v1 w1 ho1 hg1; have hb1 := (ba1 w (.cells #[] 3)).trans (own_grown (own_empty w) hg1 (Nat.le_refl _) (by simp)); rw [List.nil_append] at ho1; obtain ⟨pa, ca, rfl, hra⟩ := ho1.rowp; clear hra; rw [HN.out] at ho1 ⊢; have HO1 := Lib.hid ho1; have HB1 := Lib.hid hb1; clear ho1 hg1 hb1)
        | (at_builtin; refine wpList_app _ rfl _ _ rfl w.heap.size (.slice pa n ca) L rfl HO1.out q m d M HK.out rfl (HM.out.below HB1.out (Nat.le_refl _)) (by have := HN.out; have := HK.out; omega) HB1.out.size ?_; intro v2 w2 ho2 hg2; rw [HLM.out] at ho2; have hb2 := HB1.out.trans (own_grown HO1.out hg2 (Nat.le_refl _) HB1.out.size); obtain ⟨pb, cb, rfl, hrb⟩ := ho2.rowp; clear hrb; rw [HKN.out] at ho2 ⊢; have HO2 := Lib.hid ho2; have HB2 := Lib.hid hb2; clear ho2 hg2 hb2))
      clear HO1 HB1
      have B2a := HB2.out.trans ((ba1 w2 (.cells #[] 3)).mono HB2.out.size)
      refine (HC1.out _ (HL.out.below B2a (Nat.le_refl _))).mono ?_
      intro e w3 ho
      obtain ⟨p3, e3, rfl, hr3, hb3⟩ := out_open ho
      rw [HDL.out]
      have O3 := Lib.hid ((own_empty w2).of_below hb3 (Nat.le_refl _))
      have R3 := Lib.hid hr3
      have B3 := Lib.hid (bn (ba1 w2 _) hb3)
      clear ho hr3 hb3 B2a
      go_wp2_with (at_builtin; refine wpList_app _ rfl _ _ rfl w2.heap.size (.slice (some ⟨w2.heap.size, 0, none⟩) 0 0) [] rfl O3.out p3 dl e3 DL HDL.out rfl R3.out (by have := HDL.out; simp; omega) B3.out.size ?_; intro v4 w4 ho4 hg4; have hb4 := B3.out.trans (own_grown O3.out hg4 (Nat.le_refl _) B3.out.size); rw [List.nil_append] at ho4; obtain ⟨p4, e4, rfl, hr4⟩ := ho4.rowp; clear hr4; rw [HDL.out] at ho4 ⊢; have HO4 := Lib.hid ho4; have HB4 := Lib.hid hb4; clear ho4 hg4 hb4)
      clear O3 R3 B3
      refine (HC2.out _ (HM.out.below (bn HB2.out HB4.out) (Nat.le_refl _))).mono ?_
      intro e w5 ho
      obtain ⟨p5, e5, rfl, hr5, hb5⟩ := out_open ho
      rw [HDM.out]
      have O5 := Lib.hid (HO4.out.of_below hb5 (Nat.le_refl _))
      have R5 := Lib.hid hr5
      have B5 := Lib.hid (bn HB4.out hb5)
      clear ho hr5 hb5 HO4 HB4
      go_wp2_with (at_builtin; refine wpList_app _ rfl _ _ rfl w2.heap.size (.slice p4 dl e4) DL rfl O5.out p5 dm e5 DM HDM.out rfl R5.out (by have := HDL.out; have := HDM.out; omega) B5.out.size ?_; intro v6 w6 ho6 hg6; have hb6 := B5.out.trans (own_grown O5.out hg6 (Nat.le_refl _) B5.out.size); rw [HDC.out] at ho6; obtain ⟨p6, e6, rfl, hr6⟩ := ho6.rowp; clear hr6; rw [HDCN.out] at ho6 ⊢; have HO6 := Lib.hid ho6; have HB6 := Lib.hid hb6; clear ho6 hg6 hb6)
      clear O5 R5 B5
      have O2 := Lib.hid (HO2.out.of_below HB6.out (Nat.le_refl _))
      have B6 := Lib.hid (bn HB2.out HB6.out)
      clear HO2 HB2 HB6
      have r2 : RowP w6 pb cb LM := by
        have := O2.out
        rw [← HKN.out] at this
        obtain ⟨_, _, e1, e2⟩ := this.rowp
        injection e1 with e3 e4 e5
        rw [e3, e5]
        exact e2
      refine (HC3.out w6 pb cb r2).mono ?_
      intro e w7 ho
      obtain ⟨p7, e7, rfl, hr7, hb7⟩ := out_open ho
      have O7 := Lib.hid (O2.out.of_below hb7 (Nat.le_refl _))
      have O7' := Lib.hid (HO6.out.of_below hb7 (Nat.le_refl _))
      have B7 := Lib.hid (bn B6.out hb7)
      have r6 : RowP w7 p6 e6 DC := by
        have := O7'.out
        rw [← HDCN.out] at this
        obtain ⟨_, _, e1, e2⟩ := this.rowp
        injection e1 with e3 e4 e5
        rw [e3, e5]
        exact e2
      have c8 := psame_any p7 p6 e7 e6 DC DC w7 (by have := HDCN.out; have := HDN.out; omega) (by have := HDCN.out; have := HDN.out; omega) hr7 r6
      rw [eqT, HDCN.out] at c8
      rw [HDCN.out]
      clear ho hr7 hb7 O2 HO6 B6 r6 r2 O7' HC1 HC2 HC3
      go_wp2_with fail
      refine c8.mono ?_
      intro e w8 ho
      obtain ⟨rfl, hb8⟩ := eq_open ho
      have O8 := Lib.hid (O7.out.of_below hb8 (Nat.le_refl _))
      have B8 := Lib.hid (bn B7.out hb8)
      clear ho hb8 O7 B7 c8 HDC HDCN HDL HDM
      by_cases hm0 : m = 0
      · have hfree : Ordl.Free Tb.classI M := fun x t e => by
          have := HK.out
          rw [e] at this
          simp at this
          omega
        have hm1 : ¬ 0 < m := by omega
        have hm2 : ¬ (0 : Int) < (m : Int) := by omega
        have HM0 := Lib.hid hm0
        clear hm0
        have hSLM := Ordl.sort_app (cls := Tb.classI) L hfree
        have hOLM := Ordl.ord_app (cls := Tb.classI) L hfree
        rw [HLM.out] at hSLM hOLM
        have s1 := fun W (hW : RowP W p c L) => sort_any p c L W (by have := HN.out; omega) hW
        have s2 := fun W (hW : RowP W q d M) => sort_any q d M W (by have := HK.out; omega) hW
        have s3 := fun W (hW : RowP W pb cb LM) => sort_any pb cb LM W (by have := HKN.out; have := HKNM.out; omega) hW
        have l1 := Ordl.sort_len (cls := Tb.classI) L
        have l2 := Ordl.sort_len (cls := Tb.classI) M
        have l3 := Ordl.sort_len (cls := Tb.classI) LM
        rw [HN.out] at s1 l1
        rw [HK.out] at s2 l2
        rw [HKN.out] at s3 l3
        generalize Ordl.sortL Tb.classI L = SL at *
        generalize Ordl.sortL Tb.classI M = SM at *
        generalize Ordl.sortL Tb.classI LM = SC at *
        have o1 := fun W (hW : RowP W p c L) => ordered_any p c L W (by have := HN.out; omega) hW
        have o2 := fun W (hW : RowP W q d M) => ordered_any q d M W (by have := HK.out; omega) hW
        have o3 := fun W (hW : RowP W pb cb LM) => ordered_any pb cb LM W (by have := HKN.out; have := HKNM.out; omega) hW
        rw [HN.out] at o1
        rw [HK.out] at o2
        rw [HKN.out] at o3
        generalize Ordl.ordB Tb.classI L = bl at *
        generalize Ordl.ordB Tb.classI M = bm at *
        rw [hOLM] at o3
        have HSC := Lib.hid hSLM.symm
        have L1 := Lib.hid l1
        have L2 := Lib.hid l2
        have L3 := Lib.hid l3
        have S1 := Lib.hid s1
        have S2 := Lib.hid s2
        have S3 := Lib.hid s3
        have Q1 := Lib.hid o1
        have Q2 := Lib.hid o2
        have Q3 := Lib.hid o3
        clear hSLM hOLM l1 l2 l3 s1 s2 s3 o1 o2 o3 hfree
        go_wp2_with fail
        refine (S1.out _ (HL.out.below (B8.out.trans ((ba1 w8 _).mono B8.out.size)) (Nat.le_refl _))).mono ?_
        intro e w9 ho
        obtain ⟨p9, e9, rfl, hr9, hb9⟩ := out_open ho
        rw [L1.out]
        have O9 := Lib.hid ((own_empty w8).of_below hb9 (Nat.le_refl _))
        have R9 := Lib.hid hr9
        have B9 := Lib.hid (bn (ba1 w8 _) hb9)
        clear ho hr9 hb9
        go_wp2_with (at_builtin; refine wpList_app _ rfl _ _ rfl w8.heap.size (.slice (some ⟨w8.heap.size, 0, none⟩) 0 0) [] rfl O9.out p9 n e9 SL L1.out rfl R9.out (by have := L1.out; simp; omega) B9.out.size ?_; intro v4 w4 ho4 hg4; have hb4 := B9.out.trans (own_grown O9.out hg4 (Nat.le_refl _) B9.out.size); rw [List.nil_append] at ho4; obtain ⟨p4, e4, rfl, hr4⟩ := ho4.rowp; clear hr4; rw [L1.out] at ho4 ⊢; have HO4 := Lib.hid ho4; have HB4 := Lib.hid hb4; clear ho4 hg4 hb4)
        clear O9 R9 B9
        refine (S2.out _ (HM.out.below (bn B8.out HB4.out) (Nat.le_refl _))).mono ?_
        intro e wA ho
        obtain ⟨pA, eA, rfl, hrA, hbA⟩ := out_open ho
        rw [L2.out]
        have OA := Lib.hid (HO4.out.of_below hbA (Nat.le_refl _))
        have RA := Lib.hid hrA
        have BA := Lib.hid (bn HB4.out hbA)
        clear ho hrA hbA HO4 HB4
        go_wp2_with (at_builtin; refine wpList_app _ rfl _ _ rfl w8.heap.size (.slice p4 n e4) SL rfl OA.out pA m eA SM L2.out rfl RA.out (by have := L1.out; have := L2.out; omega) BA.out.size ?_; intro v6 wB hoB hgB; have hbB := BA.out.trans (own_grown OA.out hgB (Nat.le_refl _) BA.out.size); rw [HSC.out] at hoB; obtain ⟨pB, eB, rfl, hrB⟩ := hoB.rowp; clear hrB; rw [L3.out] at hoB ⊢; have HOB := Lib.hid hoB; have HBB := Lib.hid hbB; clear hoB hgB hbB)
        clear OA RA BA
        have O10 := Lib.hid (O8.out.of_below HBB.out (Nat.le_refl _))
        have B10 := Lib.hid (bn B8.out HBB.out)
        clear O8 B8 HBB
        refine (S3.out wB (rowp_of O10.out HKN.out)).mono ?_
        intro e wC ho
        obtain ⟨pC, eC, rfl, hrC, hbC⟩ := out_open ho
        have O11 := Lib.hid (O10.out.of_below hbC (Nat.le_refl _))
        have B11 := Lib.hid (bn B10.out hbC)
        have cD := rsame_any pC pB eC eB SC SC wC (by have := L3.out; have := HKNM.out; omega) (by have := L3.out; have := HKNM.out; omega) hrC (rowp_of (HOB.out.of_below hbC (Nat.le_refl _)) L3.out)
        rw [eqT, L3.out] at cD
        rw [L3.out]
        clear ho hrC hbC O10 B10 HOB
        go_wp2_with fail
        refine cD.mono ?_
        intro e wD ho
        obtain ⟨rfl, hbD⟩ := eq_open ho
        have O12 := Lib.hid (O11.out.of_below hbD (Nat.le_refl _))
        have B12 := Lib.hid (bn B11.out hbD)
        clear ho hbD O11 B11 cD
        go_wp2_with fail
        refine (Q3.out wD (rowp_of O12.out HKN.out)).mono ?_
        rintro e wE ⟨rfl, hbE⟩
        have B13 := Lib.hid (bn B12.out hbE)
        clear hbE O12 B12
        go_wp2_with fail
        refine (Q1.out wE (HL.out.below B13.out (Nat.le_refl _))).mono ?_
        rintro e wF ⟨rfl, hbF⟩
        have B14 := Lib.hid (bn B13.out hbF)
        clear hbF B13
        cases bl
        · go_wp2_with fail
          refine (k9 _).mono ?_
          rintro e wH ⟨rfl, hbH⟩
          go_wp2_with fail
          go_ret
          exact ⟨rfl, bn B14.out hbH⟩
        · go_wp2_with fail
          refine (Q2.out wF (HM.out.below B14.out (Nat.le_refl _))).mono ?_
          rintro e wG ⟨rfl, hbG⟩
          have B15 := Lib.hid (bn B14.out hbG)
          clear hbG B14
          cases bm
          · go_wp2_with fail
            refine (k9 _).mono ?_
            rintro e wH ⟨rfl, hbH⟩
            go_wp2_with fail
            go_ret
            exact ⟨rfl, bn B15.out hbH⟩
          · go_wp2_with fail
            refine (k9 _).mono ?_
            rintro e wH ⟨rfl, hbH⟩
            go_wp2_with fail
            go_ret
            exact ⟨rfl, bn B15.out hbH⟩
      · obtain ⟨x, T, hxT⟩ : ∃ x T, M = x :: T := by
          cases M with
          | nil => have := HK.out; simp at this; omega
          | cons x T => exact ⟨x, T, rfl⟩
        have hm1 : 0 < m := by omega
        have hm2 : (0 : Int) < (m : Int) := by omega
        obtain ⟨g, o, hq, hI⟩ := HM.out.2.resolve_left (fun e => by rw [e] at hxT; cases hxT)
        have k1 := (B8.out.cell (p := ⟨g, o, none⟩) hI.1).trans (hI.2 0 x (by rw [hxT]; rfl))
        have cx := fun W => rclass_any x W
        have HQ := Lib.hid hq
        have HX := Lib.hid hxT
        clear hq hxT hI hm0
        by_cases hx0 : Tb.classI x = 0
        · have hfree : Ordl.Free Tb.classI M := by rw [HX.out]; exact Ordl.Free.cons hx0
          have HX0 := Lib.hid hx0
          have e1 : (Tb.classI x == 0) = true := by simpa using hx0
          rw [hx0] at cx
          clear hx0 e1
          rw [HQ.out]
          go_wp2_with fail
          refine (cx _).mono ?_
          rintro e w9' ⟨rfl, rfl⟩
          rw [← HQ.out]
          have hSLM := Ordl.sort_app (cls := Tb.classI) L hfree
          have hOLM := Ordl.ord_app (cls := Tb.classI) L hfree
          rw [HLM.out] at hSLM hOLM
          have s1 := fun W (hW : RowP W p c L) => sort_any p c L W (by have := HN.out; omega) hW
          have s2 := fun W (hW : RowP W q d M) => sort_any q d M W (by have := HK.out; omega) hW
          have s3 := fun W (hW : RowP W pb cb LM) => sort_any pb cb LM W (by have := HKN.out; have := HKNM.out; omega) hW
          have l1 := Ordl.sort_len (cls := Tb.classI) L
          have l2 := Ordl.sort_len (cls := Tb.classI) M
          have l3 := Ordl.sort_len (cls := Tb.classI) LM
          rw [HN.out] at s1 l1
          rw [HK.out] at s2 l2
          rw [HKN.out] at s3 l3
          generalize Ordl.sortL Tb.classI L = SL at *
          generalize Ordl.sortL Tb.classI M = SM at *
          generalize Ordl.sortL Tb.classI LM = SC at *
          have o1 := fun W (hW : RowP W p c L) => ordered_any p c L W (by have := HN.out; omega) hW
          have o2 := fun W (hW : RowP W q d M) => ordered_any q d M W (by have := HK.out; omega) hW
          have o3 := fun W (hW : RowP W pb cb LM) => ordered_any pb cb LM W (by have := HKN.out; have := HKNM.out; omega) hW
          rw [HN.out] at o1
          rw [HK.out] at o2
          rw [HKN.out] at o3
          generalize Ordl.ordB Tb.classI L = bl at *
          generalize Ordl.ordB Tb.classI M = bm at *
          rw [hOLM] at o3
          have HSC := Lib.hid hSLM.symm
          have L1 := Lib.hid l1
          have L2 := Lib.hid l2
          have L3 := Lib.hid l3
          have S1 := Lib.hid s1
          have S2 := Lib.hid s2
          have S3 := Lib.hid s3
          have Q1 := Lib.hid o1
          have Q2 := Lib.hid o2
          have Q3 := Lib.hid o3
          clear hSLM hOLM l1 l2 l3 s1 s2 s3 o1 o2 o3 hfree
          go_wp2_with fail
          refine (S1.out _ (HL.out.below (B8.out.trans ((ba1 w8 _).mono B8.out.size)) (Nat.le_refl _))).mono ?_
          intro e w9 ho
          obtain ⟨p9, e9, rfl, hr9, hb9⟩ := out_open ho
          rw [L1.out]
          have O9 := Lib.hid ((own_empty w8).of_below hb9 (Nat.le_refl _))
          have R9 := Lib.hid hr9
          have B9 := Lib.hid (bn (ba1 w8 _) hb9)
          clear ho hr9 hb9
          go_wp2_with (at_builtin; refine wpList_app _ rfl _ _ rfl w8.heap.size (.slice (some ⟨w8.heap.size, 0, none⟩) 0 0) [] rfl O9.out p9 n e9 SL L1.out rfl R9.out (by have := L1.out; simp; omega) B9.out.size ?_; intro v4 w4 ho4 hg4; have hb4 := B9.out.trans (own_grown O9.out hg4 (Nat.le_refl _) B9.out.size); rw [List.nil_append] at ho4; obtain ⟨p4, e4, rfl, hr4⟩ := ho4.rowp; clear hr4; rw [L1.out] at ho4 ⊢; have HO4 := Lib.hid ho4; have HB4 := Lib.hid hb4; clear ho4 hg4 hb4)
          clear O9 R9 B9
          refine (S2.out _ (HM.out.below (bn B8.out HB4.out) (Nat.le_refl _))).mono ?_
          intro e wA ho
          obtain ⟨pA, eA, rfl, hrA, hbA⟩ := out_open ho
          rw [L2.out]
          have OA := Lib.hid (HO4.out.of_below hbA (Nat.le_refl _))
          have RA := Lib.hid hrA
          have BA := Lib.hid (bn HB4.out hbA)
          clear ho hrA hbA HO4 HB4
          go_wp2_with (at_builtin; refine wpList_app _ rfl _ _ rfl w8.heap.size (.slice p4 n e4) SL rfl OA.out pA m eA SM L2.out rfl RA.out (by have := L1.out; have := L2.out; omega) BA.out.size ?_; intro v6 wB hoB hgB; have hbB := BA.out.trans (own_grown OA.out hgB (Nat.le_refl _) BA.out.size); rw [HSC.out] at hoB; obtain ⟨pB, eB, rfl, hrB⟩ := hoB.rowp; clear hrB; rw [L3.out] at hoB ⊢; have HOB := Lib.hid hoB; have HBB := Lib.hid hbB; clear hoB hgB hbB)
          clear OA RA BA
          have O10 := Lib.hid (O8.out.of_below HBB.out (Nat.le_refl _))
          have B10 := Lib.hid (bn B8.out HBB.out)
          clear O8 B8 HBB
          refine (S3.out wB (rowp_of O10.out HKN.out)).mono ?_
          intro e wC ho
          obtain ⟨pC, eC, rfl, hrC, hbC⟩ := out_open ho
          have O11 := Lib.hid (O10.out.of_below hbC (Nat.le_refl _))
          have B11 := Lib.hid (bn B10.out hbC)
          have cD := rsame_any pC pB eC eB SC SC wC (by have := L3.out; have := HKNM.out; omega) (by have := L3.out; have := HKNM.out; omega) hrC (rowp_of (HOB.out.of_below hbC (Nat.le_refl _)) L3.out)
          rw [eqT, L3.out] at cD
          rw [L3.out]
          clear ho hrC hbC O10 B10 HOB
          go_wp2_with fail
          refine cD.mono ?_
          intro e wD ho
          obtain ⟨rfl, hbD⟩ := eq_open ho
          have O12 := Lib.hid (O11.out.of_below hbD (Nat.le_refl _))
          have B12 := Lib.hid (bn B11.out hbD)
          clear ho hbD O11 B11 cD
          go_wp2_with fail
          refine (Q3.out wD (rowp_of O12.out HKN.out)).mono ?_
          rintro e wE ⟨rfl, hbE⟩
          have B13 := Lib.hid (bn B12.out hbE)
          clear hbE O12 B12
          go_wp2_with fail
          refine (Q1.out wE (HL.out.below B13.out (Nat.le_refl _))).mono ?_
          rintro e wF ⟨rfl, hbF⟩
          have B14 := Lib.hid (bn B13.out hbF)
          clear hbF B13
          cases bl
          · go_wp2_with fail
            refine (k9 _).mono ?_
            rintro e wH ⟨rfl, hbH⟩
            go_wp2_with fail
            go_ret
            exact ⟨rfl, bn B14.out hbH⟩
          · go_wp2_with fail
            refine (Q2.out wF (HM.out.below B14.out (Nat.le_refl _))).mono ?_
            rintro e wG ⟨rfl, hbG⟩
            have B15 := Lib.hid (bn B14.out hbG)
            clear hbG B14
            cases bm
            · go_wp2_with fail
              refine (k9 _).mono ?_
              rintro e wH ⟨rfl, hbH⟩
              go_wp2_with fail
              go_ret
              exact ⟨rfl, bn B15.out hbH⟩
            · go_wp2_with fail
              refine (k9 _).mono ?_
              rintro e wH ⟨rfl, hbH⟩
              go_wp2_with fail
              go_ret
              exact ⟨rfl, bn B15.out hbH⟩
        · have e1 : (Tb.classI x == 0) = false := by simpa using hx0
          generalize Tb.classI x = kx at *
          rw [HQ.out]
          go_wp2_with fail
          refine (cx _).mono ?_
          rintro e w9' ⟨rfl, rfl⟩
          go_wp2_with fail
          refine (k9 _).mono ?_
          rintro e w9 ⟨rfl, hb9⟩
          go_wp2_with fail
          go_ret
          exact ⟨rfl, bn B8.out hb9⟩
end Go.Proofs.Ytahapmpohaaigaa
