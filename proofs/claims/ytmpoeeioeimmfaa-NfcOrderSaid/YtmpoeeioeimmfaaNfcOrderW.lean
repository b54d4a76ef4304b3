/- The walk of the statement NfcOrder. -/
import Derived.Test.YtmpoeeioeimmfaaNfL
import Derived.Test.YtmpoeeioeimmfaaR2C
namespace Go.Proofs.Ytmpoeeioeimmfaa
open Go.RowKit Go.Shelf
open Go
set_option linter.unusedVariables false
set_option maxRecDepth 100000
theorem mod_any (n : Int) (q : Nat) (hq : 1 ≤ q) (hq2 : q ≤ 600) : ∃ k : Nat, IntKind.i64.wrap (n.tmod (q : Int) + ((q : Int) + 1)) = n.tmod (q : Int) + ((q : Int) + 1) ∧ IntKind.i64.wrap (n.tmod (q : Int) + ((q : Int) + 1) - 1) = n.tmod (q : Int) + (q : Int) ∧ (n.tmod (q : Int) + (q : Int)).tmod (q : Int) = (k : Int) ∧ k < q := by
  have h1 : -(q : Int) < n.tmod (q : Int) ∧ n.tmod (q : Int) < (q : Int) := by
    have a1 := Int.tmod_lt_of_pos n (b := (q : Int)) (by omega)
    have a2 := Int.tmod_eq_emod (a := n) (b := (q : Int))
    have a3 := Int.emod_nonneg n (b := (q : Int)) (by omega)
    have a4 := Int.emod_lt_of_pos n (b := (q : Int)) (by omega)
    have a5 : ((q : Int).natAbs : Int) = (q : Int) := by omega
    split at a2 <;> omega
  generalize n.tmod (q : Int) = t at *
  have h2 : (t + (q : Int)).tmod (q : Int) = (t + (q : Int)) % (q : Int) := Int.tmod_eq_emod_of_nonneg (by omega)
  have h3 := Int.emod_nonneg (t + (q : Int)) (b := (q : Int)) (by omega)
  have h4 := Int.emod_lt_of_pos (t + (q : Int)) (b := (q : Int)) (by omega)
  refine ⟨((t + (q : Int)) % (q : Int)).toNat, ?_, ?_, ?_, ?_⟩
  · rw [IntKind.wrap_i64]; omega
  · rw [IntKind.wrap_i64]; omega
  · rw [h2]; omega
  · omega
theorem split_at (L : List Int) (k : Nat) (h : k + 1 < L.length) : ∃ A x y B, L = A ++ x :: y :: B ∧ A.length = k := by
  refine ⟨L.take k, L[k], L[k + 1], L.drop (k + 2), ?_, by rw [List.length_take]; omega⟩
  rw [← List.drop_eq_getElem_cons, ← List.drop_eq_getElem_cons, List.take_append_drop]
theorem swap_two (A : List Int) (x y : Int) (B : List Int) : ((A ++ x :: y :: B).set A.length y).set (A.length + 1) x = A ++ y :: x :: B := by
  rw [List.set_append_right _ _ (by omega), List.set_append_right _ _ (by omega)]
  simp
theorem order_facts {s : ByteArray} {A B : List Int} {x y : Int} (h : Ut.scal (Ut.bsL s) = some (A ++ x :: y :: B)) (hx : Tb.classI x ≠ 0) (hy : Tb.classI y ≠ 0) (hxy : Tb.classI x ≠ Tb.classI y) :
    Ut.AllSc (A ++ y :: x :: B) ∧ nnfcB (Ut.mk (Ut.text (A ++ y :: x :: B))) = nnfcB s ∧ ndecB (Ut.mk (Ut.text (A ++ y :: x :: B))) = ndecB s := by
  have h1 := (Ut.scal_some h).1
  have h2 : Ut.AllSc (A ++ y :: x :: B) := fun z hz => h1 z (by simp only [List.mem_append, List.mem_cons] at hz ⊢; rcases hz with hz | hz | hz | hz <;> simp [hz])
  have h3 := scal_mk h2
  have px : 0 < Tb.classI x := by have := (Tb.class_bd x).1; omega
  have py : 0 < Tb.classI y := by have := (Tb.class_bd y).1; omega
  have h4 := Tb.dcmp_swap px py hxy A B
  refine ⟨h2, ?_, ?_⟩
  · rw [nnfc_some h3, nnfc_some h]
    unfold Tb.nfcL
    rw [h4]
  · rw [ndec_some h3, ndec_some h, h4]
theorem at_two (A : List Int) (x y : Int) (B : List Int) : (A ++ x :: y :: B)[A.length]? = some x ∧ (A ++ x :: y :: B)[A.length + 1]? = some y := by
  constructor
  · rw [List.getElem?_append_right (Nat.le_refl _)]; simp
  · rw [List.getElem?_append_right (by omega)]; simp
theorem order_row {w3 w4 : World} {g' cap' q k g1 o1 : Nat} {A B : List Int} {x y : Int} (hq : (A ++ x :: y :: B).length = q + 1) (hA : A.length = k)
    (hown' : w4.ownsRow w3.heap.size 3 1 (.slice (some ⟨g', 0, none⟩) (0 + (q + 1)) cap') (0 + (q + 1)) ([] ++ (A ++ x :: y :: B).map encI))
    (hgrow : (w3.alloc (.cells #[] 3)).grownBy w4 (Value.slice (some ⟨w3.heap.size, 0, none⟩) 0 0).ownBlock) (hg1 : g1 < w3.heap.size) (hgb : w3.heap.size ≤ g')
    (hc1 : w3.cell? ⟨g1, o1 + k, none⟩ = some (.int .i64 x)) (hc2 : w3.cell? ⟨g1, o1 + (k + 1), none⟩ = some (.int .i64 y)) :
    Hid (OwnL w4 w3.heap.size (.slice (some ⟨g', 0, none⟩) (q + 1) cap') (A ++ x :: y :: B)) ∧ Hid (Below w3.heap.size w3 w4) ∧ w4.cell? ⟨g', k, none⟩ = some (.int .i64 x) ∧ w4.frozen? ⟨g', k, none⟩ = false ∧ w4.cell? ⟨g', k + 1, none⟩ = some (.int .i64 y) ∧ w4.frozen? ⟨g', k + 1, none⟩ = false ∧ w4.cell? ⟨g1, o1 + k, none⟩ = some (.int .i64 x) ∧ w4.cell? ⟨g1, o1 + (k + 1), none⟩ = some (.int .i64 y) ∧ ¬ g1 = g' ∧ ¬ g' = g1 := by
  subst hA
  have hO : OwnL w4 w3.heap.size (.slice (some ⟨g', 0, none⟩) (q + 1) cap') (A ++ x :: y :: B) := by
    unfold OwnL
    rw [hq]
    rw [Nat.zero_add, List.nil_append] at hown'
    exact hown'
  have hB4 : Below w3.heap.size w3 w4 := ((Below.refl _ w3).alloc (Nat.le_refl _) _).grown hgrow (by simp) (fun r e => by cases e; exact Nat.le_refl _)
  obtain ⟨s1, s2, s3, -⟩ := hO.spot
  obtain ⟨e1, e2⟩ := at_two A x y B
  exact ⟨Lib.hid hO, Lib.hid hB4, (s1 _ x e1).1, (s1 _ x e1).2, (s1 _ y e2).1, (s1 _ y e2).2, (hB4.cell (p := ⟨g1, o1 + A.length, none⟩) hg1).trans hc1, (hB4.cell (p := ⟨g1, o1 + (A.length + 1), none⟩) hg1).trans hc2, by omega, by omega⟩
theorem order_row2 {w w3 w4 : World} {g' cap' q k : Nat} {A B : List Int} {x y : Int} (hA : A.length = k) (hlen : (A ++ y :: x :: B).length = q + 1)
    (hO : OwnL w4 w3.heap.size (.slice (some ⟨g', 0, none⟩) (q + 1) cap') (A ++ x :: y :: B)) (hb : Below w.heap.size w w3) (hB : Below w3.heap.size w3 w4) (hg : w3.heap.size ≤ g') (h2 : Ut.AllSc (A ++ y :: x :: B)) (hq : q + 1 ≤ 600) :
    Below w.heap.size w ((w4.setCell ⟨g', k, none⟩ (.int .i64 y)).setCell ⟨g', k + 1, none⟩ (.int .i64 x)) ∧ Calls Try.prog 19 #[.slice (some ⟨g', 0, none⟩) (q + 1) cap'] ((w4.setCell ⟨g', k, none⟩ (.int .i64 y)).setCell ⟨g', k + 1, none⟩ (.int .i64 x)) (fun e w' => e = .returned (.tuple #[.string (Ut.mk (Ut.text (A ++ y :: x :: B))), .bool true]) ∧ Below ((w4.setCell ⟨g', k, none⟩ (.int .i64 y)).setCell ⟨g', k + 1, none⟩ (.int .i64 x)).heap.size ((w4.setCell ⟨g', k, none⟩ (.int .i64 y)).setCell ⟨g', k + 1, none⟩ (.int .i64 x)) w') := by
  subst hA
  have h5 := (hO.set A.length y).set (A.length + 1) x
  rw [swap_two] at h5
  have hr := h5.row
  constructor
  · have hws := hb.size
    exact ((hb.trans (hB.mono hws)).setCell (p := ⟨g', A.length, none⟩) (by show w.heap.size ≤ g'; omega) _).setCell (p := ⟨g', A.length + 1, none⟩) (by show w.heap.size ≤ g'; omega) _
  · have := rtext_any (some ⟨g', 0, none⟩) cap' (A ++ y :: x :: B) _ hr (by omega) h2
    rw [hlen] at this
    exact this
set_option maxHeartbeats 8000000 in
theorem nfcOrder_walk {w : World} (s : ByteArray) (hs : s.size ≤ maxLen) (at_ : Int) (hat : Is64 at_) : Calls Try.prog 7 #[.string s, .int .i64 at_] w (LawTrue w) := by
  have k9 := nwakes_any
  unfold LawTrue at k9 ⊢
  have hb0 : Below w.heap.size w w := Below.refl _ _
  by_cases hlen : 600 < s.size
  · have hl : (600 : Int) < (s.size : Int) := by omega
    go_enter Try.func7, Try.ntmps7
    go_wp2_with (go_at_call 9; refine (k9 _).mono ?_; rintro e w1 ⟨rfl, hb1⟩; replace hb0 := bl hb0 hb1; clear hb1)
    go_ret
    exact ⟨rfl, hb0⟩
  · have hl : ¬ (600 : Int) < (s.size : Int) := by omega
    have C := fun w => rscalars_any s (by omega) w
    unfold ScPost at C
    cases h : Ut.scal (Ut.bsL s) with
    | none =>
      rw [h] at C
      clear h
      go_enter Try.func7, Try.ntmps7
      go_wp2_with (first | (go_at_call 17; refine (C _).mono ?_; rintro e w2 ⟨rfl, hb2⟩; replace hb0 := bl hb0 hb2; clear hb2) | (go_at_call 9; refine (k9 _).mono ?_; rintro e w1 ⟨rfl, hb1⟩; replace hb0 := bl hb0 hb1; clear hb1))
      go_ret
      exact ⟨rfl, hb0⟩
    | some L =>
      rw [h] at C
      have hll := Ut.scal_len h
      rw [Ut.bsL_len] at hll
      by_cases hn2 : L.length < 2
      · obtain ⟨n, hn⟩ : ∃ n, L.length = n := ⟨_, rfl⟩
        have i2 : (n : Int) < 2 := by omega
        have HN := Lib.hid hn
        clear h hn hn2 hll
        go_enter Try.func7, Try.ntmps7
        go_wp2_with (first | (go_at_call 17; refine (C _).mono ?_; rintro e w2 ⟨⟨v1, rfl, ho1⟩, hb2⟩; obtain ⟨p1, cc1, rfl, hr1⟩ := nown_rowp ho1; rw [HN.out] at *; replace hb0 := bl hb0 hb2; clear hb2 hr1 ho1) | (go_at_call 9; refine (k9 _).mono ?_; rintro e w1 ⟨rfl, hb1⟩; replace hb0 := bl hb0 hb1; clear hb1))
        go_ret
        exact ⟨rfl, hb0⟩
      · obtain ⟨q, hq⟩ : ∃ q, L.length = q + 1 := ⟨L.length - 1, by omega⟩
        have q1 : 1 ≤ q := by omega
        have q6 : q + 1 ≤ 600 := by omega
        obtain ⟨k, m1, m2, m3, hk⟩ := mod_any at_ q q1 (by omega)
        obtain ⟨A, x, y, B, rfl, hA⟩ := split_at L k (by omega)
        have i2 : ¬ ((q : Int) + 1) < 2 := by omega
        have iq : ¬ (q : Int) = 0 := by omega
        have iqb : ((q : Int) == 0) = false := by simpa using iq
        have HQ := Lib.hid hq
        have HA := Lib.hid hA
        have cx := rclass_any x
        have cy := rclass_any y
        have HH := Lib.hid h
        have kk1 : (k : Int) < (q : Int) + 1 := by omega
        have kk2 : (k : Int) + 1 < (q : Int) + 1 := by omega
        have kw : IntKind.i64.wrap ((k : Int) + 1) = (k : Int) + 1 := by rw [IntKind.wrap_i64]; omega
        clear h hq hll hn2 hA
        have m4 : IntKind.i64.wrap (at_.tmod (q : Int) + (q : Int)) = at_.tmod (q : Int) + (q : Int) := by
          have := Int.tmod_lt_of_pos at_ (b := (q : Int)) (by omega)
          have a2 := Int.tmod_eq_emod (a := at_) (b := (q : Int))
          have a3 := Int.emod_nonneg at_ (b := (q : Int)) (by omega)
          rw [IntKind.wrap_i64]
          split at a2 <;> omega
        have m5 : at_.tmod (q : Int) + ((q : Int) + 1) - 1 = at_.tmod (q : Int) + (q : Int) := by omega
        go_enter Try.func7, Try.ntmps7
        go_wp2_with (first | (go_at_call 17; refine (C _).mono ?_; rintro e w2 ⟨⟨v1, rfl, ho1⟩, hb2⟩; obtain ⟨p1, cc1, rfl, hr1⟩ := nown_rowp ho1; replace hb0 := bl hb0 hb2; have HR := Lib.hid hr1; rw [HQ.out]; clear hb2 hr1 ho1))
        obtain ⟨g1, o1, hcl⟩ := row_cells HR.out
        have hlen2 : (A ++ x :: y :: B).length = q + 1 := HQ.out
        obtain ⟨hp, hc1⟩ := hcl k (by omega)
        obtain ⟨-, hc2⟩ := hcl (k + 1) (by omega)
        rw [List.getElem_append_right (by rw [HA.out]; omega)] at hc1 hc2
        have ex : (x :: y :: B)[k - A.length]'(by rw [HA.out]; simp) = x := by simp [HA.out]
        have ey : (x :: y :: B)[k + 1 - A.length]'(by rw [HA.out]; simp) = y := by simp [HA.out]
        rw [ex] at hc1
        rw [ey] at hc2
        subst hp
        clear hcl hlen2 ex ey C m1 m2 m3 m4 m5
        have qx : ∀ j, Calls Try.prog 18 #[.int .i64 x] (w2.drewN j) fun e w'' => e = .returned (.int .i64 (Tb.classI x)) ∧ ∃ m, w'' = w2.drewN m := fun j => Calls.quiet_of_same ((rclass_any x (w2.drewN j)).mono fun _ _ h => ⟨h.1, h.2.symm⟩)
        have qy : ∀ j, Calls Try.prog 18 #[.int .i64 y] (w2.drewN j) fun e w'' => e = .returned (.int .i64 (Tb.classI y)) ∧ ∃ m, w'' = w2.drewN m := fun j => Calls.quiet_of_same ((rclass_any y (w2.drewN j)).mono fun _ _ h => ⟨h.1, h.2.symm⟩)
        clear cx cy
        generalize hcx : Tb.classI x = a at *
        generalize hcy : Tb.classI y = b at *
        have HCX := Lib.hid hcx
        have HCY := Lib.hid hcy
        clear hcx hcy
        go_quiet ((first | (go_at_call 18; with_reducible exact qx _) | (go_at_call 18; with_reducible exact qy _)))
        replace hb0 : Below w.heap.size w (w2.drewN nq) := bdn hb0 nq
        replace hc1 : (w2.drewN nq).cell? ⟨g1, o1 + k, none⟩ = some (.int .i64 x) := hc1
        replace hc2 : (w2.drewN nq).cell? ⟨g1, o1 + (k + 1), none⟩ = some (.int .i64 y) := hc2
        have HR2 : Hid (RowP (w2.drewN nq) (some ⟨g1, o1, none⟩) cc1 (A ++ x :: y :: B)) := HR
        clear HR qx qy
        generalize w2.drewN nq = w3 at *
        by_cases ha0 : a = 0
        · subst ha0
          go_wp2_with (go_at_call 9; refine (k9 _).mono ?_; rintro e w1 ⟨rfl, hb1⟩; replace hb0 := bl hb0 hb1; clear hb1)
          go_ret
          exact ⟨rfl, hb0⟩
        · have ha1 : (a == 0) = false := by simpa using ha0
          by_cases hb00 : b = 0
          · subst hb00
            go_wp2_with (go_at_call 9; refine (k9 _).mono ?_; rintro e w1 ⟨rfl, hb1⟩; replace hb0 := bl hb0 hb1; clear hb1)
            go_ret
            exact ⟨rfl, hb0⟩
          · have hb11 : (b == 0) = false := by simpa using hb00
            by_cases hab : a = b
            · subst hab
              go_wp2_with (go_at_call 9; refine (k9 _).mono ?_; rintro e w1 ⟨rfl, hb1⟩; replace hb0 := bl hb0 hb1; clear hb1)
              go_ret
              exact ⟨rfl, hb0⟩
            · have hab1 : (a == b) = false := by simpa using hab
              obtain ⟨f1, f2, f3⟩ := order_facts HH.out (by rw [HCX.out]; exact ha0) (by rw [HCY.out]; exact hb00) (by rw [HCX.out, HCY.out]; exact hab)
              have g := good_600 (s := s) (by omega)
              have hlt : (A ++ y :: x :: B).length = q + 1 := (by simp : (A ++ y :: x :: B).length = (A ++ x :: y :: B).length).trans HQ.out
              have gt := good_mk (Tb.good_small f1 (by rw [hlt]; exact q6))
              have F1 := Lib.hid f1
              have HLT := Lib.hid hlt
              have c1 := fun w => nfc_any s g w
              have c2 := fun w => decomposed_any s g.1 w (good_dec g)
              have c3 := fun w => nfc_any _ gt w
              have c4 := fun w => decomposed_any _ gt.1 w (good_dec gt)
              rw [f2] at c3
              rw [f3] at c4
              generalize nnfcB s = n1 at *
              generalize ndecB s = d1 at *
              clear f1 f2 f3 g gt hlt
              obtain ⟨i0, hi, hz0, hz1, hz2⟩ := info_parts infoI
              have hR3 : RowP (w3.alloc (.cells #[] 3)) (some ⟨g1, o1, none⟩) cc1 (A ++ x :: y :: B) := rowp_below HR2.out ((Below.refl _ w3).alloc (Nat.le_refl _) _)
              obtain ⟨g9, o9, hp9, hI9⟩ := hR3.2.resolve_left (by simp)
              cases hp9
              obtain ⟨hnews, hone, hlen9⟩ := row_news hI9
              have hg1 : g1 < w3.heap.size := by
                obtain ⟨g8, o8, hp8, hI8⟩ := HR2.out.2.resolve_left (by simp)
                cases hp8
                exact hI8.1
              have how0 : (w3.alloc (.cells #[] 3)).ownsRow w3.heap.size 3 1 (.slice (some ⟨w3.heap.size, 0, none⟩) 0 0) 0 [] := ⟨by simp, Or.inr ⟨w3.heap.size, 0, #[], rfl, Nat.le_refl _, World.alloc_heap_new _ _, Nat.le_refl _, by unfold maxLen; omega, rfl, rfl⟩⟩
              have b1 : 0 + (q + 1) ≤ maxLen := by unfold maxLen; omega
              have b2 : (0 + (q + 1)) * 8 ≤ 140737488355328 := by omega
              have hlen8 : (((A ++ x :: y :: B).map encI).length) = (q + 1) * 1 := by rw [List.length_map, HQ.out, Nat.mul_one]
              have HNEWS := Lib.hid hnews
              have HONE := Lib.hid hone
              have HOW0 := Lib.hid how0
              have HLEN := Lib.hid hlen8
              clear hnews hone how0 hlen8 hlen9 hI9 hR3
              go_wp2_with (first | (at_builtin; refine wpList_append_own _ rfl _ _ 28 rfl w3.heap.size 3 i0 (.int .i64 0) 1 8 Try.underlying28 hi hz0 hz1 hz2 rfl (by decide) (.slice (some ⟨w3.heap.size, 0, none⟩) 0 0) 0 [] rfl HOW0.out ⟨g1, o1, none⟩ (q + 1) cc1 ((A ++ x :: y :: B).map encI) rfl HLEN.out HNEWS.out HONE.out b1 b2 (by simp) ?_; intro v' w4 hown' hgrow hnil; clear hnil; obtain ⟨g', cap', rfl, hgb', hcp', hsh⟩ := row_pos hown' (by omega); obtain ⟨HO, HB4, sx1, sx2, sy1, sy2, hd1, hd2, hne, hne2⟩ := order_row HQ.out HA.out hown' hgrow hg1 hgb' hc1 hc2; clear hown' hgrow hsh hc1 hc2) | (go_at_call 19; obtain ⟨hb5, c5⟩ := order_row2 HA.out HLT.out HO.out hb0 HB4.out hgb' F1.out q6; refine c5.mono ?_; rintro e w6 ⟨rfl, hb6⟩; replace hb0 := bl hb5 hb6; clear hb5 hb6 c5) | (go_at_call 10; (first | (with_reducible refine (c1 _).mono ?_) | (with_reducible refine (c3 _).mono ?_)); rintro e w2 ⟨rfl, hb2⟩; replace hb0 := bl hb0 hb2; clear hb2) | (go_at_call 11; (first | (with_reducible refine (c2 _).mono ?_) | (with_reducible refine (c4 _).mono ?_)); rintro e w2 ⟨rfl, hb2⟩; replace hb0 := bl hb0 hb2; clear hb2) | (go_at_call 9; refine (k9 _).mono ?_; rintro e w1 ⟨rfl, hb1⟩; replace hb0 := bl hb0 hb1; clear hb1))
              go_ret
              exact ⟨rfl, hb0⟩
end Go.Proofs.Ytmpoeeioeimmfaa
