/- The walk of the statement that tells any scalars. -/
import Derived.Test.YtahapmpohaaigaaOtB
namespace Go.Proofs.Ytahapmpohaaigaa
open Go.RowKit Go.Shelf
open Go
set_option linter.unusedVariables false
set_option maxRecDepth 100000
theorem eqT0 (L : List Int) : decide (L = L) = true := by simp
/-- The runs of both, run by run. -/
def RunsAt (W : World) (gx gy : Nat) (g o : Nat) (L : List Int) (N : Nat) : Prop := ∀ i, i < N → ∃ p c, W.cell? ⟨gx, i, none⟩ = some (.slice (some ⟨g, o + posR L i, none⟩) (runR L i).length (runR L i).length) ∧ W.cell? ⟨gy, i, none⟩ = some (.slice p (runR L i).length c) ∧ RowP W (some ⟨g, o + posR L i, none⟩) (runR L i).length (runR L i) ∧ RowP W p c (runR L i) ∧ (runR L i).length ≤ L.length ∧ gx < W.heap.size ∧ gy < W.heap.size
theorem RunsAt.drewN {W : World} {gx gy g o : Nat} {L : List Int} {N : Nat} (h : RunsAt W gx gy g o L N) (n : Nat) : RunsAt (W.drewN n) gx gy g o L N := h
theorem RunsAt.below {W W' : World} {gx gy g o n : Nat} {L : List Int} {N : Nat} (h : RunsAt W gx gy g o L N) (hb : Below n W W') (hn : W.heap.size ≤ n) : RunsAt W' gx gy g o L N := fun i hi => by
  obtain ⟨p, c, h1, h2, h3, h4, h5, h6, h7⟩ := h i hi
  exact ⟨p, c, (hb.cell (p := ⟨gx, i, none⟩) (Nat.lt_of_lt_of_le h6 hn)).trans h1, (hb.cell (p := ⟨gy, i, none⟩) (Nat.lt_of_lt_of_le h7 hn)).trans h2, h3.below hb hn, h4.below hb hn, h5, Nat.lt_of_lt_of_le h6 hb.size, Nat.lt_of_lt_of_le h7 hb.size⟩
theorem runs_at {w w1 w2 : World} {g o : Nat} {L : List Int} {gx gy cx cy : Nat} {vs : List Value} (hI : Ints w g o L) (hb1 : Below w.heap.size w w1) (hx : w1.ownsRow w.heap.size 22 1 (.slice (some ⟨gx, 0, none⟩) (rnL L).length cx) (rnL L).length (runVals g o L (rnL L).length)) (hb2 : Below w1.heap.size w1 w2)
    (hy : w2.ownsRow w1.heap.size 22 1 (.slice (some ⟨gy, 0, none⟩) (rnL L).length cy) (rnL L).length vs) (hr : RowsR w2 w1.heap.size vs (rnL L)) : RunsAt w2 gx gy g o L (rnL L).length := fun i hi => by
  have hv : (runVals g o L (rnL L).length)[i]? = some (encRun g o L i) := by
    unfold runVals
    rw [List.getElem?_map, List.getElem?_range hi]
    rfl
  have h1 := row_cell hx i _ hv
  have hgx := World.block_lt_of_cell? _ _ h1
  obtain ⟨u, hu⟩ : ∃ u, vs[i]? = some u := ⟨_, List.getElem?_eq_getElem (by rw [hr.1]; exact hi)⟩
  have h2 := row_cell hy i u hu
  have hgy := World.block_lt_of_cell? _ _ h2
  have hrk := (run_is L i hi).2
  obtain ⟨p, c, rfl, hrp⟩ := (hr.2.1 i u _ hu hrk).rowp
  have hI2 : Ints w2 g o L := (hI.kept (hb1.block g hI.1)).kept (hb2.block g (Nat.lt_of_lt_of_le hI.1 hb1.size))
  have hIr := run_row hI2 hi
  obtain ⟨_, _, _, _, _, hle⟩ := rn_at hi
  exact ⟨p, c, (hb2.cell (p := ⟨gx, i, none⟩) hgx).trans h1, h2, ⟨Nat.le_refl _, Or.inr ⟨g, _, rfl, hIr⟩⟩, hrp, by omega, Nat.lt_of_lt_of_le hgx hb2.size, hgy⟩
set_option maxHeartbeats 8000000 in
theorem orderTells_walk {w : World} (p : Option Addr) (c : Nat) (L : List Int) (h : RowP w p c L) (h64 : All64 L) (q : Option Addr) (d : Nat) (M : List Int) (h2 : RowP w q d M) (_ : All64 M) (r : Int) (hr : Is64 r) : Calls Try.prog 6 #[.slice p L.length c, .slice q M.length d, .int .i64 r] w (LawTrue w) := by
  have k9 := fun w => wakes_any w
  unfold LawTrue at k9 ⊢
  have HL := Lib.hid h
  have HM := Lib.hid h2
  have hc := h.1
  clear h h2
  have HC := Lib.hid hc
  clear hc
  obtain ⟨n, hn⟩ : ∃ n, L.length = n := ⟨_, rfl⟩
  obtain ⟨m, hm⟩ : ∃ m, M.length = m := ⟨_, rfl⟩
  rw [hn, hm]
  have HN := Lib.hid hn
  have HMN := Lib.hid hm
  clear hn hm
  by_cases hbig : 200 < n
  · have q0 : (200 : Int) < (n : Int) := by omega
    go_enter Try.func6, Try.ntmps6
    go_wp2_with fail
    refine (k9 _).mono ?_
    rintro e w1 ⟨rfl, hb⟩
    go_wp2_with fail
    go_ret
    exact ⟨rfl, hb⟩
  have q0 : ¬ (200 : Int) < (n : Int) := by omega
  by_cases hbig2 : 200 < m
  · have q1 : (200 : Int) < (m : Int) := by omega
    go_enter Try.func6, Try.ntmps6
    go_wp2_with fail
    refine (k9 _).mono ?_
    rintro e w1 ⟨rfl, hb⟩
    go_wp2_with fail
    go_ret
    exact ⟨rfl, hb⟩
  have q1 : ¬ (200 : Int) < (m : Int) := by omega
  have hgo : ∃ g o, L = [] ∨ (p = some ⟨g, o, none⟩ ∧ Ints w g o L) := by
    rcases HL.out.2 with h | ⟨g, o, h1, h2⟩
    · exact ⟨0, 0, Or.inl h⟩
    · exact ⟨g, o, Or.inr ⟨h1, h2⟩⟩
  obtain ⟨g, o, hgo⟩ := hgo
  have c1 := pruns_any p g o c L w (by have := HN.out; omega) HC.out hgo
  rw [HN.out] at c1
  obtain ⟨N, hNN⟩ : ∃ N, (rnL L).length = N := ⟨_, rfl⟩
  unfold RnsPost at c1
  rw [hNN] at c1
  have hNle : N ≤ n := by rw [← hNN, ← HN.out]; exact rn_le L
  have HG := Lib.hid hgo
  have HNN := Lib.hid hNN
  clear hgo hNN
  go_enter Try.func6, Try.ntmps6
  go_wp2_with fail
  refine c1.mono ?_
  rintro e w1 ⟨v, rfl, hrow, hb1⟩
  obtain ⟨⟨px, cx, rfl⟩, _⟩ := row_shape hrow
  have HROW := Lib.hid hrow
  have B1 := Lib.hid hb1
  have L1 := Lib.hid (HL.out.below hb1 (Nat.le_refl _))
  have c2 := rruns_any p c L w1 (by have := HN.out; omega) L1.out
  rw [HN.out] at c2
  unfold RrPost at c2
  rw [HNN.out] at c2
  clear c1 hrow hb1
  go_wp2_with fail
  refine c2.mono ?_
  rintro e w2 ⟨v, vs, rfl, hrow, hrr, hb2⟩
  obtain ⟨⟨py, cy, rfl⟩, _⟩ := row_shape hrow
  have hat : 0 < N → ∃ gx gy, px = some ⟨gx, 0, none⟩ ∧ py = some ⟨gy, 0, none⟩ ∧ RunsAt w2 gx gy g o L N := fun h0 => by
    obtain ⟨hpp, hI⟩ := HG.out.resolve_left (fun e => by
      have := HNN.out
      rw [e] at this
      have h2 : (rnL ([] : List Int)).length = 0 := rfl
      omega)
    obtain ⟨gx, cx', ex, -, hcx, -⟩ := row_pos HROW.out h0
    obtain ⟨gy, cy', ey, -, hcy, -⟩ := row_pos hrow h0
    injection ex with ex _ _
    injection ey with ey _ _
    subst ex ey
    have hN := HNN.out
    subst hN
    exact ⟨gx, gy, rfl, rfl, runs_at hI B1.out HROW.out hb2 hrow hrr⟩
  have HAT := Lib.hid hat
  have B2 := Lib.hid (bn B1.out hb2)
  have L2 := Lib.hid (L1.out.below hb2 (Nat.le_refl _))
  clear c2 hrow hrr hb2 hat HROW B1 L1
  go_wp2_with fail
  go_loopw [9, 30] (fun _ vi wr => ∃ i : Nat, vi = .int .i64 (i : Int) ∧ i ≤ N ∧ Below w2.heap.size w2 wr) (fun _ vi _ => N - (intOf vi).toNat)
  case atStart => exact ⟨0, rfl, Nat.zero_le _, Below.refl _ _⟩
  case round =>
    obtain ⟨i, rfl, hi, hb⟩ := hrel
    have HB := Lib.hid hb
    clear hb
    by_cases hlt : i < N
    · have q2 : (i : Int) < (N : Int) := by omega
      obtain ⟨gx, gy, rfl, rfl, hra⟩ := HAT.out (by omega)
      obtain ⟨pr, cr, k1, k2, hr1, hr2, hle, -, -⟩ := (hra.below HB.out (Nat.le_refl _)) i hlt
      have l1 := HN.out
      have cS : ∀ j, Calls Try.prog 11 #[.slice (some ⟨g, o + posR L i, none⟩) (runR L i).length (runR L i).length, .slice pr (runR L i).length cr] (wr.drewN j) fun e w'' => e = .returned (.bool true) ∧ ∃ m, w'' = wr.drewN m := fun j => by
        have h1 := rsame_any (some ⟨g, o + posR L i, none⟩) pr (runR L i).length cr (runR L i) (runR L i) (wr.drewN j) (by omega) (by omega) (hr1.drewN j) (hr2.drewN j)
        rw [eqT0] at h1
        exact Calls.quiet_of h1
      generalize (runR L i).length = z at *
      generalize o + posR L i = o' at *
      have l3 : z ≤ 200 := by omega
      clear hra hr1 hr2 hle l1
      go_wp2_with fail
      go_quiet ((go_at_call 11; with_reducible exact cS _))
      go_wp2_with fail
      go_roundw
      case rel => exact ⟨i + 1, by go_num, by omega, below_drewN HB.out _⟩
      case measure => simp [intOf]; omega
    · obtain rfl : i = N := by omega
      have q2 : ¬ (i : Int) < (i : Int) := by omega
      have B := Lib.hid (bn B2.out HB.out)
      have HLw := Lib.hid (L2.out.below HB.out (Nat.le_refl _))
      have HMw := Lib.hid (HM.out.below B.out (Nat.le_refl _))
      clear HAT B2 L2 HB HM HL HG HNN
      have c1 := pparts_any r wr hr
      try rw [HN.out] at c1
      generalize hX : Tb.parts r = X at c1
      have lX : X.length ≤ 100000 := by rw [← hX]; have := Tb.parts_le r; omega
      have HX := Lib.hid hX
      clear hX
      go_wp2_with fail
      refine c1.mono ?_
      intro e wa1 ho
      obtain ⟨pa, ca, rfl, hra, hba⟩ := out_open ho
      have B' := Lib.hid (bn B.out hba)
      have HLw' := Lib.hid (HLw.out.below hba (Nat.le_refl _))
      have HMw' := Lib.hid (HMw.out.below hba (Nat.le_refl _))
      have RA := Lib.hid hra
      have c2 := rparts_any r wa1
      try rw [HN.out] at c2
      rw [HX.out] at c2
      clear ho hra hba c1 B HLw HMw HX
      go_wp2_with fail
      refine c2.mono ?_
      intro e wa2 ho
      obtain ⟨pb, cb, rfl, hrb, hbb⟩ := out_open ho
      have B := Lib.hid (bn B'.out hbb)
      have HLw := Lib.hid (HLw'.out.below hbb (Nat.le_refl _))
      have HMw := Lib.hid (HMw'.out.below hbb (Nat.le_refl _))
      have c3 := rsame_any pa pb ca cb X X wa2 (by omega) (by omega) (RA.out.below hbb (Nat.le_refl _)) hrb
      rw [eqT0] at c3
      clear ho hrb hbb c2 B' HLw' HMw' RA
      generalize X.length = lx at *
      go_wp2_with fail
      refine c3.mono ?_
      intro e wa3 ho
      obtain ⟨rfl, hbc⟩ := eq_open ho
      have B' := Lib.hid (bn B.out hbc)
      have HLw' := Lib.hid (HLw.out.below hbc (Nat.le_refl _))
      have HMw' := Lib.hid (HMw.out.below hbc (Nat.le_refl _))
      clear ho hbc c3 B HLw HMw lX
      have B := B'
      have HLw := HLw'
      have HMw := HMw'
      clear B' HLw' HMw'
      have c1 := pdec_any p c L wa3 (by have := HN.out; omega) HLw.out h64
      try rw [HN.out] at c1
      generalize hX : Tb.dec L = X at c1
      have lX : X.length ≤ 100000 := by rw [← hX]; have := dec_take_le L L.length; rw [List.take_length] at this; have := HN.out; omega
      have HX := Lib.hid hX
      clear hX
      go_wp2_with fail
      refine c1.mono ?_
      intro e wb1 ho
      obtain ⟨pa, ca, rfl, hra, hba⟩ := out_open ho
      have B' := Lib.hid (bn B.out hba)
      have HLw' := Lib.hid (HLw.out.below hba (Nat.le_refl _))
      have HMw' := Lib.hid (HMw.out.below hba (Nat.le_refl _))
      have RA := Lib.hid hra
      have c2 := rdec_any p c L wb1 (by have := HN.out; omega) HLw'.out
      try rw [HN.out] at c2
      rw [HX.out] at c2
      clear ho hra hba c1 B HLw HMw HX
      go_wp2_with fail
      refine c2.mono ?_
      intro e wb2 ho
      obtain ⟨pb, cb, rfl, hrb, hbb⟩ := out_open ho
      have B := Lib.hid (bn B'.out hbb)
      have HLw := Lib.hid (HLw'.out.below hbb (Nat.le_refl _))
      have HMw := Lib.hid (HMw'.out.below hbb (Nat.le_refl _))
      have c3 := rsame_any pa pb ca cb X X wb2 (by omega) (by omega) (RA.out.below hbb (Nat.le_refl _)) hrb
      rw [eqT0] at c3
      clear ho hrb hbb c2 B' HLw' HMw' RA
      generalize X.length = lx at *
      go_wp2_with fail
      refine c3.mono ?_
      intro e wb3 ho
      obtain ⟨rfl, hbc⟩ := eq_open ho
      have B' := Lib.hid (bn B.out hbc)
      have HLw' := Lib.hid (HLw.out.below hbc (Nat.le_refl _))
      have HMw' := Lib.hid (HMw.out.below hbc (Nat.le_refl _))
      clear ho hbc c3 B HLw HMw lX
      have B := B'
      have HLw := HLw'
      have HMw := HMw'
      clear B' HLw' HMw'
      have c1 := sort_any p c L wb3 (by have := HN.out; omega) HLw.out
      try rw [HN.out] at c1
      generalize hX : Ordl.sortL Tb.classI L = X at c1
      have lX : X.length ≤ 100000 := by rw [← hX]; rw [Ordl.sort_len]; have := HN.out; omega
      have HX := Lib.hid hX
      clear hX
      go_wp2_with fail
      refine c1.mono ?_
      intro e wc1 ho
      obtain ⟨pa, ca, rfl, hra, hba⟩ := out_open ho
      have B' := Lib.hid (bn B.out hba)
      have HLw' := Lib.hid (HLw.out.below hba (Nat.le_refl _))
      have HMw' := Lib.hid (HMw.out.below hba (Nat.le_refl _))
      have RA := Lib.hid hra
      have c2 := rsort_any p c L wc1 (by have := HN.out; omega) HLw'.out
      try rw [HN.out] at c2
      rw [HX.out] at c2
      clear ho hra hba c1 B HLw HMw HX
      go_wp2_with fail
      refine c2.mono ?_
      intro e wc2 ho
      obtain ⟨pb, cb, rfl, hrb, hbb⟩ := out_open ho
      have B := Lib.hid (bn B'.out hbb)
      have HLw := Lib.hid (HLw'.out.below hbb (Nat.le_refl _))
      have HMw := Lib.hid (HMw'.out.below hbb (Nat.le_refl _))
      have c3 := rsame_any pa pb ca cb X X wc2 (by omega) (by omega) (RA.out.below hbb (Nat.le_refl _)) hrb
      rw [eqT0] at c3
      clear ho hrb hbb c2 B' HLw' HMw' RA
      generalize X.length = lx at *
      go_wp2_with fail
      refine c3.mono ?_
      intro e wc3 ho
      obtain ⟨rfl, hbc⟩ := eq_open ho
      have B' := Lib.hid (bn B.out hbc)
      have HLw' := Lib.hid (HLw.out.below hbc (Nat.le_refl _))
      have HMw' := Lib.hid (HMw.out.below hbc (Nat.le_refl _))
      clear ho hbc c3 B HLw HMw lX
      have B := B'
      have HLw := HLw'
      have HMw := HMw'
      clear B' HLw' HMw'
      have c1 := ordered_any p c L wc3 (by have := HN.out; omega) HLw.out
      rw [HN.out] at c1
      generalize hX : Ordl.ordB Tb.classI L = X at c1
      have HX := Lib.hid hX
      clear hX
      go_wp2_with fail
      refine c1.mono ?_
      rintro e wd1 ⟨rfl, hba⟩
      have B' := Lib.hid (bn B.out hba)
      have HLw' := Lib.hid (HLw.out.below hba (Nat.le_refl _))
      have HMw' := Lib.hid (HMw.out.below hba (Nat.le_refl _))
      have c2 := rordered_any p c L wd1 (by have := HN.out; omega) HLw'.out
      rw [HN.out, HX.out] at c2
      clear hba c1 B HLw HMw HX
      go_wp2_with fail
      refine c2.mono ?_
      rintro e wd2 ⟨rfl, rfl⟩
      have c3 := psame_any p q c d L M wd1 (by have := HN.out; omega) (by have := HMN.out; omega) HLw'.out HMw'.out
      rw [HN.out, HMN.out] at c3
      generalize hY : decide (L = M) = Y at c3
      have HY := Lib.hid hY
      clear c2 hY
      go_wp2_with fail
      refine c3.mono ?_
      intro e wd3 ho
      obtain ⟨rfl, hbc⟩ := eq_open ho
      have B := Lib.hid (bn B'.out hbc)
      have c4 := rsame_any p q c d L M wd3 (by have := HN.out; omega) (by have := HMN.out; omega) (HLw'.out.below hbc (Nat.le_refl _)) (HMw'.out.below hbc (Nat.le_refl _))
      rw [HN.out, HMN.out, HY.out] at c4
      clear ho hbc c3 B' HLw' HMw' HY
      go_wp2_with fail
      refine c4.mono ?_
      intro e wd4 ho
      obtain ⟨rfl, hbd⟩ := eq_open ho
      have B' := Lib.hid (bn B.out hbd)
      clear ho hbd c4 B
      go_wp2_with fail
      refine (k9 _).mono ?_
      rintro e w9 ⟨rfl, hb9⟩
      go_wp2_with fail
      go_ret
      exact ⟨rfl, bn B'.out hb9⟩
end Go.Proofs.Ytahapmpohaaigaa
