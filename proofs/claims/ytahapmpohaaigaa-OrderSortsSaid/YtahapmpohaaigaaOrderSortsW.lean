/- The walk of the statement on sorting. -/
import Derived.Test.YtahapmpohaaigaaOsO
namespace Go.Proofs.Ytahapmpohaaigaa
open Go.RowKit
open Go
set_option linter.unusedVariables false
set_option maxHeartbeats 8000000 in
theorem orderSorts_walk {w : World} (p : Option Addr) (c : Nat) (L : List Int) (h : RowP w p c L) (_ : All64 L) : Calls Try.prog 3 #[.slice p L.length c] w (LawTrue w) := by
  have k9 := fun w => wakes_any w
  unfold LawTrue at k9 ⊢
  have H := Lib.hid h
  clear h
  obtain ⟨n, hn⟩ : ∃ n, L.length = n := ⟨_, rfl⟩
  rw [hn]
  have HN := Lib.hid hn
  clear hn
  by_cases hbig : 200 < n
  · have q0 : (200 : Int) < (n : Int) := by omega
    go_enter Try.func3, Try.ntmps3
    go_wp2_with fail
    refine (k9 _).mono ?_
    rintro e w1 ⟨rfl, hb⟩
    go_wp2_with fail
    go_ret
    exact ⟨rfl, hb⟩
  · have q0 : ¬ (200 : Int) < (n : Int) := by omega
    have c1 := sort_any p c L w (by have := HN.out; omega) H.out
    rw [HN.out] at c1
    obtain ⟨S, hS⟩ : ∃ S, Ordl.sortL Tb.classI L = S := ⟨_, rfl⟩
    have hSn : S.length = n := by rw [← hS, Ordl.sort_len]; exact HN.out
    have hSo : Ordl.ordB Tb.classI S = true := by rw [← hS]; exact Ordl.sort_ord L
    have hSi : Ordl.sortL Tb.classI S = S := by rw [← hS]; exact Ordl.sort_idem L
    have hLo : Ordl.ordB Tb.classI L = decide (S = L) := by
      rw [Bool.eq_iff_iff, decide_eq_true_iff, ← hS]
      exact Ordl.ord_iff L
    rw [hS] at c1
    have HS := Lib.hid hS
    have HSN := Lib.hid hSn
    have HSO := Lib.hid hSo
    have HSI := Lib.hid hSi
    have HLO := Lib.hid hLo
    clear hS hSn hSo hSi hLo
    go_enter Try.func3, Try.ntmps3
    go_wp2_with fail
    refine c1.mono ?_
    intro e w1 ho
    obtain ⟨ps, cs, rfl, hr1, hb1⟩ := out_open ho
    have hl1 := H.out.below hb1 (Nat.le_refl _)
    rw [HSN.out]
    have R1 := Lib.hid hr1
    have L1 := Lib.hid hl1
    have B1 := Lib.hid hb1
    clear c1 ho hr1 hb1 hl1
    have c2 := ordered_any ps cs S w1 (by have := HSN.out; omega) R1.out
    rw [HSN.out, HSO.out] at c2
    go_wp2_with fail
    refine c2.mono ?_
    rintro e w2 ⟨rfl, hb2⟩
    have R2 := Lib.hid (R1.out.below hb2 (Nat.le_refl _))
    have L2 := Lib.hid (L1.out.below hb2 (Nat.le_refl _))
    have B2 := Lib.hid (bn B1.out hb2)
    clear c2 hb2 R1 L1 B1
    have c3 := sort_any ps cs S w2 (by have := HSN.out; omega) R2.out
    rw [HSN.out, HSI.out] at c3
    go_wp2_with fail
    refine c3.mono ?_
    intro e w3 ho
    obtain ⟨pt, ct, rfl, hr3, hb3⟩ := out_open ho
    have R3 := Lib.hid (R2.out.below hb3 (Nat.le_refl _))
    have L3 := Lib.hid (L2.out.below hb3 (Nat.le_refl _))
    have B3 := Lib.hid (bn B2.out hb3)
    have c4 := rsame_any pt ps ct cs S S w3 (by have := HSN.out; omega) (by have := HSN.out; omega) hr3 R3.out
    rw [HSN.out] at c4 ⊢
    have e4 : decide (S = S) = true := by simp
    rw [e4] at c4
    clear c3 ho hr3 hb3 R2 L2 B2 e4
    go_wp2_with fail
    refine c4.mono ?_
    intro e w4 ho
    obtain ⟨rfl, hb4⟩ := eq_open ho
    have R4 := Lib.hid (R3.out.below hb4 (Nat.le_refl _))
    have L4 := Lib.hid (L3.out.below hb4 (Nat.le_refl _))
    have B4 := Lib.hid (bn B3.out hb4)
    clear c4 ho hb4 R3 L3 B3
    have c5 := ordered_any p c L w4 (by have := HN.out; omega) L4.out
    rw [HN.out, HLO.out] at c5
    go_wp2_with fail
    refine c5.mono ?_
    rintro e w5 ⟨rfl, hb5⟩
    have R5 := Lib.hid (R4.out.below hb5 (Nat.le_refl _))
    have L5 := Lib.hid (L4.out.below hb5 (Nat.le_refl _))
    have B5 := Lib.hid (bn B4.out hb5)
    clear c5 hb5 R4 L4 B4
    have c6 := rsame_any ps p cs c S L w5 (by have := HSN.out; omega) (by have := HN.out; omega) R5.out L5.out
    rw [HSN.out, HN.out] at c6
    generalize decide (S = L) = bsl at *
    go_wp2_with fail
    refine c6.mono ?_
    intro e w6 ho
    obtain ⟨rfl, hb6⟩ := eq_open ho
    have R6 := Lib.hid (R5.out.below hb6 (Nat.le_refl _))
    have L6 := Lib.hid (L5.out.below hb6 (Nat.le_refl _))
    have B6 := Lib.hid (bn B5.out hb6)
    clear c6 ho hb6 R5 L5 B5
    go_wp2_with fail
    go_loopw [4, 5, 40] (fun _ _ vi wr => ∃ i : Nat, vi = .int .i64 (i : Int) ∧ i ≤ n ∧ RowP wr ps cs S ∧ RowP wr p c L ∧ Below w.heap.size w wr) (fun _ _ vi _ => n - (intOf vi).toNat)
    case atStart => exact ⟨0, rfl, Nat.zero_le _, R6.out, L6.out, B6.out⟩
    case round =>
      clear R6 L6 B6
      obtain ⟨i, rfl, hi, hR, hL, hB⟩ := hrel
      have HR := Lib.hid hR
      have HL := Lib.hid hL
      have HB := Lib.hid hB
      clear hR hL hB
      by_cases hlt : i < n
      · have hl1 : i < L.length := by have := HN.out; omega
        have hl2 : i < S.length := by have := HSN.out; omega
        obtain ⟨g1, o1, hp1, I1⟩ := HL.out.2.resolve_left (fun e => by rw [e] at hl1; exact absurd hl1 (Nat.not_lt_zero _))
        obtain ⟨g2, o2, hp2, I2⟩ := HR.out.2.resolve_left (fun e => by rw [e] at hl2; exact absurd hl2 (Nat.not_lt_zero _))
        obtain ⟨x, hx⟩ : ∃ x, L[i]? = some x := ⟨_, List.getElem?_eq_getElem hl1⟩
        obtain ⟨y, hy⟩ : ∃ y, S[i]? = some y := ⟨_, List.getElem?_eq_getElem hl2⟩
        have k1 := I1.2 i x hx
        have k2 := I2.2 i y hy
        have q1 : (i : Int) < (n : Int) := by omega
        have hat := Ordl.sort_at (cls := Tb.classI) hx (by rw [HS.out]; exact hy)
        have hcnt : S.count x = L.count x := by rw [← HS.out]; exact (Ordl.sort_perm L).count_eq x
        have cS : ∀ k, Calls Try.prog 12 #[.slice ps n cs, .int .i64 x] (wr.drewN k) fun e w'' => e = .returned (.int .i64 ((L.count x : Nat) : Int)) ∧ ∃ m, w'' = wr.drewN m := fun k => by
          have h := count_any ps cs S x (wr.drewN k) (by have := HSN.out; omega) HR.out
          rw [HSN.out, hcnt] at h
          exact Calls.quiet_of_same (h.mono fun _ _ h => ⟨h.1, h.2.symm⟩)
        have cL : ∀ k, Calls Try.prog 12 #[.slice p n c, .int .i64 x] (wr.drewN k) fun e w'' => e = .returned (.int .i64 ((L.count x : Nat) : Int)) ∧ ∃ m, w'' = wr.drewN m := fun k => by
          have h := count_any p c L x (wr.drewN k) (by have := HN.out; omega) HL.out
          rw [HN.out] at h
          exact Calls.quiet_of_same (h.mono fun _ _ h => ⟨h.1, h.2.symm⟩)
        have cx : ∀ k, Calls Try.prog 13 #[.int .i64 x] (wr.drewN k) fun e w'' => e = .returned (.int .i64 (Tb.classI x)) ∧ ∃ m, w'' = wr.drewN m := fun k => Calls.quiet_of_same ((rclass_any x (wr.drewN k)).mono fun _ _ h => ⟨h.1, h.2.symm⟩)
        have cy : ∀ k, Calls Try.prog 13 #[.int .i64 y] (wr.drewN k) fun e w'' => e = .returned (.int .i64 (Tb.classI y)) ∧ ∃ m, w'' = wr.drewN m := fun k => Calls.quiet_of_same ((rclass_any y (wr.drewN k)).mono fun _ _ h => ⟨h.1, h.2.symm⟩)
        have HP1 := Lib.hid hp1
        have HP2 := Lib.hid hp2
        by_cases hx0 : Tb.classI x = 0
        · have hy0 : Tb.classI y = 0 := hat.1.1 hx0
          have hyx : y = x := hat.2 hx0
          subst hyx
          rw [hx0] at cx
          generalize ((L.count y : Nat) : Int) = K at *
          clear hat hcnt hx hy hl1 hl2 I1 I2 hp1 hp2 hx0 hy0 cy
          rw [HP1.out] at cL
          rw [HP2.out] at cS
          rw [HP1.out, HP2.out]
          go_wp2_with fail
          go_quiet ((first | (go_at_call 12; with_reducible exact cS _) | (go_at_call 12; with_reducible exact cL _) | (go_at_call 13; with_reducible exact cx _)))
          go_wp2_with fail
          go_roundw
          case rel => exact ⟨i + 1, by go_num, by omega, by have := HR.out; rw [HP2.out] at this; exact this, by have := HL.out; rw [HP1.out] at this; exact this, below_drewN HB.out _⟩
          case measure => simp [intOf]; omega
        · have hy0 : ¬ Tb.classI y = 0 := fun e => hx0 (hat.1.2 e)
          have e1 : (Tb.classI x == 0) = false := by simpa using hx0
          have e2 : (Tb.classI y == 0) = false := by simpa using hy0
          generalize ((L.count x : Nat) : Int) = K at *
          generalize Tb.classI x = kx at *
          generalize Tb.classI y = ky at *
          clear hat hcnt hx hy hl1 hl2 I1 I2 hp1 hp2
          rw [HP1.out] at cL
          rw [HP2.out] at cS
          rw [HP1.out, HP2.out]
          go_wp2_with fail
          go_quiet ((first | (go_at_call 12; with_reducible exact cS _) | (go_at_call 12; with_reducible exact cL _) | (go_at_call 13; with_reducible exact cx _) | (go_at_call 13; with_reducible exact cy _)))
          go_wp2_with fail
          go_roundw
          case rel => exact ⟨i + 1, by go_num, by omega, by have := HR.out; rw [HP2.out] at this; exact this, by have := HL.out; rw [HP1.out] at this; exact this, below_drewN HB.out _⟩
          case measure => simp [intOf]; omega
      · obtain rfl : i = n := by omega
        have q1 : ¬ (i : Int) < (i : Int) := by omega
        go_wp2_with fail
        go_loopw [6] (fun vk wx => ∃ k : Nat, vk = .int .i64 (k : Int) ∧ k ≤ 256 ∧ RowP wx ps cs S ∧ RowP wx p c L ∧ Below w.heap.size w wx) (fun vk _ => 256 - (intOf vk).toNat)
        case atStart => exact ⟨1, rfl, by omega, HR.out, HL.out, HB.out⟩
        case round =>
          clear HR HL HB
          obtain ⟨k, rfl, hk, hR, hL, hB⟩ := hrel
          have HR := Lib.hid hR
          have HL := Lib.hid hL
          have HB := Lib.hid hB
          clear hR hL hB
          by_cases hk2 : k < 256
          · have q2 : (k : Int) < 256 := by omega
            have d1 := of_any p c L (k : Int) wr (by have := HN.out; omega) HL.out
            rw [HN.out] at d1
            go_wp2_with fail
            refine d1.mono ?_
            intro e w7 ho
            obtain ⟨pa, ca, rfl, hra, hba⟩ := out_open ho
            have R7 := Lib.hid (HR.out.below hba (Nat.le_refl _))
            have L7 := Lib.hid (HL.out.below hba (Nat.le_refl _))
            have A7 := Lib.hid hra
            have B7 := Lib.hid (HB.out.trans (hba.mono HB.out.size))
            clear d1 ho hra hba HR HL HB
            have d2 := of_any ps cs S (k : Int) w7 (by have := HSN.out; omega) R7.out
            rw [HSN.out] at d2
            have hcl : clsL (k : Int) S = clsL (k : Int) L := by
              unfold clsL
              rw [← HS.out]
              exact Ordl.sort_filter (cls := Tb.classI) (k : Int) L
            rw [hcl] at d2
            have hlc : (clsL (k : Int) L).length ≤ 10000000 := by
              refine Nat.le_trans (List.length_filter_le _ _) ?_
              have := HN.out
              omega
            clear hcl
            generalize clsL (k : Int) L = M at *
            go_wp2_with fail
            refine d2.mono ?_
            intro e w8 ho
            obtain ⟨pb, cb, rfl, hrb, hbb⟩ := out_open ho
            have R8 := Lib.hid (R7.out.below hbb (Nat.le_refl _))
            have L8 := Lib.hid (L7.out.below hbb (Nat.le_refl _))
            have hra := A7.out.below hbb (Nat.le_refl _)
            have B8 := Lib.hid (B7.out.trans (hbb.mono B7.out.size))
            have d3 := rsame_any pa pb ca cb M M w8 hlc hlc hra hrb
            have e4 : decide (M = M) = true := by simp
            rw [e4] at d3
            clear d2 ho hrb hbb hra R7 L7 B7 A7 e4
            go_wp2_with fail
            refine d3.mono ?_
            intro e w9 ho
            obtain ⟨rfl, hb9⟩ := eq_open ho
            have R9 := Lib.hid (R8.out.below hb9 (Nat.le_refl _))
            have L9 := Lib.hid (L8.out.below hb9 (Nat.le_refl _))
            have B9 := Lib.hid (B8.out.trans (hb9.mono B8.out.size))
            clear d3 ho hb9 R8 L8 B8
            go_wp2_with fail
            go_roundw
            case rel => exact ⟨k + 1, by go_num, by omega, R9.out, L9.out, B9.out⟩
            case measure => simp [intOf]; omega
          · have q2 : ¬ (k : Int) < 256 := by omega
            go_wp2_with fail
            refine (k9 _).mono ?_
            rintro e w9 ⟨rfl, hb9⟩
            go_wp2_with fail
            go_ret
            exact ⟨rfl, HB.out.trans (hb9.mono HB.out.size)⟩
end Go.Proofs.Ytahapmpohaaigaa
