/- The walk of symMerge, by classes. -/
import Derived.Test.YtahapmpohaaigaaOsC
namespace Go.Proofs.Ytahapmpohaaigaa
open Go.RowKit
open Go
open Stb0
set_option linter.unusedVariables false
set_option maxRecDepth 100000 in
set_option maxHeartbeats 4000000 in
/-- One on the left. -/
theorem sym_left (fr : Array Value) (g o z c a b : Nat) (d : Nat → Int) (W : World) (h : SR fr W g o z d) (h1 : a + 1 < b) (hb : b ≤ z) (hz : z ≤ 100000) (hs : Srt Tb.classI d (a + 1) b) :
    Calls Try.prog 43 #[.slice (some ⟨g, o, none⟩) z c, .int .i64 (a : Int), .int .i64 ((a + 1 : Nat) : Int), .int .i64 (b : Int), FV] W (SortPost fr g o z W d a b) := by
  have H := Lib.hid h
  have HS := Lib.hid hs
  clear h hs
  unfold FV
  have e1 : ((a + 1 : Nat) : Int) - (a : Int) = 1 := by omega
  obtain ⟨m, hm⟩ : ∃ m, a + 1 = m := ⟨_, rfl⟩
  rw [hm] at e1 ⊢
  have HM := Lib.hid hm
  clear hm
  go_enter Try.func43, Try.ntmps43
  go_wp2_with fail
  go_loopw [10, 11] (fun vi vj wr => ∃ (i j : Nat), vi = .int .i64 (i : Int) ∧ vj = .int .i64 (j : Int) ∧ m ≤ i ∧ i ≤ j ∧ j ≤ b ∧ (i = m ∨ Tb.classI (d (i - 1)) < Tb.classI (d a)) ∧ (j = b ∨ Tb.classI (d a) ≤ Tb.classI (d j)) ∧ SR fr wr g o z d ∧ W.grownBy wr (some g)) (fun vi vj _ => (intOf vj).toNat - (intOf vi).toNat)
  case atStart => exact ⟨m, b, rfl, rfl, by omega, by have := HM.out; omega, by omega, Or.inl rfl, Or.inl rfl, H.out, gb_refl _ _⟩
  case round =>
    obtain ⟨i, j, rfl, rfl, hi, hij, hj, hI, hJ, hR0, hG0⟩ := hrel
    have HR0 := Lib.hid hR0
    have HG0 := Lib.hid hG0
    clear hR0 hG0
    have HI := Lib.hid hI
    have HJ := Lib.hid hJ
    clear hI hJ
    by_cases hlt : i < j
    · have q1 : (i : Int) < (j : Int) := by omega
      obtain ⟨t, ht⟩ : ∃ t, t = (i + j) / 2 := ⟨_, rfl⟩
      have t1 : i ≤ t := by omega
      have t2 : t < j := by omega
      have q2 : ((i : Int) + (j : Int)) / 2 = (t : Int) := by omega
      have HT := Lib.hid ht
      clear ht
      have k1 := HR0.out.1 t (by omega)
      have k2 := HR0.out.1 a (by omega)
      have i1 : (t : Int) < (z : Int) := by omega
      have i2 : (a : Int) < (z : Int) := by omega
      have hby := bycl_quiet (d t) (d a)
      by_cases hcl : Tb.classI (d t) < Tb.classI (d a)
      · have hc0 : Tb.classI (d t) - Tb.classI (d a) < 0 := by omega
        have HC := Lib.hid hcl
        generalize Tb.classI (d t) - Tb.classI (d a) = cc at *
        generalize hA : d t = A at *
        generalize hB : d a = B at *
        have HA := Lib.hid hA
        have HB := Lib.hid hB
        clear hcl hA hB
        go_wp2_with fail
        go_quiet ((go_at_call 27; with_reducible exact hby _ _))
        go_wp2_with fail
        go_roundw
        case rel => exact ⟨t + 1, j, by go_num, rfl, by omega, by omega, hj, Or.inr (by rw [Nat.add_sub_cancel, HA.out]; exact HC.out), HJ.out, HR0.out, ogb_drewN HG0.out _⟩
        case measure => simp [intOf]; omega
      · have hc0 : ¬ Tb.classI (d t) - Tb.classI (d a) < 0 := by omega
        have HC := Lib.hid hcl
        generalize Tb.classI (d t) - Tb.classI (d a) = cc at *
        generalize hA : d t = A at *
        generalize hB : d a = B at *
        have HA := Lib.hid hA
        have HB := Lib.hid hB
        clear hcl hA hB
        go_wp2_with fail
        go_quiet ((go_at_call 27; with_reducible exact hby _ _))
        go_wp2_with fail
        go_roundw
        case rel => exact ⟨i, t, rfl, rfl, hi, by omega, by omega, HI.out, Or.inr (by rw [HA.out]; have := HC.out; omega), HR0.out, ogb_drewN HG0.out _⟩
        case measure => simp [intOf]; omega
    · obtain rfl : i = j := by omega
      have q1 : ¬ (i : Int) < (i : Int) := by omega
      have hmv : Mv Tb.classI d a a i b := by
        have hM := HM.out
        refine Mv.start (by omega) HS.out (fun q q1 q2 => ?_) (fun q q1 q2 => ?_)
        · rcases HI.out with e | e
          · omega
          · have := HS.out q (i - 1) (by omega) (by omega) (by omega)
            omega
        · rcases HJ.out with e | e
          · omega
          · have := HS.out i q (by omega) (by omega) (by omega)
            omega
      have HMV := Lib.hid hmv
      clear hmv HI HJ
      go_wp2_with fail
      go_loopw [13] (fun vk wr => ∃ (k : Nat) (f : Nat → Int), vk = .int .i64 (k : Int) ∧ a ≤ k ∧ k < i ∧ SR fr wr g o z f ∧ W.grownBy wr (some g) ∧ Mv Tb.classI f a k i b ∧ Stb Tb.classI d f a b ∧ Stb0.Same d f a b) (fun vk _ => i - (intOf vk).toNat)
      case atStart => exact ⟨a, d, rfl, Nat.le_refl _, by have := HM.out; omega, HR0.out, HG0.out, HMV.out, Stb.refl _ _ _ _, Stb0.Same.refl _ _ _⟩
      case round =>
        obtain ⟨k, f, rfl, hk1, hk2, hR, hG, hMv, hst, hsm⟩ := hrel
        clear HMV
        by_cases hlt2 : k + 1 < i
        · have p1 : (k : Int) < (i : Int) - 1 := by omega
          have k1 := hR.1 k (by omega)
          have k2 := hR.1 (k + 1) (by omega)
          have f1 := hR.2.1 k (by omega)
          have f2 := hR.2.1 (k + 1) (by omega)
          have hsw := hR.swap (i := k) (j := k + 1) (by omega) (by omega) (by omega)
          obtain ⟨hMv2, hcl⟩ := hMv.step hk1 hlt2 hj
          have hst3 : Stb Tb.classI d (swp f k (k + 1)) a b := by rw [swp_comm]; exact hst.trans (Stb.swap (d := f) (j := k) hk1 (by omega) hcl)
          have hsm3 := hsm.trans (swp_same (d := f) (i := k) (j := k + 1) (a := a) (b := b) (by omega) (by omega) (by omega) (by omega))
          have i1 : (k : Int) < (z : Int) := by omega
          have i2 : (k : Int) + 1 < (z : Int) := by omega
          have i3 : (0 : Int) ≤ (k : Int) := by omega
          have i4 : (0 : Int) ≤ (k : Int) + 1 := by omega
          have i5 : (k : Int).toNat = k := by omega
          have i6 : ((k : Int) + 1).toNat = k + 1 := by omega
          have i7 : IntKind.i64.wrap ((k : Int) + 1) = (k : Int) + 1 := by rw [IntKind.wrap_i64]; omega
          generalize f k = A at *
          generalize f (k + 1) = B at *
          have HSW := Lib.hid hsw
          have HMV := Lib.hid hMv2
          have HST := Lib.hid hst3
          have HSM := Lib.hid hsm3
          have HG := Lib.hid hG
          clear hsw hMv2 hst3 hsm3 hG hMv hst hsm hR hcl
          go_wp2_with fail
          go_region
          all_goals go_wp2_with fail
          go_roundw
          case rel => exact ⟨k + 1, swp f k (k + 1), by go_num, by omega, by omega, HSW.out, gb_same (gb_same (ogb_drew HG.out) (ogb_set _ ⟨g, o + k, none⟩ _)) (ogb_set _ ⟨g, o + (k + 1), none⟩ _), HMV.out, HST.out, HSM.out⟩
          case measure => simp [intOf]; omega
        · have p1 : ¬ (k : Int) < (i : Int) - 1 := by omega
          have hd := hMv.done (by omega) hk1 (by omega) hk2
          have HR := Lib.hid hR
          have HG := Lib.hid hG
          have HD := Lib.hid hd
          have HST := Lib.hid hst
          have HSM := Lib.hid hsm
          clear hMv hR hG hd hst hsm
          go_wp2_with fail
          go_end0
          exact ⟨rfl, f, HR.out, HG.out, HD.out, HST.out, HSM.out⟩
set_option maxRecDepth 100000 in
set_option maxHeartbeats 4000000 in
/-- One on the right. -/
theorem sym_right (fr : Array Value) (g o z c a m : Nat) (d : Nat → Int) (W : World) (h : SR fr W g o z d) (h1 : a + 1 < m) (hb : m + 1 ≤ z) (hz : z ≤ 100000) (hs : Srt Tb.classI d a m) :
    Calls Try.prog 43 #[.slice (some ⟨g, o, none⟩) z c, .int .i64 (a : Int), .int .i64 (m : Int), .int .i64 ((m + 1 : Nat) : Int), FV] W (SortPost fr g o z W d a (m + 1)) := by
  have H := Lib.hid h
  have HS := Lib.hid hs
  clear h hs
  unfold FV
  have e1 : ((m + 1 : Nat) : Int) - (m : Int) = 1 := by omega
  have e2 : ((m : Int) - (a : Int) == 1) = false := by simp; omega
  obtain ⟨b, hm⟩ : ∃ b, m + 1 = b := ⟨_, rfl⟩
  rw [hm] at e1 ⊢
  have HM := Lib.hid hm
  clear hm
  go_enter Try.func43, Try.ntmps43
  go_wp2_with fail
  go_loopw [14, 15] (fun vi vj wr => ∃ (i j : Nat), vi = .int .i64 (i : Int) ∧ vj = .int .i64 (j : Int) ∧ a ≤ i ∧ i ≤ j ∧ j ≤ m ∧ (i = a ∨ Tb.classI (d (i - 1)) ≤ Tb.classI (d m)) ∧ (j = m ∨ Tb.classI (d m) < Tb.classI (d j)) ∧ SR fr wr g o z d ∧ W.grownBy wr (some g)) (fun vi vj _ => (intOf vj).toNat - (intOf vi).toNat)
  case atStart => exact ⟨a, m, rfl, rfl, by omega, by omega, by omega, Or.inl rfl, Or.inl rfl, H.out, gb_refl _ _⟩
  case round =>
    obtain ⟨i, j, rfl, rfl, hi, hij, hj, hI, hJ, hR0, hG0⟩ := hrel
    have HR0 := Lib.hid hR0
    have HG0 := Lib.hid hG0
    have HI := Lib.hid hI
    have HJ := Lib.hid hJ
    clear hI hJ hR0 hG0
    by_cases hlt : i < j
    · have q1 : (i : Int) < (j : Int) := by omega
      obtain ⟨t, ht⟩ : ∃ t, t = (i + j) / 2 := ⟨_, rfl⟩
      have t1 : i ≤ t := by omega
      have t2 : t < j := by omega
      have q2 : ((i : Int) + (j : Int)) / 2 = (t : Int) := by omega
      have HT := Lib.hid ht
      clear ht
      have k1 := HR0.out.1 t (by omega)
      have k2 := HR0.out.1 m (by omega)
      have i1 : (t : Int) < (z : Int) := by omega
      have i2 : (m : Int) < (z : Int) := by omega
      have hby := bycl_quiet (d m) (d t)
      by_cases hcl : Tb.classI (d m) < Tb.classI (d t)
      · have hc0 : Tb.classI (d m) - Tb.classI (d t) < 0 := by omega
        have HC := Lib.hid hcl
        generalize Tb.classI (d m) - Tb.classI (d t) = cc at *
        generalize hA : d t = A at *
        generalize hB : d m = B at *
        have HA := Lib.hid hA
        have HB := Lib.hid hB
        clear hcl hA hB
        go_wp2_with fail
        go_quiet ((go_at_call 27; with_reducible exact hby _ _))
        go_wp2_with fail
        go_roundw
        case rel => exact ⟨i, t, rfl, rfl, hi, by omega, by omega, HI.out, Or.inr (by rw [HA.out]; exact HC.out), HR0.out, ogb_drewN HG0.out _⟩
        case measure => simp [intOf]; omega
      · have hc0 : ¬ Tb.classI (d m) - Tb.classI (d t) < 0 := by omega
        have hc1 : decide (Tb.classI (d m) - Tb.classI (d t) < 0) = false := by simp; omega
        have HC := Lib.hid hcl
        generalize Tb.classI (d m) - Tb.classI (d t) = cc at *
        generalize hA : d t = A at *
        generalize hB : d m = B at *
        have HA := Lib.hid hA
        have HB := Lib.hid hB
        clear hcl hA hB
        go_wp2_with fail
        go_quiet ((go_at_call 27; with_reducible exact hby _ _))
        go_wp2_with fail
        go_roundw
        case rel => exact ⟨t + 1, j, by go_num, rfl, by omega, by omega, hj, Or.inr (by rw [Nat.add_sub_cancel, HA.out]; have := HC.out; omega), HJ.out, HR0.out, ogb_drewN HG0.out _⟩
        case measure => simp [intOf]; omega
    · obtain rfl : i = j := by omega
      have q1 : ¬ (i : Int) < (i : Int) := by omega
      have hup : ∀ q, i ≤ q → q < m → Tb.classI (d m) < Tb.classI (d q) := fun q q1 q2 => by
        rcases HJ.out with e | e
        · omega
        · have := HS.out i q (by omega) (by omega) (by omega)
          omega
      have hlo : i = a ∨ ∃ k, i = k + 1 ∧ Tb.classI (d k) ≤ Tb.classI (d m) := by
        rcases HI.out with e | e
        · exact Or.inl e
        · by_cases q : i = a
          · exact Or.inl q
          · exact Or.inr ⟨i - 1, by omega, e⟩
      have HUP := Lib.hid hup
      have HLO := Lib.hid hlo
      clear hup hlo HI HJ
      go_wp2_with fail
      go_loopw [17] (fun vk wr => ∃ (k : Nat) (f : Nat → Int), vk = .int .i64 (k : Int) ∧ i ≤ k ∧ k ≤ m ∧ SR fr wr g o z f ∧ W.grownBy wr (some g) ∧ Ins Tb.classI f a k m ∧ f k = d m ∧ (∀ q, q < k → f q = d q) ∧ Stb Tb.classI d f a b ∧ Stb0.Same d f a b) (fun vk _ => (intOf vk).toNat)
      case atStart => exact ⟨m, d, rfl, hj, Nat.le_refl _, HR0.out, HG0.out, Ins.start HS.out, rfl, fun _ _ => rfl, Stb.refl _ _ _ _, Stb0.Same.refl _ _ _⟩
      case round =>
        obtain ⟨k, f, rfl, hk1, hk2, hR, hG, hIn, hfk, hfq, hst, hsm⟩ := hrel
        have hM := HM.out
        by_cases hlt2 : i < k
        · obtain ⟨l, hl⟩ : ∃ l, k = l + 1 := ⟨k - 1, by omega⟩
          have p1 : (i : Int) < (k : Int) := by omega
          have k1 := hR.1 k (by omega)
          have k2 := hR.1 l (by omega)
          have f1 := hR.2.1 k (by omega)
          have f2 := hR.2.1 l (by omega)
          have hsw := hR.swap (i := k) (j := l) (by omega) (by omega) (by omega)
          have hcl : Tb.classI (f k) < Tb.classI (f l) := by rw [hfk, hfq l (by omega)]; exact HUP.out l (by omega) (by omega)
          have hIn2 : Ins Tb.classI (swp f k l) a l m := by rw [hl] at hIn hcl ⊢; exact hIn.step (by omega) (by omega) hcl
          have hst3 : Stb Tb.classI d (swp f k l) a b := by rw [hl] at hcl ⊢; exact hst.trans (Stb.swap (d := f) (j := l) (by omega) (by omega) hcl)
          have hsm3 := hsm.trans (swp_same (d := f) (i := k) (j := l) (a := a) (b := b) (by omega) (by omega) (by omega) (by omega))
          have hf2 : swp f k l l = d m ∧ ∀ q, q < l → swp f k l q = d q := by
            refine ⟨?_, fun q hq => ?_⟩
            · unfold swp; rw [if_neg (by omega), if_pos rfl]; exact hfk
            · unfold swp; rw [if_neg (by omega), if_neg (by omega)]; exact hfq q (by omega)
          have i1 : (k : Int) < (z : Int) := by omega
          have i2 : (k : Int) - 1 < (z : Int) := by omega
          have i3 : (0 : Int) ≤ (k : Int) := by omega
          have i4 : (0 : Int) ≤ (k : Int) - 1 := by omega
          have i9 : (1 : Int) ≤ (k : Int) := by omega
          have i5 : (k : Int).toNat = k := by omega
          have i6 : ((k : Int) - 1).toNat = l := by omega
          have i7 : IntKind.i64.wrap ((k : Int) - 1) = (k : Int) - 1 := by rw [IntKind.wrap_i64]; omega
          clear hfk hfq
          generalize f k = A at *
          generalize f l = B at *
          have HSW := Lib.hid hsw
          have HIN := Lib.hid hIn2
          have HF := Lib.hid hf2
          have HST := Lib.hid hst3
          have HSM := Lib.hid hsm3
          have HG := Lib.hid hG
          have HL := Lib.hid hl
          clear hsw hIn2 hf2 hst3 hsm3 hG hIn hst hsm hR hcl hl hM
          go_wp2_with fail
          go_region
          all_goals go_wp2_with fail
          go_roundw
          case rel => exact ⟨l, swp f k l, by have := HL.out; go_num, by have := HL.out; omega, by have := HL.out; omega, HSW.out, gb_same (gb_same (ogb_drew HG.out) (ogb_set _ ⟨g, o + k, none⟩ _)) (ogb_set _ ⟨g, o + l, none⟩ _), HIN.out, HF.out.1, HF.out.2, HST.out, HSM.out⟩
          case measure => have := HL.out; simp [intOf]; omega
        · obtain rfl : i = k := by omega
          have p1 : ¬ (i : Int) < (i : Int) := by omega
          have hd : Srt Tb.classI f a b := by
            rw [← hM]
            refine hIn.stop ?_ hk2
            rcases HLO.out with e | ⟨k, e1, e2⟩
            · exact Or.inl e
            · refine Or.inr ⟨k, e1, ?_⟩
              rw [hfk, hfq k (by omega)]
              exact e2
          have HR := Lib.hid hR
          have HG := Lib.hid hG
          have HD := Lib.hid hd
          have HST := Lib.hid hst
          have HSM := Lib.hid hsm
          clear hIn hR hG hd hst hsm hfk hfq hM
          go_wp2_with fail
          go_end0
          exact ⟨rfl, f, HR.out, HG.out, HD.out, HST.out, HSM.out⟩
end Go.Proofs.Ytahapmpohaaigaa
