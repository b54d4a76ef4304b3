/- The walks of Is and seconds. The walk of seconds. -/
import Derived.Test.YtmpoeeioeimmfaaGreatNfH
import Derived.Test.YtmpoeeioeimmfaaGreatTbL
namespace Go.Proofs.YtmpoeeioeimmfaaGreat
open Go.RowKit Go.Shelf
open Go.Maps (Keyed int_keyed keyOf_int_mk)
open Go
set_option linter.unusedVariables false
set_option maxRecDepth 100000
theorem str_eq (t s : ByteArray) : (t.toList == s.toList) = decide (t = s) := by
  rw [ByteArray.toList_eq, ByteArray.toList_eq]
  by_cases e : t = s
  · rw [e]; simp
  · rw [decide_eq_false e, beq_eq_false_iff_ne]
    intro k
    exact e (ByteArray.ext (Array.toList_inj.1 k))
def isF (s : ByteArray) : Bool := (Ut.scal (Ut.bsL s)).isSome && decide (nnfcB s = s)
set_option maxHeartbeats 4000000 in
theorem nis_any (s : ByteArray) (hg : GoodB s) (w : World) : Calls Tryz.prog 11 #[.string s] w (BoolPost (isF s) w) := by
  have C1 := fun w => valid_any s hg.1 w
  have C2 := fun w => nfc_any s hg w
  cases hv : (Ut.scal (Ut.bsL s)).isSome with
  | false =>
    have e : isF s = false := by unfold isF; rw [hv]; rfl
    rw [e]
    rw [hv] at C1
    clear e hv C2 hg
    go_enter Tryz.func11, Tryz.ntmps11
    go_wp2_with (go_at_call 25; refine (C1 _).mono ?_; rintro e w1 ⟨rfl, hb1⟩)
    go_ret
    exact ⟨rfl, hb1⟩
  | true =>
    rw [hv] at C1
    have e : isF s = decide (nnfcB s = s) := by unfold isF; rw [hv]; rfl
    rw [e]
    generalize nnfcB s = t at *
    clear e hv hg
    go_enter Tryz.func11, Tryz.ntmps11
    go_wp2_with (first | (go_at_call 25; refine (C1 _).mono ?_; rintro e w1 ⟨rfl, hb1⟩) | (go_at_call 9; refine (C2 _).mono ?_; rintro e w2 ⟨rfl, hb2⟩))
    go_ret
    exact ⟨by show Ending.returned (.bool (t.toList == s.toList)) = _; rw [str_eq], hb1.trans (hb2.mono hb1.size)⟩
def okB (v : Value) : Bool := match v with | .bool _ => true | _ => false
theorem zero_bool (w : World) : (zeroValue 4).run Tryz.prog w = .ok (.bool false) w := by kernel_rfl
/-- The seconds as a map. -/
noncomputable def secU : Nat → Value → Option Value
  | 0 => fun _ => none
  | i + 1 => updF (secU i) (.int .i64 ((Tb.prs[i]?.getD (0, 0, 0)).2.2)) (.bool (decide ((Tb.prs[i]?.getD (0, 0, 0)).2.2 ≠ 0)))
theorem secU_at : ∀ (i : Nat) (r : Int), ((secU i (.int .i64 r)).getD (.bool false)) = .bool (((Tb.prs.take i).any fun p => p.2.2 == r && r != 0))
  | 0, r => by simp [secU]
  | i + 1, r => by
    have ih := secU_at i r
    by_cases hi : i < Tb.prs.length
    · have e1 : Tb.prs[i]?.getD (0, 0, 0) = Tb.prs[i] := by rw [List.getElem?_eq_getElem hi]; rfl
      rw [List.take_succ_eq_append_getElem hi, List.any_append]
      show (updF (secU i) (.int .i64 ((Tb.prs[i]?.getD (0, 0, 0)).2.2)) (.bool (decide ((Tb.prs[i]?.getD (0, 0, 0)).2.2 ≠ 0))) (.int .i64 r)).getD _ = _
      rw [e1]
      by_cases e : r = Tb.prs[i].2.2
      · rw [← e, updF_same]
        by_cases h0 : r = 0
        · subst h0; simp
        · simp [h0, ← e]
      · rw [updF_other (fun k => e (by injection k)), ih]
        have : (Tb.prs[i].2.2 == r) = false := by simpa using fun k => e k.symm
        simp [this]
    · have e1 : Tb.prs[i]?.getD (0, 0, 0) = (0, 0, 0) := by rw [List.getElem?_eq_none (by omega)]; rfl
      rw [List.take_of_length_le (by omega)]
      rw [List.take_of_length_le (by omega)] at ih
      show (updF (secU i) (.int .i64 ((Tb.prs[i]?.getD (0, 0, 0)).2.2)) (.bool (decide ((Tb.prs[i]?.getD (0, 0, 0)).2.2 ≠ 0))) (.int .i64 r)).getD _ = _
      rw [e1]
      by_cases e : r = 0
      · rw [e, updF_same]; simp
      · rw [updF_other (fun k => e (by injection k)), ih]
end Go.Proofs.YtmpoeeioeimmfaaGreat
namespace Go.Proofs.YtmpoeeioeimmfaaGreat
open Go.RowKit Go.Shelf
open Go.Maps (Keyed int_keyed keyOf_int_mk)
open Go
set_option linter.unusedVariables false
set_option maxRecDepth 100000
theorem nprs_len : Tb.prs.length = 73 := by kernel_rfl
theorem nrow3_at {W : World} {g : Nat} {j : Nat} {x y z : Int} (h : Row3 W g Tb.prs) (e : Tb.prs[j]? = some (x, y, z)) : W.cell? ⟨g, j * 3, none⟩ = some (.int .i64 x) ∧ W.cell? ⟨g, j * 3 + 1, none⟩ = some (.int .i64 y) ∧ W.cell? ⟨g, j * 3 + 2, none⟩ = some (.int .i64 z) := by
  obtain ⟨h1, h2, h3⟩ := cells3_at Tb.prs j (x, y, z) e
  rw [Nat.mul_comm] at h1 h2 h3
  exact ⟨h.2 _ _ h1, h.2 _ _ h2, h.2 _ _ h3⟩
theorem sec_small : (Tb.prs.all fun p => decide (-100000000 ≤ p.2.2) && decide (p.2.2 ≤ 100000000)) = true := by kernel_rfl
def SecPost (w : World) (e : Ending) (w' : World) : Prop := ∃ mb, e = .returned (.map (some mb)) ∧ w.heap.size ≤ mb ∧ MapF Tryz.prog 3 okB w' mb Tb.prs.length (secU Tb.prs.length) ∧ Below w.heap.size w w'
set_option maxHeartbeats 8000000 in
theorem seconds_any (w : World) : Calls Tryz.prog 29 #[] w (SecPost w) := by
  have hmm := @run_makeMap Tryz.prog
  have hmade := MapF.made Tryz.prog 3 okB w
  have hB0 : Below w.heap.size w (w.alloc (.map #[] 0)) := (Below.refl _ w).alloc (Nat.le_refl _) _
  have hz0 : (w.alloc (.map #[] 0)).heap.size = w.heap.size + 1 := by simp
  go_enter Tryz.func29, Tryz.ntmps29
  go_wp2_with (go_at_call 51; refine (pairs_any _).mono ?_; rintro e w1 ⟨g1, cap1, rfl, hc1, hc2, hr1, hB1⟩)
  obtain ⟨n, hn⟩ : ∃ n, Tb.prs.length = n := ⟨_, rfl⟩
  have hn73 : n ≤ 100000 := by rw [← hn, nprs_len]; omega
  rw [hn] at hc1
  unfold SecPost
  rw [hn]
  have HN := Lib.hid hn
  clear hn
  have hM1 : MapF Tryz.prog 3 okB w1 w.heap.size 0 (fun _ => none) := hmade.kept (below_grown hB1) (fun e => by cases e)
  have hBw : Below w.heap.size w w1 := hB0.trans (hB1.mono (by omega))
  have hs1 := hB1.size
  have hR1 : Row3 w1 g1 Tb.prs := hr1
  clear hr1 hmade hB1 hB0 hc2
  go_loopw [7] (fun k wr => ∃ i : Nat, i ≤ n ∧ k = .int .i64 (i : Int) ∧ MapF Tryz.prog 3 okB wr w.heap.size i (secU i) ∧ Hid (Row3 wr g1 Tb.prs) ∧ Below w.heap.size w wr ∧ w.heap.size + 1 ≤ wr.heap.size) (fun k _ => n - (intOf k).toNat)
  case atStart => exact ⟨0, by omega, rfl, hM1, Lib.hid hR1, hBw, by omega⟩
  case round =>
    obtain ⟨i, hi, rfl, hM, HR, hB, hsz⟩ := hrel
    clear hM1 hR1 hBw
    by_cases hlt : i < n
    · obtain ⟨x, y, z, hxyz⟩ : ∃ x y z : Int, Tb.prs[i]? = some (x, y, z) := by
        have : i < Tb.prs.length := by rw [HN.out]; exact hlt
        exact ⟨_, _, _, List.getElem?_eq_getElem this⟩
      obtain ⟨p0, p1, p2⟩ := nrow3_at HR.out hxyz
      have hbz : -100000000 ≤ z ∧ z ≤ 100000000 := by
        have := List.all_eq_true.1 sec_small _ (List.mem_of_getElem? hxyz)
        rw [Bool.and_eq_true] at this
        exact ⟨of_decide_eq_true this.1, of_decide_eq_true this.2⟩
      have HU : Hid (secU (i + 1) = updF (secU i) (.int .i64 z) (.bool (decide (z ≠ 0)))) := Lib.hid (by
        show updF (secU i) (.int .i64 ((Tb.prs[i]?.getD (0, 0, 0)).2.2)) (.bool (decide ((Tb.prs[i]?.getD (0, 0, 0)).2.2 ≠ 0))) = _
        rw [hxyz]
        rfl)
      have hkz := key_int (wf_small hbz.1 hbz.2)
      have i1 : (i : Int) < (n : Int) := by omega
      have HM := Lib.hid hM
      have P0 := Lib.hid p0
      clear hxyz hM
      go_wp2_with (at_mapUpdate; refine wpList_store_f _ rfl _ _ _ 38 rfl 3 4 ki Tryz.underlying38 okB w.heap.size i _ rfl (HM.out.alloc _) (by unfold maxLen; omega) (.int .i64 z) (.bool (z != 0)) _ rfl rfl hkz rfl ?_; intro w2 hm2 hturn2; have HM2 := Lib.hid hm2; have HT2 := Lib.hid hturn2; clear hm2 hturn2)
      have hbne : (z != 0) = decide (z ≠ 0) := by by_cases e : z = 0 <;> simp [e]
      have hg2 := HT2.out.grown
      have hga := World.grownBy_alloc wr (.cells #[.int .i64 x, .int .i64 y, .int .i64 z] 66) none
      have hgn : g1 ≠ w.heap.size := fun e => by
        obtain ⟨es, ck, es2, ck2, h1, h2⟩ := HT2.out
        rw [hga.block w.heap.size (by omega) (fun e => by cases e)] at h1
        have h3 := cell_none (a := ⟨g1, i * 3, none⟩) (W := wr) (by rw [e]; exact h1) rfl
        rw [h3] at p0
        cases p0
      have hgl := HR.out.1
      have hz2 := hg2.size
      have hza := hga.size
      have hB2 : Below w.heap.size w w2 := (hB.grown hga hB.size (fun r e => by cases e)).grown hg2 (by omega) (fun r e => by cases e; exact Nat.le_refl _)
      have hR2 : Row3 w2 g1 Tb.prs := ⟨by omega, fun j u hu => (gb_cell hg2 (a := ⟨g1, j, none⟩) (by show g1 < _; omega) (fun e => by injection e with e; exact hgn e)).trans ((gb_cell hga (a := ⟨g1, j, none⟩) hgl (fun e => by cases e)).trans (HR.out.2 j u hu))⟩
      have HR2 := Lib.hid hR2
      have hM2 : MapF Tryz.prog 3 okB w2 w.heap.size (i + 1) (secU (i + 1)) := by
        rw [HU.out, ← hbne]
        exact HM2.out
      clear hR2
      go_roundw
      case rel => exact ⟨i + 1, by omega, by go_num, hM2, HR2, hB2, by omega⟩
      case measure => simp [intOf]; omega
    · obtain rfl : i = n := by omega
      clear HR
      go_wp2_with fail
      go_ret
      exact ⟨w.heap.size, rfl, Nat.le_refl _, by rw [HN.out]; exact hM, hB⟩
end Go.Proofs.YtmpoeeioeimmfaaGreat
