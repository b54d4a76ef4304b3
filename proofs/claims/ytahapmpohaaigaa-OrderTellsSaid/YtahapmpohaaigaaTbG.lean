/- The walk of the document's Pairs. -/
import Derived.Test.YtahapmpohaaigaaTbF
import Derived.StillTailTactics
import Derived.Deep.RegionHeld3
namespace Go.Proofs.Ytahapmpohaaigaa
open Go.RowKit
open Go
set_option linter.unusedVariables false
set_option maxRecDepth 100000
theorem OutR.below {w w' : World} {base : Nat} {v : Value} {L : List T3} (h : w'.ownsRow base 52 3 v L.length (cells3 L)) (hL : 0 < L.length) : OutR w' base v L := Or.inr ⟨hL, h⟩
theorem own_base {w : World} {b b' : Nat} {e : TypeId} {s n : Nat} {v : Value} {xs : List Value} (h : w.ownsRow b e s v n xs) (hb : b' ≤ b) : w.ownsRow b' e s v n xs := by
  refine ⟨h.1, ?_⟩
  rcases h.2 with h2 | ⟨g, cap, cur, h1, h2, r⟩
  · exact Or.inl h2
  · exact Or.inr ⟨g, cap, cur, h1, Nat.le_trans hb h2, r⟩
def dblT3 : List T3 := [(832, 768, 0), (833, 769, 0), (8486, 937, 0), (8490, 75, 0), (8491, 197, 0)]
theorem dbl_at (i : Nat) (h : i < 10) : (dblL.map fun x => Value.int .i64 x).toArray[i]? = some (.int .i64 (dblL[i]?.getD 0)) := by
  have : i < dblL.length := h
  simp [this]
theorem dbl_take (j : Nat) (h : j < 5) : dblT3.take (j + 1) = dblT3.take j ++ [(dblL[2 * j]?.getD 0, dblL[2 * j + 1]?.getD 0, 0)] := by
  match j, h with
  | 0, _ => rfl
  | 1, _ => rfl
  | 2, _ => rfl
  | 3, _ => rfl
  | 4, _ => rfl
  | k + 5, hk => exact absurd hk (by omega)
theorem two_up (j : Nat) : Value.int .i64 (2 * (j : Int) + 2) = .int .i64 (2 * ((j + 1 : Nat) : Int)) := by
  rw [show (2 * (j : Int) + 2) = 2 * ((j + 1 : Nat) : Int) by omega]
theorem ln_ok : ((List.range 11).all fun i => decide (ln i ≤ 100)) = true := by kernel_rfl
theorem ln_le {n : Nat} (h : n < 11) : ln n ≤ 100 := of_decide_eq_true (List.all_eq_true.1 ln_ok n (List.mem_range.2 h))
def RpairsPost (w : World) (e : Ending) (w' : World) : Prop := ∃ g cap, e = .returned (.slice (some ⟨g, 0, none⟩) Tb.prs.length cap) ∧ Tb.prs.length ≤ cap ∧ cap ≤ maxLen ∧ Row3 w' g Tb.prs ∧ Below w.heap.size w w'
set_option maxHeartbeats 4000000 in
set_option maxRecDepth 100000 in
theorem rpairs_any (w : World) : Calls Try.prog 33 #[] w (RpairsPost w) := by
  go_enter Try.func33, Try.ntmps33
  go_wp2_with fail
  refine (rtable_any _).mono ?_
  rintro e w1 ⟨rfl, ht, hz, hB⟩
  obtain ⟨b, hb⟩ : ∃ b, w.heap.size = b := ⟨_, rfl⟩
  rw [hb] at hB ht hz ⊢
  have HZ := Lib.hid hz
  have HT := Lib.hid ht
  have HB := Lib.hid hb
  clear hz ht hb
  go_wp2_with fail
  go_loopw [1, 3] (fun v i wr => ∃ n : Nat, n ≤ 11 ∧ i = .int .i64 n ∧ OutR wr (b + 12) v (foldP (off n)) ∧ Below (b + 12) w1 wr) (fun _ i _ => 11 - (intOf i).toNat)
  case atStart => exact ⟨0, by omega, rfl, Or.inl ⟨rfl, rfl⟩, Below.refl _ _⟩
  case round =>
    obtain ⟨n, hn, rfl, hout, hBr⟩ := hrel
    by_cases hlt : n < 11
    · obtain ⟨wo, rfl⟩ : ∃ wo : World, wo = wr := ⟨_, rfl⟩
      obtain ⟨f1, f2, f3⟩ := flat_at hlt
      have HF := Lib.hid f3
      have HF1 := Lib.hid f1
      have HF2 := Lib.hid f2
      clear f3 f1 f2
      have htab : TabAt wo b := HT.out.below hBr (Nat.le_refl _)
      have i1 : (0 : Int) ≤ (n : Int) := by omega
      have i2 : (n : Int) < 11 := by omega
      go_wp2_with fail
      go_loopw [1, 4] (fun v k wi => ∃ j : Nat, j ≤ ln n ∧ k = .int .i64 (2 * (j : Int)) ∧ OutR wi (b + 12) v (foldP (off n + j)) ∧ Below (b + 12) w1 wi) (fun _ k _ => 2 * ln n - (intOf k).toNat)
      case atStart => exact ⟨0, by omega, rfl, hout, hBr⟩
      case round =>
        clear hout hBr htab
        obtain ⟨j, hj, rfl, hout, hBr⟩ := hrel
        have htab : TabAt wr b := HT.out.below hBr (Nat.le_refl _)
        have k1 : wr.cell? ⟨b + 11, n * 2 + 1, none⟩ = some (.slice (some ⟨b + n, 0, none⟩) (2 * ln n) (2 * ln n)) := by
          simp only [World.cell?, htab.2]
          simpa using (outC_at b n hlt).2
        have k0 : wr.cell? ⟨b + 11, n * 2, none⟩ = some (.int .i64 (mark n)) := by
          simp only [World.cell?, htab.2]
          simpa using (outC_at b n hlt).1
        have HO := Lib.hid hout
        clear hout
        by_cases hj2 : j < ln n
        · have k2 : wr.cell? ⟨b + n, 2 * j, none⟩ = some (.int .i64 ((lets n)[2 * j]?.getD 0)) := by
            simp only [World.cell?, htab.1 n hlt]
            simpa using rowC_at n (2 * j) (by have := HF2.out; omega)
          have k3 : wr.cell? ⟨b + n, 2 * j + 1, none⟩ = some (.int .i64 ((lets n)[2 * j + 1]?.getD 0)) := by
            simp only [World.cell?, htab.1 n hlt]
            simpa using rowC_at n (2 * j + 1) (by have := HF2.out; omega)
          have hfl := HF.out j hj2
          clear htab
          generalize (lets n)[2 * j]?.getD 0 = x0 at *
          generalize (lets n)[2 * j + 1]?.getD 0 = x1 at *
          generalize mark n = x2 at *
          have HFL := Lib.hid hfl
          clear hfl
          have i3 : (0 : Int) ≤ 2 * (j : Int) := by omega
          have i4 : 2 * (j : Int) < 2 * (ln n : Int) := by omega
          have i5 : (0 : Int) ≤ 2 * (j : Int) + 1 := by omega
          have i6 : 2 * (j : Int) + 1 < 2 * (ln n : Int) := by omega
          have i7 : ln n ≤ 100 := ln_le hlt
          have i8 : IntKind.i64.wrap (2 * (j : Int) + 1) = 2 * (j : Int) + 1 := by simp [IntKind.wrap, IntKind.bits, IntKind.signed]; omega
          have i9 : (2 * (j : Int) + 1).toNat = 2 * j + 1 := by omega
          have i10 : (2 * (j : Int)).toNat = 2 * j := by omega
          go_wp2_with fail
          go_still_tail 24, (by kernel_rfl)
          change wpList _ _ _ _ _ wr.drew
          generalize hwd : wr.drew = wd
          have hod : OutR wd (b + 12) u1 (foldP (off n + j)) := by rw [← hwd]; exact HO.out
          have hbd : Below (b + 12) w1 wd := by rw [← hwd]; exact hBr.drew
          clear hwd
          have hle : b + 12 ≤ wd.heap.size := by have := hbd.size; rw [HZ.out] at this; exact this
          have hlt2 : off n + j < 68 := by
            rw [← flat_len]
            exact (List.getElem?_eq_some_iff.1 HFL.out).1
          have hM := foldP_succ HFL.out
          have hlen : (foldP (off n + j)).length ≤ 1000 := by rw [foldP_len _ (by rw [flat_len]; omega)]; omega
          have hlen2 : 0 < (foldP (off n + j + 1)).length := by rw [foldP_len _ (by rw [flat_len]; omega)]; omega
          have HM := Lib.hid hM
          have HL2 := Lib.hid hlen2
          clear hM hlen2
          go_wp2_with fail
          refine (put_out hod hlen x1 x0 x2 _ HM.out.symm).mono ?_
          rintro e w2 ⟨v2, rfl, hown2, hB2⟩
          have hfin : OutR w2 (b + 12) v2 (foldP (off n + j + 1)) := Or.inr ⟨HL2.out, own_base hown2 (by omega)⟩
          have hbf : Below (b + 12) w1 w2 := hbd.trans (hB2.mono (by omega))
          clear hown2 hB2 hod hbd
          go_wp2_with fail
          go_roundw
          case rel => exact ⟨j + 1, by omega, two_up j, hfin, hbf⟩
          case measure => simp [intOf] <;> omega
        · obtain rfl : j = ln n := by omega
          go_wp2_with fail
          go_roundw
          case rel =>
            have hnx : OutR wr (b + 12) u1 (foldP (off (n + 1))) := by
              rw [HF1.out]
              exact HO.out
            exact ⟨n + 1, by omega, by go_num, hnx, hBr⟩
          case measure => simp [intOf] <;> omega
    · obtain rfl : n = 11 := by omega
      have HO := Lib.hid hout
      clear hout
      go_wp2_with fail
      refine (rdbl_any _).mono ?_
      rintro e w2 ⟨rfl, hd, hz2, hB2⟩
      have hbl : b + 12 ≤ wr.heap.size := by have := hBr.size; rw [HZ.out] at this; exact this
      have ho2 : wr.ownsRow (b + 12) 52 3 u1 (foldP (off 11)).length (cells3 (foldP (off 11))) := by
        rcases HO.out with ⟨_, h⟩ | ⟨_, h⟩
        · exact absurd h (by decide)
        · exact h
      have HO2 := Lib.hid ho2
      have HD := Lib.hid hd
      clear ho2 hd HO
      have hz3 : w2.heap.size = wr.heap.size + 1 := hz2
      have HZ2 := Lib.hid hz3
      clear hz2 hz3
      have ho3 : w2.ownsRow (b + 12) 52 3 u1 (foldP (off 11)).length (cells3 (foldP (off 11))) := HO2.out.kept ⟨hB2.os, hB2.tape, hB2.output, hB2.size, fun k hk _ => hB2.block k hk⟩ (row := none) (by cases u1.ownBlock <;> simp)
      go_wp2_with fail
      obtain ⟨wx, hwx⟩ : ∃ wx, wr = wx := ⟨_, rfl⟩
      rw [hwx] at hB2 hbl HZ2 HD HO2 hBr ⊢
      clear hwx
      have hbw : Below (b + 12) w1 w2 := hBr.trans (hB2.mono hbl)
      obtain ⟨i0, hi, hi0, hi1, hi2⟩ := info_parts info_pair
      go_loopw [1, 6] (fun v k wr => ∃ j : Nat, j ≤ 5 ∧ k = .int .i64 (2 * (j : Int)) ∧ wr.ownsRow (b + 12) 52 3 v (foldP (off 11) ++ dblT3.take j).length (cells3 (foldP (off 11) ++ dblT3.take j)) ∧ wr.heap[wx.heap.size]? = some (.cells (dblL.map fun x => Value.int .i64 x).toArray 3 (0, 0)) ∧ Below (b + 12) w1 wr) (fun _ k _ => 10 - (intOf k).toNat)
      case atStart => exact ⟨0, by omega, rfl, by simpa using ho3, HD.out, hbw⟩
      case round =>
        clear hBr hbw ho3 hB2
        obtain ⟨j, hj, rfl, hown, hd, hBr⟩ := hrel
        have HO := Lib.hid hown
        clear hown
        by_cases hj2 : j < 5
        · have k0 : wr.cell? ⟨wx.heap.size, 2 * j, none⟩ = some (.int .i64 (dblL[2 * j]?.getD 0)) := by
            simp only [World.cell?, hd]
            exact dbl_at (2 * j) (by omega)
          have k1 : wr.cell? ⟨wx.heap.size, 2 * j + 1, none⟩ = some (.int .i64 (dblL[2 * j + 1]?.getD 0)) := by
            simp only [World.cell?, hd]
            exact dbl_at (2 * j + 1) (by omega)
          have hpp := dbl_take j hj2
          generalize dblL[2 * j]?.getD 0 = x0 at *
          generalize dblL[2 * j + 1]?.getD 0 = x1 at *
          have HPP := Lib.hid hpp
          have HD3 := Lib.hid hd
          clear hpp hd
          have i3 : (0 : Int) ≤ 2 * (j : Int) := by omega
          have i4 : 2 * (j : Int) < 10 := by omega
          have i5 : (0 : Int) ≤ 2 * (j : Int) + 1 := by omega
          have i6 : 2 * (j : Int) + 1 < 10 := by omega
          have i8 : IntKind.i64.wrap (2 * (j : Int) + 1) = 2 * (j : Int) + 1 := by simp [IntKind.wrap, IntKind.bits, IntKind.signed]; omega
          have i9 : (2 * (j : Int) + 1).toNat = 2 * j + 1 := by omega
          have i10 : (2 * (j : Int)).toNat = 2 * j := by omega
          go_wp2_with fail
          have hnb : u1.ownBlock ≠ some wx.heap.size := by
            intro e
            rcases HO.out.2 with ⟨h, _⟩ | ⟨g, cap, cur, h, _, h2, _⟩
            · rw [h] at e
              cases e
            · rw [h] at e
              have e2 : g = wx.heap.size := Option.some.inj e
              rw [e2, HD3.out] at h2
              cases h2
          have hle : b + 12 ≤ wr.heap.size := by have := hBr.size; rw [HZ.out] at this; exact this
          have hlw : wx.heap.size < wr.heap.size := (Array.getElem?_eq_some_iff.1 HD3.out).1
          have hln : (foldP (off 11) ++ dblT3.take j).length = 68 + j := by
            rw [List.length_append, foldP_len _ (by decide), List.length_take]
            have e1 : off 11 = 68 := rfl
            have e2 : dblT3.length = 5 := rfl
            omega
          have hown : wr.ownsRow (b + 12) 52 3 u1 (68 + j) (cells3 (foldP (off 11) ++ dblT3.take j)) := by
            have := HO.out
            rw [hln] at this
            exact this
          clear hln
          go_region_held3 (fun w' => w'.cell? ⟨wx.heap.size, 2 * j, none⟩ = some (.int .i64 x0) ∧ w'.cell? ⟨wx.heap.size, 2 * j + 1, none⟩ = some (.int .i64 x1))
            (first
              | go_keep
              | (go_split_ands
                 refine ⟨?_, ?_⟩
                 · (rw [hgrow3.cell_far _ (by simp; omega) (Ne.symm hnb)]; assumption)
                 · (rw [hgrow3.cell_far _ (by simp; omega) (Ne.symm hnb)]; assumption)))
            ((refine step_append_lies _ (by rfl) _ _ _ (by rfl) (b + 12) 52 i0 _ 3 24 Try.underlying49 hi hi0 hi1 hi2 rfl (by omega) u1 _ _ (by rfl) ((hown.alloc _).drew)
                ⟨wr.heap.size, 0, none⟩ 1 1 (c3 (x0, x1, 0)) (by rfl) (by rfl) (World.news_of_block (cs := #[.int .i64 x0, .int .i64 x1, .int .i64 0]) (t := 52) (fr := (0, 0)) (heap_alloc_new wr _)) (c3_one _)
                (by omega) (by unfold maxLen; omega) (by omega) (by simp; omega) (wr.heap.size + 1) (by simp) ?_; intro g1 cap1 w3 hown3 hgrow3 hat3 hlt3))
          have hfin : w3.ownsRow (b + 12) 52 3 (.slice (some ⟨g1, 0, none⟩) (68 + j + 1) cap1) (foldP (off 11) ++ dblT3.take (j + 1)).length (cells3 (foldP (off 11) ++ dblT3.take (j + 1))) := by
            have e4 : (foldP (off 11) ++ dblT3.take (j + 1)).length = 68 + j + 1 := by
              rw [List.length_append, foldP_len _ (by decide), List.length_take]
              have e1 : off 11 = 68 := rfl
              have e2 : dblT3.length = 5 := rfl
              omega
            rw [e4, HPP.out, ← List.append_assoc, cells3_app]
            exact hown3
          have hbf : Below (b + 12) w1 w3 := ((hBr.alloc hle _).drew).grown hgrow3 (by simp; omega) (fun k hk => (HO.out.lt k hk).1)
          have hdf : w3.heap[wx.heap.size]? = some (.cells (dblL.map fun x => Value.int .i64 x).toArray 3 (0, 0)) := by
            rw [hgrow3.block _ (by simp; omega) (fun e => hnb e.symm)]
            exact ((MapKept.heap_alloc wr _).2 _ hlw).trans HD3.out
          go_wp2_with fail
          clear hown3 hgrow3 hnb
          go_roundw
          case rel => exact ⟨j + 1, by omega, two_up j, hfin, hdf, hbf⟩
          case measure => simp [intOf] <;> omega
        · obtain rfl : j = 5 := by omega
          go_wp2_with fail
          go_ret
          obtain ⟨g, cap, hv, h1, h2, h3, h4⟩ := Row3.own HO.out (by decide)
          have e1 : foldP (off 11) ++ dblT3.take 5 = Tb.prs := by kernel_rfl
          rw [e1] at h4 h2 hv
          subst hv
          exact ⟨g, cap, rfl, h2, h3, h4, by rw [HB.out]; exact hB.trans (hBr.mono (by omega))⟩
end Go.Proofs.Ytahapmpohaaigaa
