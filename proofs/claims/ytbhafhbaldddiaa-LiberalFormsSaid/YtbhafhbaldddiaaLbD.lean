/- The walks of a liberal reader's steps: maybe, must. -/
import Derived.Test.YtbhafhbaldddiaaLbC
import Derived.Test.YtbhafhbaldddiaaLbB
namespace Go.Proofs.Ytbhafhbaldddiaa
open Go.RowKit
open Go
open Lb (R Wd)
set_option linter.unusedVariables false
theorem lmk_ne {a b : Wd} (h : ¬ a = b) : ((Ml.mk a).toList == (Ml.mk b).toList) = false := by
  rw [beq_eq_false_iff_ne]
  intro e
  apply h
  rw [Go.Lib.toList_data, Go.Lib.toList_data] at e
  exact Ml.mk_inj (ByteArray.ext (Array.toList_inj.1 e))
section
variable {w0 W : World} {B : Nat} {r : R}
set_option maxHeartbeats 1000000 in
theorem Rd.maybe (h : Rd w0 W B r) (u : Wd) (hu : u ≠ []) (hu2 : u.length ≤ 100) : Calls Try.prog 32 #[.pointer (some ⟨B, 0, none⟩), .string (Ml.mk u)] W (RdPost (.bool (Lb.mbB u r)) w0 B (Lb.mbR u r)) := by
  have hn := h.next
  have hs := h.2.2.2.2.2.nx
  unfold RdPost
  by_cases hx : Lb.nx r = u
  · have e1 : Lb.mbB u r = true := by unfold Lb.mbB; simp [hx]
    have e2 : Lb.mbR u r = Lb.tl r := by unfold Lb.mbR; rw [if_pos hx]
    rw [e1, e2]
    rw [hx] at hn
    clear e1 e2 h
    have hl : r.l ≠ [] := fun e => hu (by rw [← hx]; unfold Lb.nx; rw [e]; rfl)
    have HL := Lib.hid hl
    clear hl hs hu hx
    have hsz : (Ml.mk u).size = u.length := rfl
    generalize Ml.mk u = T at hn hsz
    generalize u.length = n at hsz hu2
    go_enter Try.func32, Try.ntmps32
    go_wp2_with (go_at_call 37; refine hn.mono ?_; rintro e w1 ⟨rfl, h1⟩; have ht := h1.tail_ HL.out; clear h1; rcases ht with ⟨g, i, k0, kx, f0, H⟩ | ⟨g, i, n', c, k0, hc, kx, f0, H⟩)
    all_goals
      go_ret
      exact ⟨rfl, H.out⟩
  · have e1 : Lb.mbB u r = false := by unfold Lb.mbB; simp [hx]
    have e2 : Lb.mbR u r = r := by unfold Lb.mbR; rw [if_neg hx]
    rw [e1, e2]
    have hne := lmk_ne hx
    have h1 : (Ml.mk (Lb.nx r)).size = (Lb.nx r).length := rfl
    have h2 : (Ml.mk u).size = u.length := rfl
    clear e1 e2 h hx
    generalize Ml.mk (Lb.nx r) = T at hn hne h1
    generalize Ml.mk u = U at hne h2
    generalize (Lb.nx r).length = n at h1 hs
    generalize u.length = m at h2 hu2
    go_enter Try.func32, Try.ntmps32
    go_wp2_with (go_at_call 37; refine hn.mono ?_; rintro e w1 ⟨rfl, h1⟩; have H := Lib.hid h1; clear h1)
    go_ret
    exact ⟨rfl, H.out⟩
set_option maxHeartbeats 1000000 in
theorem Rd.must (h : Rd w0 W B r) (u : Wd) (hu : u ≠ []) (hu2 : u.length ≤ 100) : Calls Try.prog 31 #[.pointer (some ⟨B, 0, none⟩), .string (Ml.mk u)] W (RdPost (.tuple #[]) w0 B (Lb.muR u r)) := by
  have hm := h.maybe u hu hu2
  unfold RdPost
  by_cases hx : Lb.nx r = u
  · have e1 : Lb.mbB u r = true := by unfold Lb.mbB; simp [hx]
    have e2 : Lb.mbR u r = Lb.tl r := by unfold Lb.mbR; rw [if_pos hx]
    have e3 : Lb.muR u r = Lb.tl r := by unfold Lb.muR; rw [if_pos hx]
    rw [e1, e2] at hm
    rw [e3]
    clear e1 e2 e3 h hx
    generalize Ml.mk u = T at hm
    go_enter Try.func31, Try.ntmps31
    go_wp2_with (go_at_call 32; refine hm.mono ?_; rintro e w1 ⟨rfl, h1⟩; obtain ⟨_, _, -, -, ⟨k1, -⟩, -, f1, -⟩ := h1.open_; have h2 : Rd w0 (w1.setCell ⟨B, 1, none⟩ (.bool (Lb.tl r).bad)) B (Lb.tl r) := h1.bad1 (Lb.tl r).bad; have H := Lib.hid h2; clear h1 h2; generalize (Lb.tl r).bad = bd at *)
    go_end0
    exact ⟨rfl, H.out⟩
  · have e1 : Lb.mbB u r = false := by unfold Lb.mbB; simp [hx]
    have e2 : Lb.mbR u r = r := by unfold Lb.mbR; rw [if_neg hx]
    have e3 : Lb.muR u r = Lb.mkBad r := by unfold Lb.muR; rw [if_neg hx]
    rw [e1, e2] at hm
    rw [e3]
    clear e1 e2 e3 h hx
    generalize Ml.mk u = T at hm
    go_enter Try.func31, Try.ntmps31
    go_wp2_with (go_at_call 32; refine hm.mono ?_; rintro e w1 ⟨rfl, h1⟩; obtain ⟨_, _, -, -, ⟨k1, -⟩, -, f1, -⟩ := h1.open_; have H := Lib.hid h1.mkBad; clear h1)
    go_end0
    exact ⟨rfl, H.out⟩
theorem lu8_and15 (n : Nat) (h : n < 256) : bits .and .u8 (n : Int) 15 = ((n % 16 : Nat) : Int) := by
  have h1 : (List.range 256).all (fun n => decide (bits .and .u8 (n : Int) 15 = ((n % 16 : Nat) : Int))) = true := by decide +kernel
  exact of_decide_eq_true (List.all_eq_true.1 h1 n (List.mem_range.2 h))
theorem lw64 (x : Int) : wrap64 x = IntKind.i64.wrap x := by
  rw [IntKind.wrap_i64]
  unfold wrap64
  omega
theorem numL_step (x : Wd) (j : Nat) (hj : j < x.length) : Lb.numL 0 (x.take (j + 1)) = IntKind.i64.wrap (IntKind.i64.wrap (Lb.numL 0 (x.take j) * 10) + (((x.getD j 0).toNat % 16 : Nat) : Int)) := by
  have e : x.take (j + 1) = x.take j ++ [x.getD j 0] := by
    rw [List.take_succ_eq_append_getElem hj]
    simp [List.getD_eq_getElem?_getD, hj]
  rw [e]
  unfold Lb.numL
  rw [List.foldl_append]
  rfl
set_option maxHeartbeats 1000000 in
theorem Rd.number (h : Rd w0 W B r) (lo hi : Nat) (hlo : 1 ≤ lo) (hhi : hi ≤ 1048576) : Calls Try.prog 30 #[.pointer (some ⟨B, 0, none⟩), .int .i64 (lo : Int), .int .i64 (hi : Int)] W (RdPost (.int .i64 (Lb.nmV lo hi r)) w0 B (Lb.nmR lo hi r)) := by
  have hd := h.digits lo hi hlo hhi
  have hs := h.2.2.2.2.2.nx
  clear h
  unfold RdPost Lb.nmV Lb.nmR
  obtain ⟨b, hb⟩ : ∃ b, Lb.dgs lo hi r = b := ⟨_, rfl⟩
  rw [hb] at hd
  rw [hb]
  have HB := Lib.hid hb
  clear hb
  cases b
  · rw [if_neg (by decide), if_neg (by decide)]
    go_enter Try.func30, Try.ntmps30
    go_wp2_with (go_at_call 33; refine hd.mono ?_; rintro e w1 ⟨rfl, h1⟩; obtain ⟨_, _, -, -, ⟨k1, -⟩, -, f1, -⟩ := h1.open_; have H := Lib.hid h1.mkBad; clear h1)
    go_ret
    exact ⟨rfl, H.out⟩
  · rw [if_pos rfl, if_pos rfl]
    have hl : r.l ≠ [] := fun e => by
      have := HB.out
      unfold Lb.dgs Lb.nx at this
      rw [e] at this
      cases this
    have HL := Lib.hid hl
    clear hl
    obtain ⟨x, hx⟩ : ∃ x, Lb.nx r = x := ⟨_, rfl⟩
    rw [hx] at hs
    obtain ⟨v, hv⟩ : ∃ v, Lb.numL 0 (Lb.nx r) = v := ⟨_, rfl⟩
    rw [hv]
    have HV := Lib.hid hv
    have HX := Lib.hid hx
    clear hv hx
    go_enter Try.func30, Try.ntmps30
    go_wp2_with (go_at_call 33; refine hd.mono ?_; rintro e w1 ⟨rfl, h1⟩; obtain ⟨cap, W2, hcv, hrow, hB⟩ := bytes_of x w1; obtain ⟨g, i, n', c, k0, hc, kx⟩ := h1.head_ HL.out; rw [HX.out] at kx; have H2 := Lib.hid (h1.quiet hB); have HRW := Lib.hid hrow; clear h1 hrow hB)
    clear hcv k0 kx hc hd
    obtain ⟨z, hz⟩ : ∃ z, x.length = z := ⟨_, rfl⟩
    rw [hz] at hs
    rw [hz]
    have HZ := Lib.hid hz
    clear hz
    generalize w1.heap.size = G at *
    go_loop [6, 25] (fun v k => ∃ j : Nat, j ≤ z ∧ v = .int .i64 (Lb.numL 0 (x.take j)) ∧ k = .int .i64 j) (fun _ k => z - (intOf k).toNat)
    case atStart => exact ⟨0, by omega, rfl, rfl⟩
    case round =>
      obtain ⟨j, hj, rfl, rfl⟩ := hrel
      by_cases hlt : j < z
      · have hlt' : j < x.length := by rw [HZ.out]; exact hlt
        have c0 := HRW.out.1 j hlt'
        have e0 : lwAt x 0 j = x.getD j 0 := by unfold lwAt; rw [if_neg (by omega)]
        rw [e0] at c0
        have hst := numL_step x j hlt'
        clear e0 hlt'
        have l1 : (j : Int) < z := by omega
        have h256 : (x.getD j 0).toNat < 256 := UInt8.toNat_lt _
        have h15 := lu8_and15 _ h256
        obtain ⟨a, ha⟩ : ∃ a, Lb.numL 0 (x.take j) = a := ⟨_, rfl⟩
        obtain ⟨cn, hcn⟩ : ∃ cn, (x.getD j 0).toNat = cn := ⟨_, rfl⟩
        rw [ha, hcn] at hst
        rw [hcn] at c0 h256 h15
        rw [ha]
        have HST := Lib.hid hst
        clear hst ha hcn
        go_wp2
        go_round
        case rel => exact ⟨j + 1, by omega, by rw [HST.out, ← lw64, ← lw64, show ((cn % 16 : Nat) : Int) = (cn : Int) % 16 by omega], by go_num⟩
        case measure => simp [intOf]; omega
      · obtain rfl : j = z := by omega
        have hv : Lb.numL 0 (x.take j) = v := by
          rw [← HV.out, HX.out, ← HZ.out, List.take_length]
        rw [hv]
        have ht := H2.out.tail_ HL.out
        clear hv
        rcases ht with ⟨g, i, k0, kx, f0, H⟩ | ⟨g, i, n', c, k0, hc, kx, f0, H⟩
        all_goals
          go_wp2
          go_ret
          exact ⟨rfl, H.out⟩
end
end Go.Proofs.Ytbhafhbaldddiaa
