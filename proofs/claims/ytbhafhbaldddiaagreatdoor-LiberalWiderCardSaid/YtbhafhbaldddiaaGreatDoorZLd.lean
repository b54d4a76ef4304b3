/- The walks of a liberal reader's month, weekday, and of the second and third form. The walk of a liberal reader's zone. -/
import Derived.Test.YtbhafhbaldddiaaGreatDoorZLc
import Derived.BigRegion
namespace Go.Proofs.YtbhafhbaldddiaaGreatDoor
open Go.RowKit
open Go
open Lb (R Wd)
set_option linter.unusedVariables false
section
variable {w0 W : World} {B : Nat} {r : R}
theorem nx_ne {r : R} (h : Lb.nx r ≠ []) : r.l ≠ [] := fun e => h (by unfold Lb.nx; rw [e]; rfl)
set_option maxHeartbeats 2000000 in
theorem Rd.month (h : Rd w0 W B r) : Calls Tryz.prog 61 #[.pointer (some ⟨B, 0, none⟩)] W (RdPost (.tuple #[]) w0 B (Lb.moR r)) := by
  have hs := h.2.2.2.2.2.nx
  have H := Lib.hid h
  clear h
  unfold RdPost
  obtain ⟨v, hv⟩ : ∃ v, Lb.monF (Lb.nx r) = v := ⟨_, rfl⟩
  have hm := lmon_any (Lb.nx r) hs
  rw [hv] at hm
  by_cases h0 : v = 0
  · subst h0
    have e : Lb.moR r = Lb.mkBad (Lb.sMo 0 r) := by unfold Lb.moR; rw [if_pos hv]
    rw [e]
    clear e hv
    go_enter Tryz.func61, Tryz.ntmps61
    go_wp2_with fail
    refine H.out.next.mono ?_
    rintro e w1 ⟨rfl, h1⟩
    have H1 := Lib.hid h1
    clear h1 H
    go_wp2_with fail
    refine (hm _).mono ?_
    rintro e w2 ⟨rfl, hB⟩
    have h1 := H1.out.quiet hB
    clear H1 hB hm
    obtain ⟨_, _, -, -, ⟨k1, k2, k3, k4, k5, k6, k7, k8⟩, f0, f1, f2, f3, f4, f5, f6, f7, f8⟩ := h1.open_
    have H2 := Lib.hid (h1.sMo 0).mkBad
    clear h1
    go_wp2
    refine bodyPost_ret (results_none rfl _ _ _) rfl ?_
    exact ⟨rfl, H2.out⟩
  · have e : Lb.moR r = Lb.tl (Lb.sMo v r) := by unfold Lb.moR; rw [hv, if_neg h0]
    rw [e]
    have hl : r.l ≠ [] := nx_ne (fun k => h0 (by rw [← hv, k]; rfl))
    have HL := Lib.hid hl
    clear e hv hl
    have hne : (v == 0) = false := by simpa using h0
    go_enter Tryz.func61, Tryz.ntmps61
    go_wp2_with fail
    refine H.out.next.mono ?_
    rintro e w1 ⟨rfl, h1⟩
    have H1 := Lib.hid h1
    clear h1 H
    go_wp2_with fail
    refine (hm _).mono ?_
    rintro e w2 ⟨rfl, hB⟩
    have h1 := H1.out.quiet hB
    clear H1 hB hm
    obtain ⟨_, _, -, -, ⟨k1, k2, k3, k4, k5, k6, k7, k8⟩, f0, f1, f2, f3, f4, f5, f6, f7, f8⟩ := h1.open_
    have ht := h1.tail2 HL.out
    unfold Tail2 at ht
    have H2 := Lib.hid (h1.sMo v)
    clear h1
    rcases ht with ⟨g, i, k0, kx, f0, hp⟩ | ⟨g, i, n, c, k0, hc, kx, f0, hp⟩
    · have H3 := Lib.hid (H2.out.tl _ (hp.out.setB 3 (.int .i64 v)))
      clear H2 hp
      go_wp2
      go_end0
      exact ⟨rfl, H3.out⟩
    · have H3 := Lib.hid (H2.out.tl _ (hp.out.setB 3 (.int .i64 v)))
      clear H2 hp
      go_wp2
      go_end0
      exact ⟨rfl, H3.out⟩
set_option maxHeartbeats 2000000 in
theorem Rd.weekday (h : Rd w0 W B r) : Calls Tryz.prog 60 #[.pointer (some ⟨B, 0, none⟩)] W (RdPost (.tuple #[]) w0 B (Lb.wkR r)) := by
  have hs := h.2.2.2.2.2.nx
  have H := Lib.hid h
  clear h
  unfold RdPost Lb.wkR
  obtain ⟨v, hv⟩ : ∃ v, Lb.wkB (Lb.nx r) = v := ⟨_, rfl⟩
  have hm := lwk_any (Lb.nx r) hs
  rw [hv] at hm
  rw [hv]
  cases v
  · rw [if_neg (by decide)]
    clear hv
    go_enter Tryz.func60, Tryz.ntmps60
    go_wp2_with fail
    refine H.out.next.mono ?_
    rintro e w1 ⟨rfl, h1⟩
    have H1 := Lib.hid h1
    clear h1 H
    go_wp2_with fail
    refine (hm _).mono ?_
    rintro e w2 ⟨rfl, hB⟩
    have H2 := Lib.hid (H1.out.quiet hB)
    clear H1 hB hm
    go_wp2_with fail
    refine H2.out.mb44.mono ?_
    rintro e w3 ⟨rfl, h1⟩
    have H3 := Lib.hid h1
    clear H2 h1
    go_wp2
    go_end0
    exact ⟨rfl, H3.out⟩
  · rw [if_pos rfl]
    have hl : r.l ≠ [] := nx_ne (fun k => by rw [k] at hv; cases hv)
    have HL := Lib.hid hl
    clear hv hl
    go_enter Tryz.func60, Tryz.ntmps60
    go_wp2_with fail
    refine H.out.next.mono ?_
    rintro e w1 ⟨rfl, h1⟩
    have H1 := Lib.hid h1
    clear h1 H
    go_wp2_with fail
    refine (hm _).mono ?_
    rintro e w2 ⟨rfl, hB⟩
    have h1 := H1.out.quiet hB
    clear H1 hB hm
    have ht := h1.tail_ HL.out
    unfold TailPost at ht
    clear h1
    rcases ht with ⟨g, i, k0, kx, f0, H2⟩ | ⟨g, i, n, c, k0, hc, kx, f0, H2⟩
    · go_wp2_with fail
      refine H2.out.mb44.mono ?_
      rintro e w3 ⟨rfl, h1⟩
      have H3 := Lib.hid h1
      clear H2 h1
      go_wp2
      go_end0
      exact ⟨rfl, H3.out⟩
    · go_wp2_with fail
      refine H2.out.mb44.mono ?_
      rintro e w3 ⟨rfl, h1⟩
      have H3 := Lib.hid h1
      clear H2 h1
      go_wp2
      go_end0
      exact ⟨rfl, H3.out⟩
set_option maxHeartbeats 2000000 in
theorem Rd.third (h : Rd w0 W B r) : Calls Tryz.prog 23 #[.pointer (some ⟨B, 0, none⟩)] W (RdPost (.tuple #[]) w0 B (Lb.thd r)) := by
  have H := Lib.hid h
  clear h
  unfold RdPost Lb.thd
  go_enter Tryz.func23, Tryz.ntmps23
  go_wp2_with fail
  refine H.out.weekday.mono ?_
  rintro e w1 ⟨rfl, h1⟩
  obtain ⟨_, _, -, -, ⟨k1, k2, k3, k4, k5, k6, k7, k8⟩, f0, f1, f2, f3, f4, f5, f6, f7, f8⟩ := h1.open_
  have H1 : Hid (Rd w0 _ B (Lb.wkR r)) := Lib.hid (h1)
  clear H h1
  go_wp2_with fail
  refine H1.out.month.mono ?_
  rintro e w2 ⟨rfl, h1⟩
  clear k1 k2 k3 k4 k5 k6 k7 k8 f0 f1 f2 f3 f4 f5 f6 f7 f8
  obtain ⟨_, _, -, -, ⟨k1, k2, k3, k4, k5, k6, k7, k8⟩, f0, f1, f2, f3, f4, f5, f6, f7, f8⟩ := h1.open_
  have H2 : Hid (Rd w0 _ B (Lb.moR (Lb.wkR r))) := Lib.hid (h1)
  clear H1 h1
  go_wp2_with fail
  refine H2.out.num12.mono ?_
  rintro e w3 ⟨rfl, h1⟩
  clear k1 k2 k3 k4 k5 k6 k7 k8 f0 f1 f2 f3 f4 f5 f6 f7 f8
  obtain ⟨_, _, -, -, ⟨k1, k2, k3, k4, k5, k6, k7, k8⟩, f0, f1, f2, f3, f4, f5, f6, f7, f8⟩ := h1.open_
  have H3 : Hid (Rd w0 _ B (Lb.nmD (Lb.moR (Lb.wkR r)))) := Lib.hid (h1.sD _)
  clear H2 h1
  go_wp2_with fail
  refine H3.out.mb44.mono ?_
  rintro e w4 ⟨rfl, h1⟩
  clear k1 k2 k3 k4 k5 k6 k7 k8 f0 f1 f2 f3 f4 f5 f6 f7 f8
  obtain ⟨_, _, -, -, ⟨k1, k2, k3, k4, k5, k6, k7, k8⟩, f0, f1, f2, f3, f4, f5, f6, f7, f8⟩ := h1.open_
  have H4 : Hid (Rd w0 _ B (Lb.mbR [44] (Lb.nmD (Lb.moR (Lb.wkR r))))) := Lib.hid (h1)
  clear H3 h1
  go_wp2_with fail
  refine H4.out.num44.mono ?_
  rintro e w5 ⟨rfl, h1⟩
  clear k1 k2 k3 k4 k5 k6 k7 k8 f0 f1 f2 f3 f4 f5 f6 f7 f8
  obtain ⟨_, _, -, -, ⟨k1, k2, k3, k4, k5, k6, k7, k8⟩, f0, f1, f2, f3, f4, f5, f6, f7, f8⟩ := h1.open_
  have H5 : Hid (Rd w0 _ B (Lb.nmY (Lb.mbR [44] (Lb.nmD (Lb.moR (Lb.wkR r)))))) := Lib.hid (h1.sY _)
  clear H4 h1
  go_wp2_with fail
  go_end0
  exact ⟨rfl, H5.out⟩
set_option maxHeartbeats 2000000 in
theorem Rd.second (h : Rd w0 W B r) : Calls Tryz.prog 22 #[.pointer (some ⟨B, 0, none⟩)] W (RdPost (.tuple #[]) w0 B (Lb.snd r)) := by
  have H := Lib.hid h
  clear h
  unfold RdPost Lb.snd
  obtain ⟨q, hq⟩ : ∃ q, Lb.mbR [45] (Lb.moR (Lb.mbR [45] (Lb.nmD (Lb.wkR r)))) = q := ⟨_, rfl⟩
  rw [hq]
  have HQ := Lib.hid hq
  clear hq
  unfold Lb.nmS
  obtain ⟨b, hb⟩ : ∃ b, Lb.dgs 2 2 q = b := ⟨_, rfl⟩
  rw [hb]
  cases b
  · rw [if_neg (by decide)]
    go_enter Tryz.func22, Tryz.ntmps22
    go_wp2_with fail
    refine H.out.weekday.mono ?_
    rintro e w1 ⟨rfl, h1⟩
    obtain ⟨_, _, -, -, ⟨k1, k2, k3, k4, k5, k6, k7, k8⟩, f0, f1, f2, f3, f4, f5, f6, f7, f8⟩ := h1.open_
    have H1 : Hid (Rd w0 _ B (Lb.wkR r)) := Lib.hid (h1)
    clear H h1
    go_wp2_with fail
    refine H1.out.num12.mono ?_
    rintro e w2 ⟨rfl, h1⟩
    clear k1 k2 k3 k4 k5 k6 k7 k8 f0 f1 f2 f3 f4 f5 f6 f7 f8
    obtain ⟨_, _, -, -, ⟨k1, k2, k3, k4, k5, k6, k7, k8⟩, f0, f1, f2, f3, f4, f5, f6, f7, f8⟩ := h1.open_
    have H2 : Hid (Rd w0 _ B (Lb.nmD (Lb.wkR r))) := Lib.hid (h1.sD _)
    clear H1 h1
    go_wp2_with fail
    refine H2.out.mb45.mono ?_
    rintro e w3 ⟨rfl, h1⟩
    clear k1 k2 k3 k4 k5 k6 k7 k8 f0 f1 f2 f3 f4 f5 f6 f7 f8
    obtain ⟨_, _, -, -, ⟨k1, k2, k3, k4, k5, k6, k7, k8⟩, f0, f1, f2, f3, f4, f5, f6, f7, f8⟩ := h1.open_
    have H3 : Hid (Rd w0 _ B (Lb.mbR [45] (Lb.nmD (Lb.wkR r)))) := Lib.hid (h1)
    clear H2 h1
    go_wp2_with fail
    refine H3.out.month.mono ?_
    rintro e w4 ⟨rfl, h1⟩
    clear k1 k2 k3 k4 k5 k6 k7 k8 f0 f1 f2 f3 f4 f5 f6 f7 f8
    obtain ⟨_, _, -, -, ⟨k1, k2, k3, k4, k5, k6, k7, k8⟩, f0, f1, f2, f3, f4, f5, f6, f7, f8⟩ := h1.open_
    have H4 : Hid (Rd w0 _ B (Lb.moR (Lb.mbR [45] (Lb.nmD (Lb.wkR r))))) := Lib.hid (h1)
    clear H3 h1
    go_wp2_with fail
    refine H4.out.mb45.mono ?_
    rintro e w5 ⟨rfl, h1⟩
    clear k1 k2 k3 k4 k5 k6 k7 k8 f0 f1 f2 f3 f4 f5 f6 f7 f8
    obtain ⟨_, _, -, -, ⟨k1, k2, k3, k4, k5, k6, k7, k8⟩, f0, f1, f2, f3, f4, f5, f6, f7, f8⟩ := h1.open_
    have H5 : Hid (Rd w0 _ B (Lb.mbR [45] (Lb.moR (Lb.mbR [45] (Lb.nmD (Lb.wkR r)))))) := Lib.hid (h1)
    clear H4 h1
    go_wp2_with fail
    rw [HQ.out] at H5
    have hm := H5.out.dig22
    rw [hb] at hm
    refine hm.mono ?_
    clear hm
    rintro e w6 ⟨rfl, h1⟩
    clear k1 k2 k3 k4 k5 k6 k7 k8 f0 f1 f2 f3 f4 f5 f6 f7 f8
    obtain ⟨_, _, -, -, ⟨k1, k2, k3, k4, k5, k6, k7, k8⟩, f0, f1, f2, f3, f4, f5, f6, f7, f8⟩ := h1.open_
    have H6 : Hid (Rd w0 _ B (q)) := Lib.hid (h1)
    clear H5 h1
    go_wp2_with fail
    refine H6.out.num44.mono ?_
    rintro e w7 ⟨rfl, h1⟩
    clear k1 k2 k3 k4 k5 k6 k7 k8 f0 f1 f2 f3 f4 f5 f6 f7 f8
    obtain ⟨_, _, -, -, ⟨k1, k2, k3, k4, k5, k6, k7, k8⟩, f0, f1, f2, f3, f4, f5, f6, f7, f8⟩ := h1.open_
    have H7 : Hid (Rd w0 _ B (Lb.nmY q)) := Lib.hid (h1.sY _)
    clear H6 h1
    go_wp2_with fail
    refine bodyPost_ret (results_none rfl _ _ _) rfl ?_
    exact ⟨rfl, H7.out⟩
  · rw [if_pos rfl]
    have hbd := Lb.nmV_bd 2 2 q (by omega)
    obtain ⟨n, hn⟩ : ∃ n, Lb.nmV 2 2 q = n := ⟨_, rfl⟩
    rw [hn] at hbd
    rw [hn]
    obtain ⟨hb1, hb2⟩ := hbd
    by_cases l : n < 50
    · rw [if_pos (by omega)]
      have l2 : 1900 + n < 1950 := by omega
      go_enter Tryz.func22, Tryz.ntmps22
      go_wp2_with fail
      refine H.out.weekday.mono ?_
      rintro e w1 ⟨rfl, h1⟩
      obtain ⟨_, _, -, -, ⟨k1, k2, k3, k4, k5, k6, k7, k8⟩, f0, f1, f2, f3, f4, f5, f6, f7, f8⟩ := h1.open_
      have H1 : Hid (Rd w0 _ B (Lb.wkR r)) := Lib.hid (h1)
      clear H h1
      go_wp2_with fail
      refine H1.out.num12.mono ?_
      rintro e w2 ⟨rfl, h1⟩
      clear k1 k2 k3 k4 k5 k6 k7 k8 f0 f1 f2 f3 f4 f5 f6 f7 f8
      obtain ⟨_, _, -, -, ⟨k1, k2, k3, k4, k5, k6, k7, k8⟩, f0, f1, f2, f3, f4, f5, f6, f7, f8⟩ := h1.open_
      have H2 : Hid (Rd w0 _ B (Lb.nmD (Lb.wkR r))) := Lib.hid (h1.sD _)
      clear H1 h1
      go_wp2_with fail
      refine H2.out.mb45.mono ?_
      rintro e w3 ⟨rfl, h1⟩
      clear k1 k2 k3 k4 k5 k6 k7 k8 f0 f1 f2 f3 f4 f5 f6 f7 f8
      obtain ⟨_, _, -, -, ⟨k1, k2, k3, k4, k5, k6, k7, k8⟩, f0, f1, f2, f3, f4, f5, f6, f7, f8⟩ := h1.open_
      have H3 : Hid (Rd w0 _ B (Lb.mbR [45] (Lb.nmD (Lb.wkR r)))) := Lib.hid (h1)
      clear H2 h1
      go_wp2_with fail
      refine H3.out.month.mono ?_
      rintro e w4 ⟨rfl, h1⟩
      clear k1 k2 k3 k4 k5 k6 k7 k8 f0 f1 f2 f3 f4 f5 f6 f7 f8
      obtain ⟨_, _, -, -, ⟨k1, k2, k3, k4, k5, k6, k7, k8⟩, f0, f1, f2, f3, f4, f5, f6, f7, f8⟩ := h1.open_
      have H4 : Hid (Rd w0 _ B (Lb.moR (Lb.mbR [45] (Lb.nmD (Lb.wkR r))))) := Lib.hid (h1)
      clear H3 h1
      go_wp2_with fail
      refine H4.out.mb45.mono ?_
      rintro e w5 ⟨rfl, h1⟩
      clear k1 k2 k3 k4 k5 k6 k7 k8 f0 f1 f2 f3 f4 f5 f6 f7 f8
      obtain ⟨_, _, -, -, ⟨k1, k2, k3, k4, k5, k6, k7, k8⟩, f0, f1, f2, f3, f4, f5, f6, f7, f8⟩ := h1.open_
      have H5 : Hid (Rd w0 _ B (Lb.mbR [45] (Lb.moR (Lb.mbR [45] (Lb.nmD (Lb.wkR r)))))) := Lib.hid (h1)
      clear H4 h1
      go_wp2_with fail
      rw [HQ.out] at H5
      have hm := H5.out.dig22
      rw [hb] at hm
      refine hm.mono ?_
      clear hm
      rintro e w6 ⟨rfl, h1⟩
      clear k1 k2 k3 k4 k5 k6 k7 k8 f0 f1 f2 f3 f4 f5 f6 f7 f8
      obtain ⟨_, _, -, -, ⟨k1, k2, k3, k4, k5, k6, k7, k8⟩, f0, f1, f2, f3, f4, f5, f6, f7, f8⟩ := h1.open_
      have H6 : Hid (Rd w0 _ B (q)) := Lib.hid (h1)
      clear H5 h1
      go_wp2_with fail
      have hm := H6.out.num22
      rw [hn] at hm
      refine hm.mono ?_
      clear hm
      rintro e w7 ⟨rfl, h1⟩
      clear k1 k2 k3 k4 k5 k6 k7 k8 f0 f1 f2 f3 f4 f5 f6 f7 f8
      obtain ⟨_, _, -, -, ⟨k1, k2, k3, k4, k5, k6, k7, k8⟩, f0, f1, f2, f3, f4, f5, f6, f7, f8⟩ := h1.open_
      have h2 := (h1.sY (1900 + n)).sY (2000 + n)
      have H7 : Hid (Rd w0 _ B (Lb.sY (2000 + n) (Lb.nmR 2 2 q))) := Lib.hid h2
      clear h2
      have e19 : 1900 + n + 100 = 2000 + n := by omega
      clear H6 h1
      go_wp2_with fail
      go_end0
      exact ⟨rfl, H7.out⟩
    · rw [if_neg (by omega)]
      have l2 : ¬ 1900 + n < 1950 := by omega
      go_enter Tryz.func22, Tryz.ntmps22
      go_wp2_with fail
      refine H.out.weekday.mono ?_
      rintro e w1 ⟨rfl, h1⟩
      obtain ⟨_, _, -, -, ⟨k1, k2, k3, k4, k5, k6, k7, k8⟩, f0, f1, f2, f3, f4, f5, f6, f7, f8⟩ := h1.open_
      have H1 : Hid (Rd w0 _ B (Lb.wkR r)) := Lib.hid (h1)
      clear H h1
      go_wp2_with fail
      refine H1.out.num12.mono ?_
      rintro e w2 ⟨rfl, h1⟩
      clear k1 k2 k3 k4 k5 k6 k7 k8 f0 f1 f2 f3 f4 f5 f6 f7 f8
      obtain ⟨_, _, -, -, ⟨k1, k2, k3, k4, k5, k6, k7, k8⟩, f0, f1, f2, f3, f4, f5, f6, f7, f8⟩ := h1.open_
      have H2 : Hid (Rd w0 _ B (Lb.nmD (Lb.wkR r))) := Lib.hid (h1.sD _)
      clear H1 h1
      go_wp2_with fail
      refine H2.out.mb45.mono ?_
      rintro e w3 ⟨rfl, h1⟩
      clear k1 k2 k3 k4 k5 k6 k7 k8 f0 f1 f2 f3 f4 f5 f6 f7 f8
      obtain ⟨_, _, -, -, ⟨k1, k2, k3, k4, k5, k6, k7, k8⟩, f0, f1, f2, f3, f4, f5, f6, f7, f8⟩ := h1.open_
      have H3 : Hid (Rd w0 _ B (Lb.mbR [45] (Lb.nmD (Lb.wkR r)))) := Lib.hid (h1)
      clear H2 h1
      go_wp2_with fail
      refine H3.out.month.mono ?_
      rintro e w4 ⟨rfl, h1⟩
      clear k1 k2 k3 k4 k5 k6 k7 k8 f0 f1 f2 f3 f4 f5 f6 f7 f8
      obtain ⟨_, _, -, -, ⟨k1, k2, k3, k4, k5, k6, k7, k8⟩, f0, f1, f2, f3, f4, f5, f6, f7, f8⟩ := h1.open_
      have H4 : Hid (Rd w0 _ B (Lb.moR (Lb.mbR [45] (Lb.nmD (Lb.wkR r))))) := Lib.hid (h1)
      clear H3 h1
      go_wp2_with fail
      refine H4.out.mb45.mono ?_
      rintro e w5 ⟨rfl, h1⟩
      clear k1 k2 k3 k4 k5 k6 k7 k8 f0 f1 f2 f3 f4 f5 f6 f7 f8
      obtain ⟨_, _, -, -, ⟨k1, k2, k3, k4, k5, k6, k7, k8⟩, f0, f1, f2, f3, f4, f5, f6, f7, f8⟩ := h1.open_
      have H5 : Hid (Rd w0 _ B (Lb.mbR [45] (Lb.moR (Lb.mbR [45] (Lb.nmD (Lb.wkR r)))))) := Lib.hid (h1)
      clear H4 h1
      go_wp2_with fail
      rw [HQ.out] at H5
      have hm := H5.out.dig22
      rw [hb] at hm
      refine hm.mono ?_
      clear hm
      rintro e w6 ⟨rfl, h1⟩
      clear k1 k2 k3 k4 k5 k6 k7 k8 f0 f1 f2 f3 f4 f5 f6 f7 f8
      obtain ⟨_, _, -, -, ⟨k1, k2, k3, k4, k5, k6, k7, k8⟩, f0, f1, f2, f3, f4, f5, f6, f7, f8⟩ := h1.open_
      have H6 : Hid (Rd w0 _ B (q)) := Lib.hid (h1)
      clear H5 h1
      go_wp2_with fail
      have hm := H6.out.num22
      rw [hn] at hm
      refine hm.mono ?_
      clear hm
      rintro e w7 ⟨rfl, h1⟩
      clear k1 k2 k3 k4 k5 k6 k7 k8 f0 f1 f2 f3 f4 f5 f6 f7 f8
      obtain ⟨_, _, -, -, ⟨k1, k2, k3, k4, k5, k6, k7, k8⟩, f0, f1, f2, f3, f4, f5, f6, f7, f8⟩ := h1.open_
      have H7 : Hid (Rd w0 _ B (Lb.sY (1900 + n) (Lb.nmR 2 2 q))) := Lib.hid (h1.sY (1900 + n))
      clear H6 h1
      go_wp2_with fail
      go_end0
      exact ⟨rfl, H7.out⟩
end
end Go.Proofs.YtbhafhbaldddiaaGreatDoor
namespace Go.Proofs.YtbhafhbaldddiaaGreatDoor
open Go.RowKit
open Go
open Lb (R Wd)
set_option linter.unusedVariables false
theorem Rd.fin2 {w0 W : World} {B : Nat} {r : R} {b b' : Bool} {x x' : Int} (h : Rd w0 ((W.setCell ⟨B, 1, none⟩ (.bool b)).setCell ⟨B, 8, none⟩ (.int .i64 x)) B r) (hb : b' = b) (hx : x' = x) : Rd w0 ((W.setCell ⟨B, 1, none⟩ (.bool b')).setCell ⟨B, 8, none⟩ (.int .i64 x')) B r := by
  subst hb; subst hx; exact h
theorem hr_bd (u : Wd) : -8 ≤ (Lb.hrF u).1 ∧ (Lb.hrF u).1 ≤ 0 := by
  unfold Lb.hrF
  have h : (Lb.zones.all fun p => decide (-8 ≤ p.2 ∧ p.2 ≤ 0)) = true := by decide +kernel
  split
  · rename_i p e
    exact of_decide_eq_true (List.all_eq_true.1 h p (List.mem_of_find?_eq_some e))
  · exact ⟨by show (-8 : Int) ≤ 0; decide, by show (0 : Int) ≤ 0; decide⟩
theorem nx_l {r : R} (h : r.l = []) : Lb.nx r = [] := by unfold Lb.nx; rw [h]; rfl
section
variable {w0 W : World} {B : Nat} {r : R}
set_option maxHeartbeats 4000000 in
set_option maxRecDepth 100000 in
theorem Rd.zone_plus (h : Rd w0 W B r) (hx : Lb.nx r = [43]) : Calls Tryz.prog 25 #[.pointer (some ⟨B, 0, none⟩)] W (RdPost (.tuple #[]) w0 B (Lb.znO (1) (Lb.tl r))) := by
  have hl : r.l ≠ [] := nx_ne (by rw [hx]; simp)
  have hb43 : Lb.mbB [43] r = true := by unfold Lb.mbB; rw [hx]; rfl
  obtain ⟨g, i, n', c', k0, hc, -⟩ := h.head_ hl
  have H := Lib.hid h
  clear h hl hx
  unfold RdPost Lb.znO
  obtain ⟨b, hd⟩ : ∃ b, Lb.dgs 4 4 (Lb.tl r) = b := ⟨_, rfl⟩
  rw [hd]
  cases b
  · rw [if_neg (by decide)]
    obtain ⟨b, hb⟩ : ∃ b, Lb.mbB [58] (Lb.nmR 2 2 (Lb.tl r)) = b := ⟨_, rfl⟩
    rw [hb]
    obtain ⟨hb1, hb2⟩ := Lb.nmV_bd 2 2 (Lb.tl r) (by omega)
    obtain ⟨v, hv⟩ : ∃ v, Lb.nmV 2 2 (Lb.tl r) = v := ⟨_, rfl⟩
    rw [hv] at hb1 hb2
    rw [hv]
    cases b
    · rw [if_neg (by decide)]
      go_enter Tryz.func25, Tryz.ntmps25
      go_wp2_with fail
      have hm := H.out.mb43
      rw [hb43, mb_yes hb43] at hm
      refine hm.mono ?_
      clear hm
      rintro e w1 ⟨rfl, h1⟩
      obtain ⟨_, _, -, -, ⟨k1, k2, k3, k4, k5, k6, k7, k8⟩, f0, f1, f2, f3, f4, f5, f6, f7, f8⟩ := h1.open_
      have H1 : Hid (Rd w0 _ B (Lb.tl r)) := Lib.hid (h1)
      clear H h1
      go_wp2_with fail
      have hm := H1.out.dig44
      rw [hd] at hm
      refine hm.mono ?_
      clear hm
      rintro e w2 ⟨rfl, h1⟩
      clear k1 k2 k3 k4 k5 k6 k7 k8 f0 f1 f2 f3 f4 f5 f6 f7 f8
      obtain ⟨_, _, -, -, ⟨k1, k2, k3, k4, k5, k6, k7, k8⟩, f0, f1, f2, f3, f4, f5, f6, f7, f8⟩ := h1.open_
      have H2 : Hid (Rd w0 _ B (Lb.tl r)) := Lib.hid (h1)
      clear H1 h1
      go_wp2_with fail
      have hm := H2.out.num22
      rw [hv] at hm
      refine hm.mono ?_
      clear hm
      rintro e w3 ⟨rfl, h1⟩
      clear k1 k2 k3 k4 k5 k6 k7 k8 f0 f1 f2 f3 f4 f5 f6 f7 f8
      obtain ⟨_, _, -, -, ⟨k1, k2, k3, k4, k5, k6, k7, k8⟩, f0, f1, f2, f3, f4, f5, f6, f7, f8⟩ := h1.open_
      have H3 : Hid (Rd w0 _ B (Lb.nmR 2 2 (Lb.tl r))) := Lib.hid (h1)
      clear H2 h1
      go_wp2_with fail
      have hm := H3.out.mb58
      rw [hb, mb_no hb] at hm
      refine hm.mono ?_
      clear hm
      rintro e w4 ⟨rfl, h1⟩
      clear k1 k2 k3 k4 k5 k6 k7 k8 f0 f1 f2 f3 f4 f5 f6 f7 f8
      obtain ⟨_, _, -, -, ⟨k1, k2, k3, k4, k5, k6, k7, k8⟩, f0, f1, f2, f3, f4, f5, f6, f7, f8⟩ := h1.open_
      have H4 : Hid (Rd w0 _ B (Lb.nmR 2 2 (Lb.tl r))) := Lib.hid (h1)
      clear H3 h1
      clear hv hb hb43
      obtain ⟨bd, hbd⟩ : ∃ bd, (Lb.nmR 2 2 (Lb.tl r)).bad = bd := ⟨_, rfl⟩
      rw [hbd] at k1
      have HBD := Lib.hid hbd
      clear hbd
      cases bd
      · rcases Int.lt_or_le 23 v with q1 | q1
        · skip
          have h2 := H4.out.bad1 true
          have H9 : Hid (Rd w0 _ B (Lb.znF (1) v (0 : Int) (Lb.nmR 2 2 (Lb.tl r)))) := Lib.hid (by
            have e : Lb.orB (decide (v > 23) || decide ((0 : Int) > 59)) (Lb.nmR 2 2 (Lb.tl r)) = { (Lb.nmR 2 2 (Lb.tl r)) with bad := true } := by
              unfold Lb.orB
              rw [HBD.out, decide_eq_true (show v > 23 from q1)]
              try rfl
            unfold Lb.znF
            rw [e]
            exact h2.sE _)
          clear h2
          go_wp2
          go_end0
          exact ⟨rfl, H9.out.fin2 (by first | rfl | (simp; omega)) (by omega)⟩
        · rcases Int.lt_or_le 59 (0 : Int) with q2 | q2
          · skip
            exact absurd q2 (by decide)
          · skip
            have h2 := H4.out.bad1 false
            have H9 : Hid (Rd w0 _ B (Lb.znF (1) v (0 : Int) (Lb.nmR 2 2 (Lb.tl r)))) := Lib.hid (by
              have e : Lb.orB (decide (v > 23) || decide ((0 : Int) > 59)) (Lb.nmR 2 2 (Lb.tl r)) = { (Lb.nmR 2 2 (Lb.tl r)) with bad := false } := by
                unfold Lb.orB
                rw [HBD.out, decide_eq_false (show ¬ v > 23 by omega), decide_eq_false (show ¬ (0 : Int) > 59 by omega)]
                try rfl
              unfold Lb.znF
              rw [e]
              exact h2.sE _)
            clear h2
            go_wp2
            go_end0
            exact ⟨rfl, H9.out.fin2 (by first | rfl | (simp; omega)) (by omega)⟩
      · skip
        have h2 := H4.out.bad1 true
        have H9 : Hid (Rd w0 _ B (Lb.znF (1) v (0 : Int) (Lb.nmR 2 2 (Lb.tl r)))) := Lib.hid (by
          have e : Lb.orB (decide (v > 23) || decide ((0 : Int) > 59)) (Lb.nmR 2 2 (Lb.tl r)) = { (Lb.nmR 2 2 (Lb.tl r)) with bad := true } := by
            unfold Lb.orB
            rw [HBD.out]
            try rfl
          unfold Lb.znF
          rw [e]
          exact h2.sE _)
        clear h2
        go_wp2
        go_end0
        exact ⟨rfl, H9.out.fin2 (by first | rfl | (simp; omega)) (by omega)⟩
    · rw [if_pos rfl]
      obtain ⟨hb3, hb4⟩ := Lb.nmV_bd 2 2 (Lb.tl (Lb.nmR 2 2 (Lb.tl r))) (by omega)
      obtain ⟨m, hm⟩ : ∃ m, Lb.nmV 2 2 (Lb.tl (Lb.nmR 2 2 (Lb.tl r))) = m := ⟨_, rfl⟩
      rw [hm] at hb3 hb4
      rw [hm]
      have HMM := Lib.hid hm
      clear hm
      go_enter Tryz.func25, Tryz.ntmps25
      go_wp2_with fail
      have hm := H.out.mb43
      rw [hb43, mb_yes hb43] at hm
      refine hm.mono ?_
      clear hm
      rintro e w1 ⟨rfl, h1⟩
      obtain ⟨_, _, -, -, ⟨k1, k2, k3, k4, k5, k6, k7, k8⟩, f0, f1, f2, f3, f4, f5, f6, f7, f8⟩ := h1.open_
      have H1 : Hid (Rd w0 _ B (Lb.tl r)) := Lib.hid (h1)
      clear H h1
      go_wp2_with fail
      have hm := H1.out.dig44
      rw [hd] at hm
      refine hm.mono ?_
      clear hm
      rintro e w2 ⟨rfl, h1⟩
      clear k1 k2 k3 k4 k5 k6 k7 k8 f0 f1 f2 f3 f4 f5 f6 f7 f8
      obtain ⟨_, _, -, -, ⟨k1, k2, k3, k4, k5, k6, k7, k8⟩, f0, f1, f2, f3, f4, f5, f6, f7, f8⟩ := h1.open_
      have H2 : Hid (Rd w0 _ B (Lb.tl r)) := Lib.hid (h1)
      clear H1 h1
      go_wp2_with fail
      have hm := H2.out.num22
      rw [hv] at hm
      refine hm.mono ?_
      clear hm
      rintro e w3 ⟨rfl, h1⟩
      clear k1 k2 k3 k4 k5 k6 k7 k8 f0 f1 f2 f3 f4 f5 f6 f7 f8
      obtain ⟨_, _, -, -, ⟨k1, k2, k3, k4, k5, k6, k7, k8⟩, f0, f1, f2, f3, f4, f5, f6, f7, f8⟩ := h1.open_
      have H3 : Hid (Rd w0 _ B (Lb.nmR 2 2 (Lb.tl r))) := Lib.hid (h1)
      clear H2 h1
      go_wp2_with fail
      have hm := H3.out.mb58
      rw [hb, mb_yes hb] at hm
      refine hm.mono ?_
      clear hm
      rintro e w4 ⟨rfl, h1⟩
      clear k1 k2 k3 k4 k5 k6 k7 k8 f0 f1 f2 f3 f4 f5 f6 f7 f8
      obtain ⟨_, _, -, -, ⟨k1, k2, k3, k4, k5, k6, k7, k8⟩, f0, f1, f2, f3, f4, f5, f6, f7, f8⟩ := h1.open_
      have H4 : Hid (Rd w0 _ B (Lb.tl (Lb.nmR 2 2 (Lb.tl r)))) := Lib.hid (h1)
      clear H3 h1
      go_wp2_with fail
      have hm := H4.out.num22
      rw [HMM.out] at hm
      refine hm.mono ?_
      clear hm
      rintro e w5 ⟨rfl, h1⟩
      clear k1 k2 k3 k4 k5 k6 k7 k8 f0 f1 f2 f3 f4 f5 f6 f7 f8
      obtain ⟨_, _, -, -, ⟨k1, k2, k3, k4, k5, k6, k7, k8⟩, f0, f1, f2, f3, f4, f5, f6, f7, f8⟩ := h1.open_
      have H5 : Hid (Rd w0 _ B (Lb.nmR 2 2 (Lb.tl (Lb.nmR 2 2 (Lb.tl r))))) := Lib.hid (h1)
      clear H4 h1
      clear hv hb hb43
      obtain ⟨bd, hbd⟩ : ∃ bd, (Lb.nmR 2 2 (Lb.tl (Lb.nmR 2 2 (Lb.tl r)))).bad = bd := ⟨_, rfl⟩
      rw [hbd] at k1
      have HBD := Lib.hid hbd
      clear hbd
      cases bd
      · rcases Int.lt_or_le 23 v with q1 | q1
        · skip
          have h2 := H5.out.bad1 true
          have H9 : Hid (Rd w0 _ B (Lb.znF (1) v m (Lb.nmR 2 2 (Lb.tl (Lb.nmR 2 2 (Lb.tl r)))))) := Lib.hid (by
            have e : Lb.orB (decide (v > 23) || decide (m > 59)) (Lb.nmR 2 2 (Lb.tl (Lb.nmR 2 2 (Lb.tl r)))) = { (Lb.nmR 2 2 (Lb.tl (Lb.nmR 2 2 (Lb.tl r)))) with bad := true } := by
              unfold Lb.orB
              rw [HBD.out, decide_eq_true (show v > 23 from q1)]
              try rfl
            unfold Lb.znF
            rw [e]
            exact h2.sE _)
          clear h2
          go_wp2
          go_end0
          exact ⟨rfl, H9.out.fin2 (by first | rfl | (simp; omega)) (by omega)⟩
        · rcases Int.lt_or_le 59 m with q2 | q2
          · skip
            have h2 := H5.out.bad1 true
            have H9 : Hid (Rd w0 _ B (Lb.znF (1) v m (Lb.nmR 2 2 (Lb.tl (Lb.nmR 2 2 (Lb.tl r)))))) := Lib.hid (by
              have e : Lb.orB (decide (v > 23) || decide (m > 59)) (Lb.nmR 2 2 (Lb.tl (Lb.nmR 2 2 (Lb.tl r)))) = { (Lb.nmR 2 2 (Lb.tl (Lb.nmR 2 2 (Lb.tl r)))) with bad := true } := by
                unfold Lb.orB
                rw [HBD.out, decide_eq_true (show m > 59 from q2), Bool.or_true]
                try rfl
              unfold Lb.znF
              rw [e]
              exact h2.sE _)
            clear h2
            go_wp2
            go_end0
            exact ⟨rfl, H9.out.fin2 (by first | rfl | (simp; omega)) (by omega)⟩
          · skip
            have h2 := H5.out.bad1 false
            have H9 : Hid (Rd w0 _ B (Lb.znF (1) v m (Lb.nmR 2 2 (Lb.tl (Lb.nmR 2 2 (Lb.tl r)))))) := Lib.hid (by
              have e : Lb.orB (decide (v > 23) || decide (m > 59)) (Lb.nmR 2 2 (Lb.tl (Lb.nmR 2 2 (Lb.tl r)))) = { (Lb.nmR 2 2 (Lb.tl (Lb.nmR 2 2 (Lb.tl r)))) with bad := false } := by
                unfold Lb.orB
                rw [HBD.out, decide_eq_false (show ¬ v > 23 by omega), decide_eq_false (show ¬ m > 59 by omega)]
                try rfl
              unfold Lb.znF
              rw [e]
              exact h2.sE _)
            clear h2
            go_wp2
            go_end0
            exact ⟨rfl, H9.out.fin2 (by first | rfl | (simp; omega)) (by omega)⟩
      · skip
        have h2 := H5.out.bad1 true
        have H9 : Hid (Rd w0 _ B (Lb.znF (1) v m (Lb.nmR 2 2 (Lb.tl (Lb.nmR 2 2 (Lb.tl r)))))) := Lib.hid (by
          have e : Lb.orB (decide (v > 23) || decide (m > 59)) (Lb.nmR 2 2 (Lb.tl (Lb.nmR 2 2 (Lb.tl r)))) = { (Lb.nmR 2 2 (Lb.tl (Lb.nmR 2 2 (Lb.tl r)))) with bad := true } := by
            unfold Lb.orB
            rw [HBD.out]
            try rfl
          unfold Lb.znF
          rw [e]
          exact h2.sE _)
        clear h2
        go_wp2
        go_end0
        exact ⟨rfl, H9.out.fin2 (by first | rfl | (simp; omega)) (by omega)⟩
  · rw [if_pos rfl]
    obtain ⟨hb1, hb2⟩ := Lb.nmV_bd 4 4 (Lb.tl r) (by omega)
    have hR : Lb.nmR 4 4 (Lb.tl r) = Lb.tl (Lb.tl r) := by unfold Lb.nmR; rw [if_pos hd]
    obtain ⟨n, hn⟩ : ∃ n, Lb.nmV 4 4 (Lb.tl r) = n := ⟨_, rfl⟩
    rw [hn] at hb1 hb2
    rw [hn]
    have t1 : n.tdiv 100 = n / 100 := Int.tdiv_eq_ediv_of_nonneg hb1
    have t2 : n.tmod 100 = n % 100 := Int.tmod_eq_emod_of_nonneg hb1
    obtain ⟨v, hv⟩ : ∃ v, n / 100 = v := ⟨_, rfl⟩
    obtain ⟨m, hm⟩ : ∃ m, n % 100 = m := ⟨_, rfl⟩
    have hv1 : 0 ≤ v := by omega
    have hv2 : v ≤ 1000 := by omega
    have hm1 : 0 ≤ m := by omega
    have hm2 : m ≤ 99 := by omega
    rw [hv] at t1
    rw [hm] at t2
    rw [hv, hm]
    clear hv hm
    go_enter Tryz.func25, Tryz.ntmps25
    go_wp2_with fail
    have hm := H.out.mb43
    rw [hb43, mb_yes hb43] at hm
    refine hm.mono ?_
    clear hm
    rintro e w1 ⟨rfl, h1⟩
    obtain ⟨_, _, -, -, ⟨k1, k2, k3, k4, k5, k6, k7, k8⟩, f0, f1, f2, f3, f4, f5, f6, f7, f8⟩ := h1.open_
    have H1 : Hid (Rd w0 _ B (Lb.tl r)) := Lib.hid (h1)
    clear H h1
    go_wp2_with fail
    have hm := H1.out.dig44
    rw [hd] at hm
    refine hm.mono ?_
    clear hm
    rintro e w2 ⟨rfl, h1⟩
    clear k1 k2 k3 k4 k5 k6 k7 k8 f0 f1 f2 f3 f4 f5 f6 f7 f8
    obtain ⟨_, _, -, -, ⟨k1, k2, k3, k4, k5, k6, k7, k8⟩, f0, f1, f2, f3, f4, f5, f6, f7, f8⟩ := h1.open_
    have H2 : Hid (Rd w0 _ B (Lb.tl r)) := Lib.hid (h1)
    clear H1 h1
    go_wp2_with fail
    have hm := H2.out.num44
    rw [hn, hR] at hm
    refine hm.mono ?_
    clear hm
    rintro e w3 ⟨rfl, h1⟩
    clear k1 k2 k3 k4 k5 k6 k7 k8 f0 f1 f2 f3 f4 f5 f6 f7 f8
    obtain ⟨_, _, -, -, ⟨k1, k2, k3, k4, k5, k6, k7, k8⟩, f0, f1, f2, f3, f4, f5, f6, f7, f8⟩ := h1.open_
    have H3 : Hid (Rd w0 _ B (Lb.tl (Lb.tl r))) := Lib.hid (h1)
    clear H2 h1
    clear hn hR hd hb43
    obtain ⟨bd, hbd⟩ : ∃ bd, (Lb.tl (Lb.tl r)).bad = bd := ⟨_, rfl⟩
    rw [hbd] at k1
    have HBD := Lib.hid hbd
    clear hbd
    cases bd
    · rcases Int.lt_or_le 23 v with q1 | q1
      · skip
        have h2 := H3.out.bad1 true
        have H9 : Hid (Rd w0 _ B (Lb.znF (1) v m (Lb.tl (Lb.tl r)))) := Lib.hid (by
          have e : Lb.orB (decide (v > 23) || decide (m > 59)) (Lb.tl (Lb.tl r)) = { (Lb.tl (Lb.tl r)) with bad := true } := by
            unfold Lb.orB
            rw [HBD.out, decide_eq_true (show v > 23 from q1)]
            try rfl
          unfold Lb.znF
          rw [e]
          exact h2.sE _)
        clear h2
        go_wp2
        go_end0
        exact ⟨rfl, H9.out.fin2 (by first | rfl | (simp; omega)) (by omega)⟩
      · rcases Int.lt_or_le 59 m with q2 | q2
        · skip
          have h2 := H3.out.bad1 true
          have H9 : Hid (Rd w0 _ B (Lb.znF (1) v m (Lb.tl (Lb.tl r)))) := Lib.hid (by
            have e : Lb.orB (decide (v > 23) || decide (m > 59)) (Lb.tl (Lb.tl r)) = { (Lb.tl (Lb.tl r)) with bad := true } := by
              unfold Lb.orB
              rw [HBD.out, decide_eq_true (show m > 59 from q2), Bool.or_true]
              try rfl
            unfold Lb.znF
            rw [e]
            exact h2.sE _)
          clear h2
          go_wp2
          go_end0
          exact ⟨rfl, H9.out.fin2 (by first | rfl | (simp; omega)) (by omega)⟩
        · skip
          have h2 := H3.out.bad1 false
          have H9 : Hid (Rd w0 _ B (Lb.znF (1) v m (Lb.tl (Lb.tl r)))) := Lib.hid (by
            have e : Lb.orB (decide (v > 23) || decide (m > 59)) (Lb.tl (Lb.tl r)) = { (Lb.tl (Lb.tl r)) with bad := false } := by
              unfold Lb.orB
              rw [HBD.out, decide_eq_false (show ¬ v > 23 by omega), decide_eq_false (show ¬ m > 59 by omega)]
              try rfl
            unfold Lb.znF
            rw [e]
            exact h2.sE _)
          clear h2
          go_wp2
          go_end0
          exact ⟨rfl, H9.out.fin2 (by first | rfl | (simp; omega)) (by omega)⟩
    · skip
      have h2 := H3.out.bad1 true
      have H9 : Hid (Rd w0 _ B (Lb.znF (1) v m (Lb.tl (Lb.tl r)))) := Lib.hid (by
        have e : Lb.orB (decide (v > 23) || decide (m > 59)) (Lb.tl (Lb.tl r)) = { (Lb.tl (Lb.tl r)) with bad := true } := by
          unfold Lb.orB
          rw [HBD.out]
          try rfl
        unfold Lb.znF
        rw [e]
        exact h2.sE _)
      clear h2
      go_wp2
      go_end0
      exact ⟨rfl, H9.out.fin2 (by first | rfl | (simp; omega)) (by omega)⟩
set_option maxHeartbeats 4000000 in
set_option maxRecDepth 100000 in
theorem Rd.zone_minus (h : Rd w0 W B r) (hx : Lb.nx r = [45]) : Calls Tryz.prog 25 #[.pointer (some ⟨B, 0, none⟩)] W (RdPost (.tuple #[]) w0 B (Lb.znO (-1) (Lb.tl r))) := by
  have hl : r.l ≠ [] := nx_ne (by rw [hx]; simp)
  have hb45 : Lb.mbB [45] r = true := by unfold Lb.mbB; rw [hx]; rfl
  have hb43 : Lb.mbB [43] r = false := by unfold Lb.mbB; rw [hx]; rfl
  obtain ⟨g, i, n', c', k0, hc, -⟩ := h.head_ hl
  have H := Lib.hid h
  clear h hl hx
  unfold RdPost Lb.znO
  obtain ⟨b, hd⟩ : ∃ b, Lb.dgs 4 4 (Lb.tl r) = b := ⟨_, rfl⟩
  rw [hd]
  cases b
  · rw [if_neg (by decide)]
    obtain ⟨b, hb⟩ : ∃ b, Lb.mbB [58] (Lb.nmR 2 2 (Lb.tl r)) = b := ⟨_, rfl⟩
    rw [hb]
    obtain ⟨hb1, hb2⟩ := Lb.nmV_bd 2 2 (Lb.tl r) (by omega)
    obtain ⟨v, hv⟩ : ∃ v, Lb.nmV 2 2 (Lb.tl r) = v := ⟨_, rfl⟩
    rw [hv] at hb1 hb2
    rw [hv]
    cases b
    · rw [if_neg (by decide)]
      go_enter Tryz.func25, Tryz.ntmps25
      go_wp2_with fail
      have hm := H.out.mb43
      rw [hb43, mb_no hb43] at hm
      refine hm.mono ?_
      clear hm
      rintro e w1 ⟨rfl, h1⟩
      obtain ⟨_, _, -, -, ⟨k1, k2, k3, k4, k5, k6, k7, k8⟩, f0, f1, f2, f3, f4, f5, f6, f7, f8⟩ := h1.open_
      have H1 : Hid (Rd w0 _ B (r)) := Lib.hid (h1)
      clear H h1
      go_wp2_with fail
      have hm := H1.out.mb45
      rw [hb45, mb_yes hb45] at hm
      refine hm.mono ?_
      clear hm
      rintro e w2 ⟨rfl, h1⟩
      clear k1 k2 k3 k4 k5 k6 k7 k8 f0 f1 f2 f3 f4 f5 f6 f7 f8
      obtain ⟨_, _, -, -, ⟨k1, k2, k3, k4, k5, k6, k7, k8⟩, f0, f1, f2, f3, f4, f5, f6, f7, f8⟩ := h1.open_
      have H2 : Hid (Rd w0 _ B (Lb.tl r)) := Lib.hid (h1)
      clear H1 h1
      go_wp2_with fail
      have hm := H2.out.dig44
      rw [hd] at hm
      refine hm.mono ?_
      clear hm
      rintro e w3 ⟨rfl, h1⟩
      clear k1 k2 k3 k4 k5 k6 k7 k8 f0 f1 f2 f3 f4 f5 f6 f7 f8
      obtain ⟨_, _, -, -, ⟨k1, k2, k3, k4, k5, k6, k7, k8⟩, f0, f1, f2, f3, f4, f5, f6, f7, f8⟩ := h1.open_
      have H3 : Hid (Rd w0 _ B (Lb.tl r)) := Lib.hid (h1)
      clear H2 h1
      go_wp2_with fail
      have hm := H3.out.num22
      rw [hv] at hm
      refine hm.mono ?_
      clear hm
      rintro e w4 ⟨rfl, h1⟩
      clear k1 k2 k3 k4 k5 k6 k7 k8 f0 f1 f2 f3 f4 f5 f6 f7 f8
      obtain ⟨_, _, -, -, ⟨k1, k2, k3, k4, k5, k6, k7, k8⟩, f0, f1, f2, f3, f4, f5, f6, f7, f8⟩ := h1.open_
      have H4 : Hid (Rd w0 _ B (Lb.nmR 2 2 (Lb.tl r))) := Lib.hid (h1)
      clear H3 h1
      go_wp2_with fail
      have hm := H4.out.mb58
      rw [hb, mb_no hb] at hm
      refine hm.mono ?_
      clear hm
      rintro e w5 ⟨rfl, h1⟩
      clear k1 k2 k3 k4 k5 k6 k7 k8 f0 f1 f2 f3 f4 f5 f6 f7 f8
      obtain ⟨_, _, -, -, ⟨k1, k2, k3, k4, k5, k6, k7, k8⟩, f0, f1, f2, f3, f4, f5, f6, f7, f8⟩ := h1.open_
      have H5 : Hid (Rd w0 _ B (Lb.nmR 2 2 (Lb.tl r))) := Lib.hid (h1)
      clear H4 h1
      clear hv hb hb43
      obtain ⟨bd, hbd⟩ : ∃ bd, (Lb.nmR 2 2 (Lb.tl r)).bad = bd := ⟨_, rfl⟩
      rw [hbd] at k1
      have HBD := Lib.hid hbd
      clear hbd
      cases bd
      · rcases Int.lt_or_le 23 v with q1 | q1
        · skip
          have h2 := H5.out.bad1 true
          have H9 : Hid (Rd w0 _ B (Lb.znF (-1) v (0 : Int) (Lb.nmR 2 2 (Lb.tl r)))) := Lib.hid (by
            have e : Lb.orB (decide (v > 23) || decide ((0 : Int) > 59)) (Lb.nmR 2 2 (Lb.tl r)) = { (Lb.nmR 2 2 (Lb.tl r)) with bad := true } := by
              unfold Lb.orB
              rw [HBD.out, decide_eq_true (show v > 23 from q1)]
              try rfl
            unfold Lb.znF
            rw [e]
            exact h2.sE _)
          clear h2
          go_wp2
          go_end0
          exact ⟨rfl, H9.out.fin2 (by first | rfl | (simp; omega)) (by omega)⟩
        · rcases Int.lt_or_le 59 (0 : Int) with q2 | q2
          · skip
            exact absurd q2 (by decide)
          · skip
            have h2 := H5.out.bad1 false
            have H9 : Hid (Rd w0 _ B (Lb.znF (-1) v (0 : Int) (Lb.nmR 2 2 (Lb.tl r)))) := Lib.hid (by
              have e : Lb.orB (decide (v > 23) || decide ((0 : Int) > 59)) (Lb.nmR 2 2 (Lb.tl r)) = { (Lb.nmR 2 2 (Lb.tl r)) with bad := false } := by
                unfold Lb.orB
                rw [HBD.out, decide_eq_false (show ¬ v > 23 by omega), decide_eq_false (show ¬ (0 : Int) > 59 by omega)]
                try rfl
              unfold Lb.znF
              rw [e]
              exact h2.sE _)
            clear h2
            go_wp2
            go_end0
            exact ⟨rfl, H9.out.fin2 (by first | rfl | (simp; omega)) (by omega)⟩
      · skip
        have h2 := H5.out.bad1 true
        have H9 : Hid (Rd w0 _ B (Lb.znF (-1) v (0 : Int) (Lb.nmR 2 2 (Lb.tl r)))) := Lib.hid (by
          have e : Lb.orB (decide (v > 23) || decide ((0 : Int) > 59)) (Lb.nmR 2 2 (Lb.tl r)) = { (Lb.nmR 2 2 (Lb.tl r)) with bad := true } := by
            unfold Lb.orB
            rw [HBD.out]
            try rfl
          unfold Lb.znF
          rw [e]
          exact h2.sE _)
        clear h2
        go_wp2
        go_end0
        exact ⟨rfl, H9.out.fin2 (by first | rfl | (simp; omega)) (by omega)⟩
    · rw [if_pos rfl]
      obtain ⟨hb3, hb4⟩ := Lb.nmV_bd 2 2 (Lb.tl (Lb.nmR 2 2 (Lb.tl r))) (by omega)
      obtain ⟨m, hm⟩ : ∃ m, Lb.nmV 2 2 (Lb.tl (Lb.nmR 2 2 (Lb.tl r))) = m := ⟨_, rfl⟩
      rw [hm] at hb3 hb4
      rw [hm]
      have HMM := Lib.hid hm
      clear hm
      go_enter Tryz.func25, Tryz.ntmps25
      go_wp2_with fail
      have hm := H.out.mb43
      rw [hb43, mb_no hb43] at hm
      refine hm.mono ?_
      clear hm
      rintro e w1 ⟨rfl, h1⟩
      obtain ⟨_, _, -, -, ⟨k1, k2, k3, k4, k5, k6, k7, k8⟩, f0, f1, f2, f3, f4, f5, f6, f7, f8⟩ := h1.open_
      have H1 : Hid (Rd w0 _ B (r)) := Lib.hid (h1)
      clear H h1
      go_wp2_with fail
      have hm := H1.out.mb45
      rw [hb45, mb_yes hb45] at hm
      refine hm.mono ?_
      clear hm
      rintro e w2 ⟨rfl, h1⟩
      clear k1 k2 k3 k4 k5 k6 k7 k8 f0 f1 f2 f3 f4 f5 f6 f7 f8
      obtain ⟨_, _, -, -, ⟨k1, k2, k3, k4, k5, k6, k7, k8⟩, f0, f1, f2, f3, f4, f5, f6, f7, f8⟩ := h1.open_
      have H2 : Hid (Rd w0 _ B (Lb.tl r)) := Lib.hid (h1)
      clear H1 h1
      go_wp2_with fail
      have hm := H2.out.dig44
      rw [hd] at hm
      refine hm.mono ?_
      clear hm
      rintro e w3 ⟨rfl, h1⟩
      clear k1 k2 k3 k4 k5 k6 k7 k8 f0 f1 f2 f3 f4 f5 f6 f7 f8
      obtain ⟨_, _, -, -, ⟨k1, k2, k3, k4, k5, k6, k7, k8⟩, f0, f1, f2, f3, f4, f5, f6, f7, f8⟩ := h1.open_
      have H3 : Hid (Rd w0 _ B (Lb.tl r)) := Lib.hid (h1)
      clear H2 h1
      go_wp2_with fail
      have hm := H3.out.num22
      rw [hv] at hm
      refine hm.mono ?_
      clear hm
      rintro e w4 ⟨rfl, h1⟩
      clear k1 k2 k3 k4 k5 k6 k7 k8 f0 f1 f2 f3 f4 f5 f6 f7 f8
      obtain ⟨_, _, -, -, ⟨k1, k2, k3, k4, k5, k6, k7, k8⟩, f0, f1, f2, f3, f4, f5, f6, f7, f8⟩ := h1.open_
      have H4 : Hid (Rd w0 _ B (Lb.nmR 2 2 (Lb.tl r))) := Lib.hid (h1)
      clear H3 h1
      go_wp2_with fail
      have hm := H4.out.mb58
      rw [hb, mb_yes hb] at hm
      refine hm.mono ?_
      clear hm
      rintro e w5 ⟨rfl, h1⟩
      clear k1 k2 k3 k4 k5 k6 k7 k8 f0 f1 f2 f3 f4 f5 f6 f7 f8
      obtain ⟨_, _, -, -, ⟨k1, k2, k3, k4, k5, k6, k7, k8⟩, f0, f1, f2, f3, f4, f5, f6, f7, f8⟩ := h1.open_
      have H5 : Hid (Rd w0 _ B (Lb.tl (Lb.nmR 2 2 (Lb.tl r)))) := Lib.hid (h1)
      clear H4 h1
      go_wp2_with fail
      have hm := H5.out.num22
      rw [HMM.out] at hm
      refine hm.mono ?_
      clear hm
      rintro e w6 ⟨rfl, h1⟩
      clear k1 k2 k3 k4 k5 k6 k7 k8 f0 f1 f2 f3 f4 f5 f6 f7 f8
      obtain ⟨_, _, -, -, ⟨k1, k2, k3, k4, k5, k6, k7, k8⟩, f0, f1, f2, f3, f4, f5, f6, f7, f8⟩ := h1.open_
      have H6 : Hid (Rd w0 _ B (Lb.nmR 2 2 (Lb.tl (Lb.nmR 2 2 (Lb.tl r))))) := Lib.hid (h1)
      clear H5 h1
      clear hv hb hb43
      obtain ⟨bd, hbd⟩ : ∃ bd, (Lb.nmR 2 2 (Lb.tl (Lb.nmR 2 2 (Lb.tl r)))).bad = bd := ⟨_, rfl⟩
      rw [hbd] at k1
      have HBD := Lib.hid hbd
      clear hbd
      cases bd
      · rcases Int.lt_or_le 23 v with q1 | q1
        · skip
          have h2 := H6.out.bad1 true
          have H9 : Hid (Rd w0 _ B (Lb.znF (-1) v m (Lb.nmR 2 2 (Lb.tl (Lb.nmR 2 2 (Lb.tl r)))))) := Lib.hid (by
            have e : Lb.orB (decide (v > 23) || decide (m > 59)) (Lb.nmR 2 2 (Lb.tl (Lb.nmR 2 2 (Lb.tl r)))) = { (Lb.nmR 2 2 (Lb.tl (Lb.nmR 2 2 (Lb.tl r)))) with bad := true } := by
              unfold Lb.orB
              rw [HBD.out, decide_eq_true (show v > 23 from q1)]
              try rfl
            unfold Lb.znF
            rw [e]
            exact h2.sE _)
          clear h2
          go_wp2
          go_end0
          exact ⟨rfl, H9.out.fin2 (by first | rfl | (simp; omega)) (by omega)⟩
        · rcases Int.lt_or_le 59 m with q2 | q2
          · skip
            have h2 := H6.out.bad1 true
            have H9 : Hid (Rd w0 _ B (Lb.znF (-1) v m (Lb.nmR 2 2 (Lb.tl (Lb.nmR 2 2 (Lb.tl r)))))) := Lib.hid (by
              have e : Lb.orB (decide (v > 23) || decide (m > 59)) (Lb.nmR 2 2 (Lb.tl (Lb.nmR 2 2 (Lb.tl r)))) = { (Lb.nmR 2 2 (Lb.tl (Lb.nmR 2 2 (Lb.tl r)))) with bad := true } := by
                unfold Lb.orB
                rw [HBD.out, decide_eq_true (show m > 59 from q2), Bool.or_true]
                try rfl
              unfold Lb.znF
              rw [e]
              exact h2.sE _)
            clear h2
            go_wp2
            go_end0
            exact ⟨rfl, H9.out.fin2 (by first | rfl | (simp; omega)) (by omega)⟩
          · skip
            have h2 := H6.out.bad1 false
            have H9 : Hid (Rd w0 _ B (Lb.znF (-1) v m (Lb.nmR 2 2 (Lb.tl (Lb.nmR 2 2 (Lb.tl r)))))) := Lib.hid (by
              have e : Lb.orB (decide (v > 23) || decide (m > 59)) (Lb.nmR 2 2 (Lb.tl (Lb.nmR 2 2 (Lb.tl r)))) = { (Lb.nmR 2 2 (Lb.tl (Lb.nmR 2 2 (Lb.tl r)))) with bad := false } := by
                unfold Lb.orB
                rw [HBD.out, decide_eq_false (show ¬ v > 23 by omega), decide_eq_false (show ¬ m > 59 by omega)]
                try rfl
              unfold Lb.znF
              rw [e]
              exact h2.sE _)
            clear h2
            go_wp2
            go_end0
            exact ⟨rfl, H9.out.fin2 (by first | rfl | (simp; omega)) (by omega)⟩
      · skip
        have h2 := H6.out.bad1 true
        have H9 : Hid (Rd w0 _ B (Lb.znF (-1) v m (Lb.nmR 2 2 (Lb.tl (Lb.nmR 2 2 (Lb.tl r)))))) := Lib.hid (by
          have e : Lb.orB (decide (v > 23) || decide (m > 59)) (Lb.nmR 2 2 (Lb.tl (Lb.nmR 2 2 (Lb.tl r)))) = { (Lb.nmR 2 2 (Lb.tl (Lb.nmR 2 2 (Lb.tl r)))) with bad := true } := by
            unfold Lb.orB
            rw [HBD.out]
            try rfl
          unfold Lb.znF
          rw [e]
          exact h2.sE _)
        clear h2
        go_wp2
        go_end0
        exact ⟨rfl, H9.out.fin2 (by first | rfl | (simp; omega)) (by omega)⟩
  · rw [if_pos rfl]
    obtain ⟨hb1, hb2⟩ := Lb.nmV_bd 4 4 (Lb.tl r) (by omega)
    have hR : Lb.nmR 4 4 (Lb.tl r) = Lb.tl (Lb.tl r) := by unfold Lb.nmR; rw [if_pos hd]
    obtain ⟨n, hn⟩ : ∃ n, Lb.nmV 4 4 (Lb.tl r) = n := ⟨_, rfl⟩
    rw [hn] at hb1 hb2
    rw [hn]
    have t1 : n.tdiv 100 = n / 100 := Int.tdiv_eq_ediv_of_nonneg hb1
    have t2 : n.tmod 100 = n % 100 := Int.tmod_eq_emod_of_nonneg hb1
    obtain ⟨v, hv⟩ : ∃ v, n / 100 = v := ⟨_, rfl⟩
    obtain ⟨m, hm⟩ : ∃ m, n % 100 = m := ⟨_, rfl⟩
    have hv1 : 0 ≤ v := by omega
    have hv2 : v ≤ 1000 := by omega
    have hm1 : 0 ≤ m := by omega
    have hm2 : m ≤ 99 := by omega
    rw [hv] at t1
    rw [hm] at t2
    rw [hv, hm]
    clear hv hm
    go_enter Tryz.func25, Tryz.ntmps25
    go_wp2_with fail
    have hm := H.out.mb43
    rw [hb43, mb_no hb43] at hm
    refine hm.mono ?_
    clear hm
    rintro e w1 ⟨rfl, h1⟩
    obtain ⟨_, _, -, -, ⟨k1, k2, k3, k4, k5, k6, k7, k8⟩, f0, f1, f2, f3, f4, f5, f6, f7, f8⟩ := h1.open_
    have H1 : Hid (Rd w0 _ B (r)) := Lib.hid (h1)
    clear H h1
    go_wp2_with fail
    have hm := H1.out.mb45
    rw [hb45, mb_yes hb45] at hm
    refine hm.mono ?_
    clear hm
    rintro e w2 ⟨rfl, h1⟩
    clear k1 k2 k3 k4 k5 k6 k7 k8 f0 f1 f2 f3 f4 f5 f6 f7 f8
    obtain ⟨_, _, -, -, ⟨k1, k2, k3, k4, k5, k6, k7, k8⟩, f0, f1, f2, f3, f4, f5, f6, f7, f8⟩ := h1.open_
    have H2 : Hid (Rd w0 _ B (Lb.tl r)) := Lib.hid (h1)
    clear H1 h1
    go_wp2_with fail
    have hm := H2.out.dig44
    rw [hd] at hm
    refine hm.mono ?_
    clear hm
    rintro e w3 ⟨rfl, h1⟩
    clear k1 k2 k3 k4 k5 k6 k7 k8 f0 f1 f2 f3 f4 f5 f6 f7 f8
    obtain ⟨_, _, -, -, ⟨k1, k2, k3, k4, k5, k6, k7, k8⟩, f0, f1, f2, f3, f4, f5, f6, f7, f8⟩ := h1.open_
    have H3 : Hid (Rd w0 _ B (Lb.tl r)) := Lib.hid (h1)
    clear H2 h1
    go_wp2_with fail
    have hm := H3.out.num44
    rw [hn, hR] at hm
    refine hm.mono ?_
    clear hm
    rintro e w4 ⟨rfl, h1⟩
    clear k1 k2 k3 k4 k5 k6 k7 k8 f0 f1 f2 f3 f4 f5 f6 f7 f8
    obtain ⟨_, _, -, -, ⟨k1, k2, k3, k4, k5, k6, k7, k8⟩, f0, f1, f2, f3, f4, f5, f6, f7, f8⟩ := h1.open_
    have H4 : Hid (Rd w0 _ B (Lb.tl (Lb.tl r))) := Lib.hid (h1)
    clear H3 h1
    clear hn hR hd hb43
    obtain ⟨bd, hbd⟩ : ∃ bd, (Lb.tl (Lb.tl r)).bad = bd := ⟨_, rfl⟩
    rw [hbd] at k1
    have HBD := Lib.hid hbd
    clear hbd
    cases bd
    · rcases Int.lt_or_le 23 v with q1 | q1
      · skip
        have h2 := H4.out.bad1 true
        have H9 : Hid (Rd w0 _ B (Lb.znF (-1) v m (Lb.tl (Lb.tl r)))) := Lib.hid (by
          have e : Lb.orB (decide (v > 23) || decide (m > 59)) (Lb.tl (Lb.tl r)) = { (Lb.tl (Lb.tl r)) with bad := true } := by
            unfold Lb.orB
            rw [HBD.out, decide_eq_true (show v > 23 from q1)]
            try rfl
          unfold Lb.znF
          rw [e]
          exact h2.sE _)
        clear h2
        go_wp2
        go_end0
        exact ⟨rfl, H9.out.fin2 (by first | rfl | (simp; omega)) (by omega)⟩
      · rcases Int.lt_or_le 59 m with q2 | q2
        · skip
          have h2 := H4.out.bad1 true
          have H9 : Hid (Rd w0 _ B (Lb.znF (-1) v m (Lb.tl (Lb.tl r)))) := Lib.hid (by
            have e : Lb.orB (decide (v > 23) || decide (m > 59)) (Lb.tl (Lb.tl r)) = { (Lb.tl (Lb.tl r)) with bad := true } := by
              unfold Lb.orB
              rw [HBD.out, decide_eq_true (show m > 59 from q2), Bool.or_true]
              try rfl
            unfold Lb.znF
            rw [e]
            exact h2.sE _)
          clear h2
          go_wp2
          go_end0
          exact ⟨rfl, H9.out.fin2 (by first | rfl | (simp; omega)) (by omega)⟩
        · skip
          have h2 := H4.out.bad1 false
          have H9 : Hid (Rd w0 _ B (Lb.znF (-1) v m (Lb.tl (Lb.tl r)))) := Lib.hid (by
            have e : Lb.orB (decide (v > 23) || decide (m > 59)) (Lb.tl (Lb.tl r)) = { (Lb.tl (Lb.tl r)) with bad := false } := by
              unfold Lb.orB
              rw [HBD.out, decide_eq_false (show ¬ v > 23 by omega), decide_eq_false (show ¬ m > 59 by omega)]
              try rfl
            unfold Lb.znF
            rw [e]
            exact h2.sE _)
          clear h2
          go_wp2
          go_end0
          exact ⟨rfl, H9.out.fin2 (by first | rfl | (simp; omega)) (by omega)⟩
    · skip
      have h2 := H4.out.bad1 true
      have H9 : Hid (Rd w0 _ B (Lb.znF (-1) v m (Lb.tl (Lb.tl r)))) := Lib.hid (by
        have e : Lb.orB (decide (v > 23) || decide (m > 59)) (Lb.tl (Lb.tl r)) = { (Lb.tl (Lb.tl r)) with bad := true } := by
          unfold Lb.orB
          rw [HBD.out]
          try rfl
        unfold Lb.znF
        rw [e]
        exact h2.sE _)
      clear h2
      go_wp2
      go_end0
      exact ⟨rfl, H9.out.fin2 (by first | rfl | (simp; omega)) (by omega)⟩
end
end Go.Proofs.YtbhafhbaldddiaaGreatDoor
