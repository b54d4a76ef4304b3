/- The walks of a liberal reader's month, weekday, and of the second and third form. -/
import Derived.Test.YtbhafhbaldddiaaLbF
namespace Go.Proofs.Ytbhafhbaldddiaa
open Go.RowKit
open Go
open Lb (R Wd)
set_option linter.unusedVariables false
section
variable {w0 W : World} {B : Nat} {r : R}
theorem nx_ne {r : R} (h : Lb.nx r ≠ []) : r.l ≠ [] := fun e => h (by unfold Lb.nx; rw [e]; rfl)
set_option maxHeartbeats 2000000 in
theorem Rd.month (h : Rd w0 W B r) : Calls Try.prog 35 #[.pointer (some ⟨B, 0, none⟩)] W (RdPost (.tuple #[]) w0 B (Lb.moR r)) := by
  have hs := h.2.2.2.2.2.nx
  have H := Lib.hid h
  clear h
  unfold RdPost
  obtain ⟨v, hv⟩ : ∃ v, Lb.monF (Lb.nx r) = v := ⟨_, rfl⟩
  have hm := lmon_any (Lb.nx r) hs
  rw [hv] at hm
  by_cases h0 : v = 0
  · subst h0
    have e : Lb.moR r = Lb.mkBad (Lb.sMo 0 r) := by unfold Lb.moR; rw [if_pos hv]
    rw [e]
    clear e hv
    go_enter Try.func35, Try.ntmps35
    go_wp2_with fail
    refine H.out.next.mono ?_
    rintro e w1 ⟨rfl, h1⟩
    have H1 := Lib.hid h1
    clear h1 H
    go_wp2_with fail
    refine (hm _).mono ?_
    rintro e w2 ⟨rfl, hB⟩
    have h1 := H1.out.quiet hB
    clear H1 hB hm
    obtain ⟨_, _, -, -, ⟨k1, k2, k3, k4, k5, k6, k7, k8⟩, f0, f1, f2, f3, f4, f5, f6, f7, f8⟩ := h1.open_
    have H2 := Lib.hid (h1.sMo 0).mkBad
    clear h1
    go_wp2
    refine bodyPost_ret (results_none rfl _ _ _) rfl ?_
    exact ⟨rfl, H2.out⟩
  · have e : Lb.moR r = Lb.tl (Lb.sMo v r) := by unfold Lb.moR; rw [hv, if_neg h0]
    rw [e]
    have hl : r.l ≠ [] := nx_ne (fun k => h0 (by rw [← hv, k]; rfl))
    have HL := Lib.hid hl
    clear e hv hl
    have hne : (v == 0) = false := by simpa using h0
    go_enter Try.func35, Try.ntmps35
    go_wp2_with fail
    refine H.out.next.mono ?_
    rintro e w1 ⟨rfl, h1⟩
    have H1 := Lib.hid h1
    clear h1 H
    go_wp2_with fail
    refine (hm _).mono ?_
    rintro e w2 ⟨rfl, hB⟩
    have h1 := H1.out.quiet hB
    clear H1 hB hm
    obtain ⟨_, _, -, -, ⟨k1, k2, k3, k4, k5, k6, k7, k8⟩, f0, f1, f2, f3, f4, f5, f6, f7, f8⟩ := h1.open_
    have ht := h1.tail2 HL.out
    unfold Tail2 at ht
    have H2 := Lib.hid (h1.sMo v)
    clear h1
    rcases ht with ⟨g, i, k0, kx, f0, hp⟩ | ⟨g, i, n, c, k0, hc, kx, f0, hp⟩
    · have H3 := Lib.hid (H2.out.tl _ (hp.out.setB 3 (.int .i64 v)))
      clear H2 hp
      go_wp2
      go_end0
      exact ⟨rfl, H3.out⟩
    · have H3 := Lib.hid (H2.out.tl _ (hp.out.setB 3 (.int .i64 v)))
      clear H2 hp
      go_wp2
      go_end0
      exact ⟨rfl, H3.out⟩
set_option maxHeartbeats 2000000 in
theorem Rd.weekday (h : Rd w0 W B r) : Calls Try.prog 34 #[.pointer (some ⟨B, 0, none⟩)] W (RdPost (.tuple #[]) w0 B (Lb.wkR r)) := by
  have hs := h.2.2.2.2.2.nx
  have H := Lib.hid h
  clear h
  unfold RdPost Lb.wkR
  obtain ⟨v, hv⟩ : ∃ v, Lb.wkB (Lb.nx r) = v := ⟨_, rfl⟩
  have hm := lwk_any (Lb.nx r) hs
  rw [hv] at hm
  rw [hv]
  cases v
  · rw [if_neg (by decide)]
    clear hv
    go_enter Try.func34, Try.ntmps34
    go_wp2_with fail
    refine H.out.next.mono ?_
    rintro e w1 ⟨rfl, h1⟩
    have H1 := Lib.hid h1
    clear h1 H
    go_wp2_with fail
    refine (hm _).mono ?_
    rintro e w2 ⟨rfl, hB⟩
    have H2 := Lib.hid (H1.out.quiet hB)
    clear H1 hB hm
    go_wp2_with fail
    refine H2.out.mb44.mono ?_
    rintro e w3 ⟨rfl, h1⟩
    have H3 := Lib.hid h1
    clear H2 h1
    go_wp2
    go_end0
    exact ⟨rfl, H3.out⟩
  · rw [if_pos rfl]
    have hl : r.l ≠ [] := nx_ne (fun k => by rw [k] at hv; cases hv)
    have HL := Lib.hid hl
    clear hv hl
    go_enter Try.func34, Try.ntmps34
    go_wp2_with fail
    refine H.out.next.mono ?_
    rintro e w1 ⟨rfl, h1⟩
    have H1 := Lib.hid h1
    clear h1 H
    go_wp2_with fail
    refine (hm _).mono ?_
    rintro e w2 ⟨rfl, hB⟩
    have h1 := H1.out.quiet hB
    clear H1 hB hm
    have ht := h1.tail_ HL.out
    unfold TailPost at ht
    clear h1
    rcases ht with ⟨g, i, k0, kx, f0, H2⟩ | ⟨g, i, n, c, k0, hc, kx, f0, H2⟩
    · go_wp2_with fail
      refine H2.out.mb44.mono ?_
      rintro e w3 ⟨rfl, h1⟩
      have H3 := Lib.hid h1
      clear H2 h1
      go_wp2
      go_end0
      exact ⟨rfl, H3.out⟩
    · go_wp2_with fail
      refine H2.out.mb44.mono ?_
      rintro e w3 ⟨rfl, h1⟩
      have H3 := Lib.hid h1
      clear H2 h1
      go_wp2
      go_end0
      exact ⟨rfl, H3.out⟩
set_option maxHeartbeats 2000000 in
theorem Rd.third (h : Rd w0 W B r) : Calls Try.prog 17 #[.pointer (some ⟨B, 0, none⟩)] W (RdPost (.tuple #[]) w0 B (Lb.thd r)) := by
  have H := Lib.hid h
  clear h
  unfold RdPost Lb.thd
  go_enter Try.func17, Try.ntmps17
  go_wp2_with fail
  refine H.out.weekday.mono ?_
  rintro e w1 ⟨rfl, h1⟩
  obtain ⟨_, _, -, -, ⟨k1, k2, k3, k4, k5, k6, k7, k8⟩, f0, f1, f2, f3, f4, f5, f6, f7, f8⟩ := h1.open_
  have H1 : Hid (Rd w0 _ B (Lb.wkR r)) := Lib.hid (h1)
  clear H h1
  go_wp2_with fail
  refine H1.out.month.mono ?_
  rintro e w2 ⟨rfl, h1⟩
  clear k1 k2 k3 k4 k5 k6 k7 k8 f0 f1 f2 f3 f4 f5 f6 f7 f8
  obtain ⟨_, _, -, -, ⟨k1, k2, k3, k4, k5, k6, k7, k8⟩, f0, f1, f2, f3, f4, f5, f6, f7, f8⟩ := h1.open_
  have H2 : Hid (Rd w0 _ B (Lb.moR (Lb.wkR r))) := Lib.hid (h1)
  clear H1 h1
  go_wp2_with fail
  refine H2.out.num12.mono ?_
  rintro e w3 ⟨rfl, h1⟩
  clear k1 k2 k3 k4 k5 k6 k7 k8 f0 f1 f2 f3 f4 f5 f6 f7 f8
  obtain ⟨_, _, -, -, ⟨k1, k2, k3, k4, k5, k6, k7, k8⟩, f0, f1, f2, f3, f4, f5, f6, f7, f8⟩ := h1.open_
  have H3 : Hid (Rd w0 _ B (Lb.nmD (Lb.moR (Lb.wkR r)))) := Lib.hid (h1.sD _)
  clear H2 h1
  go_wp2_with fail
  refine H3.out.mb44.mono ?_
  rintro e w4 ⟨rfl, h1⟩
  clear k1 k2 k3 k4 k5 k6 k7 k8 f0 f1 f2 f3 f4 f5 f6 f7 f8
  obtain ⟨_, _, -, -, ⟨k1, k2, k3, k4, k5, k6, k7, k8⟩, f0, f1, f2, f3, f4, f5, f6, f7, f8⟩ := h1.open_
  have H4 : Hid (Rd w0 _ B (Lb.mbR [44] (Lb.nmD (Lb.moR (Lb.wkR r))))) := Lib.hid (h1)
  clear H3 h1
  go_wp2_with fail
  refine H4.out.num44.mono ?_
  rintro e w5 ⟨rfl, h1⟩
  clear k1 k2 k3 k4 k5 k6 k7 k8 f0 f1 f2 f3 f4 f5 f6 f7 f8
  obtain ⟨_, _, -, -, ⟨k1, k2, k3, k4, k5, k6, k7, k8⟩, f0, f1, f2, f3, f4, f5, f6, f7, f8⟩ := h1.open_
  have H5 : Hid (Rd w0 _ B (Lb.nmY (Lb.mbR [44] (Lb.nmD (Lb.moR (Lb.wkR r)))))) := Lib.hid (h1.sY _)
  clear H4 h1
  go_wp2_with fail
  go_end0
  exact ⟨rfl, H5.out⟩
set_option maxHeartbeats 2000000 in
theorem Rd.second (h : Rd w0 W B r) : Calls Try.prog 16 #[.pointer (some ⟨B, 0, none⟩)] W (RdPost (.tuple #[]) w0 B (Lb.snd r)) := by
  have H := Lib.hid h
  clear h
  unfold RdPost Lb.snd
  obtain ⟨q, hq⟩ : ∃ q, Lb.mbR [45] (Lb.moR (Lb.mbR [45] (Lb.nmD (Lb.wkR r)))) = q := ⟨_, rfl⟩
  rw [hq]
  have HQ := Lib.hid hq
  clear hq
  unfold Lb.nmS
  obtain ⟨b, hb⟩ : ∃ b, Lb.dgs 2 2 q = b := ⟨_, rfl⟩
  rw [hb]
  cases b
  · rw [if_neg (by decide)]
    go_enter Try.func16, Try.ntmps16
    go_wp2_with fail
    refine H.out.weekday.mono ?_
    rintro e w1 ⟨rfl, h1⟩
    obtain ⟨_, _, -, -, ⟨k1, k2, k3, k4, k5, k6, k7, k8⟩, f0, f1, f2, f3, f4, f5, f6, f7, f8⟩ := h1.open_
    have H1 : Hid (Rd w0 _ B (Lb.wkR r)) := Lib.hid (h1)
    clear H h1
    go_wp2_with fail
    refine H1.out.num12.mono ?_
    rintro e w2 ⟨rfl, h1⟩
    clear k1 k2 k3 k4 k5 k6 k7 k8 f0 f1 f2 f3 f4 f5 f6 f7 f8
    obtain ⟨_, _, -, -, ⟨k1, k2, k3, k4, k5, k6, k7, k8⟩, f0, f1, f2, f3, f4, f5, f6, f7, f8⟩ := h1.open_
    have H2 : Hid (Rd w0 _ B (Lb.nmD (Lb.wkR r))) := Lib.hid (h1.sD _)
    clear H1 h1
    go_wp2_with fail
    refine H2.out.mb45.mono ?_
    rintro e w3 ⟨rfl, h1⟩
    clear k1 k2 k3 k4 k5 k6 k7 k8 f0 f1 f2 f3 f4 f5 f6 f7 f8
    obtain ⟨_, _, -, -, ⟨k1, k2, k3, k4, k5, k6, k7, k8⟩, f0, f1, f2, f3, f4, f5, f6, f7, f8⟩ := h1.open_
    have H3 : Hid (Rd w0 _ B (Lb.mbR [45] (Lb.nmD (Lb.wkR r)))) := Lib.hid (h1)
    clear H2 h1
    go_wp2_with fail
    refine H3.out.month.mono ?_
    rintro e w4 ⟨rfl, h1⟩
    clear k1 k2 k3 k4 k5 k6 k7 k8 f0 f1 f2 f3 f4 f5 f6 f7 f8
    obtain ⟨_, _, -, -, ⟨k1, k2, k3, k4, k5, k6, k7, k8⟩, f0, f1, f2, f3, f4, f5, f6, f7, f8⟩ := h1.open_
    have H4 : Hid (Rd w0 _ B (Lb.moR (Lb.mbR [45] (Lb.nmD (Lb.wkR r))))) := Lib.hid (h1)
    clear H3 h1
    go_wp2_with fail
    refine H4.out.mb45.mono ?_
    rintro e w5 ⟨rfl, h1⟩
    clear k1 k2 k3 k4 k5 k6 k7 k8 f0 f1 f2 f3 f4 f5 f6 f7 f8
    obtain ⟨_, _, -, -, ⟨k1, k2, k3, k4, k5, k6, k7, k8⟩, f0, f1, f2, f3, f4, f5, f6, f7, f8⟩ := h1.open_
    have H5 : Hid (Rd w0 _ B (Lb.mbR [45] (Lb.moR (Lb.mbR [45] (Lb.nmD (Lb.wkR r)))))) := Lib.hid (h1)
    clear H4 h1
    go_wp2_with fail
    rw [HQ.out] at H5
    have hm := H5.out.dig22
    rw [hb] at hm
    refine hm.mono ?_
    clear hm
    rintro e w6 ⟨rfl, h1⟩
    clear k1 k2 k3 k4 k5 k6 k7 k8 f0 f1 f2 f3 f4 f5 f6 f7 f8
    obtain ⟨_, _, -, -, ⟨k1, k2, k3, k4, k5, k6, k7, k8⟩, f0, f1, f2, f3, f4, f5, f6, f7, f8⟩ := h1.open_
    have H6 : Hid (Rd w0 _ B (q)) := Lib.hid (h1)
    clear H5 h1
    go_wp2_with fail
    refine H6.out.num44.mono ?_
    rintro e w7 ⟨rfl, h1⟩
    clear k1 k2 k3 k4 k5 k6 k7 k8 f0 f1 f2 f3 f4 f5 f6 f7 f8
    obtain ⟨_, _, -, -, ⟨k1, k2, k3, k4, k5, k6, k7, k8⟩, f0, f1, f2, f3, f4, f5, f6, f7, f8⟩ := h1.open_
    have H7 : Hid (Rd w0 _ B (Lb.nmY q)) := Lib.hid (h1.sY _)
    clear H6 h1
    go_wp2_with fail
    refine bodyPost_ret (results_none rfl _ _ _) rfl ?_
    exact ⟨rfl, H7.out⟩
  · rw [if_pos rfl]
    have hbd := Lb.nmV_bd 2 2 q (by omega)
    obtain ⟨n, hn⟩ : ∃ n, Lb.nmV 2 2 q = n := ⟨_, rfl⟩
    rw [hn] at hbd
    rw [hn]
    obtain ⟨hb1, hb2⟩ := hbd
    by_cases l : n < 50
    · rw [if_pos (by omega)]
      have l2 : 1900 + n < 1950 := by omega
      go_enter Try.func16, Try.ntmps16
      go_wp2_with fail
      refine H.out.weekday.mono ?_
      rintro e w1 ⟨rfl, h1⟩
      obtain ⟨_, _, -, -, ⟨k1, k2, k3, k4, k5, k6, k7, k8⟩, f0, f1, f2, f3, f4, f5, f6, f7, f8⟩ := h1.open_
      have H1 : Hid (Rd w0 _ B (Lb.wkR r)) := Lib.hid (h1)
      clear H h1
      go_wp2_with fail
      refine H1.out.num12.mono ?_
      rintro e w2 ⟨rfl, h1⟩
      clear k1 k2 k3 k4 k5 k6 k7 k8 f0 f1 f2 f3 f4 f5 f6 f7 f8
      obtain ⟨_, _, -, -, ⟨k1, k2, k3, k4, k5, k6, k7, k8⟩, f0, f1, f2, f3, f4, f5, f6, f7, f8⟩ := h1.open_
      have H2 : Hid (Rd w0 _ B (Lb.nmD (Lb.wkR r))) := Lib.hid (h1.sD _)
      clear H1 h1
      go_wp2_with fail
      refine H2.out.mb45.mono ?_
      rintro e w3 ⟨rfl, h1⟩
      clear k1 k2 k3 k4 k5 k6 k7 k8 f0 f1 f2 f3 f4 f5 f6 f7 f8
      obtain ⟨_, _, -, -, ⟨k1, k2, k3, k4, k5, k6, k7, k8⟩, f0, f1, f2, f3, f4, f5, f6, f7, f8⟩ := h1.open_
      have H3 : Hid (Rd w0 _ B (Lb.mbR [45] (Lb.nmD (Lb.wkR r)))) := Lib.hid (h1)
      clear H2 h1
      go_wp2_with fail
      refine H3.out.month.mono ?_
      rintro e w4 ⟨rfl, h1⟩
      clear k1 k2 k3 k4 k5 k6 k7 k8 f0 f1 f2 f3 f4 f5 f6 f7 f8
      obtain ⟨_, _, -, -, ⟨k1, k2, k3, k4, k5, k6, k7, k8⟩, f0, f1, f2, f3, f4, f5, f6, f7, f8⟩ := h1.open_
      have H4 : Hid (Rd w0 _ B (Lb.moR (Lb.mbR [45] (Lb.nmD (Lb.wkR r))))) := Lib.hid (h1)
      clear H3 h1
      go_wp2_with fail
      refine H4.out.mb45.mono ?_
      rintro e w5 ⟨rfl, h1⟩
      clear k1 k2 k3 k4 k5 k6 k7 k8 f0 f1 f2 f3 f4 f5 f6 f7 f8
      obtain ⟨_, _, -, -, ⟨k1, k2, k3, k4, k5, k6, k7, k8⟩, f0, f1, f2, f3, f4, f5, f6, f7, f8⟩ := h1.open_
      have H5 : Hid (Rd w0 _ B (Lb.mbR [45] (Lb.moR (Lb.mbR [45] (Lb.nmD (Lb.wkR r)))))) := Lib.hid (h1)
      clear H4 h1
      go_wp2_with fail
      rw [HQ.out] at H5
      have hm := H5.out.dig22
      rw [hb] at hm
      refine hm.mono ?_
      clear hm
      rintro e w6 ⟨rfl, h1⟩
      clear k1 k2 k3 k4 k5 k6 k7 k8 f0 f1 f2 f3 f4 f5 f6 f7 f8
      obtain ⟨_, _, -, -, ⟨k1, k2, k3, k4, k5, k6, k7, k8⟩, f0, f1, f2, f3, f4, f5, f6, f7, f8⟩ := h1.open_
      have H6 : Hid (Rd w0 _ B (q)) := Lib.hid (h1)
      clear H5 h1
      go_wp2_with fail
      have hm := H6.out.num22
      rw [hn] at hm
      refine hm.mono ?_
      clear hm
      rintro e w7 ⟨rfl, h1⟩
      clear k1 k2 k3 k4 k5 k6 k7 k8 f0 f1 f2 f3 f4 f5 f6 f7 f8
      obtain ⟨_, _, -, -, ⟨k1, k2, k3, k4, k5, k6, k7, k8⟩, f0, f1, f2, f3, f4, f5, f6, f7, f8⟩ := h1.open_
      have h2 := (h1.sY (1900 + n)).sY (2000 + n)
      have H7 : Hid (Rd w0 _ B (Lb.sY (2000 + n) (Lb.nmR 2 2 q))) := Lib.hid h2
      clear h2
      have e19 : 1900 + n + 100 = 2000 + n := by omega
      clear H6 h1
      go_wp2_with fail
      go_end0
      exact ⟨rfl, H7.out⟩
    · rw [if_neg (by omega)]
      have l2 : ¬ 1900 + n < 1950 := by omega
      go_enter Try.func16, Try.ntmps16
      go_wp2_with fail
      refine H.out.weekday.mono ?_
      rintro e w1 ⟨rfl, h1⟩
      obtain ⟨_, _, -, -, ⟨k1, k2, k3, k4, k5, k6, k7, k8⟩, f0, f1, f2, f3, f4, f5, f6, f7, f8⟩ := h1.open_
      have H1 : Hid (Rd w0 _ B (Lb.wkR r)) := Lib.hid (h1)
      clear H h1
      go_wp2_with fail
      refine H1.out.num12.mono ?_
      rintro e w2 ⟨rfl, h1⟩
      clear k1 k2 k3 k4 k5 k6 k7 k8 f0 f1 f2 f3 f4 f5 f6 f7 f8
      obtain ⟨_, _, -, -, ⟨k1, k2, k3, k4, k5, k6, k7, k8⟩, f0, f1, f2, f3, f4, f5, f6, f7, f8⟩ := h1.open_
      have H2 : Hid (Rd w0 _ B (Lb.nmD (Lb.wkR r))) := Lib.hid (h1.sD _)
      clear H1 h1
      go_wp2_with fail
      refine H2.out.mb45.mono ?_
      rintro e w3 ⟨rfl, h1⟩
      clear k1 k2 k3 k4 k5 k6 k7 k8 f0 f1 f2 f3 f4 f5 f6 f7 f8
      obtain ⟨_, _, -, -, ⟨k1, k2, k3, k4, k5, k6, k7, k8⟩, f0, f1, f2, f3, f4, f5, f6, f7, f8⟩ := h1.open_
      have H3 : Hid (Rd w0 _ B (Lb.mbR [45] (Lb.nmD (Lb.wkR r)))) := Lib.hid (h1)
      clear H2 h1
      go_wp2_with fail
      refine H3.out.month.mono ?_
      rintro e w4 ⟨rfl, h1⟩
      clear k1 k2 k3 k4 k5 k6 k7 k8 f0 f1 f2 f3 f4 f5 f6 f7 f8
      obtain ⟨_, _, -, -, ⟨k1, k2, k3, k4, k5, k6, k7, k8⟩, f0, f1, f2, f3, f4, f5, f6, f7, f8⟩ := h1.open_
      have H4 : Hid (Rd w0 _ B (Lb.moR (Lb.mbR [45] (Lb.nmD (Lb.wkR r))))) := Lib.hid (h1)
      clear H3 h1
      go_wp2_with fail
      refine H4.out.mb45.mono ?_
      rintro e w5 ⟨rfl, h1⟩
      clear k1 k2 k3 k4 k5 k6 k7 k8 f0 f1 f2 f3 f4 f5 f6 f7 f8
      obtain ⟨_, _, -, -, ⟨k1, k2, k3, k4, k5, k6, k7, k8⟩, f0, f1, f2, f3, f4, f5, f6, f7, f8⟩ := h1.open_
      have H5 : Hid (Rd w0 _ B (Lb.mbR [45] (Lb.moR (Lb.mbR [45] (Lb.nmD (Lb.wkR r)))))) := Lib.hid (h1)
      clear H4 h1
      go_wp2_with fail
      rw [HQ.out] at H5
      have hm := H5.out.dig22
      rw [hb] at hm
      refine hm.mono ?_
      clear hm
      rintro e w6 ⟨rfl, h1⟩
      clear k1 k2 k3 k4 k5 k6 k7 k8 f0 f1 f2 f3 f4 f5 f6 f7 f8
      obtain ⟨_, _, -, -, ⟨k1, k2, k3, k4, k5, k6, k7, k8⟩, f0, f1, f2, f3, f4, f5, f6, f7, f8⟩ := h1.open_
      have H6 : Hid (Rd w0 _ B (q)) := Lib.hid (h1)
      clear H5 h1
      go_wp2_with fail
      have hm := H6.out.num22
      rw [hn] at hm
      refine hm.mono ?_
      clear hm
      rintro e w7 ⟨rfl, h1⟩
      clear k1 k2 k3 k4 k5 k6 k7 k8 f0 f1 f2 f3 f4 f5 f6 f7 f8
      obtain ⟨_, _, -, -, ⟨k1, k2, k3, k4, k5, k6, k7, k8⟩, f0, f1, f2, f3, f4, f5, f6, f7, f8⟩ := h1.open_
      have H7 : Hid (Rd w0 _ B (Lb.sY (1900 + n) (Lb.nmR 2 2 q))) := Lib.hid (h1.sY (1900 + n))
      clear H6 h1
      go_wp2_with fail
      go_end0
      exact ⟨rfl, H7.out⟩
end
end Go.Proofs.Ytbhafhbaldddiaa
