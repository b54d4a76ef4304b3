/- The walk of a liberal reader's zone by name, or none. -/
import Derived.Test.YtbhafhbaldddiaaLbI
namespace Go.Proofs.Ytbhafhbaldddiaa
open Go.RowKit
open Go
open Lb (R Wd)
set_option linter.unusedVariables false
section
variable {w0 W : World} {B : Nat} {r : R}
theorem Rd.zone_none (h : Rd w0 W B r) (hx : r.l = []) : Calls Try.prog 19 #[.pointer (some ⟨B, 0, none⟩)] W (RdPost (.tuple #[]) w0 B r) := by
  obtain ⟨p, c, ⟨k0, hc⟩, -⟩ := h.open_
  rw [hx] at k0
  have hz : ([] : List Wd).length = 0 := rfl
  rw [hz] at k0
  have H := Lib.hid h
  clear h hx hc
  go_enter Try.func19, Try.ntmps19
  go_wp2
  refine bodyPost_ret (results_none rfl _ _ _) rfl ?_
  exact ⟨rfl, H.out⟩
theorem Rd.named {W : World} {r : R} {bd : Bool} (h : Rd w0 W B r) (hb : r.bad = bd) (x : Int) (ok b : Bool) (v : Value) (hp : PRow W B v r.l.tail) (e : b = (bd || !ok)) :
    Rd w0 (((W.setCell ⟨B, 8, none⟩ (.int .i64 x)).setCell ⟨B, 1, none⟩ (.bool b)).setCell ⟨B, 0, none⟩ v) B (Lb.tl (Lb.sE x (Lb.orB (!ok) r))) := by
  subst e
  have h2 := ((h.sE x).bad1 (bd || !ok)).tl v ((hp.setB 8 (.int .i64 x)).setB 1 (.bool (bd || !ok)))
  have e : Lb.orB (!ok) r = { r with bad := bd || !ok } := by unfold Lb.orB; rw [hb]
  rw [e]
  exact h2
set_option maxHeartbeats 4000000 in
set_option maxRecDepth 100000 in
theorem Rd.zone_name (h : Rd w0 W B r) (hl : r.l ≠ []) (h43 : Lb.nx r ≠ [43]) (h45 : Lb.nx r ≠ [45]) : Calls Try.prog 19 #[.pointer (some ⟨B, 0, none⟩)] W (RdPost (.tuple #[]) w0 B (Lb.tl (Lb.sE ((Lb.hrF (Lb.nx r)).1 * 60) (Lb.orB (!(Lb.hrF (Lb.nx r)).2) r)))) := by
  have hb43 : Lb.mbB [43] r = false := by unfold Lb.mbB; exact decide_eq_false h43
  have hb45 : Lb.mbB [45] r = false := by unfold Lb.mbB; exact decide_eq_false h45
  have hs := h.2.2.2.2.2.nx
  obtain ⟨g, i, n', c', k0, hc, -⟩ := h.head_ hl
  have H := Lib.hid h
  have HL := Lib.hid hl
  clear h h43 h45 hl
  have hh := hr_any (Lb.nx r) hs
  unfold HrPost at hh
  have hbd : -8 ≤ (Lb.hrF (Lb.nx r)).1 ∧ (Lb.hrF (Lb.nx r)).1 ≤ 0 := hr_bd _
  generalize (Lb.hrF (Lb.nx r)).1 = hv at hh hbd ⊢
  generalize (Lb.hrF (Lb.nx r)).2 = ok at hh ⊢
  obtain ⟨hv1, hv2⟩ := hbd
  unfold RdPost
  go_enter Try.func19, Try.ntmps19
  go_wp2_with fail
  have hm := H.out.mb43
  rw [hb43, mb_no hb43] at hm
  refine hm.mono ?_
  clear hm
  rintro e w1 ⟨rfl, h1⟩
  obtain ⟨_, _, -, -, ⟨k1, k2, k3, k4, k5, k6, k7, k8⟩, f0, f1, f2, f3, f4, f5, f6, f7, f8⟩ := h1.open_
  have H1 : Hid (Rd w0 _ B (r)) := Lib.hid (h1)
  clear H h1
  go_wp2_with fail
  have hm := H1.out.mb45
  rw [hb45, mb_no hb45] at hm
  refine hm.mono ?_
  clear hm
  rintro e w2 ⟨rfl, h1⟩
  clear k1 k2 k3 k4 k5 k6 k7 k8 f0 f1 f2 f3 f4 f5 f6 f7 f8
  obtain ⟨_, _, -, -, ⟨k1, k2, k3, k4, k5, k6, k7, k8⟩, f0, f1, f2, f3, f4, f5, f6, f7, f8⟩ := h1.open_
  have H2 : Hid (Rd w0 _ B (r)) := Lib.hid (h1)
  clear H1 h1
  go_wp2_with fail
  refine H2.out.next.mono ?_
  rintro e w3 ⟨rfl, h1⟩
  have ht := h1.tail2 HL.out
  clear k1 k2 k3 k4 k5 k6 k7 k8 f0 f1 f2 f3 f4 f5 f6 f7 f8
  obtain ⟨_, _, -, -, ⟨k1, k2, k3, k4, k5, k6, k7, k8⟩, f0, f1, f2, f3, f4, f5, f6, f7, f8⟩ := h1.open_
  have H3 := Lib.hid h1
  clear H2 h1
  clear hc hs hb43 hb45 HL k0
  go_wp2_with fail
  refine (hh _).mono ?_
  rintro e w4 ⟨rfl, rfl⟩
  clear hh
  obtain ⟨bd, hbd⟩ : ∃ bd, r.bad = bd := ⟨_, rfl⟩
  rw [hbd] at k1
  have HBD := Lib.hid hbd
  clear hbd f0
  unfold Tail2 at ht
  rcases ht with ⟨g, i, k0, kx, f0, hp⟩ | ⟨g, i, n, c, k0, hc, kx, f0, hp⟩
  all_goals clear kx
  all_goals cases bd
  all_goals cases ok
  all_goals go_wp2_with fail
  all_goals go_region
  all_goals go_wp2
  all_goals
    refine bodyPost_ret (results_none rfl _ _ _) rfl ?_
    refine ⟨rfl, Rd.drew ?_⟩
    with_reducible refine Rd.named H3.out HBD.out _ _ _ _ hp.out ?_
    rfl
theorem Rd.zone (h : Rd w0 W B r) : Calls Try.prog 19 #[.pointer (some ⟨B, 0, none⟩)] W (RdPost (.tuple #[]) w0 B (Lb.znR r)) := by
  unfold Lb.znR
  by_cases h0 : r.l = []
  · rw [if_pos h0]
    exact h.zone_none h0
  · rw [if_neg h0]
    by_cases h1 : Lb.nx r = [43]
    · rw [if_pos h1]
      exact h.zone_plus h1
    · rw [if_neg h1]
      by_cases h2 : Lb.nx r = [45]
      · rw [if_pos h2]
        exact h.zone_minus h2
      · rw [if_neg h2]
        exact h.zone_name h0 h1 h2
end
end Go.Proofs.Ytbhafhbaldddiaa
