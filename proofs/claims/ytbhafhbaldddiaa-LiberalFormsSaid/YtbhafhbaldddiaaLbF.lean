/- The walks of a liberal reader's month, weekday, clock and of the three forms. -/
import Derived.Test.YtbhafhbaldddiaaLbD
import Derived.Test.YtbhafhbaldddiaaLbE
namespace Go.Proofs.Ytbhafhbaldddiaa
open Go.RowKit
open Go
open Lb (R Wd)
set_option linter.unusedVariables false
theorem mb_yes {u : Wd} {r : R} (h : Lb.mbB u r = true) : Lb.mbR u r = Lb.tl r := by
  unfold Lb.mbB at h
  unfold Lb.mbR
  rw [if_pos (of_decide_eq_true h)]
theorem mb_no {u : Wd} {r : R} (h : Lb.mbB u r = false) : Lb.mbR u r = r := by
  unfold Lb.mbB at h
  unfold Lb.mbR
  rw [if_neg (of_decide_eq_false h)]
theorem PRow.setB {W : World} {B : Nat} {v : Value} {l : List Wd} (h : PRow W B v l) (j : Nat) (x : Value) : PRow (W.setCell ⟨B, j, none⟩ x) B v l :=
  h.far fun a ha => World.cell?_setCell_other _ _ _ _ (fun e => absurd (congrArg Addr.block e) (by show ¬ B = _; omega))
section
variable {w0 W : World} {B : Nat} {r : R}
def Tail2 (w0 W : World) (B : Nat) (r : R) : Prop :=
  (∃ g i, W.cell? ⟨B, 0, none⟩ = some (.slice (some ⟨g, i, none⟩) 1 1) ∧ W.cell? ⟨g, i, none⟩ = some (.string (Ml.mk (Lb.nx r))) ∧ W.frozen? ⟨B, 0, none⟩ = false ∧ Hid (PRow W B (.slice (some ⟨g, i, none⟩) 0 0) r.l.tail)) ∨
  (∃ g i n c, W.cell? ⟨B, 0, none⟩ = some (.slice (some ⟨g, i, none⟩) (n + 1) (c + 2)) ∧ n ≤ c + 1 ∧ W.cell? ⟨g, i, none⟩ = some (.string (Ml.mk (Lb.nx r))) ∧ W.frozen? ⟨B, 0, none⟩ = false ∧ Hid (PRow W B (.slice (some ⟨g, i + 1, none⟩) n (c + 1)) r.l.tail))
theorem Rd.tail2 (h : Rd w0 W B r) (hl : r.l ≠ []) : Tail2 w0 W B r := by
  obtain ⟨p, c, ⟨k0, hc⟩, hp, _, f0, _⟩ := h.open_
  unfold Tail2
  have hnx : ∀ x t, r.l = x :: t → Lb.nx r = x := fun x t e => by unfold Lb.nx; rw [e]; rfl
  obtain ⟨l, e⟩ : ∃ l, r.l = l := ⟨_, rfl⟩
  rw [e] at k0 hc hp hl ⊢
  cases l with
  | nil => exact absurd rfl hl
  | cons x t =>
    rw [hnx x t e]
    obtain ⟨g, i, rfl, hx, hr⟩ := hp.first
    rw [List.length_cons] at k0 hc
    match c, hc with
    | 1, hc =>
      have ht : t.length = 0 := by omega
      rw [ht] at k0 hr
      exact Or.inl ⟨g, i, k0, hx, f0, Lib.hid hr⟩
    | c + 2, hc =>
      have e1 : c + 2 - 1 = c + 1 := rfl
      rw [if_pos (by omega), e1] at hr
      exact Or.inr ⟨g, i, t.length, c, k0, by omega, hx, f0, Lib.hid hr⟩
theorem Rd.num12 (h : Rd w0 W B r) : Calls Try.prog 30 #[.pointer (some ⟨B, 0, none⟩), .int .i64 1, .int .i64 2] W (RdPost (.int .i64 (Lb.nmV 1 2 r)) w0 B (Lb.nmR 1 2 r)) := h.number 1 2 (by omega) (by omega)
theorem Rd.dig12 (h : Rd w0 W B r) : Calls Try.prog 33 #[.pointer (some ⟨B, 0, none⟩), .int .i64 1, .int .i64 2] W (RdPost (.bool (Lb.dgs 1 2 r)) w0 B r) := h.digits 1 2 (by omega) (by omega)
theorem Rd.num22 (h : Rd w0 W B r) : Calls Try.prog 30 #[.pointer (some ⟨B, 0, none⟩), .int .i64 2, .int .i64 2] W (RdPost (.int .i64 (Lb.nmV 2 2 r)) w0 B (Lb.nmR 2 2 r)) := h.number 2 2 (by omega) (by omega)
theorem Rd.dig22 (h : Rd w0 W B r) : Calls Try.prog 33 #[.pointer (some ⟨B, 0, none⟩), .int .i64 2, .int .i64 2] W (RdPost (.bool (Lb.dgs 2 2 r)) w0 B r) := h.digits 2 2 (by omega) (by omega)
theorem Rd.num44 (h : Rd w0 W B r) : Calls Try.prog 30 #[.pointer (some ⟨B, 0, none⟩), .int .i64 4, .int .i64 4] W (RdPost (.int .i64 (Lb.nmV 4 4 r)) w0 B (Lb.nmR 4 4 r)) := h.number 4 4 (by omega) (by omega)
theorem Rd.dig44 (h : Rd w0 W B r) : Calls Try.prog 33 #[.pointer (some ⟨B, 0, none⟩), .int .i64 4, .int .i64 4] W (RdPost (.bool (Lb.dgs 4 4 r)) w0 B r) := h.digits 4 4 (by omega) (by omega)
theorem Rd.num1m (h : Rd w0 W B r) : Calls Try.prog 30 #[.pointer (some ⟨B, 0, none⟩), .int .i64 1, .int .i64 1048576] W (RdPost (.int .i64 (Lb.nmV 1 1048576 r)) w0 B (Lb.nmR 1 1048576 r)) := h.number 1 1048576 (by omega) (by omega)
theorem Rd.dig1m (h : Rd w0 W B r) : Calls Try.prog 33 #[.pointer (some ⟨B, 0, none⟩), .int .i64 1, .int .i64 1048576] W (RdPost (.bool (Lb.dgs 1 1048576 r)) w0 B r) := h.digits 1 1048576 (by omega) (by omega)
theorem Rd.mb58 (h : Rd w0 W B r) : Calls Try.prog 32 #[.pointer (some ⟨B, 0, none⟩), .string ⟨#[58]⟩] W (RdPost (.bool (Lb.mbB [58] r)) w0 B (Lb.mbR [58] r)) := h.maybe [58] (by simp) (by simp)
theorem Rd.mb46 (h : Rd w0 W B r) : Calls Try.prog 32 #[.pointer (some ⟨B, 0, none⟩), .string ⟨#[46]⟩] W (RdPost (.bool (Lb.mbB [46] r)) w0 B (Lb.mbR [46] r)) := h.maybe [46] (by simp) (by simp)
theorem Rd.mb45 (h : Rd w0 W B r) : Calls Try.prog 32 #[.pointer (some ⟨B, 0, none⟩), .string ⟨#[45]⟩] W (RdPost (.bool (Lb.mbB [45] r)) w0 B (Lb.mbR [45] r)) := h.maybe [45] (by simp) (by simp)
theorem Rd.mb44 (h : Rd w0 W B r) : Calls Try.prog 32 #[.pointer (some ⟨B, 0, none⟩), .string ⟨#[44]⟩] W (RdPost (.bool (Lb.mbB [44] r)) w0 B (Lb.mbR [44] r)) := h.maybe [44] (by simp) (by simp)
theorem Rd.mb116 (h : Rd w0 W B r) : Calls Try.prog 32 #[.pointer (some ⟨B, 0, none⟩), .string ⟨#[116]⟩] W (RdPost (.bool (Lb.mbB [116] r)) w0 B (Lb.mbR [116] r)) := h.maybe [116] (by simp) (by simp)
theorem Rd.mb43 (h : Rd w0 W B r) : Calls Try.prog 32 #[.pointer (some ⟨B, 0, none⟩), .string ⟨#[43]⟩] W (RdPost (.bool (Lb.mbB [43] r)) w0 B (Lb.mbR [43] r)) := h.maybe [43] (by simp) (by simp)
theorem Rd.mu58 (h : Rd w0 W B r) : Calls Try.prog 31 #[.pointer (some ⟨B, 0, none⟩), .string ⟨#[58]⟩] W (RdPost (.tuple #[]) w0 B (Lb.muR [58] r)) := h.must [58] (by simp) (by simp)
theorem Rd.mu45 (h : Rd w0 W B r) : Calls Try.prog 31 #[.pointer (some ⟨B, 0, none⟩), .string ⟨#[45]⟩] W (RdPost (.tuple #[]) w0 B (Lb.muR [45] r)) := h.must [45] (by simp) (by simp)
set_option maxHeartbeats 2000000 in
theorem Rd.clock (h : Rd w0 W B r) : Calls Try.prog 18 #[.pointer (some ⟨B, 0, none⟩)] W (RdPost (.bool (Lb.clB r)) w0 B (Lb.clR r)) := by
  have H := Lib.hid h
  clear h
  unfold RdPost Lb.clR
  obtain ⟨b, hb⟩ : ∃ b, Lb.clB r = b := ⟨_, rfl⟩
  rw [hb]
  have hb2 : Lb.dgs 1 1048576 r = b := hb
  clear hb
  cases b
  · rw [if_neg (by decide)]
    go_enter Try.func18, Try.ntmps18
    go_wp2_with fail
    have hm := H.out.dig1m
    rw [hb2] at hm
    refine hm.mono ?_
    clear hm
    rintro e w1 ⟨rfl, h1⟩
    obtain ⟨_, _, -, -, ⟨k1, k2, k3, k4, k5, k6, k7, k8⟩, f0, f1, f2, f3, f4, f5, f6, f7, f8⟩ := h1.open_
    have H1 : Hid (Rd w0 _ B (r)) := Lib.hid (h1)
    clear H h1
    go_wp2_with fail
    go_ret
    exact ⟨rfl, H1.out⟩
  · rw [if_pos rfl]
    obtain ⟨b, hb⟩ : ∃ b, Lb.mbB [58] (Lb.cl3 r) = b := ⟨_, rfl⟩
    rw [hb]
    cases b
    · rw [if_neg (by decide)]
      go_enter Try.func18, Try.ntmps18
      go_wp2_with fail
      have hm := H.out.dig1m
      rw [hb2] at hm
      refine hm.mono ?_
      clear hm
      rintro e w1 ⟨rfl, h1⟩
      obtain ⟨_, _, -, -, ⟨k1, k2, k3, k4, k5, k6, k7, k8⟩, f0, f1, f2, f3, f4, f5, f6, f7, f8⟩ := h1.open_
      have H1 : Hid (Rd w0 _ B (r)) := Lib.hid (h1)
      clear H h1
      go_wp2_with fail
      refine H1.out.num12.mono ?_
      rintro e w2 ⟨rfl, h1⟩
      clear k1 k2 k3 k4 k5 k6 k7 k8 f0 f1 f2 f3 f4 f5 f6 f7 f8
      obtain ⟨_, _, -, -, ⟨k1, k2, k3, k4, k5, k6, k7, k8⟩, f0, f1, f2, f3, f4, f5, f6, f7, f8⟩ := h1.open_
      have H2 : Hid (Rd w0 _ B (Lb.cl1 r)) := Lib.hid (h1.sH _)
      clear H1 h1
      go_wp2_with fail
      refine H2.out.mu58.mono ?_
      rintro e w3 ⟨rfl, h1⟩
      clear k1 k2 k3 k4 k5 k6 k7 k8 f0 f1 f2 f3 f4 f5 f6 f7 f8
      obtain ⟨_, _, -, -, ⟨k1, k2, k3, k4, k5, k6, k7, k8⟩, f0, f1, f2, f3, f4, f5, f6, f7, f8⟩ := h1.open_
      have H3 : Hid (Rd w0 _ B (Lb.cl2 r)) := Lib.hid (h1)
      clear H2 h1
      go_wp2_with fail
      refine H3.out.num22.mono ?_
      rintro e w4 ⟨rfl, h1⟩
      clear k1 k2 k3 k4 k5 k6 k7 k8 f0 f1 f2 f3 f4 f5 f6 f7 f8
      obtain ⟨_, _, -, -, ⟨k1, k2, k3, k4, k5, k6, k7, k8⟩, f0, f1, f2, f3, f4, f5, f6, f7, f8⟩ := h1.open_
      have H4 : Hid (Rd w0 _ B (Lb.cl3 r)) := Lib.hid (h1.sMi _)
      clear H3 h1
      go_wp2_with fail
      have hm := H4.out.mb58
      rw [hb, mb_no hb] at hm
      refine hm.mono ?_
      clear hm
      rintro e w5 ⟨rfl, h1⟩
      clear k1 k2 k3 k4 k5 k6 k7 k8 f0 f1 f2 f3 f4 f5 f6 f7 f8
      obtain ⟨_, _, -, -, ⟨k1, k2, k3, k4, k5, k6, k7, k8⟩, f0, f1, f2, f3, f4, f5, f6, f7, f8⟩ := h1.open_
      have H5 : Hid (Rd w0 _ B (Lb.cl3 r)) := Lib.hid (h1)
      clear H4 h1
      go_wp2_with fail
      go_ret
      exact ⟨rfl, H5.out⟩
    · rw [if_pos rfl]
      obtain ⟨b, hb3⟩ : ∃ b, Lb.mbB [46] (Lb.cl4 (Lb.tl (Lb.cl3 r))) = b := ⟨_, rfl⟩
      rw [hb3]
      cases b
      · rw [if_neg (by decide)]
        go_enter Try.func18, Try.ntmps18
        go_wp2_with fail
        have hm := H.out.dig1m
        rw [hb2] at hm
        refine hm.mono ?_
        clear hm
        rintro e w1 ⟨rfl, h1⟩
        obtain ⟨_, _, -, -, ⟨k1, k2, k3, k4, k5, k6, k7, k8⟩, f0, f1, f2, f3, f4, f5, f6, f7, f8⟩ := h1.open_
        have H1 : Hid (Rd w0 _ B (r)) := Lib.hid (h1)
        clear H h1
        go_wp2_with fail
        refine H1.out.num12.mono ?_
        rintro e w2 ⟨rfl, h1⟩
        clear k1 k2 k3 k4 k5 k6 k7 k8 f0 f1 f2 f3 f4 f5 f6 f7 f8
        obtain ⟨_, _, -, -, ⟨k1, k2, k3, k4, k5, k6, k7, k8⟩, f0, f1, f2, f3, f4, f5, f6, f7, f8⟩ := h1.open_
        have H2 : Hid (Rd w0 _ B (Lb.cl1 r)) := Lib.hid (h1.sH _)
        clear H1 h1
        go_wp2_with fail
        refine H2.out.mu58.mono ?_
        rintro e w3 ⟨rfl, h1⟩
        clear k1 k2 k3 k4 k5 k6 k7 k8 f0 f1 f2 f3 f4 f5 f6 f7 f8
        obtain ⟨_, _, -, -, ⟨k1, k2, k3, k4, k5, k6, k7, k8⟩, f0, f1, f2, f3, f4, f5, f6, f7, f8⟩ := h1.open_
        have H3 : Hid (Rd w0 _ B (Lb.cl2 r)) := Lib.hid (h1)
        clear H2 h1
        go_wp2_with fail
        refine H3.out.num22.mono ?_
        rintro e w4 ⟨rfl, h1⟩
        clear k1 k2 k3 k4 k5 k6 k7 k8 f0 f1 f2 f3 f4 f5 f6 f7 f8
        obtain ⟨_, _, -, -, ⟨k1, k2, k3, k4, k5, k6, k7, k8⟩, f0, f1, f2, f3, f4, f5, f6, f7, f8⟩ := h1.open_
        have H4 : Hid (Rd w0 _ B (Lb.cl3 r)) := Lib.hid (h1.sMi _)
        clear H3 h1
        go_wp2_with fail
        have hm := H4.out.mb58
        rw [hb, mb_yes hb] at hm
        refine hm.mono ?_
        clear hm
        rintro e w5 ⟨rfl, h1⟩
        clear k1 k2 k3 k4 k5 k6 k7 k8 f0 f1 f2 f3 f4 f5 f6 f7 f8
        obtain ⟨_, _, -, -, ⟨k1, k2, k3, k4, k5, k6, k7, k8⟩, f0, f1, f2, f3, f4, f5, f6, f7, f8⟩ := h1.open_
        have H5 : Hid (Rd w0 _ B (Lb.tl (Lb.cl3 r))) := Lib.hid (h1)
        clear H4 h1
        go_wp2_with fail
        refine H5.out.num22.mono ?_
        rintro e w6 ⟨rfl, h1⟩
        clear k1 k2 k3 k4 k5 k6 k7 k8 f0 f1 f2 f3 f4 f5 f6 f7 f8
        obtain ⟨_, _, -, -, ⟨k1, k2, k3, k4, k5, k6, k7, k8⟩, f0, f1, f2, f3, f4, f5, f6, f7, f8⟩ := h1.open_
        have H6 : Hid (Rd w0 _ B (Lb.cl4 (Lb.tl (Lb.cl3 r)))) := Lib.hid (h1.sS _)
        clear H5 h1
        go_wp2_with fail
        have hm := H6.out.mb46
        rw [hb3, mb_no hb3] at hm
        refine hm.mono ?_
        clear hm
        rintro e w7 ⟨rfl, h1⟩
        clear k1 k2 k3 k4 k5 k6 k7 k8 f0 f1 f2 f3 f4 f5 f6 f7 f8
        obtain ⟨_, _, -, -, ⟨k1, k2, k3, k4, k5, k6, k7, k8⟩, f0, f1, f2, f3, f4, f5, f6, f7, f8⟩ := h1.open_
        have H7 : Hid (Rd w0 _ B (Lb.cl4 (Lb.tl (Lb.cl3 r)))) := Lib.hid (h1)
        clear H6 h1
        go_wp2_with fail
        go_ret
        exact ⟨rfl, H7.out⟩
      · rw [if_pos rfl]
        go_enter Try.func18, Try.ntmps18
        go_wp2_with fail
        have hm := H.out.dig1m
        rw [hb2] at hm
        refine hm.mono ?_
        clear hm
        rintro e w1 ⟨rfl, h1⟩
        obtain ⟨_, _, -, -, ⟨k1, k2, k3, k4, k5, k6, k7, k8⟩, f0, f1, f2, f3, f4, f5, f6, f7, f8⟩ := h1.open_
        have H1 : Hid (Rd w0 _ B (r)) := Lib.hid (h1)
        clear H h1
        go_wp2_with fail
        refine H1.out.num12.mono ?_
        rintro e w2 ⟨rfl, h1⟩
        clear k1 k2 k3 k4 k5 k6 k7 k8 f0 f1 f2 f3 f4 f5 f6 f7 f8
        obtain ⟨_, _, -, -, ⟨k1, k2, k3, k4, k5, k6, k7, k8⟩, f0, f1, f2, f3, f4, f5, f6, f7, f8⟩ := h1.open_
        have H2 : Hid (Rd w0 _ B (Lb.cl1 r)) := Lib.hid (h1.sH _)
        clear H1 h1
        go_wp2_with fail
        refine H2.out.mu58.mono ?_
        rintro e w3 ⟨rfl, h1⟩
        clear k1 k2 k3 k4 k5 k6 k7 k8 f0 f1 f2 f3 f4 f5 f6 f7 f8
        obtain ⟨_, _, -, -, ⟨k1, k2, k3, k4, k5, k6, k7, k8⟩, f0, f1, f2, f3, f4, f5, f6, f7, f8⟩ := h1.open_
        have H3 : Hid (Rd w0 _ B (Lb.cl2 r)) := Lib.hid (h1)
        clear H2 h1
        go_wp2_with fail
        refine H3.out.num22.mono ?_
        rintro e w4 ⟨rfl, h1⟩
        clear k1 k2 k3 k4 k5 k6 k7 k8 f0 f1 f2 f3 f4 f5 f6 f7 f8
        obtain ⟨_, _, -, -, ⟨k1, k2, k3, k4, k5, k6, k7, k8⟩, f0, f1, f2, f3, f4, f5, f6, f7, f8⟩ := h1.open_
        have H4 : Hid (Rd w0 _ B (Lb.cl3 r)) := Lib.hid (h1.sMi _)
        clear H3 h1
        go_wp2_with fail
        have hm := H4.out.mb58
        rw [hb, mb_yes hb] at hm
        refine hm.mono ?_
        clear hm
        rintro e w5 ⟨rfl, h1⟩
        clear k1 k2 k3 k4 k5 k6 k7 k8 f0 f1 f2 f3 f4 f5 f6 f7 f8
        obtain ⟨_, _, -, -, ⟨k1, k2, k3, k4, k5, k6, k7, k8⟩, f0, f1, f2, f3, f4, f5, f6, f7, f8⟩ := h1.open_
        have H5 : Hid (Rd w0 _ B (Lb.tl (Lb.cl3 r))) := Lib.hid (h1)
        clear H4 h1
        go_wp2_with fail
        refine H5.out.num22.mono ?_
        rintro e w6 ⟨rfl, h1⟩
        clear k1 k2 k3 k4 k5 k6 k7 k8 f0 f1 f2 f3 f4 f5 f6 f7 f8
        obtain ⟨_, _, -, -, ⟨k1, k2, k3, k4, k5, k6, k7, k8⟩, f0, f1, f2, f3, f4, f5, f6, f7, f8⟩ := h1.open_
        have H6 : Hid (Rd w0 _ B (Lb.cl4 (Lb.tl (Lb.cl3 r)))) := Lib.hid (h1.sS _)
        clear H5 h1
        go_wp2_with fail
        have hm := H6.out.mb46
        rw [hb3, mb_yes hb3] at hm
        refine hm.mono ?_
        clear hm
        rintro e w7 ⟨rfl, h1⟩
        clear k1 k2 k3 k4 k5 k6 k7 k8 f0 f1 f2 f3 f4 f5 f6 f7 f8
        obtain ⟨_, _, -, -, ⟨k1, k2, k3, k4, k5, k6, k7, k8⟩, f0, f1, f2, f3, f4, f5, f6, f7, f8⟩ := h1.open_
        have H7 : Hid (Rd w0 _ B (Lb.tl (Lb.cl4 (Lb.tl (Lb.cl3 r))))) := Lib.hid (h1)
        clear H6 h1
        go_wp2_with fail
        refine H7.out.num1m.mono ?_
        rintro e w8 ⟨rfl, h1⟩
        clear k1 k2 k3 k4 k5 k6 k7 k8 f0 f1 f2 f3 f4 f5 f6 f7 f8
        obtain ⟨_, _, -, -, ⟨k1, k2, k3, k4, k5, k6, k7, k8⟩, f0, f1, f2, f3, f4, f5, f6, f7, f8⟩ := h1.open_
        have H8 : Hid (Rd w0 _ B (Lb.nmR 1 1048576 (Lb.tl (Lb.cl4 (Lb.tl (Lb.cl3 r)))))) := Lib.hid (h1)
        clear H7 h1
        go_wp2_with fail
        go_ret
        exact ⟨rfl, H8.out⟩
set_option maxHeartbeats 2000000 in
theorem Rd.first (h : Rd w0 W B r) : Calls Try.prog 15 #[.pointer (some ⟨B, 0, none⟩)] W (RdPost (.tuple #[]) w0 B (Lb.fst r)) := by
  have H := Lib.hid h
  clear h
  unfold RdPost Lb.fst Lb.fT
  obtain ⟨b, hb⟩ : ∃ b, Lb.mbB [116] (Lb.nmD (Lb.f1b (Lb.f1a r))) = b := ⟨_, rfl⟩
  rw [hb]
  cases b
  · rw [if_neg (by decide)]
    go_enter Try.func15, Try.ntmps15
    go_wp2_with fail
    refine H.out.num44.mono ?_
    rintro e w1 ⟨rfl, h1⟩
    obtain ⟨_, _, -, -, ⟨k1, k2, k3, k4, k5, k6, k7, k8⟩, f0, f1, f2, f3, f4, f5, f6, f7, f8⟩ := h1.open_
    have H1 : Hid (Rd w0 _ B (Lb.sY (Lb.nmV 4 4 r) (Lb.nmR 4 4 r))) := Lib.hid (h1.sY _)
    clear H h1
    go_wp2_with fail
    refine H1.out.mu45.mono ?_
    rintro e w2 ⟨rfl, h1⟩
    clear k1 k2 k3 k4 k5 k6 k7 k8 f0 f1 f2 f3 f4 f5 f6 f7 f8
    obtain ⟨_, _, -, -, ⟨k1, k2, k3, k4, k5, k6, k7, k8⟩, f0, f1, f2, f3, f4, f5, f6, f7, f8⟩ := h1.open_
    have H2 : Hid (Rd w0 _ B (Lb.f1a r)) := Lib.hid (h1)
    clear H1 h1
    go_wp2_with fail
    refine H2.out.num12.mono ?_
    rintro e w3 ⟨rfl, h1⟩
    clear k1 k2 k3 k4 k5 k6 k7 k8 f0 f1 f2 f3 f4 f5 f6 f7 f8
    obtain ⟨_, _, -, -, ⟨k1, k2, k3, k4, k5, k6, k7, k8⟩, f0, f1, f2, f3, f4, f5, f6, f7, f8⟩ := h1.open_
    have H3 : Hid (Rd w0 _ B (Lb.sMo (Lb.nmV 1 2 (Lb.f1a r)) (Lb.nmR 1 2 (Lb.f1a r)))) := Lib.hid (h1.sMo _)
    clear H2 h1
    go_wp2_with fail
    refine H3.out.mu45.mono ?_
    rintro e w4 ⟨rfl, h1⟩
    clear k1 k2 k3 k4 k5 k6 k7 k8 f0 f1 f2 f3 f4 f5 f6 f7 f8
    obtain ⟨_, _, -, -, ⟨k1, k2, k3, k4, k5, k6, k7, k8⟩, f0, f1, f2, f3, f4, f5, f6, f7, f8⟩ := h1.open_
    have H4 : Hid (Rd w0 _ B (Lb.f1b (Lb.f1a r))) := Lib.hid (h1)
    clear H3 h1
    go_wp2_with fail
    refine H4.out.num12.mono ?_
    rintro e w5 ⟨rfl, h1⟩
    clear k1 k2 k3 k4 k5 k6 k7 k8 f0 f1 f2 f3 f4 f5 f6 f7 f8
    obtain ⟨_, _, -, -, ⟨k1, k2, k3, k4, k5, k6, k7, k8⟩, f0, f1, f2, f3, f4, f5, f6, f7, f8⟩ := h1.open_
    have H5 : Hid (Rd w0 _ B (Lb.nmD (Lb.f1b (Lb.f1a r)))) := Lib.hid (h1.sD _)
    clear H4 h1
    go_wp2_with fail
    have hm := H5.out.mb116
    rw [hb, mb_no hb] at hm
    refine hm.mono ?_
    clear hm
    rintro e w6 ⟨rfl, h1⟩
    clear k1 k2 k3 k4 k5 k6 k7 k8 f0 f1 f2 f3 f4 f5 f6 f7 f8
    obtain ⟨_, _, -, -, ⟨k1, k2, k3, k4, k5, k6, k7, k8⟩, f0, f1, f2, f3, f4, f5, f6, f7, f8⟩ := h1.open_
    have H6 : Hid (Rd w0 _ B (Lb.nmD (Lb.f1b (Lb.f1a r)))) := Lib.hid (h1)
    clear H5 h1
    go_wp2_with fail
    go_end0
    exact ⟨rfl, H6.out⟩
  · rw [if_pos rfl]
    obtain ⟨b, hb3⟩ : ∃ b, Lb.dgs 1 1048576 (Lb.tl (Lb.nmD (Lb.f1b (Lb.f1a r)))) = b := ⟨_, rfl⟩
    rw [hb3]
    cases b
    · rw [if_neg (by decide)]
      go_enter Try.func15, Try.ntmps15
      go_wp2_with fail
      refine H.out.num44.mono ?_
      rintro e w1 ⟨rfl, h1⟩
      obtain ⟨_, _, -, -, ⟨k1, k2, k3, k4, k5, k6, k7, k8⟩, f0, f1, f2, f3, f4, f5, f6, f7, f8⟩ := h1.open_
      have H1 : Hid (Rd w0 _ B (Lb.sY (Lb.nmV 4 4 r) (Lb.nmR 4 4 r))) := Lib.hid (h1.sY _)
      clear H h1
      go_wp2_with fail
      refine H1.out.mu45.mono ?_
      rintro e w2 ⟨rfl, h1⟩
      clear k1 k2 k3 k4 k5 k6 k7 k8 f0 f1 f2 f3 f4 f5 f6 f7 f8
      obtain ⟨_, _, -, -, ⟨k1, k2, k3, k4, k5, k6, k7, k8⟩, f0, f1, f2, f3, f4, f5, f6, f7, f8⟩ := h1.open_
      have H2 : Hid (Rd w0 _ B (Lb.f1a r)) := Lib.hid (h1)
      clear H1 h1
      go_wp2_with fail
      refine H2.out.num12.mono ?_
      rintro e w3 ⟨rfl, h1⟩
      clear k1 k2 k3 k4 k5 k6 k7 k8 f0 f1 f2 f3 f4 f5 f6 f7 f8
      obtain ⟨_, _, -, -, ⟨k1, k2, k3, k4, k5, k6, k7, k8⟩, f0, f1, f2, f3, f4, f5, f6, f7, f8⟩ := h1.open_
      have H3 : Hid (Rd w0 _ B (Lb.sMo (Lb.nmV 1 2 (Lb.f1a r)) (Lb.nmR 1 2 (Lb.f1a r)))) := Lib.hid (h1.sMo _)
      clear H2 h1
      go_wp2_with fail
      refine H3.out.mu45.mono ?_
      rintro e w4 ⟨rfl, h1⟩
      clear k1 k2 k3 k4 k5 k6 k7 k8 f0 f1 f2 f3 f4 f5 f6 f7 f8
      obtain ⟨_, _, -, -, ⟨k1, k2, k3, k4, k5, k6, k7, k8⟩, f0, f1, f2, f3, f4, f5, f6, f7, f8⟩ := h1.open_
      have H4 : Hid (Rd w0 _ B (Lb.f1b (Lb.f1a r))) := Lib.hid (h1)
      clear H3 h1
      go_wp2_with fail
      refine H4.out.num12.mono ?_
      rintro e w5 ⟨rfl, h1⟩
      clear k1 k2 k3 k4 k5 k6 k7 k8 f0 f1 f2 f3 f4 f5 f6 f7 f8
      obtain ⟨_, _, -, -, ⟨k1, k2, k3, k4, k5, k6, k7, k8⟩, f0, f1, f2, f3, f4, f5, f6, f7, f8⟩ := h1.open_
      have H5 : Hid (Rd w0 _ B (Lb.nmD (Lb.f1b (Lb.f1a r)))) := Lib.hid (h1.sD _)
      clear H4 h1
      go_wp2_with fail
      have hm := H5.out.mb116
      rw [hb, mb_yes hb] at hm
      refine hm.mono ?_
      clear hm
      rintro e w6 ⟨rfl, h1⟩
      clear k1 k2 k3 k4 k5 k6 k7 k8 f0 f1 f2 f3 f4 f5 f6 f7 f8
      obtain ⟨_, _, -, -, ⟨k1, k2, k3, k4, k5, k6, k7, k8⟩, f0, f1, f2, f3, f4, f5, f6, f7, f8⟩ := h1.open_
      have H6 : Hid (Rd w0 _ B (Lb.tl (Lb.nmD (Lb.f1b (Lb.f1a r))))) := Lib.hid (h1)
      clear H5 h1
      go_wp2_with fail
      have hm := H6.out.dig1m
      rw [hb3] at hm
      refine hm.mono ?_
      clear hm
      rintro e w7 ⟨rfl, h1⟩
      clear k1 k2 k3 k4 k5 k6 k7 k8 f0 f1 f2 f3 f4 f5 f6 f7 f8
      obtain ⟨_, _, -, -, ⟨k1, k2, k3, k4, k5, k6, k7, k8⟩, f0, f1, f2, f3, f4, f5, f6, f7, f8⟩ := h1.open_
      have H7 : Hid (Rd w0 _ B (Lb.mkBad (Lb.tl (Lb.nmD (Lb.f1b (Lb.f1a r)))))) := Lib.hid (h1.mkBad)
      clear H6 h1
      go_wp2_with fail
      go_end0
      exact ⟨rfl, H7.out⟩
    · rw [if_pos rfl]
      go_enter Try.func15, Try.ntmps15
      go_wp2_with fail
      refine H.out.num44.mono ?_
      rintro e w1 ⟨rfl, h1⟩
      obtain ⟨_, _, -, -, ⟨k1, k2, k3, k4, k5, k6, k7, k8⟩, f0, f1, f2, f3, f4, f5, f6, f7, f8⟩ := h1.open_
      have H1 : Hid (Rd w0 _ B (Lb.sY (Lb.nmV 4 4 r) (Lb.nmR 4 4 r))) := Lib.hid (h1.sY _)
      clear H h1
      go_wp2_with fail
      refine H1.out.mu45.mono ?_
      rintro e w2 ⟨rfl, h1⟩
      clear k1 k2 k3 k4 k5 k6 k7 k8 f0 f1 f2 f3 f4 f5 f6 f7 f8
      obtain ⟨_, _, -, -, ⟨k1, k2, k3, k4, k5, k6, k7, k8⟩, f0, f1, f2, f3, f4, f5, f6, f7, f8⟩ := h1.open_
      have H2 : Hid (Rd w0 _ B (Lb.f1a r)) := Lib.hid (h1)
      clear H1 h1
      go_wp2_with fail
      refine H2.out.num12.mono ?_
      rintro e w3 ⟨rfl, h1⟩
      clear k1 k2 k3 k4 k5 k6 k7 k8 f0 f1 f2 f3 f4 f5 f6 f7 f8
      obtain ⟨_, _, -, -, ⟨k1, k2, k3, k4, k5, k6, k7, k8⟩, f0, f1, f2, f3, f4, f5, f6, f7, f8⟩ := h1.open_
      have H3 : Hid (Rd w0 _ B (Lb.sMo (Lb.nmV 1 2 (Lb.f1a r)) (Lb.nmR 1 2 (Lb.f1a r)))) := Lib.hid (h1.sMo _)
      clear H2 h1
      go_wp2_with fail
      refine H3.out.mu45.mono ?_
      rintro e w4 ⟨rfl, h1⟩
      clear k1 k2 k3 k4 k5 k6 k7 k8 f0 f1 f2 f3 f4 f5 f6 f7 f8
      obtain ⟨_, _, -, -, ⟨k1, k2, k3, k4, k5, k6, k7, k8⟩, f0, f1, f2, f3, f4, f5, f6, f7, f8⟩ := h1.open_
      have H4 : Hid (Rd w0 _ B (Lb.f1b (Lb.f1a r))) := Lib.hid (h1)
      clear H3 h1
      go_wp2_with fail
      refine H4.out.num12.mono ?_
      rintro e w5 ⟨rfl, h1⟩
      clear k1 k2 k3 k4 k5 k6 k7 k8 f0 f1 f2 f3 f4 f5 f6 f7 f8
      obtain ⟨_, _, -, -, ⟨k1, k2, k3, k4, k5, k6, k7, k8⟩, f0, f1, f2, f3, f4, f5, f6, f7, f8⟩ := h1.open_
      have H5 : Hid (Rd w0 _ B (Lb.nmD (Lb.f1b (Lb.f1a r)))) := Lib.hid (h1.sD _)
      clear H4 h1
      go_wp2_with fail
      have hm := H5.out.mb116
      rw [hb, mb_yes hb] at hm
      refine hm.mono ?_
      clear hm
      rintro e w6 ⟨rfl, h1⟩
      clear k1 k2 k3 k4 k5 k6 k7 k8 f0 f1 f2 f3 f4 f5 f6 f7 f8
      obtain ⟨_, _, -, -, ⟨k1, k2, k3, k4, k5, k6, k7, k8⟩, f0, f1, f2, f3, f4, f5, f6, f7, f8⟩ := h1.open_
      have H6 : Hid (Rd w0 _ B (Lb.tl (Lb.nmD (Lb.f1b (Lb.f1a r))))) := Lib.hid (h1)
      clear H5 h1
      go_wp2_with fail
      have hm := H6.out.dig1m
      rw [hb3] at hm
      refine hm.mono ?_
      clear hm
      rintro e w7 ⟨rfl, h1⟩
      clear k1 k2 k3 k4 k5 k6 k7 k8 f0 f1 f2 f3 f4 f5 f6 f7 f8
      obtain ⟨_, _, -, -, ⟨k1, k2, k3, k4, k5, k6, k7, k8⟩, f0, f1, f2, f3, f4, f5, f6, f7, f8⟩ := h1.open_
      have H7 : Hid (Rd w0 _ B (Lb.tl (Lb.nmD (Lb.f1b (Lb.f1a r))))) := Lib.hid (h1)
      clear H6 h1
      go_wp2_with fail
      go_end0
      exact ⟨rfl, H7.out⟩
end
end Go.Proofs.Ytbhafhbaldddiaa
