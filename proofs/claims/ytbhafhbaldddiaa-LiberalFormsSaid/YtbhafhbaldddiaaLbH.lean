/- The walk of a zone's name. -/
import Derived.Test.YtbhafhbaldddiaaLbC
namespace Go.Proofs.Ytbhafhbaldddiaa
open Go.RowKit
open Go
open Lb (R Wd)
set_option linter.unusedVariables false
def HrPost (u : Wd) (w : World) (e : Ending) (w' : World) : Prop := e = .returned (.tuple #[.int .i64 (Lb.hrF u).1, .bool (Lb.hrF u).2]) ∧ w' = w
theorem hlit_ne {u l : Wd} (h : ¬ u = l) : ((Ml.mk u).toList == l) = false := by
  rw [beq_eq_false_iff_ne]
  intro e
  apply h
  rw [Go.Lib.toList_data] at e
  rw [← e]
  exact (Ml.list_mk u).symm
def oneB : Wd → Bool
  | [c] => Lb.srt c == 2 && !(decide (([c] : Wd) = [106]))
  | _ => false
theorem hr_none {u : Wd} (h : ∀ p ∈ Lb.zones, u ≠ p.1) : Lb.hrF u = (0, oneB u) := by
  unfold Lb.hrF
  have : Lb.zones.find? (fun p => decide (p.1 = u)) = none := by
    rw [List.find?_eq_none]
    intro p hp
    simpa using fun e => h p hp e.symm
  rw [this]
  match u with
  | [] => rfl
  | [c] => rfl
  | c :: d :: q => rfl
set_option maxRecDepth 100000 in
theorem hr_z (w : World) : Calls Try.prog 36 #[.string ⟨#[122]⟩] w (HrPost [122] w) := by
  have e : Lb.hrF [122] = (0, true) := by decide +kernel
  unfold HrPost
  rw [e]
  go_enter Try.func36, Try.ntmps36
  go_wp2
  go_ret2
  exact ⟨rfl, rfl⟩
set_option maxRecDepth 100000 in
theorem hr_ut (w : World) : Calls Try.prog 36 #[.string ⟨#[117, 116]⟩] w (HrPost [117, 116] w) := by
  have e : Lb.hrF [117, 116] = (0, true) := by decide +kernel
  unfold HrPost
  rw [e]
  go_enter Try.func36, Try.ntmps36
  go_wp2
  go_ret2
  exact ⟨rfl, rfl⟩
set_option maxRecDepth 100000 in
theorem hr_utc (w : World) : Calls Try.prog 36 #[.string ⟨#[117, 116, 99]⟩] w (HrPost [117, 116, 99] w) := by
  have e : Lb.hrF [117, 116, 99] = (0, true) := by decide +kernel
  unfold HrPost
  rw [e]
  go_enter Try.func36, Try.ntmps36
  go_wp2
  go_ret2
  exact ⟨rfl, rfl⟩
set_option maxRecDepth 100000 in
theorem hr_gmt (w : World) : Calls Try.prog 36 #[.string ⟨#[103, 109, 116]⟩] w (HrPost [103, 109, 116] w) := by
  have e : Lb.hrF [103, 109, 116] = (0, true) := by decide +kernel
  unfold HrPost
  rw [e]
  go_enter Try.func36, Try.ntmps36
  go_wp2
  go_ret2
  exact ⟨rfl, rfl⟩
set_option maxRecDepth 100000 in
theorem hr_edt (w : World) : Calls Try.prog 36 #[.string ⟨#[101, 100, 116]⟩] w (HrPost [101, 100, 116] w) := by
  have e : Lb.hrF [101, 100, 116] = (-4, true) := by decide +kernel
  unfold HrPost
  rw [e]
  go_enter Try.func36, Try.ntmps36
  go_wp2
  go_ret2
  exact ⟨rfl, rfl⟩
set_option maxRecDepth 100000 in
theorem hr_est (w : World) : Calls Try.prog 36 #[.string ⟨#[101, 115, 116]⟩] w (HrPost [101, 115, 116] w) := by
  have e : Lb.hrF [101, 115, 116] = (-5, true) := by decide +kernel
  unfold HrPost
  rw [e]
  go_enter Try.func36, Try.ntmps36
  go_wp2
  go_ret2
  exact ⟨rfl, rfl⟩
set_option maxRecDepth 100000 in
theorem hr_cdt (w : World) : Calls Try.prog 36 #[.string ⟨#[99, 100, 116]⟩] w (HrPost [99, 100, 116] w) := by
  have e : Lb.hrF [99, 100, 116] = (-5, true) := by decide +kernel
  unfold HrPost
  rw [e]
  go_enter Try.func36, Try.ntmps36
  go_wp2
  go_ret2
  exact ⟨rfl, rfl⟩
set_option maxRecDepth 100000 in
theorem hr_cst (w : World) : Calls Try.prog 36 #[.string ⟨#[99, 115, 116]⟩] w (HrPost [99, 115, 116] w) := by
  have e : Lb.hrF [99, 115, 116] = (-6, true) := by decide +kernel
  unfold HrPost
  rw [e]
  go_enter Try.func36, Try.ntmps36
  go_wp2
  go_ret2
  exact ⟨rfl, rfl⟩
set_option maxRecDepth 100000 in
theorem hr_mdt (w : World) : Calls Try.prog 36 #[.string ⟨#[109, 100, 116]⟩] w (HrPost [109, 100, 116] w) := by
  have e : Lb.hrF [109, 100, 116] = (-6, true) := by decide +kernel
  unfold HrPost
  rw [e]
  go_enter Try.func36, Try.ntmps36
  go_wp2
  go_ret2
  exact ⟨rfl, rfl⟩
set_option maxRecDepth 100000 in
theorem hr_mst (w : World) : Calls Try.prog 36 #[.string ⟨#[109, 115, 116]⟩] w (HrPost [109, 115, 116] w) := by
  have e : Lb.hrF [109, 115, 116] = (-7, true) := by decide +kernel
  unfold HrPost
  rw [e]
  go_enter Try.func36, Try.ntmps36
  go_wp2
  go_ret2
  exact ⟨rfl, rfl⟩
set_option maxRecDepth 100000 in
theorem hr_pdt (w : World) : Calls Try.prog 36 #[.string ⟨#[112, 100, 116]⟩] w (HrPost [112, 100, 116] w) := by
  have e : Lb.hrF [112, 100, 116] = (-7, true) := by decide +kernel
  unfold HrPost
  rw [e]
  go_enter Try.func36, Try.ntmps36
  go_wp2
  go_ret2
  exact ⟨rfl, rfl⟩
set_option maxRecDepth 100000 in
theorem hr_pst (w : World) : Calls Try.prog 36 #[.string ⟨#[112, 115, 116]⟩] w (HrPost [112, 115, 116] w) := by
  have e : Lb.hrF [112, 115, 116] = (-8, true) := by decide +kernel
  unfold HrPost
  rw [e]
  go_enter Try.func36, Try.ntmps36
  go_wp2
  go_ret2
  exact ⟨rfl, rfl⟩
set_option maxRecDepth 100000 in
set_option maxHeartbeats 2000000 in
theorem hr_any (u : Wd) (hu : u.length ≤ 100000) (w : World) : Calls Try.prog 36 #[.string (Ml.mk u)] w (HrPost u w) := by
  by_cases h0 : u = [122]
  · subst h0; exact hr_z w
  have x0 : ((Ml.mk u).toList == [122]) = false := hlit_ne h0
  by_cases h1 : u = [117, 116]
  · subst h1; exact hr_ut w
  have x1 : ((Ml.mk u).toList == [117, 116]) = false := hlit_ne h1
  by_cases h2 : u = [117, 116, 99]
  · subst h2; exact hr_utc w
  have x2 : ((Ml.mk u).toList == [117, 116, 99]) = false := hlit_ne h2
  by_cases h3 : u = [103, 109, 116]
  · subst h3; exact hr_gmt w
  have x3 : ((Ml.mk u).toList == [103, 109, 116]) = false := hlit_ne h3
  by_cases h4 : u = [101, 100, 116]
  · subst h4; exact hr_edt w
  have x4 : ((Ml.mk u).toList == [101, 100, 116]) = false := hlit_ne h4
  by_cases h5 : u = [101, 115, 116]
  · subst h5; exact hr_est w
  have x5 : ((Ml.mk u).toList == [101, 115, 116]) = false := hlit_ne h5
  by_cases h6 : u = [99, 100, 116]
  · subst h6; exact hr_cdt w
  have x6 : ((Ml.mk u).toList == [99, 100, 116]) = false := hlit_ne h6
  by_cases h7 : u = [99, 115, 116]
  · subst h7; exact hr_cst w
  have x7 : ((Ml.mk u).toList == [99, 115, 116]) = false := hlit_ne h7
  by_cases h8 : u = [109, 100, 116]
  · subst h8; exact hr_mdt w
  have x8 : ((Ml.mk u).toList == [109, 100, 116]) = false := hlit_ne h8
  by_cases h9 : u = [109, 115, 116]
  · subst h9; exact hr_mst w
  have x9 : ((Ml.mk u).toList == [109, 115, 116]) = false := hlit_ne h9
  by_cases h10 : u = [112, 100, 116]
  · subst h10; exact hr_pdt w
  have x10 : ((Ml.mk u).toList == [112, 100, 116]) = false := hlit_ne h10
  by_cases h11 : u = [112, 115, 116]
  · subst h11; exact hr_pst w
  have x11 : ((Ml.mk u).toList == [112, 115, 116]) = false := hlit_ne h11
  have hn : ∀ p ∈ Lb.zones, u ≠ p.1 := by
    intro p hp
    simp only [Lb.zones, List.mem_cons, List.not_mem_nil, or_false] at hp
    rcases hp with rfl | rfl | rfl | rfl | rfl | rfl | rfl | rfl | rfl | rfl | rfl | rfl
    · exact h0
    · exact h1
    · exact h2
    · exact h3
    · exact h4
    · exact h5
    · exact h6
    · exact h7
    · exact h8
    · exact h9
    · exact h10
    · exact h11
  unfold HrPost
  rw [hr_none hn]
  clear hn h0 h1 h2 h3 h4 h5 h6 h7 h8 h9 h10 h11
  match u, hu with
  | [], _ =>
    have hz : (Ml.mk []).size = 0 := rfl
    generalize Ml.mk [] = T at *
    go_enter Try.func36, Try.ntmps36
    go_wp2
    go_ret2
    exact ⟨rfl, rfl⟩
  | c :: d :: q, hu =>
    have hz : (Ml.mk (c :: d :: q)).size = q.length + 2 := rfl
    have hq : q.length ≤ 100000 := by simp at hu; omega
    have hne : ((q.length : Int) + 2 == 1) = false := by simp; omega
    generalize Ml.mk (c :: d :: q) = T at *
    generalize q.length = n at *
    go_enter Try.func36, Try.ntmps36
    go_wp2
    go_ret2
    exact ⟨rfl, rfl⟩
  | [c], hu =>
    have hz : (Ml.mk [c]).size = 1 := rfl
    have hix : ∀ h, (((Ml.mk [c])[0]'h).toNat : Int) = (c.toNat : Int) := fun h => rfl
    have hsr := srt_any c
    by_cases hj : ([c] : Wd) = [106]
    · have hc : c = 106 := by injection hj
      subst hc
      have e : oneB [106] = false := by decide +kernel
      rw [e]
      have e2 : Lb.srt 106 = 2 := by decide +kernel
      rw [e2] at hsr
      clear hz hix
      have hx : ((Ml.mk [106]).toList == [106]) = true := by rw [beq_iff_eq, Go.Lib.toList_data]; exact Ml.list_mk _
      have hx2 : ((Ml.mk [106]).toList != [106]) = false := by simp [bne, hx]
      go_enter Try.func36, Try.ntmps36
      go_wp2_with (go_at_call 21; refine (hsr _).mono ?_; rintro e w2 ⟨rfl, rfl⟩)
      go_ret2
      exact ⟨rfl, rfl⟩
    · have hx : ((Ml.mk [c]).toList == [106]) = false := hlit_ne hj
      have hx2 : ((Ml.mk [c]).toList != [106]) = true := by simp [bne, hx]
      have e : oneB [c] = (Lb.srt c == 2) := by
        show (Lb.srt c == 2 && !(decide (([c] : Wd) = [106]))) = _
        rw [decide_eq_false hj]
        simp
      rw [e]
      clear e hj
      generalize Ml.mk [c] = T at *
      generalize Lb.srt c = k at *
      generalize (c.toNat : Int) = cn at *
      by_cases h2 : k = 2
      · subst h2
        go_enter Try.func36, Try.ntmps36
        go_wp2_with (go_at_call 21; refine (hsr _).mono ?_; rintro e w2 ⟨rfl, rfl⟩)
        go_ret2
        exact ⟨rfl, rfl⟩
      · have h3 : (k == 2) = false := by simpa using h2
        have h4 : ((k : Int) == 2) = false := by simp; omega
        rw [h3]
        go_enter Try.func36, Try.ntmps36
        go_wp2_with (go_at_call 21; refine (hsr _).mono ?_; rintro e w2 ⟨rfl, rfl⟩)
        go_ret2
        exact ⟨rfl, rfl⟩
end Go.Proofs.Ytbhafhbaldddiaa
