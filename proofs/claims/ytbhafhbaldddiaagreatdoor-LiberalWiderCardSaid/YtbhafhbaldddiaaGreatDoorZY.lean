/- The walks of Any, the program's and the document's; what Any answers. -/
import Derived.Test.YtbhafhbaldddiaaGreatDoorZSb
import Derived.Test.YtbhafhbaldddiaaGreatDoorZSd
import Derived.Test.YtbhafhbaldddiaaGreatDoorZMe
import Derived.Test.YtbhafhbaldddiaaGreatDoorZMk
import Derived.Test.YtbhafhbaldddiaaGreatDoorZTe
import Derived.Test.YtbhafhbaldddiaaGreatDoorZWb
namespace Lb
open Go
def anyF (l : Wd) : Option Int := if (Sm.w3cF (Ml.mk l)).2 = true then some (Sm.w3cF (Ml.mk l)).1 else match Ml.parseF (Ml.mk l) with | some v => some v | none => parse l
theorem any_w3c {l : Wd} {v : Int} (h : Sm.w3cF (Ml.mk l) = (v, true)) : anyF l = some v := by
  unfold anyF
  rw [h]
  rfl
theorem any_mail {l : Wd} {v : Int} (h : (Sm.w3cF (Ml.mk l)).2 = false) (h2 : Ml.parseF (Ml.mk l) = some v) : anyF l = some v := by
  unfold anyF
  rw [h, h2]
  rfl
theorem any_lib {l : Wd} (h : (Sm.w3cF (Ml.mk l)).2 = false) (h2 : Ml.parseF (Ml.mk l) = none) : anyF l = parse l := by
  unfold anyF
  rw [h, h2]
  rfl
end Lb
namespace Go.Proofs.YtbhafhbaldddiaaGreatDoor
open Go.RowKit
open Go
open Lb (R Wd)
set_option linter.unusedVariables false
def AnyPost (l : Wd) (w : World) (e : Ending) (w' : World) : Prop := e = .returned (.tuple #[.int .i64 ((Lb.anyF l).getD 0), .bool (Lb.anyF l).isSome]) ∧ Below w.heap.size w w'
set_option maxRecDepth 100000 in
set_option maxHeartbeats 4000000 in
theorem pany_any (l : Wd) (hl : l.length ≤ 1000) (w : World) : Calls Tryz.prog 8 #[.string (Ml.mk l)] w (AnyPost l w) := by
  have c1 := w3c_any (Ml.mk l) hl w
  have c2 := parse_any (Ml.mk l) (Nat.le_trans (show (Ml.mk l).size ≤ 1000 from hl) (by omega))
  have c3 := lparse_any l (by omega)
  unfold ZonPost at c1
  unfold ErrPost at c2
  unfold ParPost at c3
  unfold AnyPost
  obtain ⟨⟨v, b⟩, hz⟩ : ∃ z, Sm.w3cF (Ml.mk l) = z := ⟨_, rfl⟩
  rw [hz] at c1
  obtain ⟨o, ho⟩ : ∃ o, Ml.parseF (Ml.mk l) = o := ⟨_, rfl⟩
  rw [ho] at c2
  obtain ⟨r, hr⟩ : ∃ r, Lb.anyF l = r := ⟨_, rfl⟩
  rw [hr]
  simp only at c1
  cases b
  · have hw : (Sm.w3cF (Ml.mk l)).2 = false := by rw [hz]
    cases o with
    | some v2 =>
      have e := Lb.any_mail hw ho
      rw [hr] at e
      subst e
      clear hz ho hr hw c3
      simp only [Option.getD_some, Option.isSome_some, if_true] at c2 ⊢
      go_enter Tryz.func8, Tryz.ntmps8
      go_wp2_with fail
      refine c1.mono ?_
      rintro e w1 ⟨rfl, hb1⟩
      have B1 := Lib.hid hb1
      clear hb1 c1
      go_wp2_with fail
      refine (c2 _).mono ?_
      rintro e w2 ⟨rfl, hb2⟩
      have B2 := Lib.hid hb2
      clear hb2 c2
      go_wp2_with fail
      go_ret2
      exact ⟨rfl, bn B1.out B2.out⟩
    | none =>
      have e := Lb.any_lib hw ho
      rw [hr] at e
      rw [← e] at c3
      obtain ⟨rv, hrv⟩ : ∃ v, r.getD 0 = v := ⟨_, rfl⟩
      obtain ⟨rb, hrb⟩ : ∃ b, r.isSome = b := ⟨_, rfl⟩
      rw [hrv, hrb] at c3 ⊢
      clear hz ho hr hw e hrv hrb
      simp only [Option.getD_none, Option.isSome_none] at c2
      go_enter Tryz.func8, Tryz.ntmps8
      go_wp2_with fail
      refine c1.mono ?_
      rintro e w1 ⟨rfl, hb1⟩
      have B1 := Lib.hid hb1
      clear hb1 c1
      go_wp2_with fail
      refine (c2 _).mono ?_
      rintro e w2 ⟨rfl, hb2⟩
      have B2 := Lib.hid (bn B1.out hb2)
      clear hb2 c2 B1
      go_wp2_with fail
      refine (c3 _).mono ?_
      rintro e w3 ⟨rfl, hb3⟩
      have B3 := Lib.hid hb3
      clear hb3 c3
      go_wp2_with fail
      go_ret2
      exact ⟨rfl, bn B2.out B3.out⟩
  · have e := Lb.any_w3c hz
    rw [hr] at e
    subst e
    clear hz ho hr c2 c3
    simp only [Option.getD_some, Option.isSome_some]
    go_enter Tryz.func8, Tryz.ntmps8
    go_wp2_with fail
    refine c1.mono ?_
    rintro e w1 ⟨rfl, hb1⟩
    have B1 := Lib.hid hb1
    clear hb1 c1
    go_wp2_with fail
    go_ret2
    exact ⟨rfl, B1.out⟩
set_option maxRecDepth 100000 in
set_option maxHeartbeats 4000000 in
theorem rany_any (l : Wd) (hl : l.length ≤ 1000) (w : World) : Calls Tryz.prog 9 #[.string (Ml.mk l)] w (AnyPost l w) := by
  have c1 := rw3c_any (Ml.mk l) hl w
  have c2 := rparse_any (Ml.mk l) (Nat.le_trans (show (Ml.mk l).size ≤ 1000 from hl) (by omega))
  have c3 := rlparse_any l (by omega)
  unfold ZonPost at c1
  unfold ErrPost at c2
  unfold ParPost at c3
  unfold AnyPost
  obtain ⟨⟨v, b⟩, hz⟩ : ∃ z, Sm.w3cF (Ml.mk l) = z := ⟨_, rfl⟩
  rw [hz] at c1
  obtain ⟨o, ho⟩ : ∃ o, Ml.parseF (Ml.mk l) = o := ⟨_, rfl⟩
  rw [ho] at c2
  obtain ⟨r, hr⟩ : ∃ r, Lb.anyF l = r := ⟨_, rfl⟩
  rw [hr]
  simp only at c1
  cases b
  · have hw : (Sm.w3cF (Ml.mk l)).2 = false := by rw [hz]
    cases o with
    | some v2 =>
      have e := Lb.any_mail hw ho
      rw [hr] at e
      subst e
      clear hz ho hr hw c3
      simp only [Option.getD_some, Option.isSome_some, if_true] at c2 ⊢
      go_enter Tryz.func9, Tryz.ntmps9
      go_wp2_with fail
      refine c1.mono ?_
      rintro e w1 ⟨rfl, hb1⟩
      have B1 := Lib.hid hb1
      clear hb1 c1
      go_wp2_with fail
      refine (c2 _).mono ?_
      rintro e w2 ⟨rfl, hb2⟩
      have B2 := Lib.hid hb2
      clear hb2 c2
      go_wp2_with fail
      go_ret2
      exact ⟨rfl, bn B1.out B2.out⟩
    | none =>
      have e := Lb.any_lib hw ho
      rw [hr] at e
      rw [← e] at c3
      obtain ⟨rv, hrv⟩ : ∃ v, r.getD 0 = v := ⟨_, rfl⟩
      obtain ⟨rb, hrb⟩ : ∃ b, r.isSome = b := ⟨_, rfl⟩
      rw [hrv, hrb] at c3 ⊢
      clear hz ho hr hw e hrv hrb
      simp only [Option.getD_none, Option.isSome_none] at c2
      go_enter Tryz.func9, Tryz.ntmps9
      go_wp2_with fail
      refine c1.mono ?_
      rintro e w1 ⟨rfl, hb1⟩
      have B1 := Lib.hid hb1
      clear hb1 c1
      go_wp2_with fail
      refine (c2 _).mono ?_
      rintro e w2 ⟨rfl, hb2⟩
      have B2 := Lib.hid (bn B1.out hb2)
      clear hb2 c2 B1
      go_wp2_with fail
      refine (c3 _).mono ?_
      rintro e w3 ⟨rfl, hb3⟩
      have B3 := Lib.hid hb3
      clear hb3 c3
      go_wp2_with fail
      go_ret2
      exact ⟨rfl, bn B2.out B3.out⟩
  · have e := Lb.any_w3c hz
    rw [hr] at e
    subst e
    clear hz ho hr c2 c3
    simp only [Option.getD_some, Option.isSome_some]
    go_enter Tryz.func9, Tryz.ntmps9
    go_wp2_with fail
    refine c1.mono ?_
    rintro e w1 ⟨rfl, hb1⟩
    have B1 := Lib.hid hb1
    clear hb1 c1
    go_wp2_with fail
    go_ret2
    exact ⟨rfl, B1.out⟩
end Go.Proofs.YtbhafhbaldddiaaGreatDoor
