/- The walk of the statement that tells any text and any word. -/
import Derived.Test.YtbhafhbaldddiaaGreatDoorZY
namespace Go.Proofs.YtbhafhbaldddiaaGreatDoor
open Go.RowKit
open Go
open Lb (R Wd)
set_option linter.unusedVariables false
theorem texts2 {w1 w2 : World} {a b : Nat} {u v : Value} {L : List Wd} (hL : L.length ≤ 100000) (hs : ∀ s ∈ L, s.length ≤ 100000) (h1 : OL w1 a u L) (hb : Below w1.heap.size w1 w2) (h2 : OL w2 b v L) (w : World) (h3 : w = w2) : Calls Tryz.prog 10 #[u, v] w (LawTrue w) := by
  subst h3
  exact texts_eq _ _ _ u v L hL hs (h1.below hb).row h2.row
set_option maxRecDepth 100000 in
set_option maxHeartbeats 8000000 in
theorem liberalTells_walk {w : World} (s : ByteArray) (_ : s.size ≤ Go.maxLen) (word : ByteArray) (_ : word.size ≤ Go.maxLen) : Calls Tryz.prog 3 #[.string s, .string word] w (LawTrue w) := by
  have k9 := lwakes_any
  unfold LawTrue at k9 ⊢
  obtain ⟨l, rfl⟩ : ∃ l, s = Ml.mk l := ⟨s.data.toList, (Ml.mk_list s).symm⟩
  obtain ⟨u, rfl⟩ : ∃ u, word = Ml.mk u := ⟨word.data.toList, (Ml.mk_list word).symm⟩
  have z1 : (Ml.mk l).size = l.length := rfl
  have z2 : (Ml.mk u).size = u.length := rfl
  by_cases h1 : (300 : Int) < (l.length : Int)
  · generalize Ml.mk l = T at *
    generalize Ml.mk u = U at *
    go_enter Tryz.func3, Tryz.ntmps3
    go_wp2_with fail
    refine (k9 _).mono ?_
    rintro e w1 ⟨rfl, hb⟩
    go_wp2_with fail
    go_ret
    exact ⟨rfl, hb⟩
  by_cases h2 : (300 : Int) < (u.length : Int)
  · generalize Ml.mk l = T at *
    generalize Ml.mk u = U at *
    go_enter Tryz.func3, Tryz.ntmps3
    go_wp2_with fail
    refine (k9 _).mono ?_
    rintro e w1 ⟨rfl, hb⟩
    go_wp2_with fail
    go_ret
    exact ⟨rfl, hb⟩
  have c1 := lparse_any l (by omega)
  have c2 := rlparse_any l (by omega)
  have c3 := pany_any l (by omega)
  have c4 := rany_any l (by omega)
  have c5 := pcs_any l (by omega)
  have c6 := rpcs_any l (by omega)
  have c7 := lmon_any u (by omega)
  have c8 := rmon_any u (by omega)
  have c9 := lwk_any u (by omega)
  have c10 := rwk_any u (by omega)
  have hpl : (Lb.pcs l).length ≤ 100000 := by have := (Lb.pcs_len l).1; omega
  have hps : ∀ s ∈ Lb.pcs l, s.length ≤ 100000 := fun s hs => by have := (Lb.pcs_len l).2 s hs; omega
  unfold ParPost at c1 c2
  unfold AnyPost at c3 c4
  unfold PcsPost at c5 c6
  have HPL := Lib.hid hpl
  have HPS := Lib.hid hps
  clear hpl hps
  generalize Lb.pcs l = L at c5 c6 HPL HPS
  generalize (Lb.parse l).getD 0 = v1 at c1 c2
  generalize (Lb.parse l).isSome = b1 at c1 c2
  generalize (Lb.anyF l).getD 0 = v2 at c3 c4
  generalize (Lb.anyF l).isSome = b2 at c3 c4
  generalize Lb.monF u = mv at c7 c8
  generalize Lb.wkB u = wv at c9 c10
  generalize Ml.mk l = T at *
  generalize Ml.mk u = U at *
  generalize l.length = n at *
  generalize u.length = m at *
  go_enter Tryz.func3, Tryz.ntmps3
  go_wp2_with fail
  refine (c1 _).mono ?_
  rintro e w1 ⟨rfl, hb⟩
  have B := Lib.hid hb
  clear hb c1
  go_wp2_with fail
  refine (c2 _).mono ?_
  rintro e w2 ⟨rfl, hb⟩
  have B2 := Lib.hid (bn B.out hb)
  clear hb c2 B
  go_wp2_with fail
  refine (c3 _).mono ?_
  rintro e w3 ⟨rfl, hb⟩
  have B := Lib.hid (bn B2.out hb)
  clear hb c3 B2
  go_wp2_with fail
  refine (c4 _).mono ?_
  rintro e w4 ⟨rfl, hb⟩
  have B2 := Lib.hid (bn B.out hb)
  clear hb c4 B
  go_wp2_with fail
  refine (c5 _).mono ?_
  rintro e w5 ⟨p1, rfl, ho1, hb⟩
  have B := Lib.hid (bn B2.out hb)
  obtain ⟨q1, d1, rfl, _⟩ := id ho1
  have HO1 := Lib.hid ho1
  clear hb c5 B2 ho1
  go_wp2_with fail
  refine (c6 _).mono ?_
  rintro e w6 ⟨p2, rfl, ho2, hb⟩
  have B2 := Lib.hid (bn B.out hb)
  obtain ⟨q2, d2, rfl, _⟩ := id ho2
  have ct := texts2 HPL.out HPS.out HO1.out hb ho2 w6 rfl
  unfold LawTrue at ct
  clear hb c6 B ho2 HO1
  go_wp2_with fail
  refine ct.mono ?_
  rintro e w7 ⟨rfl, hb⟩
  have B := Lib.hid (bn B2.out hb)
  clear hb ct B2
  go_wp2_with fail
  refine (c7 _).mono ?_
  rintro e w8 ⟨rfl, hb⟩
  have B2 := Lib.hid (bn B.out hb)
  clear hb c7 B
  go_wp2_with fail
  refine (c8 _).mono ?_
  rintro e w9 ⟨rfl, hb⟩
  have B := Lib.hid (bn B2.out hb)
  clear hb c8 B2
  go_wp2_with fail
  refine (c9 _).mono ?_
  rintro e w10 ⟨rfl, hb⟩
  have B2 := Lib.hid (bn B.out hb)
  clear hb c9 B
  go_wp2_with fail
  refine (c10 _).mono ?_
  rintro e w11 ⟨rfl, hb⟩
  have B := Lib.hid (bn B2.out hb)
  clear hb c10 B2
  go_wp2_with fail
  refine (k9 _).mono ?_
  rintro e w12 ⟨rfl, hb⟩
  go_wp2_with fail
  go_ret
  exact ⟨rfl, bn B.out hb⟩
end Go.Proofs.YtbhafhbaldddiaaGreatDoor
