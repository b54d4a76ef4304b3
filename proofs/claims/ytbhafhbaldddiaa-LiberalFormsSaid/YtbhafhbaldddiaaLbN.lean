/- The walks of texts that are the same, and of what wakes the law. -/
import Derived.Test.YtbhafhbaldddiaaLbL
import Derived.Test.YtbhafhbaldddiaaLbM
import Derived.Lib.QuietBelow
namespace Lb
theorem wk1 : parse [84, 104, 117, 114, 115, 100, 97, 121, 44, 32, 49, 45, 74, 97, 110, 117, 97, 114, 121, 45, 55, 48, 32, 48, 48, 58, 48, 49] = some 60 := by decide +kernel
theorem wk2 : parse [74, 97, 110, 32, 50, 44, 32, 49, 57, 55, 48] = some 86400 := by decide +kernel
theorem wk3 : parse [50, 32, 49, 51, 32, 49, 57, 55, 48] = none := by decide +kernel
theorem wk4 : monF [115, 101, 112, 116] = 9 := by decide +kernel
theorem wk5 : wkB [116, 104, 117, 114, 115] = true := by decide +kernel
end Lb
namespace Go.Proofs.Ytbhafhbaldddiaa
open Go.RowKit
open Go
open Lb (R Wd)
set_option linter.unusedVariables false
def LawTrue (w : World) (e : Ending) (w' : World) : Prop := e = .returned (.bool true) ∧ Below w.heap.size w w'
theorem lbdn {w a : World} {n : Nat} (h : Below n w a) (k : Nat) : Below n w (a.drewN k) := ⟨h.os, h.tape, h.output, h.size, h.block⟩
theorem OL.row {w : World} {base : Nat} {v : Value} {L : List Wd} (h : OL w base v L) : PRow w w.heap.size v L := by
  obtain ⟨a', cap', hv, ho⟩ := h
  have hlen : L.length ≤ cap' := by
    rcases ho.2 with ⟨e, hn⟩ | ⟨g, c2, cur, e, _, _, hle, _⟩
    · omega
    · rw [hv] at e
      injection e with _ _ e3
      omega
  refine ⟨a', cap', hv, hlen, fun hl => ?_⟩
  have hl2 : 0 < L.length := List.length_pos_iff.2 hl
  rcases ho.2 with ⟨_, hn⟩ | ⟨g, c2, cur, e, _, hg, _⟩
  · exact absurd hn (by show ¬ L.length = 0; omega)
  · have e' := e
    rw [hv] at e
    injection e with e1 _ _
    have hlt : g < w.heap.size := (ho.lt g (by rw [e']; rfl)).2
    refine ⟨g, 0, e1, hlt, fun k s hk => ?_⟩
    have := ho.cells (g := g) (by rw [e']; rfl) k (.string (Ml.mk s)) (by rw [List.getElem?_map, hk]; rfl)
    rw [Go.WideShapes.add_plain] at this
    exact this
set_option maxHeartbeats 2000000 in
theorem texts_eq (w : World) (B1 B2 : Nat) (v1 v2 : Value) (L : List Wd) (hL : L.length ≤ 100000) (hs : ∀ s ∈ L, s.length ≤ 100000) (h1 : PRow w B1 v1 L) (h2 : PRow w B2 v2 L) : Calls Try.prog 9 #[v1, v2] w (LawTrue w) := by
  obtain ⟨p1, c1, rfl, hc1, hr1⟩ := h1
  obtain ⟨p2, c2, rfl, hc2, hr2⟩ := h2
  obtain ⟨n, hn⟩ : ∃ n, L.length = n := ⟨_, rfl⟩
  rw [hn] at hc1 hc2 hL ⊢
  have HN := Lib.hid hn
  have HR1 := Lib.hid hr1
  have HR2 := Lib.hid hr2
  have HS := Lib.hid hs
  clear hn hr1 hr2 hs
  unfold LawTrue
  go_enter Try.func9, Try.ntmps9
  go_wp2
  go_loopw [5] (fun i wr => ∃ j d : Nat, j ≤ n ∧ i = .int .i64 (j : Int) ∧ wr = w.drewN d) (fun i _ => n - (intOf i).toNat)
  case atStart => exact ⟨0, 0, by omega, rfl, by first | rfl | simp⟩
  case round =>
    obtain ⟨j, d, hj, rfl, rfl⟩ := hrel
    by_cases hlt : j < n
    · have hj2 : (j : Int) < (n : Int) := by omega
      have hne : L ≠ [] := fun e => by have := HN.out; rw [e] at this; simp at this; omega
      obtain ⟨g1, i1, rfl, hg1, hx1⟩ := HR1.out hne
      obtain ⟨g2, i2, rfl, hg2, hx2⟩ := HR2.out hne
      have hjl : j < L.length := by rw [HN.out]; exact hlt
      have hk : L[j]? = some L[j] := List.getElem?_eq_getElem hjl
      have y1 := hx1 j _ hk
      have y2 := hx2 j _ hk
      have hsz := HS.out L[j] (List.getElem_mem hjl)
      have hz : (Ml.mk L[j]).size = L[j].length := rfl
      generalize Ml.mk L[j] = T at *
      generalize L[j].length = m at *
      clear hk hjl hx1 hx2 hne
      have z1 : (w.drewN d).cell? ⟨g1, i1 + j, none⟩ = some (.string T) := y1
      have z2 : (w.drewN d).cell? ⟨g2, i2 + j, none⟩ = some (.string T) := y2
      go_wp2_with fail
      go_quiet (fail)
      go_wp2_with fail
      go_roundw
      case rel => exact ⟨j + 1, d + nq, by omega, by go_num, by simp [World.drewN]⟩
      case measure => simp [intOf]; omega
    · have hjn : ¬ (j : Int) < (n : Int) := by omega
      go_wp2
      go_ret
      exact ⟨rfl, lbdn (Below.refl _ _) d⟩
set_option maxHeartbeats 2000000 in
theorem lwakes_any (w : World) : Calls Try.prog 6 #[] w (LawTrue w) := by
  have p1 := fun w => lparse_any [84, 104, 117, 114, 115, 100, 97, 121, 44, 32, 49, 45, 74, 97, 110, 117, 97, 114, 121, 45, 55, 48, 32, 48, 48, 58, 48, 49] (by decide) w
  have p2 := fun w => lparse_any [74, 97, 110, 32, 50, 44, 32, 49, 57, 55, 48] (by decide) w
  have p3 := fun w => lparse_any [50, 32, 49, 51, 32, 49, 57, 55, 48] (by decide) w
  have p4 := fun w => lmon_any [115, 101, 112, 116] (by decide) w
  have p5 := fun w => lwk_any [116, 104, 117, 114, 115] (by decide) w
  unfold ParPost at p1 p2 p3
  rw [Lb.wk1] at p1
  rw [Lb.wk2] at p2
  rw [Lb.wk3] at p3
  rw [Lb.wk4] at p4
  rw [Lb.wk5] at p5
  unfold LawTrue
  go_enter Try.func6, Try.ntmps6
  go_wp2_with fail
  refine (p1 _).mono ?_
  rintro e w1 ⟨rfl, b1⟩
  go_wp2_with fail
  refine (p2 _).mono ?_
  rintro e w2 ⟨rfl, b2⟩
  go_wp2_with fail
  refine (p3 _).mono ?_
  rintro e w3 ⟨rfl, b3⟩
  go_wp2_with fail
  refine (p4 _).mono ?_
  rintro e w4 ⟨rfl, b4⟩
  go_wp2_with fail
  refine (p5 _).mono ?_
  rintro e w5 ⟨rfl, b5⟩
  go_wp2
  go_ret
  exact ⟨rfl, bn (bn (bn (bn b1 b2) b3) b4) b5⟩
end Go.Proofs.Ytbhafhbaldddiaa
