/- The walks of the document's Made and Whole. -/
import Derived.Test.YtahapmpohaaigaaTbG
namespace Go.Proofs.Ytahapmpohaaigaa
open Go.RowKit
open Go
set_option linter.unusedVariables false
set_option maxRecDepth 100000
theorem find_at {α : Type} {l : List α} {p : α → Bool} {i : Nat} (hi : i < l.length) (h : p (l[i]'hi) = true) (hn : ∀ j (hj : j < l.length), j < i → p (l[j]'hj) = false) : l.find? p = some (l[i]'hi) := by
  rw [List.find?_eq_some_iff_getElem]
  exact ⟨h, i, hi, rfl, fun j hj => by rw [hn j (by omega) hj]; rfl⟩
theorem find_not {α : Type} {l : List α} {p : α → Bool} (hn : ∀ j (hj : j < l.length), p (l[j]'hj) = false) : l.find? p = none := by
  rw [List.find?_eq_none]
  intro x hx
  obtain ⟨j, hj, rfl⟩ := List.getElem_of_mem hx
  rw [hn j hj]
  simp
theorem prs_len : Tb.prs.length = 73 := by kernel_rfl
set_option maxHeartbeats 1000000 in
theorem rmade_hang (r : Int) (h : Tb.hangB r = true) (w : World) : Calls Try.prog 17 #[.int .i64 r] w (MadePost (Tb.madeF r) w) := by
  have hh := (Tb.hang_iff r).1 h
  have c := fun w => rhang_any r w
  rw [h] at c
  unfold Tb.madeF
  rw [if_pos h]
  obtain ⟨h1, h2⟩ := hh
  clear h
  by_cases ht : 0 < (r - 44032) % 28
  · rw [if_pos ht]
    go_enter Try.func17, Try.ntmps17
    go_wp2_with fail
    refine (c _).mono ?_
    rintro e w1 ⟨rfl, rfl⟩
    go_wp2
    go_ret3
    exact ⟨rfl, Below.refl _ _⟩
  · rw [if_neg ht]
    go_enter Try.func17, Try.ntmps17
    go_wp2_with fail
    refine (c _).mono ?_
    rintro e w1 ⟨rfl, rfl⟩
    go_wp2
    go_ret3
    exact ⟨rfl, Below.refl _ _⟩
set_option maxHeartbeats 1000000 in
theorem rmade_look (r : Int) (h : Tb.hangB r = false) (o : Option (Int × Int)) (ho : Tb.madeF r = o) (w : World) : Calls Try.prog 17 #[.int .i64 r] w (MadePost o w) := by
  have c := fun w => rhang_any r w
  rw [h] at c
  unfold Tb.madeF at ho
  rw [if_neg (by rw [h]; simp)] at ho
  have HO := Lib.hid ho
  clear ho
  go_enter Try.func17, Try.ntmps17
  go_wp2_with fail
  refine (c _).mono ?_
  rintro e w1 ⟨rfl, rfl⟩
  go_wp2_with fail
  refine (rpairs_any _).mono ?_
  rintro e w1 ⟨g, cap, rfl, hc1, hc2, hrow, hB⟩
  rw [prs_len] at hc1 ⊢
  have HR := Lib.hid hrow
  clear hrow
  go_wp2_with fail
  go_loop [8] (fun k => ∃ i : Nat, i ≤ 73 ∧ k = .int .i64 i ∧ ∀ j (hj : j < Tb.prs.length), j < i → (Tb.prs[j]'hj).1 ≠ r) (fun k => 73 - (intOf k).toNat)
  case atStart => exact ⟨0, by omega, rfl, fun j _ h => absurd h (by omega)⟩
  case round =>
    obtain ⟨i, hi, rfl, hno⟩ := hrel
    have HN := Lib.hid hno
    clear hno
    by_cases hlt : i < 73
    · have hlp : i < Tb.prs.length := by rw [prs_len]; exact hlt
      obtain ⟨r0, r1, r2⟩ := HR.out.at_ hlp
      generalize hq : Tb.prs[i] = q at *
      obtain ⟨q0, q1, q2⟩ := q
      simp only at r0 r1 r2
      have HQ := Lib.hid hq
      clear hq
      have i1 : (0 : Int) ≤ (i : Int) := by omega
      have i2 : (i : Int) < 73 := by omega
      by_cases he : q0 = r
      · subst he
        have hres : some (q1, q2) = o := by
          rw [← HO.out]
          unfold Tb.lookW
          rw [find_at hlp (by rw [HQ.out]; simp) (fun j hj hji => by have := HN.out j hj hji; simpa using this), HQ.out]
          rfl
        subst hres
        go_wp2_with fail
        go_quiet (fail)
        go_wp2_with fail
        go_ret3
        exact ⟨rfl, by first | exact bdn hB _ | exact hB⟩
      · have he2 : (q0 == r) = false := by simpa using he
        have hnew : ∀ j (hj : j < Tb.prs.length), j < i + 1 → (Tb.prs[j]'hj).1 ≠ r := fun j hj h1 => by
          by_cases e : j = i
          · subst e
            rw [HQ.out]
            exact he
          · exact HN.out j hj (by omega)
        have HW := Lib.hid hnew
        clear hnew he
        go_wp2_with fail
        go_round
        case rel => exact ⟨i + 1, by omega, by go_num, HW.out⟩
        case measure => simp [intOf] <;> omega
    · obtain rfl : i = 73 := by omega
      have hres : none = o := by
        rw [← HO.out]
        unfold Tb.lookW
        rw [find_not (fun j hj => by have := HN.out j hj (by rw [prs_len] at hj; omega); simpa using this)]
        rfl
      subst hres
      go_wp2_with fail
      go_ret3
      exact ⟨rfl, hB⟩
theorem rmade_any (r : Int) (w : World) : Calls Try.prog 17 #[.int .i64 r] w (MadePost (Tb.madeF r) w) := by
  cases h : Tb.hangB r with
  | true => exact rmade_hang r h w
  | false => exact rmade_look r h _ rfl w
def NotYet (a b : Int) (i : Nat) : Prop := ∀ j (hj : j < Tb.prs.length), j < i → ((Tb.prs[j]'hj).2.1 == a && (Tb.prs[j]'hj).2.2 == b && b != 0) = false
theorem NotYet.step {a b : Int} {i : Nat} (h : NotYet a b i) (hi : i < Tb.prs.length) (hn : ((Tb.prs[i]'hi).2.1 == a && (Tb.prs[i]'hi).2.2 == b && b != 0) = false) : NotYet a b (i + 1) := fun j hj h1 => by
  by_cases e : j = i
  · subst e
    exact hn
  · exact h j hj (by omega)
theorem NotYet.found {a b : Int} {i : Nat} (h : NotYet a b i) (hi : i < Tb.prs.length) (hn : ((Tb.prs[i]'hi).2.1 == a && (Tb.prs[i]'hi).2.2 == b && b != 0) = true) {q0 q1 q2 : Int} (hq : Tb.prs[i]'hi = (q0, q1, q2)) : Tb.lookP a b = some q0 := by
  unfold Tb.lookP
  rw [find_at (p := fun p : Int × Int × Int => p.2.1 == a && p.2.2 == b && b != 0) hi hn h, hq]
  rfl
theorem NotYet.none_ {a b : Int} (h : NotYet a b 73) : Tb.lookP a b = none := by
  unfold Tb.lookP
  rw [find_not (p := fun p : Int × Int × Int => p.2.1 == a && p.2.2 == b && b != 0) (fun j hj => h j hj (by rw [prs_len] at hj; omega))]
  rfl
end Go.Proofs.Ytahapmpohaaigaa
