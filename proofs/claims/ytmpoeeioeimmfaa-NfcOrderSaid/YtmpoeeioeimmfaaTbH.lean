/- The walks of the document's Made and Whole. -/
import Derived.Test.YtmpoeeioeimmfaaTbG
namespace Go.Proofs.Ytmpoeeioeimmfaa
open Go.RowKit
open Go
set_option linter.unusedVariables false
set_option maxRecDepth 100000
theorem find_at {α : Type} {l : List α} {p : α → Bool} {i : Nat} (hi : i < l.length) (h : p (l[i]'hi) = true) (hn : ∀ j (hj : j < l.length), j < i → p (l[j]'hj) = false) : l.find? p = some (l[i]'hi) := by
  rw [List.find?_eq_some_iff_getElem]
  exact ⟨h, i, hi, rfl, fun j hj => by rw [hn j (by omega) hj]; rfl⟩
theorem find_not {α : Type} {l : List α} {p : α → Bool} (hn : ∀ j (hj : j < l.length), p (l[j]'hj) = false) : l.find? p = none := by
  rw [List.find?_eq_none]
  intro x hx
  obtain ⟨j, hj, rfl⟩ := List.getElem_of_mem hx
  rw [hn j hj]
  simp
theorem prs_len : Tb.prs.length = 73 := by kernel_rfl
def NotYet (a b : Int) (i : Nat) : Prop := ∀ j (hj : j < Tb.prs.length), j < i → ((Tb.prs[j]'hj).2.1 == a && (Tb.prs[j]'hj).2.2 == b && b != 0) = false
theorem NotYet.step {a b : Int} {i : Nat} (h : NotYet a b i) (hi : i < Tb.prs.length) (hn : ((Tb.prs[i]'hi).2.1 == a && (Tb.prs[i]'hi).2.2 == b && b != 0) = false) : NotYet a b (i + 1) := fun j hj h1 => by
  by_cases e : j = i
  · subst e
    exact hn
  · exact h j hj (by omega)
theorem NotYet.found {a b : Int} {i : Nat} (h : NotYet a b i) (hi : i < Tb.prs.length) (hn : ((Tb.prs[i]'hi).2.1 == a && (Tb.prs[i]'hi).2.2 == b && b != 0) = true) {q0 q1 q2 : Int} (hq : Tb.prs[i]'hi = (q0, q1, q2)) : Tb.lookP a b = some q0 := by
  unfold Tb.lookP
  rw [find_at (p := fun p : Int × Int × Int => p.2.1 == a && p.2.2 == b && b != 0) hi hn h, hq]
  rfl
theorem NotYet.none_ {a b : Int} (h : NotYet a b 73) : Tb.lookP a b = none := by
  unfold Tb.lookP
  rw [find_not (p := fun p : Int × Int × Int => p.2.1 == a && p.2.2 == b && b != 0) (fun j hj => h j hj (by rw [prs_len] at hj; omega))]
  rfl
end Go.Proofs.Ytmpoeeioeimmfaa
