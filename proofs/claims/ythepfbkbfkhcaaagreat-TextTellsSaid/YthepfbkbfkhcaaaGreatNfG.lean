/- Plain laws: what is made of scalars are scalars; texts in their forms. No program in sight. -/
import Derived.Test.YthepfbkbfkhcaaaGreatNf
import Derived.Test.YthepfbkbfkhcaaaGreatUt
namespace Go.Proofs.YthepfbkbfkhcaaaGreat.Tb
open Go
open Ordl (sortL)
open Ut (isSc AllSc)
def scB (r : Int) : Bool := decide (isSc r)
theorem prs_sc : (prs.all fun p => scB p.1 && scB p.2.1 && scB p.2.2) = true := by kernel_rfl
theorem pr_sc {p : Int × Int × Int} (h : p ∈ prs) : isSc p.1 ∧ isSc p.2.1 ∧ isSc p.2.2 := by
  have := List.all_eq_true.1 prs_sc p h
  rw [Bool.and_eq_true, Bool.and_eq_true] at this
  exact ⟨of_decide_eq_true this.1.1, of_decide_eq_true this.1.2, of_decide_eq_true this.2⟩
theorem made_sc {r : Int} {x : Int × Int} (h : madeF r = some x) : isSc x.1 ∧ isSc x.2 := by
  unfold madeF at h
  by_cases hh : hangB r = true
  · have h1 := (hang_iff r).1 hh
    rw [if_pos hh] at h
    split at h
    · cases h
      exact ⟨⟨by omega, by omega, by omega⟩, ⟨by omega, by omega, by omega⟩⟩
    · cases h
      exact ⟨⟨by omega, by omega, by omega⟩, ⟨by omega, by omega, by omega⟩⟩
  · rw [if_neg hh] at h
    have := pr_sc (look_mem h)
    exact ⟨this.2.1, this.2.2⟩
theorem parts_sc : ∀ r, isSc r → ∀ p ∈ parts r, isSc p := by
  refine by_made (fun r h hr p hp => ?_) (fun r x h h1 h2 _ p hp => ?_)
  · rw [parts_none h, List.mem_singleton] at hp
    rw [hp]; exact hr
  · have hm := made_sc h
    rw [parts_some h, List.mem_append] at hp
    rcases hp with hp | hp
    · exact h1 hm.1 p hp
    · split at hp
      · cases hp
      · exact h2 (by assumption) hm.2 p hp
theorem dec_sc {l : List Int} (h : AllSc l) : AllSc (dec l) := fun p hp => by
  obtain ⟨r, hr, hp⟩ := dec_mem hp
  exact parts_sc r (h r hr) p hp
theorem dcmp_sc {l : List Int} (h : AllSc l) : AllSc (dcmp l) := fun p hp => dec_sc h p (Ordl.sort_mem.1 hp)
theorem whole_isSc {a b x : Int} (h : wholeF a b = some x) : isSc x := by
  unfold wholeF at h
  split at h
  · rename_i q
    cases h
    exact ⟨by omega, by omega, by omega⟩
  · split at h
    · rename_i q
      have h1 := (hang_iff a).1 q.1
      cases h
      exact ⟨by omega, by omega, by omega⟩
    · exact (pr_sc (lookP_mem h).1).1
theorem step_sc {st : CSt} {r : Int} (h : AllSc (flat st)) (hr : isSc r) : AllSc (flat (stepC st r)) := by
  have push : ∀ st : CSt, AllSc (flat st) → AllSc (flat (pushC st r)) := fun st h x hx => by
    rw [flat_push] at hx
    rcases List.mem_append.1 hx with hx | hx
    · exact h x hx
    · rw [List.mem_singleton.1 hx]; exact hr
  obtain ⟨pre, _ | ⟨a, ms⟩⟩ := st
  · exact push _ h
  · show AllSc (flat (match tryC a ms r with | some w => (pre, some (w, ms)) | none => pushC (pre, some (a, ms)) r))
    cases ht : tryC a ms r with
    | none => exact push _ h
    | some x =>
      intro y hy
      have hw : wholeF a r = some x := by
        unfold tryC at ht
        split at ht
        · exact ht
        · cases ht
      rcases List.mem_append.1 hy with hy | hy
      · exact h y (List.mem_append_left _ hy)
      · rcases List.mem_cons.1 hy with hy | hy
        · rw [hy]; exact whole_isSc hw
        · exact h y (List.mem_append_right _ (List.mem_cons_of_mem _ hy))
theorem fold_sc : ∀ (l : List Int) (st : CSt), AllSc (flat st) → AllSc l → AllSc (flat (l.foldl stepC st))
  | [], _, h, _ => h
  | r :: l, _, h, hl => fold_sc l _ (step_sc h (hl r (List.mem_cons_self ..))) (fun x hx => hl x (List.mem_cons_of_mem _ hx))
theorem comp_sc {l : List Int} (h : AllSc l) : AllSc (compL l) := fold_sc l ([], none) (fun x hx => by cases hx) h
theorem nfc_sc {l : List Int} (h : AllSc l) : AllSc (nfcL l) := comp_sc (dcmp_sc h)
theorem dcmp_len (l : List Int) : (dcmp l).length = (dec l).length := Ordl.sort_len _
/-- Scalars that are few, and of few parts. -/
def Good (l : List Int) : Prop := AllSc l ∧ l.length ≤ 20000 ∧ (dec l).length ≤ 20000
theorem good_small {l : List Int} (h : AllSc l) (hl : l.length ≤ 600) : Good l := ⟨h, by omega, by have := (dec_len l).2; omega⟩
theorem good_dcmp {l : List Int} (h : Good l) : Good (dcmp l) := by
  refine ⟨dcmp_sc h.1, by rw [dcmp_len]; exact h.2.2, ?_⟩
  rw [dec_of_none (dcmp_end l), dcmp_len]
  exact h.2.2
theorem good_nfc {l : List Int} (h : Good l) : Good (nfcL l) := by
  have h1 : (dec (nfcL l)).length = (dec l).length := by rw [← dcmp_len, dcmp_nfc, dcmp_len]
  refine ⟨nfc_sc h.1, ?_, by rw [h1]; exact h.2.2⟩
  have := (dec_len (nfcL l)).1
  have := h.2.2
  omega
end Go.Proofs.YthepfbkbfkhcaaaGreat.Tb
