/- Plain laws on composing scalars: NFC. No program in sight. -/
import Derived.Test.YthepfbkbfkhcaaaGreatOrP
namespace Ordl
section
variable {cls : Int → Int}
theorem sort_move {x : Int} (A : List Int) : ∀ (M B : List Int), (∀ m ∈ M, 0 < cls m ∧ cls m < cls x) → sortL cls (A ++ x :: (M ++ B)) = sortL cls (A ++ (M ++ x :: B))
  | [], _, _ => rfl
  | m :: M, B, h => by
    have h1 := h m (List.mem_cons_self ..)
    have ih := sort_move (A ++ [m]) M B (fun y hy => h y (List.mem_cons_of_mem _ hy))
    rw [List.append_assoc, List.append_assoc] at ih
    show sortL cls (A ++ x :: m :: (M ++ B)) = sortL cls (A ++ m :: (M ++ x :: B))
    rw [sort_swap (cls := cls) (by omega) h1.1 (by omega)]
    exact ih
theorem ord_del {x r : Int} : ∀ (A B : List Int), ordB cls (A ++ x :: r :: B) = true → (0 < cls r ∨ cls x = 0) → ordB cls (A ++ x :: B) = true
  | [], [], _, _ => rfl
  | [], y :: B, h, hr => by
    have h' : (!(decide (0 < cls r) && decide (cls r < cls x)) && (!(decide (0 < cls y) && decide (cls y < cls r)) && ordB cls (y :: B))) = true := h
    rw [Bool.and_eq_true, Bool.and_eq_true] at h'
    show (!(decide (0 < cls y) && decide (cls y < cls x)) && ordB cls (y :: B)) = true
    rw [h'.2.2, Bool.and_true]
    have a1 := h'.1
    have a2 := h'.2.1
    simp only [Bool.not_eq_true', Bool.and_eq_false_iff, decide_eq_false_iff_not] at a1 a2 ⊢
    omega
  | [a], B, h, hr => by
    have h' : (!(decide (0 < cls x) && decide (cls x < cls a)) && ordB cls (x :: r :: B)) = true := h
    rw [Bool.and_eq_true] at h'
    show (!(decide (0 < cls x) && decide (cls x < cls a)) && ordB cls (x :: B)) = true
    rw [h'.1, show ordB cls (x :: B) = true from ord_del [] B h'.2 hr]
    rfl
  | a :: b :: A, B, h, hr => by
    have h' : (!(decide (0 < cls b) && decide (cls b < cls a)) && ordB cls (b :: A ++ x :: r :: B)) = true := h
    rw [Bool.and_eq_true] at h'
    show (!(decide (0 < cls b) && decide (cls b < cls a)) && ordB cls (b :: A ++ x :: B)) = true
    rw [h'.1, ord_del (b :: A) B h'.2 hr]
    rfl
theorem ord_rep {x w : Int} (he : cls x = cls w) : ∀ (A B : List Int), ordB cls (A ++ x :: B) = ordB cls (A ++ w :: B)
  | [], [] => rfl
  | [], y :: B => by
    show (!(decide (0 < cls y) && decide (cls y < cls x)) && ordB cls (y :: B)) = (!(decide (0 < cls y) && decide (cls y < cls w)) && ordB cls (y :: B))
    rw [he]
  | [a], B => by
    show (!(decide (0 < cls x) && decide (cls x < cls a)) && ordB cls (x :: B)) = (!(decide (0 < cls w) && decide (cls w < cls a)) && ordB cls (w :: B))
    rw [he, show ordB cls (x :: B) = ordB cls (w :: B) from ord_rep he [] B]
  | a :: b :: A, B => by
    show (!(decide (0 < cls b) && decide (cls b < cls a)) && ordB cls (b :: A ++ x :: B)) = (!(decide (0 < cls b) && decide (cls b < cls a)) && ordB cls (b :: A ++ w :: B))
    rw [ord_rep he (b :: A) B]
theorem sort_mem {l : List Int} {x : Int} : x ∈ sortL cls l ↔ x ∈ l := (sort_perm l).mem_iff
theorem sort_cons_free {x : Int} (hx : cls x = 0) (l : List Int) : sortL cls (x :: l) = x :: sortL cls l := by
  show ins cls x (sortL cls l) = _
  cases sortL cls l with
  | nil => rfl
  | cons y u =>
    unfold ins
    rw [if_neg (by omega)]
end
end Ordl
namespace Go.Proofs.YthepfbkbfkhcaaaGreat.Tb
open Go
open Ordl (sortL ordB Free)
def hiOf (ms : List Int) : Int := ms.foldl (fun h m => max h (classI m)) (-1)
theorem hi_from : ∀ (ms : List Int) (h c : Int), ms.foldl (fun h m => max h (classI m)) h < c ↔ h < c ∧ ∀ m ∈ ms, classI m < c
  | [], h, c => by simp
  | m :: ms, h, c => by
    rw [List.foldl_cons, hi_from ms]
    simp only [List.mem_cons, forall_eq_or_imp]
    constructor
    · rintro ⟨h1, h2⟩
      exact ⟨by omega, by omega, h2⟩
    · rintro ⟨h1, h2, h3⟩
      exact ⟨by omega, h3⟩
theorem hi_lt {ms : List Int} {r : Int} : hiOf ms < classI r ↔ ∀ m ∈ ms, classI m < classI r := by
  unfold hiOf
  rw [hi_from]
  have := (class_bd r).1
  exact ⟨fun h => h.2, fun h => ⟨by omega, h⟩⟩
theorem hi_snoc (ms : List Int) (r : Int) : hiOf (ms ++ [r]) = max (hiOf ms) (classI r) := by
  unfold hiOf
  rw [List.foldl_append]
  rfl
abbrev CSt := List Int × Option (Int × List Int)
def flat : CSt → List Int
  | (pre, none) => pre
  | (pre, some (a, ms)) => pre ++ a :: ms
def pushC (st : CSt) (r : Int) : CSt :=
  match st with
  | (pre, none) => if classI r = 0 then (pre, some (r, [])) else (pre ++ [r], none)
  | (pre, some (a, ms)) => if classI r = 0 then (pre ++ a :: ms, some (r, [])) else (pre, some (a, ms ++ [r]))
def tryC (a : Int) (ms : List Int) (r : Int) : Option Int := if hiOf ms < classI r then wholeF a r else none
def stepC (st : CSt) (r : Int) : CSt :=
  match st with
  | (pre, none) => pushC (pre, none) r
  | (pre, some (a, ms)) => match tryC a ms r with | some w => (pre, some (w, ms)) | none => pushC (pre, some (a, ms)) r
def compL (l : List Int) : List Int := flat (l.foldl stepC ([], none))
def dcmp (l : List Int) : List Int := sortL classI (dec l)
def nfcL (l : List Int) : List Int := compL (dcmp l)
def InvC : CSt → Prop
  | (_, none) => True
  | (_, some (a, ms)) => classI a = 0 ∧ ∀ m ∈ ms, 0 < classI m
theorem flat_push (st : CSt) (r : Int) : flat (pushC st r) = flat st ++ [r] := by
  obtain ⟨pre, _ | ⟨a, ms⟩⟩ := st
  · show flat (if classI r = 0 then (pre, some (r, [])) else (pre ++ [r], none)) = _
    split <;> simp [flat]
  · show flat (if classI r = 0 then (pre ++ a :: ms, some (r, [])) else (pre, some (a, ms ++ [r]))) = _
    split <;> simp [flat]
theorem inv_push {st : CSt} (h : InvC st) (r : Int) : InvC (pushC st r) := by
  have h0 := (class_bd r).1
  obtain ⟨pre, _ | ⟨a, ms⟩⟩ := st
  · unfold pushC
    by_cases hr : classI r = 0
    · simp only [hr, if_true]
      exact ⟨hr, fun m hm => by cases hm⟩
    · simp only [hr, if_false]
      trivial
  · unfold pushC
    by_cases hr : classI r = 0
    · simp only [hr, if_true]
      exact ⟨hr, fun m hm => by cases hm⟩
    · simp only [hr, if_false]
      refine ⟨h.1, fun m hm => ?_⟩
      rcases List.mem_append.1 hm with hm | hm
      · exact h.2 m hm
      · rw [List.mem_singleton.1 hm]; omega
/-! What the tables tell. -/
theorem pr_cls : (prs.all fun p => p.2.2 == 0 || (classI p.1 == 0 && classI p.2.1 == 0)) = true := by kernel_rfl
theorem cls_hang {r : Int} (h : 4352 ≤ r) : classI r = 0 := by
  unfold classI
  rw [if_pos (by omega)]
theorem made_cls {w a b : Int} (h : madeF w = some (a, b)) (hb : b ≠ 0) : classI w = 0 ∧ classI a = 0 := by
  unfold madeF at h
  by_cases hh : hangB w = true
  · have h1 := (hang_iff w).1 hh
    rw [if_pos hh] at h
    refine ⟨cls_hang (by omega), ?_⟩
    split at h
    · cases h; exact cls_hang (by omega)
    · cases h; exact cls_hang (by omega)
  · rw [if_neg hh] at h
    have := all_of pr_cls (look_mem h)
    simp [hb] at this
    exact this
theorem whole_cls {a b w : Int} (h : wholeF a b = some w) : classI w = 0 ∧ classI a = 0 := by
  obtain ⟨h1, h2⟩ := back2 h
  exact made_cls h1 h2
theorem whole_parts {a b w : Int} (h : wholeF a b = some w) : parts w = parts a ++ parts b := by
  obtain ⟨h1, h2⟩ := back2 h
  have := parts_some h1
  rw [this]
  simp only [if_neg h2]
theorem pr_mark : (prs.all fun p => decide (classI p.1 = 0) || (p.2.2 == 0 && (classI p.2.1 == classI p.1) && (madeF p.2.1).isNone)) = true := by kernel_rfl
theorem mark_parts {m : Int} (h : 0 < classI m) : ∃ m', parts m = [m'] ∧ classI m' = classI m := by
  cases e : madeF m with
  | none => exact ⟨m, parts_none e, rfl⟩
  | some x =>
    have hh : ¬ hangB m = true := fun hh => by
      have := cls_hang (r := m) (by have := (hang_iff m).1 hh; omega)
      omega
    have e0 := e
    unfold madeF at e
    rw [if_neg hh] at e
    have := all_of pr_mark (look_mem e)
    simp only [Bool.or_eq_true, Bool.and_eq_true, decide_eq_true_eq, beq_iff_eq, Option.isNone_iff_eq_none] at this
    rcases this with h1 | ⟨⟨h1, h2⟩, h3⟩
    · omega
    · refine ⟨x.1, ?_, h2⟩
      rw [parts_some e0, if_pos h1, parts_none h3, List.append_nil]
theorem dec_marks {ms : List Int} (h : ∀ m ∈ ms, 0 < classI m) {r : Int} (hr : ∀ m ∈ ms, classI m < classI r) : ∀ y ∈ dec ms, 0 < classI y ∧ classI y < classI r := fun y hy => by
  obtain ⟨m, hm, hp⟩ := dec_mem hy
  obtain ⟨m', e, hc⟩ := mark_parts (h m hm)
  rw [e, List.mem_singleton] at hp
  rw [hp, hc]
  exact ⟨h m hm, hr m hm⟩
/-! One step leaves what all is made of. -/
theorem try_some {a : Int} {ms : List Int} {r w : Int} (h : tryC a ms r = some w) : (∀ m ∈ ms, classI m < classI r) ∧ wholeF a r = some w := by
  unfold tryC at h
  split at h
  · exact ⟨hi_lt.1 (by assumption), h⟩
  · cases h
theorem inv_step {st : CSt} (h : InvC st) (r : Int) : InvC (stepC st r) := by
  obtain ⟨pre, _ | ⟨a, ms⟩⟩ := st
  · exact inv_push h r
  · show InvC (match tryC a ms r with | some w => (pre, some (w, ms)) | none => pushC (pre, some (a, ms)) r)
    cases e : tryC a ms r with
    | none => exact inv_push h r
    | some w => exact ⟨(whole_cls (try_some e).2).1, h.2⟩
theorem step_dec {st : CSt} (h : InvC st) (r : Int) (t : List Int) : sortL classI (dec (flat (stepC st r) ++ t)) = sortL classI (dec (flat st ++ r :: t)) := by
  obtain ⟨pre, _ | ⟨a, ms⟩⟩ := st
  · show sortL classI (dec (flat (pushC (pre, none) r) ++ t)) = _
    rw [flat_push, List.append_assoc]
    rfl
  · show sortL classI (dec (flat (match tryC a ms r with | some w => (pre, some (w, ms)) | none => pushC (pre, some (a, ms)) r) ++ t)) = _
    cases e : tryC a ms r with
    | none =>
      simp only
      rw [flat_push, List.append_assoc]
      rfl
    | some w =>
      obtain ⟨h1, h2⟩ := try_some e
      simp only
      show sortL classI (dec ((pre ++ w :: ms) ++ t)) = sortL classI (dec ((pre ++ a :: ms) ++ r :: t))
      simp only [dec_app, dec_cons, whole_parts h2, List.append_assoc]
      cases ms with
      | nil => simp [dec_nil]
      | cons m ms' =>
        have hr : 0 < classI r := by
          have a1 := h1 m (List.mem_cons_self ..)
          have a2 := h.2 m (List.mem_cons_self ..)
          omega
        obtain ⟨r', e1, e2⟩ := mark_parts hr
        rw [e1]
        have := Ordl.sort_move (cls := classI) (x := r') (dec pre ++ parts a) (dec (m :: ms')) (dec t) (fun y hy => by
          rw [e2]
          exact dec_marks h.2 h1 y hy)
        simp only [List.append_assoc] at this
        exact this
theorem fold_dec : ∀ (l : List Int) {st : CSt}, InvC st → sortL classI (dec (flat (l.foldl stepC st))) = sortL classI (dec (flat st ++ l))
  | [], st, _ => by simp
  | r :: l, st, h => by
    rw [List.foldl_cons, fold_dec l (inv_step h r), step_dec h r l]
theorem inv_nil : InvC ([], none) := trivial
theorem comp_dcmp (l : List Int) : dcmp (compL l) = dcmp l := fold_dec l inv_nil
theorem dec_sorted {D : List Int} (h : ∀ p ∈ D, madeF p = none) : dec (sortL classI D) = sortL classI D := dec_of_none fun p hp => h p (Ordl.sort_mem.1 hp)
theorem dcmp_end (l : List Int) : ∀ p ∈ dcmp l, madeF p = none := fun p hp => dec_end p (Ordl.sort_mem.1 hp)
theorem dcmp_idem (l : List Int) : dcmp (dcmp l) = dcmp l := by
  have h : dec (dcmp l) = dcmp l := dec_of_none (dcmp_end l)
  show sortL classI (dec (dcmp l)) = _
  rw [h]
  exact Ordl.sort_idem _
theorem dcmp_nfc (l : List Int) : dcmp (nfcL l) = dcmp l := by
  unfold nfcL
  rw [comp_dcmp, dcmp_idem]
theorem nfc_idem (l : List Int) : nfcL (nfcL l) = nfcL l := by
  show compL (dcmp (nfcL l)) = _
  rw [dcmp_nfc]
  rfl
theorem nfc_dcmp (l : List Int) : nfcL (dcmp l) = nfcL l := by
  show compL (dcmp (dcmp l)) = _
  rw [dcmp_idem]
  rfl
theorem nfc_like (a b : List Int) : nfcL a = nfcL b ↔ dcmp a = dcmp b := by
  constructor
  · intro h
    have := congrArg dcmp h
    rw [dcmp_nfc, dcmp_nfc] at this
    exact this
  · intro h
    unfold nfcL
    rw [h]
theorem dcmp_swap {x y : Int} (hx : 0 < classI x) (hy : 0 < classI y) (hxy : classI x ≠ classI y) (a b : List Int) : dcmp (a ++ x :: y :: b) = dcmp (a ++ y :: x :: b) := by
  obtain ⟨x', e1, f1⟩ := mark_parts hx
  obtain ⟨y', e2, f2⟩ := mark_parts hy
  unfold dcmp
  simp only [dec_app, dec_cons, e1, e2]
  exact Ordl.sort_swap (by omega) (by omega) (by omega) _ _
/-! How much is left. -/
def c0 (l : List Int) : Nat := (l.filter fun z => classI z == 0).length
theorem c0_app (a b : List Int) : c0 (a ++ b) = c0 a + c0 b := by simp [c0]
theorem step_short {st : CSt} (h : InvC st) (r : Int) : (flat (stepC st r)).length ≤ (flat st).length + 1 ∧ c0 (flat (stepC st r)) ≤ c0 (flat st) + c0 [r] ∧ 0 < (flat (stepC st r)).length := by
  obtain ⟨pre, _ | ⟨a, ms⟩⟩ := st
  · show (flat (pushC (pre, none) r)).length ≤ _ ∧ c0 (flat (pushC (pre, none) r)) ≤ _ ∧ 0 < (flat (pushC (pre, none) r)).length
    rw [flat_push, c0_app]
    simp
  · show (flat (match tryC a ms r with | some w => (pre, some (w, ms)) | none => pushC (pre, some (a, ms)) r)).length ≤ _ ∧ c0 (flat (match tryC a ms r with | some w => (pre, some (w, ms)) | none => pushC (pre, some (a, ms)) r)) ≤ _ ∧ 0 < (flat (match tryC a ms r with | some w => (pre, some (w, ms)) | none => pushC (pre, some (a, ms)) r)).length
    cases e : tryC a ms r with
    | none =>
      simp only
      rw [flat_push, c0_app]
      simp
    | some w =>
      obtain ⟨h1, h2⟩ := whole_cls (try_some e).2
      have q1 : c0 (w :: ms) = c0 (a :: ms) := by simp [c0, h1, h2]
      refine ⟨by simp [flat], ?_, by simp [flat]; omega⟩
      show c0 (pre ++ w :: ms) ≤ c0 (pre ++ a :: ms) + c0 [r]
      rw [c0_app, c0_app, q1]
      omega
theorem fold_short : ∀ (l : List Int) {st : CSt}, InvC st → (flat (l.foldl stepC st)).length ≤ (flat st).length + l.length ∧ c0 (flat (l.foldl stepC st)) ≤ c0 (flat st) + c0 l ∧ (l ≠ [] → 0 < (flat (l.foldl stepC st)).length) ∧ (0 < (flat st).length → 0 < (flat (l.foldl stepC st)).length)
  | [], st, _ => by simp [c0]
  | r :: l, st, h => by
    obtain ⟨h1, h2, h3⟩ := step_short h r
    obtain ⟨k1, k2, k3, k4⟩ := fold_short l (inv_step h r)
    rw [List.foldl_cons]
    have e : c0 (r :: l) = c0 [r] + c0 l := c0_app [r] l
    rw [e, List.length_cons]
    exact ⟨by omega, by omega, fun _ => k4 h3, fun _ => k4 h3⟩
theorem comp_short (l : List Int) : (compL l).length ≤ l.length ∧ c0 (compL l) ≤ c0 l ∧ ((compL l).length = 0 ↔ l.length = 0) := by
  obtain ⟨h1, h2, h3, _⟩ := fold_short l inv_nil
  have e1 : (flat (([], none) : CSt)).length = 0 := rfl
  have e2 : c0 (flat (([], none) : CSt)) = 0 := rfl
  rw [e1] at h1
  rw [e2] at h2
  refine ⟨by unfold compL; omega, by unfold compL; omega, fun h => ?_, fun h => ?_⟩
  · by_cases hl : l = []
    · rw [hl]; rfl
    · have := h3 hl
      unfold compL at h
      omega
  · unfold compL
    omega
/-! Second ones; texts put together. -/
def isSec (b : Int) : Bool := (prs.any fun p => p.2.2 == b && b != 0) || (decide (4449 ≤ b) && decide (b ≤ 4469)) || (decide (4520 ≤ b) && decide (b ≤ 4546))
theorem whole_sec {a b w : Int} (h : wholeF a b = some w) : isSec b = true := by
  unfold isSec
  unfold wholeF at h
  split at h
  · rename_i q
    have h1 : decide (4449 ≤ b) = true := decide_eq_true (by omega)
    have h2 : decide (b ≤ 4469) = true := decide_eq_true (by omega)
    rw [h1, h2]
    simp
  · split at h
    · rename_i q
      have h1 : decide (4520 ≤ b) = true := decide_eq_true (by omega)
      have h2 : decide (b ≤ 4546) = true := decide_eq_true (by omega)
      rw [h1, h2]
      simp
    · obtain ⟨h1, h2⟩ := lookP_mem h
      rw [Bool.or_eq_true, Bool.or_eq_true]
      refine Or.inl (Or.inl ?_)
      rw [List.any_eq_true]
      exact ⟨_, h1, by simp [h2]⟩
theorem no_sec {a b : Int} (h : isSec b = false) : wholeF a b = none := by
  cases e : wholeF a b with
  | none => rfl
  | some w => rw [whole_sec e] at h; cases h
theorem sec_hang {b : Int} (h : 44032 ≤ b) : isSec b = false := by
  unfold isSec
  have h0 : (prs.any fun p => p.2.2 == b && b != 0) = false := by
    rw [List.any_eq_false]
    intro p hp
    have hb : (prs.all fun p => decide (p.2.2 < 44032)) = true := by kernel_rfl
    have := all_of hb hp
    simp only [decide_eq_true_eq] at this
    simp
    omega
  have h1 : decide (b ≤ 4469) = false := decide_eq_false (by omega)
  have h2 : decide (b ≤ 4546) = false := decide_eq_false (by omega)
  rw [h0, h1, h2]
  simp
theorem sec_lead {b : Int} (h : 4352 ≤ b) (h3 : b < 4371) : isSec b = false := by
  unfold isSec
  have h0 : (prs.any fun p => p.2.2 == b && b != 0) = false := by
    rw [List.any_eq_false]
    intro p hp
    have hb : (prs.all fun p => decide (p.2.2 < 4352)) = true := by kernel_rfl
    have := all_of hb hp
    simp only [decide_eq_true_eq] at this
    simp
    omega
  have h1 : decide (4449 ≤ b) = false := decide_eq_false (by omega)
  have h2 : decide (4520 ≤ b) = false := decide_eq_false (by omega)
  rw [h0, h1, h2]
  simp
theorem pr_head : (prs.all fun p => decide (0 < classI p.1) || ((classI p.2.1 == 0) && !(isSec p.2.1))) = true := by kernel_rfl
/-- What a scalar of class 0 that is no second one begins with. -/
theorem parts_head : ∀ x, classI x = 0 → isSec x = false → ∃ y T, parts x = y :: T ∧ classI y = 0 ∧ isSec y = false := by
  refine by_made (fun r h h1 h2 => ⟨r, [], parts_none h, h1, h2⟩) (fun r x h ih _ h1 h2 => ?_)
  have ha : classI x.1 = 0 ∧ isSec x.1 = false := by
    have h0 := h
    unfold madeF at h
    by_cases hh : hangB r = true
    · have hr := (hang_iff r).1 hh
      rw [if_pos hh] at h
      split at h
      · cases h
        exact ⟨cls_hang (by simp only; omega), sec_hang (by simp only; omega)⟩
      · cases h
        exact ⟨cls_hang (by simp only; omega), sec_lead (by simp only; omega) (by simp only; omega)⟩
    · rw [if_neg hh] at h
      have := all_of pr_head (look_mem h)
      simp only [Bool.or_eq_true, Bool.and_eq_true, decide_eq_true_eq, beq_iff_eq, Bool.not_eq_true'] at this
      rcases this with h3 | h3
      · omega
      · exact h3
  obtain ⟨y, T, e, h3, h4⟩ := ih ha.1 ha.2
  exact ⟨y, T ++ (if x.2 = 0 then [] else parts x.2), by rw [parts_some h, e]; rfl, h3, h4⟩
/-- A text that may stand behind another one. -/
def ApartL (l : List Int) : Prop := ∀ x t, l = x :: t → classI x = 0 ∧ isSec x = false
theorem flat_pre : ∀ (l : List Int) (P pre : List Int) (s : Option (Int × List Int)), flat (l.foldl stepC (P ++ pre, s)) = P ++ flat (l.foldl stepC (pre, s))
  | [], P, pre, none => rfl
  | [], P, pre, some (a, ms) => by simp [flat]
  | r :: l, P, pre, s => by
    have hp : ∀ s : Option (Int × List Int), pushC (P ++ pre, s) r = (P ++ (pushC (pre, s) r).1, (pushC (pre, s) r).2) := fun s => by
      cases s with
      | none =>
        show (if classI r = 0 then (P ++ pre, some (r, [])) else (P ++ pre ++ [r], none)) = (P ++ (if classI r = 0 then (pre, some (r, [])) else (pre ++ [r], none) : CSt).1, (if classI r = 0 then (pre, some (r, [])) else (pre ++ [r], none) : CSt).2)
        split <;> simp
      | some x =>
        obtain ⟨a, ms⟩ := x
        show (if classI r = 0 then (P ++ pre ++ a :: ms, some (r, [])) else (P ++ pre, some (a, ms ++ [r]))) = (P ++ (if classI r = 0 then (pre ++ a :: ms, some (r, [])) else (pre, some (a, ms ++ [r])) : CSt).1, (if classI r = 0 then (pre ++ a :: ms, some (r, [])) else (pre, some (a, ms ++ [r])) : CSt).2)
        split <;> simp
    have hs : stepC (P ++ pre, s) r = (P ++ (stepC (pre, s) r).1, (stepC (pre, s) r).2) := by
      cases s with
      | none => exact hp none
      | some x =>
        obtain ⟨a, ms⟩ := x
        show (match tryC a ms r with | some w => (P ++ pre, some (w, ms)) | none => pushC (P ++ pre, some (a, ms)) r) = (P ++ (match tryC a ms r with | some w => (pre, some (w, ms)) | none => pushC (pre, some (a, ms)) r : CSt).1, (match tryC a ms r with | some w => (pre, some (w, ms)) | none => pushC (pre, some (a, ms)) r : CSt).2)
        cases tryC a ms r with
        | none => exact hp _
        | some w => rfl
    rw [List.foldl_cons, List.foldl_cons, hs]
    exact flat_pre l P _ _
theorem comp_app (a : List Int) {b : List Int} (hb : ApartL b) : compL (a ++ b) = compL a ++ compL b := by
  cases b with
  | nil => simp [compL, flat]
  | cons y t =>
    obtain ⟨h1, h2⟩ := hb y t rfl
    unfold compL
    rw [List.foldl_append]
    generalize a.foldl stepC ([], none) = st
    have e1 : stepC st y = (flat st, some (y, [])) := by
      obtain ⟨pre, _ | ⟨c, ms⟩⟩ := st
      · show (if classI y = 0 then (pre, some (y, [])) else (pre ++ [y], none)) = _
        rw [if_pos h1]
        rfl
      · have e : tryC c ms y = none := by
          unfold tryC
          split
          · exact no_sec h2
          · rfl
        show (match tryC c ms y with | some w => (pre, some (w, ms)) | none => pushC (pre, some (c, ms)) y) = _
        rw [e]
        show (if classI y = 0 then (pre ++ c :: ms, some (y, [])) else (pre, some (c, ms ++ [y]))) = _
        rw [if_pos h1]
        rfl
    have e2 : stepC ([], none) y = ([], some (y, [])) := by
      show (if classI y = 0 then ([], some (y, [])) else ([y], none)) = _
      rw [if_pos h1]
    rw [List.foldl_cons, List.foldl_cons, e1, e2]
    have := flat_pre t (flat st) [] (some (y, []))
    rw [List.append_nil] at this
    exact this
theorem dcmp_apart {b : List Int} (hb : ApartL b) : ApartL (dcmp b) ∧ Free classI (dec b) := by
  cases b with
  | nil => exact ⟨(fun x t e => by cases e), Free.nil⟩
  | cons x t =>
    obtain ⟨h1, h2⟩ := hb x t rfl
    obtain ⟨y, T, e, h3, h4⟩ := parts_head x h1 h2
    have e2 : dec (x :: t) = y :: (T ++ dec t) := by rw [dec_cons, e]; rfl
    unfold dcmp
    rw [e2]
    refine ⟨?_, Free.cons h3⟩
    rw [Ordl.sort_cons_free h3]
    intro z u ez
    cases ez
    exact ⟨h3, h4⟩
theorem dcmp_app (a : List Int) {b : List Int} (hb : ApartL b) : dcmp (a ++ b) = dcmp a ++ dcmp b := by
  unfold dcmp
  rw [dec_app, Ordl.sort_app _ (dcmp_apart hb).2]
theorem nfc_app (a : List Int) {b : List Int} (hb : ApartL b) : nfcL (a ++ b) = nfcL a ++ nfcL b := by
  unfold nfcL
  rw [dcmp_app a hb, comp_app _ (dcmp_apart hb).1]
/-! What the quick check refuses. -/
theorem step_ord {st : CSt} (h : InvC st) (r : Int) (t : List Int) (ho : ordB classI (flat st ++ r :: t) = true) : ordB classI (flat (stepC st r) ++ t) = true := by
  obtain ⟨pre, _ | ⟨a, ms⟩⟩ := st
  · show ordB classI (flat (pushC (pre, none) r) ++ t) = true
    rw [flat_push, List.append_assoc]
    exact ho
  · show ordB classI (flat (match tryC a ms r with | some w => (pre, some (w, ms)) | none => pushC (pre, some (a, ms)) r) ++ t) = true
    cases e : tryC a ms r with
    | none =>
      simp only
      rw [flat_push, List.append_assoc]
      exact ho
    | some w =>
      obtain ⟨h1, h2⟩ := try_some e
      obtain ⟨h3, h4⟩ := whole_cls h2
      show ordB classI ((pre ++ w :: ms) ++ t) = true
      rw [List.append_assoc]
      show ordB classI (pre ++ w :: (ms ++ t)) = true
      rw [← Ordl.ord_rep (cls := classI) (x := a) (w := w) (by omega) pre (ms ++ t)]
      have ho2 : ordB classI (pre ++ a :: (ms ++ r :: t)) = true := by
        have := ho
        simp only [flat, List.append_assoc, List.cons_append] at this
        exact this
      rcases List.eq_nil_or_concat ms with hm | ⟨ms', m, hm⟩
      · subst hm
        exact Ordl.ord_del pre t ho2 (Or.inr h.1)
      · subst hm
        have hm1 := h1 m (by simp)
        have hm2 := h.2 m (by simp)
        have := Ordl.ord_del (cls := classI) (x := m) (r := r) (pre ++ a :: ms') t (by simpa using ho2) (Or.inl (by omega))
        simpa using this
theorem fold_ord : ∀ (l : List Int) {st : CSt}, InvC st → ordB classI (flat st ++ l) = true → ordB classI (flat (l.foldl stepC st)) = true
  | [], st, _, h => by simpa using h
  | r :: l, st, hi, h => by
    rw [List.foldl_cons]
    exact fold_ord l (inv_step hi r) (step_ord hi r l h)
theorem nfc_ord (l : List Int) : ordB classI (nfcL l) = true := fold_ord _ inv_nil (by show ordB classI (dcmp l) = true; exact Ordl.sort_ord _)
/-- No double, nothing that is made of one alone. -/
def NoOne (l : List Int) : Prop := ∀ x ∈ l, ∀ a b, madeF x = some (a, b) → b ≠ 0
theorem step_one {st : CSt} {r : Int} (h : NoOne (flat st)) (hr : NoOne [r]) : NoOne (flat (stepC st r)) := by
  have hp : NoOne (flat st ++ [r]) := fun x hx => by
    rcases List.mem_append.1 hx with h1 | h1
    · exact h x h1
    · exact hr x h1
  obtain ⟨pre, _ | ⟨a, ms⟩⟩ := st
  · show NoOne (flat (pushC (pre, none) r))
    rw [flat_push]
    exact hp
  · show NoOne (flat (match tryC a ms r with | some w => (pre, some (w, ms)) | none => pushC (pre, some (a, ms)) r))
    cases e : tryC a ms r with
    | none =>
      simp only
      rw [flat_push]
      exact hp
    | some w =>
      intro x hx c d hm
      have hx' : x ∈ pre ++ w :: ms := hx
      rcases List.mem_append.1 hx' with h1 | h1
      · exact h x (List.mem_append_left _ h1) c d hm
      · rcases List.mem_cons.1 h1 with h2 | h2
        · obtain ⟨e1, e2⟩ := back2 (try_some e).2
          rw [h2, e1] at hm
          cases hm
          exact e2
        · exact h x (List.mem_append_right _ (List.mem_cons_of_mem _ h2)) c d hm
theorem fold_one : ∀ (l : List Int) {st : CSt}, NoOne (flat st) → NoOne l → NoOne (flat (l.foldl stepC st))
  | [], st, h, _ => h
  | r :: l, st, h, hl => by
    rw [List.foldl_cons]
    exact fold_one l (step_one h (fun x hx => hl x (by rw [List.mem_singleton.1 hx]; exact List.mem_cons_self ..))) (fun x hx => hl x (List.mem_cons_of_mem _ hx))
theorem nfc_one (l : List Int) : NoOne (nfcL l) := fold_one _ (fun x hx => by cases hx) (fun x hx a b hm => by rw [dcmp_end l x hx] at hm; cases hm)
/-! What the quick check takes. -/
def pushes (_ : Int) (t : List Int) : Prop := ∀ m ∈ t, 0 < classI m ∧ isSec m = false
theorem fold_push : ∀ (t : List Int) (pre : List Int) (a : Int) (ms : List Int), pushes a t → t.foldl stepC (pre, some (a, ms)) = (pre, some (a, ms ++ t))
  | [], _, _, _, _ => by simp
  | m :: t, pre, a, ms, h => by
    obtain ⟨h1, h2⟩ := h m (List.mem_cons_self ..)
    have e : tryC a ms m = none := by
      unfold tryC
      split
      · exact no_sec h2
      · rfl
    have e1 : stepC (pre, some (a, ms)) m = (pre, some (a, ms ++ [m])) := by
      show (match tryC a ms m with | some w => (pre, some (w, ms)) | none => pushC (pre, some (a, ms)) m) = _
      rw [e]
      show (if classI m = 0 then (pre ++ a :: ms, some (m, [])) else (pre, some (a, ms ++ [m]))) = _
      rw [if_neg (by omega)]
    rw [List.foldl_cons, e1, fold_push t pre a (ms ++ [m]) (fun x hx => h x (List.mem_cons_of_mem _ hx)), List.append_assoc]
    rfl
theorem step_take {pre : List Int} {a w s : Int} {ms : List Int} (hw : wholeF a s = some w) (h : ∀ m ∈ ms, classI m < classI s) : stepC (pre, some (a, ms)) s = (pre, some (w, ms)) := by
  have e : tryC a ms s = some w := by
    unfold tryC
    rw [if_pos (hi_lt.2 h)]
    exact hw
  show (match tryC a ms s with | some w => (pre, some (w, ms)) | none => pushC (pre, some (a, ms)) s) = _
  rw [e]
theorem step_push {pre : List Int} {a m : Int} {ms : List Int} (h1 : 0 < classI m) (h2 : isSec m = false) : stepC (pre, some (a, ms)) m = (pre, some (a, ms ++ [m])) := by
  have := fold_push [m] pre a ms (fun x hx => by rw [List.mem_singleton.1 hx]; exact ⟨h1, h2⟩)
  exact this
theorem fold_ins {a w s : Int} (hw : wholeF a s = some w) : ∀ (t pre ms : List Int), pushes a t → (∀ m ∈ ms, classI m < classI s) → (Ordl.ins classI s t).foldl stepC (pre, some (a, ms)) = (pre, some (w, ms ++ t))
  | [], pre, ms, _, h => by
    show [s].foldl stepC (pre, some (a, ms)) = _
    rw [List.foldl_cons, step_take hw h]
    simp
  | m :: t, pre, ms, ht, h => by
    obtain ⟨h1, h2⟩ := ht m (List.mem_cons_self ..)
    have ht' : pushes a t := fun x hx => ht x (List.mem_cons_of_mem _ hx)
    unfold Ordl.ins
    by_cases hc : 0 < classI m ∧ classI m < classI s
    · rw [if_pos hc, List.foldl_cons, step_push h1 h2, fold_ins hw t pre (ms ++ [m]) ht' (fun x hx => by
        rcases List.mem_append.1 hx with h3 | h3
        · exact h x h3
        · rw [List.mem_singleton.1 h3]; exact hc.2), List.append_assoc]
      rfl
    · rw [if_neg hc, List.foldl_cons, step_take hw h, fold_push (m :: t) pre w ms ht]
theorem fold_ins2 {a w1 w s1 s2 : Int} (hw1 : wholeF a s1 = some w1) (hw : wholeF w1 s2 = some w) (h12 : classI s1 ≤ classI s2) : ∀ (t pre ms : List Int), pushes a t → (∀ m ∈ ms, classI m < classI s1) → (Ordl.ins classI s1 (Ordl.ins classI s2 t)).foldl stepC (pre, some (a, ms)) = (pre, some (w, ms ++ t))
  | [], pre, ms, _, h => by
    have e : Ordl.ins classI s1 (Ordl.ins classI s2 []) = [s1, s2] := by
      show Ordl.ins classI s1 [s2] = _
      unfold Ordl.ins
      rw [if_neg (by omega)]
    rw [e, List.foldl_cons, step_take hw1 h, List.foldl_cons, step_take hw (fun m hm => by have := h m hm; omega)]
    simp
  | m :: t, pre, ms, ht, h => by
    obtain ⟨h1, h2⟩ := ht m (List.mem_cons_self ..)
    have ht' : pushes a t := fun x hx => ht x (List.mem_cons_of_mem _ hx)
    by_cases hc : classI m < classI s2
    · have e1 : Ordl.ins classI s2 (m :: t) = m :: Ordl.ins classI s2 t := by
        conv => lhs; unfold Ordl.ins
        rw [if_pos ⟨h1, hc⟩]
      by_cases hc1 : classI m < classI s1
      · have e2 : Ordl.ins classI s1 (m :: Ordl.ins classI s2 t) = m :: Ordl.ins classI s1 (Ordl.ins classI s2 t) := by
          conv => lhs; unfold Ordl.ins
          rw [if_pos ⟨h1, hc1⟩]
        rw [e1, e2, List.foldl_cons, step_push h1 h2, fold_ins2 hw1 hw h12 t pre (ms ++ [m]) ht' (fun x hx => by
          rcases List.mem_append.1 hx with h3 | h3
          · exact h x h3
          · rw [List.mem_singleton.1 h3]; exact hc1), List.append_assoc]
        rfl
      · have e2 : Ordl.ins classI s1 (m :: Ordl.ins classI s2 t) = s1 :: m :: Ordl.ins classI s2 t := by
          conv => lhs; unfold Ordl.ins
          rw [if_neg (by omega)]
        rw [e1, e2, List.foldl_cons, step_take hw1 h, ← e1]
        exact fold_ins hw (m :: t) pre ms ht (fun x hx => by have := h x hx; omega)
    · have e1 : Ordl.ins classI s2 (m :: t) = s2 :: m :: t := by
        conv => lhs; unfold Ordl.ins
        rw [if_neg (by omega)]
      have e2 : Ordl.ins classI s1 (s2 :: m :: t) = s1 :: s2 :: m :: t := by
        conv => lhs; unfold Ordl.ins
        rw [if_neg (by omega)]
      rw [e1, e2, List.foldl_cons, step_take hw1 h, List.foldl_cons, step_take hw (fun x hx => by have := h x hx; omega), fold_push (m :: t) pre w ms ht]
def shapeB (p : Int × Int × Int) : Bool :=
  p.2.2 == 0 || ((madeF p.2.2).isNone && decide (0 < classI p.2.2) && (match madeF p.2.1 with
    | none => true
    | some q => q.2 != 0 && (madeF q.1).isNone && (madeF q.2).isNone && decide (0 < classI q.2) && decide (classI q.2 ≤ classI p.2.2)))
theorem pr_shape : (prs.all shapeB) = true := by kernel_rfl
/-- What the quick check takes. -/
structure QuickL (l : List Int) : Prop where
  ord : ordB classI l = true
  one : NoOne l
  sec : ∀ x ∈ l, isSec x = false
theorem mark_none {m : Int} (h : 0 < classI m) (h1 : NoOne [m]) : madeF m = none := by
  cases e : madeF m with
  | none => rfl
  | some x =>
    obtain ⟨a, b⟩ := x
    have := (made_cls e (h1 m (List.mem_singleton_self _) a b e)).1
    omega
theorem dec_marks_none : ∀ {t : List Int}, (∀ m ∈ t, 0 < classI m) → NoOne t → dec t = t
  | t, h, h1 => dec_of_none fun p hp => mark_none (h p hp) (fun x hx => by rw [List.mem_singleton.1 hx]; exact h1 p hp)
theorem run_quick {x : Int} {t : List Int} (ht : ∀ m ∈ t, 0 < classI m) (hq : QuickL (x :: t)) : nfcL (x :: t) = x :: t := by
  have hdt : dec t = t := dec_marks_none ht (fun y hy => hq.one y (List.mem_cons_of_mem _ hy))
  have hpt : ∀ a, pushes a t := fun a m hm => ⟨ht m hm, hq.sec m (List.mem_cons_of_mem _ hm)⟩
  have hot : sortL classI t = t := Ordl.ord_sort _ (by
    cases t with
    | nil => rfl
    | cons y t =>
      have h := hq.ord
      have h' : (!(decide (0 < classI y) && decide (classI y < classI x)) && ordB classI (y :: t)) = true := h
      exact (Bool.and_eq_true _ _ ▸ h').2)
  by_cases hx : classI x = 0
  · -- a starter
    have fin : ∀ st : CSt, flat ((sortL classI (parts x ++ t)).foldl stepC ([], none)) = x :: t → nfcL (x :: t) = x :: t := fun _ h => by
      unfold nfcL compL dcmp
      rw [dec_cons, hdt]
      exact h
    refine fin ([], none) ?_
    have e0 : ∀ b, classI b = 0 → stepC ([], none) b = ([], some (b, [])) := fun b hb => by
      show (if classI b = 0 then ([], some (b, [])) else ([b], none)) = _
      rw [if_pos hb]
    cases hm : madeF x with
    | none =>
      rw [parts_none hm]
      show flat ((sortL classI (x :: t)).foldl stepC ([], none)) = _
      rw [Ordl.sort_cons_free hx, hot, List.foldl_cons, e0 x hx, fold_push t [] x [] (hpt x)]
      rfl
    | some q =>
      obtain ⟨a, b⟩ := q
      have hb0 : b ≠ 0 := hq.one x (List.mem_cons_self ..) a b hm
      have hw := back1 hm hb0
      have hp : parts x = parts a ++ parts b := whole_parts hw
      by_cases hh : hangB x = true
      · have hr := (hang_iff x).1 hh
        have h0 := hm
        unfold madeF at hm
        rw [if_pos hh] at hm
        split at hm
        · rename_i htl
          cases hm
          have hlv : madeF (x - (x - 44032) % 28) = some (4352 + (x - (x - 44032) % 28 - 44032) / 28 / 21, 4449 + (x - (x - 44032) % 28 - 44032) / 28 % 21) := by
            unfold madeF
            rw [if_pos ((hang_iff _).2 (by omega)), if_neg (by omega)]
          have hw2 := back1 hlv (by omega)
          have hp2 := whole_parts hw2
          have n1 : madeF (4352 + (x - (x - 44032) % 28 - 44032) / 28 / 21) = none := lead_none (by omega) (by omega)
          have n2 : madeF (4449 + (x - (x - 44032) % 28 - 44032) / 28 % 21) = none := mid_none (by omega) (by omega)
          have n3 : madeF (4519 + (x - 44032) % 28) = none := mid_none (by omega) (by omega)
          rw [hp, hp2, parts_none n1, parts_none n2, parts_none n3]
          have c1 : classI (4352 + (x - (x - 44032) % 28 - 44032) / 28 / 21) = 0 := cls_hang (by omega)
          have c2 : classI (4449 + (x - (x - 44032) % 28 - 44032) / 28 % 21) = 0 := cls_hang (by omega)
          have c3 : classI (4519 + (x - 44032) % 28) = 0 := cls_hang (by omega)
          generalize 4352 + (x - (x - 44032) % 28 - 44032) / 28 / 21 = l1 at *
          generalize 4449 + (x - (x - 44032) % 28 - 44032) / 28 % 21 = l2 at *
          generalize 4519 + (x - 44032) % 28 = l3 at *
          generalize x - (x - 44032) % 28 = lv at *
          show flat ((sortL classI (l1 :: l2 :: l3 :: t)).foldl stepC ([], none)) = _
          rw [Ordl.sort_cons_free c1, Ordl.sort_cons_free c2, Ordl.sort_cons_free c3, hot, List.foldl_cons, e0 l1 c1, List.foldl_cons, step_take hw2 (fun m hm => by cases hm), List.foldl_cons, step_take hw (fun m hm => by cases hm), fold_push t [] x [] (hpt x)]
          rfl
        · rename_i htl
          cases hm
          have n1 : madeF (4352 + (x - 44032) / 28 / 21) = none := lead_none (by omega) (by omega)
          have n2 : madeF (4449 + (x - 44032) / 28 % 21) = none := mid_none (by omega) (by omega)
          rw [hp, parts_none n1, parts_none n2]
          have c1 : classI (4352 + (x - 44032) / 28 / 21) = 0 := cls_hang (by omega)
          have c2 : classI (4449 + (x - 44032) / 28 % 21) = 0 := cls_hang (by omega)
          generalize 4352 + (x - 44032) / 28 / 21 = l1 at *
          generalize 4449 + (x - 44032) / 28 % 21 = l2 at *
          show flat ((sortL classI (l1 :: l2 :: t)).foldl stepC ([], none)) = _
          rw [Ordl.sort_cons_free c1, Ordl.sort_cons_free c2, hot, List.foldl_cons, e0 l1 c1, List.foldl_cons, step_take hw (fun m hm => by cases hm), fold_push t [] x [] (hpt x)]
          rfl
      · have h0 := hm
        unfold madeF at hm
        rw [if_neg hh] at hm
        have hsh := all_of pr_shape (look_mem hm)
        unfold shapeB at hsh
        simp only [Bool.or_eq_true, Bool.and_eq_true, beq_iff_eq, decide_eq_true_eq, Option.isNone_iff_eq_none] at hsh
        obtain ⟨⟨n2, c2⟩, hsh⟩ := hsh.resolve_left hb0
        have ca := (made_cls h0 hb0).2
        rw [hp, parts_none n2]
        cases hma : madeF a with
        | none =>
          rw [parts_none hma]
          show flat ((sortL classI (a :: b :: t)).foldl stepC ([], none)) = _
          rw [Ordl.sort_cons_free ca]
          show flat ((a :: Ordl.ins classI b (sortL classI t)).foldl stepC ([], none)) = _
          rw [hot, List.foldl_cons, e0 a ca, fold_ins hw t [] [] (hpt a) (fun m hm => by cases hm)]
          rfl
        | some q =>
          obtain ⟨a1, b1⟩ := q
          rw [hma] at hsh
          simp only [Bool.and_eq_true, bne_iff_ne, ne_eq, decide_eq_true_eq, Option.isNone_iff_eq_none] at hsh
          obtain ⟨⟨⟨⟨k1, k2⟩, k3⟩, k4⟩, k5⟩ := hsh
          have hwa := back1 hma k1
          have hpa := whole_parts hwa
          have ca1 := (made_cls hma k1).2
          rw [hpa, parts_none k2, parts_none k3]
          show flat ((sortL classI (a1 :: b1 :: b :: t)).foldl stepC ([], none)) = _
          rw [Ordl.sort_cons_free ca1]
          show flat ((a1 :: Ordl.ins classI b1 (Ordl.ins classI b (sortL classI t))).foldl stepC ([], none)) = _
          rw [hot, List.foldl_cons, e0 a1 ca1, fold_ins2 hwa hw k5 t [] [] (hpt a1) (fun m hm => by cases hm)]
          rfl
  · have hx0 : 0 < classI x := by have := (class_bd x).1; omega
    have hall : ∀ m ∈ x :: t, 0 < classI m := fun m hm => by
      rcases List.mem_cons.1 hm with rfl | h
      · exact hx0
      · exact ht m h
    have hd : dcmp (x :: t) = x :: t := by
      unfold dcmp
      rw [dec_marks_none hall hq.one]
      exact Ordl.ord_sort _ hq.ord
    unfold nfcL
    rw [hd]
    have key : ∀ (u pre : List Int), (∀ m ∈ u, 0 < classI m) → u.foldl stepC (pre, none) = (pre ++ u, none) := fun u => by
      induction u with
      | nil => intro pre _; simp
      | cons m u ih =>
        intro pre hu
        have e1 : stepC (pre, none) m = (pre ++ [m], none) := by
          show (if classI m = 0 then (pre, some (m, [])) else (pre ++ [m], none)) = _
          rw [if_neg (by have := hu m (List.mem_cons_self ..); omega)]
        rw [List.foldl_cons, e1, ih (pre ++ [m]) (fun y hy => hu y (List.mem_cons_of_mem _ hy)), List.append_assoc]
        rfl
    unfold compL
    rw [key (x :: t) [] hall]
    rfl
theorem quick_nfc : ∀ l : List Int, QuickL l → nfcL l = l := by
  refine Ordl.by_runs (cls := classI) (fun x => (class_bd x).1) (fun _ => rfl) (fun x t r ht hr ih hq => ?_)
  have e : x :: (t ++ r) = (x :: t) ++ r := rfl
  rw [e] at hq ⊢
  have ho := hq.ord
  rw [Ordl.ord_app (x :: t) hr, Bool.and_eq_true] at ho
  have hA : ApartL r := fun y u e => ⟨hr y u e, hq.sec y (List.mem_append_right _ (by rw [e]; exact List.mem_cons_self ..))⟩
  rw [nfc_app _ hA]
  rw [run_quick ht ⟨ho.1, fun y hy => hq.one y (List.mem_append_left _ hy), fun y hy => hq.sec y (List.mem_append_left _ hy)⟩, ih ⟨ho.2, fun y hy => hq.one y (List.mem_append_right _ hy), fun y hy => hq.sec y (List.mem_append_right _ hy)⟩]
/-! ASCII. -/
theorem pr_low : (prs.all fun p => decide (192 ≤ p.1) && (p.2.2 == 0 || decide (768 ≤ p.2.2))) = true := by kernel_rfl
theorem ascii_quick : ∀ l : List Int, (∀ x ∈ l, 0 ≤ x ∧ x < 128) → QuickL l := fun l h => by
  have hc : ∀ x ∈ l, classI x = 0 := fun x hx => by
    have := h x hx
    unfold classI
    rw [if_pos (by omega)]
  refine ⟨?_, fun x hx a b hm => ?_, fun x hx => ?_⟩
  · have : ∀ u : List Int, (∀ x ∈ u, classI x = 0) → ordB classI u = true := fun u => by
      induction u with
      | nil => intro _; rfl
      | cons a u ih =>
        intro hu
        cases u with
        | nil => rfl
        | cons b u =>
          show (!(decide (0 < classI b) && decide (classI b < classI a)) && ordB classI (b :: u)) = true
          rw [ih (fun x hx => hu x (List.mem_cons_of_mem _ hx)), hu b (by simp)]
          rfl
    exact this l hc
  · have := h x hx
    unfold madeF at hm
    rw [if_neg (by rw [hang_iff]; omega)] at hm
    have h2 := all_of pr_low (look_mem hm)
    simp only [Bool.and_eq_true, decide_eq_true_eq] at h2
    omega
  · have := h x hx
    unfold isSec
    have h0 : (prs.any fun p => p.2.2 == x && x != 0) = false := by
      rw [List.any_eq_false]
      intro p hp
      have h2 := all_of pr_low hp
      simp only [Bool.and_eq_true, Bool.or_eq_true, beq_iff_eq, decide_eq_true_eq] at h2
      simp
      omega
    have h1 : decide (4449 ≤ x) = false := decide_eq_false (by omega)
    have h2 : decide (4520 ≤ x) = false := decide_eq_false (by omega)
    rw [h0, h1, h2]
    simp
theorem ascii_nfc {l : List Int} (h : ∀ x ∈ l, 0 ≤ x ∧ x < 128) : nfcL l = l := quick_nfc l (ascii_quick l h)
end Go.Proofs.YthepfbkbfkhcaaaGreat.Tb
