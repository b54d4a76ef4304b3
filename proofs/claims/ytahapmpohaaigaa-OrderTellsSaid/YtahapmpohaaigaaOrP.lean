/- Plain laws on what scalars are made of, taken apart to the end. No program in sight. -/
import Derived.Test.YtahapmpohaaigaaTb
import Derived.Test.YtahapmpohaaigaaOr
namespace Go.Proofs.Ytahapmpohaaigaa.Tb
open Go
def partsN : Nat → Int → List Int
  | 0, r => [r]
  | n + 1, r => match madeF r with | none => [r] | some x => partsN n x.1 ++ (if x.2 = 0 then [] else partsN n x.2)
def depB : Nat → Int → Bool
  | 0, _ => false
  | n + 1, r => match madeF r with | none => true | some x => depB n x.1 && (x.2 == 0 || depB n x.2)
def parts (r : Int) : List Int := partsN 5 r
theorem pr_dep : (prs.all fun p => depB 5 p.1) = true := by kernel_rfl
theorem dep_lead (k : Nat) {r : Int} (h1 : 4352 ≤ r) (h2 : r < 4371) : depB (k + 1) r = true := by
  unfold depB
  rw [lead_none h1 h2]
theorem mid_none {r : Int} (h1 : 4449 ≤ r) (h2 : r < 4560) : madeF r = none := by
  unfold madeF
  rw [if_neg (by rw [hang_iff]; omega)]
  cases h : lookW r with
  | none => rfl
  | some x =>
    have hm := look_mem h
    have hp : (prs.all fun p => !(decide (4449 ≤ p.1) && decide (p.1 < 4560))) = true := by kernel_rfl
    have := List.all_eq_true.1 hp _ hm
    simp [h1, h2] at this
theorem dep_mid (k : Nat) {r : Int} (h1 : 4449 ≤ r) (h2 : r < 4560) : depB (k + 1) r = true := by
  unfold depB
  rw [mid_none h1 h2]
theorem dep_lv (k : Nat) {r : Int} (hr : 44032 ≤ r ∧ r < 55204) (ht : ¬ 0 < (r - 44032) % 28) : depB (k + 2) r = true := by
  have e : madeF r = some (4352 + (r - 44032) / 28 / 21, 4449 + (r - 44032) / 28 % 21) := by
    unfold madeF
    rw [if_pos ((hang_iff r).2 hr), if_neg ht]
  unfold depB
  rw [e]
  simp only
  rw [dep_lead k (by omega) (by omega), dep_mid k (by omega) (by omega)]
  simp
theorem dep5 (r : Int) : depB 5 r = true := by
  by_cases hh : hangB r = true
  · have h1 := (hang_iff r).1 hh
    by_cases ht : 0 < (r - 44032) % 28
    · have e : madeF r = some (r - (r - 44032) % 28, 4519 + (r - 44032) % 28) := by
        unfold madeF
        rw [if_pos hh, if_pos ht]
      unfold depB
      rw [e]
      simp only
      rw [dep_lv 2 (by omega) (by omega), dep_mid 3 (by omega) (by omega)]
      simp
    · exact dep_lv 3 h1 ht
  · cases h : lookW r with
    | none =>
      have e : madeF r = none := by
        unfold madeF
        rw [if_neg hh, h]
      unfold depB
      rw [e]
    | some x => exact List.all_eq_true.1 pr_dep _ (look_mem h)
theorem dep_made {n : Nat} {r : Int} {x : Int × Int} (h : depB (n + 1) r = true) (hm : madeF r = some x) : depB n x.1 = true ∧ (x.2 = 0 ∨ depB n x.2 = true) := by
  unfold depB at h
  rw [hm] at h
  simpa using h
theorem partsN_dep : ∀ (n m : Nat) (r : Int), depB n r = true → n ≤ m → partsN m r = partsN n r
  | 0, _, _, h, _ => by cases h
  | n + 1, m, r, h, hm => by
    obtain ⟨k, rfl⟩ : ∃ k, m = k + 1 := ⟨m - 1, by omega⟩
    unfold partsN
    cases e : madeF r with
    | none => rfl
    | some x =>
      obtain ⟨h1, h2⟩ := dep_made h e
      simp only
      rw [partsN_dep n k x.1 h1 (by omega)]
      by_cases hx : x.2 = 0
      · rw [if_pos hx, if_pos hx]
      · rw [if_neg hx, if_neg hx, partsN_dep n k x.2 (h2.resolve_left hx) (by omega)]
theorem parts_of {n : Nat} {r : Int} (h : depB n r = true) (hn : n ≤ 5) : parts r = partsN n r := partsN_dep n 5 r h hn
theorem parts_none {r : Int} (h : madeF r = none) : parts r = [r] := by
  unfold parts partsN
  rw [h]
theorem parts_some {r : Int} {x : Int × Int} (h : madeF r = some x) : parts r = parts x.1 ++ (if x.2 = 0 then [] else parts x.2) := by
  obtain ⟨h1, h2⟩ := dep_made (dep5 r) h
  unfold parts
  conv => lhs; unfold partsN
  rw [h]
  simp only
  rw [partsN_dep 4 5 x.1 h1 (by omega)]
  by_cases hx : x.2 = 0
  · rw [if_pos hx, if_pos hx]
  · rw [if_neg hx, if_neg hx, partsN_dep 4 5 x.2 (h2.resolve_left hx) (by omega)]
def partBd (x : Int × Int) : Bool := decide (0 ≤ x.1 ∧ x.1 ≤ 100000 ∧ 0 ≤ x.2 ∧ x.2 ≤ 100000)
theorem pr_bd : (prs.all fun p => partBd p.2) = true := by kernel_rfl
theorem made_bd {r : Int} {x : Int × Int} (h : madeF r = some x) : 0 ≤ x.1 ∧ x.1 ≤ 100000 ∧ 0 ≤ x.2 ∧ x.2 ≤ 100000 := by
  unfold madeF at h
  by_cases hh : hangB r = true
  · have h1 := (hang_iff r).1 hh
    rw [if_pos hh] at h
    split at h <;> (cases h; simp only; omega)
  · rw [if_neg hh] at h
    exact of_decide_eq_true (List.all_eq_true.1 pr_bd _ (look_mem h))
/-- By what scalars are made of. -/
theorem by_made {P : Int → Prop} (hn : ∀ r, madeF r = none → P r) (hs : ∀ r x, madeF r = some x → P x.1 → (x.2 ≠ 0 → P x.2) → P r) : ∀ r, P r := by
  have : ∀ n r, depB n r = true → P r := fun n => by
    induction n with
    | zero => intro r h; cases h
    | succ n ih =>
      intro r h
      cases e : madeF r with
      | none => exact hn r e
      | some x =>
        obtain ⟨h1, h2⟩ := dep_made h e
        exact hs r x e (ih _ h1) (fun hx => ih _ (h2.resolve_left hx))
  exact fun r => this 5 r (dep5 r)
theorem parts_pos : ∀ r, 1 ≤ (parts r).length := by
  refine by_made (fun r h => by rw [parts_none h]; simp) (fun r x h h1 _ => ?_)
  rw [parts_some h, List.length_append]
  omega
theorem partsN_le : ∀ (n : Nat) (r : Int), (partsN n r).length ≤ 2 ^ n
  | 0, r => by simp [partsN]
  | n + 1, r => by
    unfold partsN
    cases madeF r with
    | none => simp; exact Nat.one_le_two_pow
    | some x =>
      have h1 := partsN_le n x.1
      have h2 := partsN_le n x.2
      simp only [List.length_append]
      split
      · simp; omega
      · omega
theorem parts_le (r : Int) : (parts r).length ≤ 32 := partsN_le 5 r
theorem parts_end : ∀ r, ∀ p ∈ parts r, madeF p = none := by
  refine by_made (fun r h p hp => ?_) (fun r x h h1 h2 p hp => ?_)
  · rw [parts_none h, List.mem_singleton] at hp
    rw [hp]; exact h
  · rw [parts_some h, List.mem_append] at hp
    rcases hp with hp | hp
    · exact h1 p hp
    · split at hp
      · cases hp
      · exact h2 (by assumption) p hp
theorem parts_in : ∀ r, ∀ p ∈ parts r, p = r ∨ (0 ≤ p ∧ p ≤ 100000) := by
  refine by_made (fun r h p hp => ?_) (fun r x h h1 h2 p hp => ?_)
  · rw [parts_none h, List.mem_singleton] at hp
    exact Or.inl hp
  · have hb := made_bd h
    rw [parts_some h, List.mem_append] at hp
    rcases hp with hp | hp
    · rcases h1 p hp with rfl | h
      · exact Or.inr (by omega)
      · exact Or.inr h
    · split at hp
      · cases hp
      · rcases h2 (by assumption) p hp with rfl | h
        · exact Or.inr (by omega)
        · exact Or.inr h
/-- A row of scalars taken apart. -/
def dec (l : List Int) : List Int := (l.map parts).flatten
theorem dec_nil : dec [] = [] := rfl
theorem dec_cons (r : Int) (l : List Int) : dec (r :: l) = parts r ++ dec l := by simp [dec]
theorem dec_app (l m : List Int) : dec (l ++ m) = dec l ++ dec m := by simp [dec]
theorem dec_one (r : Int) : dec [r] = parts r := by simp [dec]
theorem dec_of_none : ∀ {l : List Int}, (∀ p ∈ l, madeF p = none) → dec l = l
  | [], _ => rfl
  | r :: l, h => by rw [dec_cons, parts_none (h r (List.mem_cons_self ..)), dec_of_none (fun p hp => h p (List.mem_cons_of_mem _ hp))]; rfl
theorem dec_mem {l : List Int} {p : Int} (h : p ∈ dec l) : ∃ r ∈ l, p ∈ parts r := by
  unfold dec at h
  rw [List.mem_flatten] at h
  obtain ⟨u, hu, hp⟩ := h
  obtain ⟨r, hr, rfl⟩ := List.mem_map.1 hu
  exact ⟨r, hr, hp⟩
theorem dec_end {l : List Int} : ∀ p ∈ dec l, madeF p = none := fun p hp => by
  obtain ⟨r, _, h⟩ := dec_mem hp
  exact parts_end r p h
theorem dec_idem (l : List Int) : dec (dec l) = dec l := dec_of_none dec_end
theorem dec_len : ∀ l : List Int, l.length ≤ (dec l).length ∧ (dec l).length ≤ 32 * l.length
  | [] => by simp [dec]
  | r :: l => by
    have h := dec_len l
    have h1 := parts_pos r
    have h2 := parts_le r
    rw [dec_cons, List.length_append, List.length_cons]
    omega
theorem dec_in {l : List Int} {p : Int} (h : p ∈ dec l) : p ∈ l ∨ (0 ≤ p ∧ p ≤ 100000) := by
  obtain ⟨r, hr, hp⟩ := dec_mem h
  rcases parts_in r p hp with rfl | h
  · exact Or.inl hr
  · exact Or.inr h
theorem dec_made (r : Int) : parts r = match madeF r with | none => [r] | some x => dec (if x.2 = 0 then [x.1] else [x.1, x.2]) := by
  cases h : madeF r with
  | none => exact parts_none h
  | some x =>
    rw [parts_some h]
    simp only
    split
    · simp [dec]
    · simp [dec]
end Go.Proofs.Ytahapmpohaaigaa.Tb
