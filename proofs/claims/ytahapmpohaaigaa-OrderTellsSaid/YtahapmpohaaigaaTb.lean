/- Plain laws on the tables: what a scalar is made of, the whole of two, classes. No program in sight. -/
import Derived.KernelRfl
namespace Go.Proofs.Ytahapmpohaaigaa.Tb
def tbl : List (Int × Int × Int) := [(65, 768, 192), (69, 768, 200), (73, 768, 204), (79, 768, 210), (85, 768, 217), (97, 768, 224), (101, 768, 232), (105, 768, 236), (111, 768, 242), (117, 768, 249), (65, 769, 193), (69, 769, 201), (73, 769, 205), (79, 769, 211), (85, 769, 218), (89, 769, 221), (97, 769, 225), (101, 769, 233), (105, 769, 237), (111, 769, 243), (117, 769, 250), (121, 769, 253), (234, 769, 7871), (252, 769, 472), (65, 770, 194), (69, 770, 202), (73, 770, 206), (79, 770, 212), (85, 770, 219), (97, 770, 226), (101, 770, 234), (105, 770, 238), (111, 770, 244), (117, 770, 251), (7865, 770, 7879), (65, 771, 195), (78, 771, 209), (79, 771, 213), (97, 771, 227), (110, 771, 241), (111, 771, 245), (252, 772, 470), (1048, 774, 1049), (1080, 774, 1081), (65, 776, 196), (69, 776, 203), (73, 776, 207), (79, 776, 214), (85, 776, 220), (97, 776, 228), (101, 776, 235), (105, 776, 239), (111, 776, 246), (117, 776, 252), (121, 776, 255), (1045, 776, 1025), (1077, 776, 1105), (65, 778, 197), (97, 778, 229), (67, 780, 268), (83, 780, 352), (90, 780, 381), (99, 780, 269), (115, 780, 353), (122, 780, 382), (101, 803, 7865), (67, 807, 199), (99, 807, 231)]
def dbl : List (Int × Int) := [(832, 768), (833, 769), (8486, 937), (8490, 75), (8491, 197)]
def prs : List (Int × Int × Int) := [(192, 65, 768), (193, 65, 769), (194, 65, 770), (195, 65, 771), (196, 65, 776), (197, 65, 778), (199, 67, 807), (200, 69, 768), (201, 69, 769), (202, 69, 770), (203, 69, 776), (204, 73, 768), (205, 73, 769), (206, 73, 770), (207, 73, 776), (209, 78, 771), (210, 79, 768), (211, 79, 769), (212, 79, 770), (213, 79, 771), (214, 79, 776), (217, 85, 768), (218, 85, 769), (219, 85, 770), (220, 85, 776), (221, 89, 769), (224, 97, 768), (225, 97, 769), (226, 97, 770), (227, 97, 771), (228, 97, 776), (229, 97, 778), (231, 99, 807), (232, 101, 768), (233, 101, 769), (234, 101, 770), (235, 101, 776), (236, 105, 768), (237, 105, 769), (238, 105, 770), (239, 105, 776), (241, 110, 771), (242, 111, 768), (243, 111, 769), (244, 111, 770), (245, 111, 771), (246, 111, 776), (249, 117, 768), (250, 117, 769), (251, 117, 770), (252, 117, 776), (253, 121, 769), (255, 121, 776), (268, 67, 780), (269, 99, 780), (352, 83, 780), (353, 115, 780), (381, 90, 780), (382, 122, 780), (470, 252, 772), (472, 252, 769), (1025, 1045, 776), (1049, 1048, 774), (1081, 1080, 774), (1105, 1077, 776), (7865, 101, 803), (7871, 234, 769), (7879, 7865, 770), (832, 768, 0), (833, 769, 0), (8486, 937, 0), (8490, 75, 0), (8491, 197, 0)]
def hangB (r : Int) : Bool := decide (44032 ≤ r ∧ r < 55204)
theorem hang_iff (r : Int) : hangB r = true ↔ 44032 ≤ r ∧ r < 55204 := by unfold hangB; simp
theorem hang_no (r : Int) : hangB r = false ↔ ¬ (44032 ≤ r ∧ r < 55204) := by unfold hangB; simp
def classI (r : Int) : Int :=
  if r < 768 ∨ 837 < r then 0 else if r ≤ 788 ∨ r = 832 ∨ r = 833 then 230 else if r = 789 then 232 else if r ≤ 793 ∨ (803 ≤ r ∧ r ≤ 806) then 220 else if r = 795 then 216 else if r = 807 ∨ r = 808 then 202 else if r = 824 then 1 else if r = 837 then 240 else 0
theorem class_bd (r : Int) : 0 ≤ classI r ∧ classI r ≤ 240 := by
  unfold classI
  repeat' split
  all_goals omega
def markB (r : Int) : Bool := decide (0 < classI r)
def lookW (r : Int) : Option (Int × Int) := (prs.find? fun p => p.1 == r).map fun p => p.2
def madeF (r : Int) : Option (Int × Int) :=
  if hangB r = true then (if 0 < (r - 44032) % 28 then some (r - (r - 44032) % 28, 4519 + (r - 44032) % 28) else some (4352 + (r - 44032) / 28 / 21, 4449 + (r - 44032) / 28 % 21)) else lookW r
def lookP (a b : Int) : Option Int := (prs.find? fun p => p.2.1 == a && p.2.2 == b && b != 0).map fun p => p.1
def wholeF (a b : Int) : Option Int :=
  if 4352 ≤ a ∧ a < 4371 ∧ 4449 ≤ b ∧ b < 4470 then some (44032 + ((a - 4352) * 21 + b - 4449) * 28) else if hangB a = true ∧ (a - 44032) % 28 = 0 ∧ 4520 ≤ b ∧ b < 4547 then some (a + b - 4519) else lookP a b
theorem look_mem {r : Int} {x : Int × Int} (h : lookW r = some x) : (r, x.1, x.2) ∈ prs := by
  unfold lookW at h
  rw [Option.map_eq_some_iff] at h
  obtain ⟨p, hp, rfl⟩ := h
  have h1 := List.mem_of_find?_eq_some hp
  have h2 := List.find?_some hp
  simp at h2
  rw [← h2]
  exact h1
theorem lookP_mem {a b w : Int} (h : lookP a b = some w) : (w, a, b) ∈ prs ∧ b ≠ 0 := by
  unfold lookP at h
  rw [Option.map_eq_some_iff] at h
  obtain ⟨p, hp, rfl⟩ := h
  have h1 := List.mem_of_find?_eq_some hp
  have h2 := List.find?_some hp
  simp at h2
  obtain ⟨⟨h3, h4⟩, h5⟩ := h2
  refine ⟨?_, h5⟩
  rw [← h3, ← h4]
  exact h1
theorem all_of {p : Int × Int × Int → Bool} (h : prs.all p = true) {x : Int × Int × Int} (hx : x ∈ prs) : p x = true := List.all_eq_true.1 h x hx
theorem pr_whole : (prs.all fun p => p.2.2 == 0 || wholeF p.2.1 p.2.2 == some p.1) = true := by kernel_rfl
theorem pr_made : (prs.all fun p => madeF p.1 == some p.2) = true := by kernel_rfl
theorem pr_apart : (prs.all fun p => p.2.1 != p.1 && !(decide (4352 ≤ p.1) && decide (p.1 < 4371))) = true := by kernel_rfl
theorem back1 {r a b : Int} (h : madeF r = some (a, b)) (hb : b ≠ 0) : wholeF a b = some r := by
  by_cases hh : hangB r = true
  · have h1 := (hang_iff r).1 hh
    unfold madeF at h
    rw [if_pos hh] at h
    split at h
    · simp only [Option.some.injEq, Prod.mk.injEq] at h
      obtain ⟨rfl, rfl⟩ := h
      unfold wholeF
      rw [if_neg (by omega), if_pos ⟨(hang_iff _).2 (by omega), by omega, by omega, by omega⟩]
      congr 1
      omega
    · simp only [Option.some.injEq, Prod.mk.injEq] at h
      obtain ⟨rfl, rfl⟩ := h
      unfold wholeF
      rw [if_pos (by omega)]
      congr 1
      omega
  · unfold madeF at h
    rw [if_neg hh] at h
    have := all_of pr_whole (look_mem h)
    simp only [Bool.or_eq_true, beq_iff_eq] at this
    exact this.resolve_left hb
theorem back2 {a b w : Int} (h : wholeF a b = some w) : madeF w = some (a, b) ∧ b ≠ 0 := by
  unfold wholeF at h
  split at h
  · simp only [Option.some.injEq] at h
    refine ⟨?_, by omega⟩
    unfold madeF
    rw [if_pos ((hang_iff _).2 (by omega)), if_neg (by omega)]
    simp only [Option.some.injEq, Prod.mk.injEq]
    omega
  · split at h
    · rename_i h2
      obtain ⟨h3, h4, h5, h6⟩ := h2
      have h7 := (hang_iff _).1 h3
      simp only [Option.some.injEq] at h
      refine ⟨?_, by omega⟩
      unfold madeF
      rw [if_pos ((hang_iff _).2 (by omega)), if_pos (by omega)]
      simp only [Option.some.injEq, Prod.mk.injEq]
      omega
    · obtain ⟨h1, h2⟩ := lookP_mem h
      have := all_of pr_made h1
      simp only [beq_iff_eq] at this
      exact ⟨this, h2⟩
theorem back3 {r a b : Int} (h : madeF r = some (a, b)) : a ≠ r := by
  unfold madeF at h
  split at h
  · rename_i hh
    have h1 := (hang_iff r).1 hh
    split at h
    all_goals
      simp only [Option.some.injEq, Prod.mk.injEq] at h
      omega
  · have := all_of pr_apart (look_mem h)
    simp only [Bool.and_eq_true, bne_iff_ne] at this
    exact this.1
theorem lead_none {r : Int} (h1 : 4352 ≤ r) (h2 : r < 4371) : madeF r = none := by
  unfold madeF
  rw [if_neg (by rw [hang_iff]; omega)]
  cases h : lookW r with
  | none => rfl
  | some x =>
    have := all_of pr_apart (look_mem h)
    simp [h1, h2] at this
def condB (r a b : Int) : Bool := !(decide (r < 65) || decide (a < 65) || (b != 0 && decide (b < 768)) || (!hangB r && b != 0 && (!markB b || markB a)))
def chB : Nat → Int → Bool
  | 0, _ => false
  | k + 1, r => match madeF r with | none => true | some x => condB r x.1 x.2 && chB k x.1
theorem pr_ch : (prs.all fun p => chB 5 p.1) = true := by kernel_rfl
theorem ch_lead (k : Nat) {r : Int} (h1 : 4352 ≤ r) (h2 : r < 4371) : chB (k + 1) r = true := by
  unfold chB
  rw [lead_none h1 h2]
theorem ch_lv (k : Nat) {r : Int} (hr : 44032 ≤ r ∧ r < 55204) (ht : ¬ 0 < (r - 44032) % 28) : chB (k + 2) r = true := by
  have e : madeF r = some (4352 + (r - 44032) / 28 / 21, 4449 + (r - 44032) / 28 % 21) := by
    unfold madeF
    rw [if_pos ((hang_iff r).2 hr), if_neg ht]
  unfold chB
  rw [e]
  simp only
  rw [ch_lead k (by omega) (by omega)]
  unfold condB
  rw [(hang_iff r).2 hr]
  simp
  omega
theorem ch5 (r : Int) : chB 5 r = true := by
  by_cases hh : hangB r = true
  · have h1 := (hang_iff r).1 hh
    by_cases ht : 0 < (r - 44032) % 28
    · have e : madeF r = some (r - (r - 44032) % 28, 4519 + (r - 44032) % 28) := by
        unfold madeF
        rw [if_pos hh, if_pos ht]
      unfold chB
      rw [e]
      simp only
      rw [ch_lv 2 (by omega) (by omega)]
      unfold condB
      rw [hh]
      simp
      omega
    · exact ch_lv 3 h1 ht
  · cases h : lookW r with
    | none =>
      have e : madeF r = none := by
        unfold madeF
        rw [if_neg hh, h]
      unfold chB
      rw [e]
    | some x =>
      have := all_of pr_ch (look_mem h)
      exact this
/-! What the program's maps tell is what the rising row tells. -/
theorem find_perm {α : Type} {p : α → Bool} : ∀ {l m : List α}, (∀ x, x ∈ l ↔ x ∈ m) → (∀ x ∈ m, ∀ y ∈ m, p x = true → p y = true → x = y) → l.find? p = m.find? p := by
  intro l m h hu
  cases h1 : l.find? p with
  | none =>
    have h2 := List.find?_eq_none.1 h1
    exact (List.find?_eq_none.2 fun x hx => h2 x ((h x).2 hx)).symm
  | some x =>
    have h2 := List.mem_of_find?_eq_some h1
    have h3 := List.find?_some h1
    cases h4 : m.find? p with
    | none => exact absurd h3 (List.find?_eq_none.1 h4 x ((h x).1 h2))
    | some y => rw [hu x ((h x).1 h2) y (List.mem_of_find?_eq_some h4) h3 (List.find?_some h4)]
def turn (p : Int × Int × Int) : Int × Int × Int := (p.2.2, p.1, p.2.1)
theorem perm1 : (tbl.all fun p => prs.contains (turn p)) = true := by kernel_rfl
theorem perm2 : (prs.all fun p => p.2.2 == 0 || (tbl.map turn).contains p) = true := by kernel_rfl
theorem perm3 : (prs.all fun p => prs.all fun q => (p.1 != q.1 || p == q) && (p.2.2 == 0 || p.2 != q.2 || p == q)) = true := by kernel_rfl
theorem uniq {p q : Int × Int × Int} (hp : p ∈ prs) (hq : q ∈ prs) : (p.1 = q.1 → p = q) ∧ (p.2.2 ≠ 0 → p.2 = q.2 → p = q) := by
  have h := List.all_eq_true.1 (List.all_eq_true.1 perm3 p hp) q hq
  simp only [Bool.and_eq_true, Bool.or_eq_true, bne_iff_ne, beq_iff_eq] at h
  obtain ⟨h1, h2⟩ := h
  exact ⟨fun e => h1.resolve_left (fun k => k e), fun e1 e2 => (h2.resolve_left (fun k => k.elim (fun k => e1 k) (fun k => k e2)))⟩
theorem tbl_whole (a b : Int) : (tbl.find? fun p => p.1 == a && p.2.1 == b).map (fun p => p.2.2) = lookP a b := by
  have e1 : (tbl.find? fun p => p.1 == a && p.2.1 == b).map (fun p => p.2.2) = ((tbl.map turn).find? fun p => p.2.1 == a && p.2.2 == b).map (fun p => p.1) := by
    rw [List.find?_map, Option.map_map]
    rfl
  rw [e1]
  unfold lookP
  by_cases hb : b = 0
  · subst hb
    have h1 : ((tbl.map turn).find? fun p => p.2.1 == a && p.2.2 == 0) = none := by
      rw [List.find?_eq_none]
      intro x hx
      have : ((tbl.map turn).all fun p => p.2.2 != 0) = true := by kernel_rfl
      have := List.all_eq_true.1 this x hx
      simp at this
      simp [this]
    rw [h1]
    have h2 : (prs.find? fun p => p.2.1 == a && p.2.2 == 0 && (0 : Int) != 0) = none := by
      rw [List.find?_eq_none]
      intro x _
      simp
    rw [h2]
  · congr 1
    have e2 : (fun p : Int × Int × Int => p.2.1 == a && p.2.2 == b && b != 0) = fun p => p.2.1 == a && p.2.2 == b := by
      funext p
      simp [hb]
    rw [e2]
    have e3 : (prs.find? fun p => p.2.1 == a && p.2.2 == b) = ((prs.filter fun p => p.2.2 != 0).find? fun p => p.2.1 == a && p.2.2 == b) := by
      rw [List.find?_filter]
      congr 1
      funext p
      by_cases h : p.2.2 = 0
      · simp [h]
        intro _ e
        exact hb e.symm
      · simp only [bne_iff_ne, ne_eq, h, not_false_eq_true, Bool.and_eq_true, beq_iff_eq]
        rw [Bool.eq_iff_iff]
        simp
    rw [e3]
    refine find_perm (fun x => ?_) (fun x hx y hy h1 h2 => ?_)
    · constructor
      · intro hx
        obtain ⟨p, hp, rfl⟩ := List.mem_map.1 hx
        have := List.all_eq_true.1 perm1 p hp
        rw [List.mem_filter]
        refine ⟨by simpa using this, ?_⟩
        have : ((tbl.map turn).all fun p => p.2.2 != 0) = true := by kernel_rfl
        exact List.all_eq_true.1 this _ hx
      · intro hx
        rw [List.mem_filter] at hx
        have := List.all_eq_true.1 perm2 x hx.1
        simp only [Bool.or_eq_true, beq_iff_eq] at this
        have h2 := hx.2
        simp at h2
        simpa using this.resolve_left h2
    · rw [List.mem_filter] at hx hy
      simp only [Bool.and_eq_true, beq_iff_eq] at h1 h2
      have h3 := hx.2
      simp at h3
      exact (uniq hx.1 hy.1).2 h3 (Prod.ext (h1.1.trans h2.1.symm) (h1.2.trans h2.2.symm))
def madeT (r : Int) : Option (Int × Int) := (tbl.find? fun p => p.2.2 == r).map fun p => (p.1, p.2.1)
def dblT (r : Int) : Option Int := (dbl.find? fun p => p.1 == r).map fun p => p.2
theorem tbl_made (r : Int) : lookW r = match madeT r with | some x => some x | none => (dblT r).map fun a => (a, 0) := by
  have e1 : prs = (prs.filter fun p => p.2.2 != 0) ++ dbl.map fun p => (p.1, p.2, 0) := by kernel_rfl
  have e2 : madeT r = (((prs.filter fun p => p.2.2 != 0)).find? fun p => p.1 == r).map (fun p => p.2) := by
    have : madeT r = ((tbl.map turn).find? fun p => p.1 == r).map (fun p => p.2) := by
      unfold madeT
      rw [List.find?_map, Option.map_map]
      rfl
    rw [this]
    congr 1
    refine find_perm (fun x => ?_) (fun x hx y hy h1 h2 => ?_)
    · constructor
      · intro hx
        obtain ⟨p, hp, rfl⟩ := List.mem_map.1 hx
        have := List.all_eq_true.1 perm1 p hp
        rw [List.mem_filter]
        refine ⟨by simpa using this, ?_⟩
        have : ((tbl.map turn).all fun p => p.2.2 != 0) = true := by kernel_rfl
        exact List.all_eq_true.1 this _ hx
      · intro hx
        rw [List.mem_filter] at hx
        have := List.all_eq_true.1 perm2 x hx.1
        simp only [Bool.or_eq_true, beq_iff_eq] at this
        have h2 := hx.2
        simp at h2
        simpa using this.resolve_left h2
    · rw [List.mem_filter] at hx hy
      simp only [beq_iff_eq] at h1 h2
      exact (uniq hx.1 hy.1).1 (h1.trans h2.symm)
  have e3 : (dblT r).map (fun a => (a, (0 : Int))) = ((dbl.map fun p => (p.1, p.2, (0 : Int))).find? fun p => p.1 == r).map (fun p => p.2) := by
    unfold dblT
    rw [List.find?_map, Option.map_map, Option.map_map]
    rfl
  rw [e2, e3]
  unfold lookW
  conv => lhs; rw [e1]
  rw [List.find?_append]
  cases ((prs.filter fun p => p.2.2 != 0).find? fun p => p.1 == r) <;> simp
end Go.Proofs.Ytahapmpohaaigaa.Tb
