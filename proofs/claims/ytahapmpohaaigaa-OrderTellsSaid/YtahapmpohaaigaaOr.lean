/- Plain laws on the order of scalars by classes: sorting by insertion, runs, what a pass of bubbles does. No program in sight. Condition: no class is below 0. -/
namespace Ordl
section
variable (cls : Int → Int)
def ins (x : Int) : List Int → List Int
  | [] => [x]
  | y :: ys => if 0 < cls y ∧ cls y < cls x then y :: ins x ys else x :: y :: ys
def sortL : List Int → List Int
  | [] => []
  | x :: xs => ins cls x (sortL xs)
def ordB : List Int → Bool
  | x :: y :: l => !(decide (0 < cls y) && decide (cls y < cls x)) && ordB (y :: l)
  | _ => true
def glue (x : Int) : List (List Int) → List (List Int)
  | (y :: r) :: rs => if 0 < cls y then (x :: y :: r) :: rs else [x] :: (y :: r) :: rs
  | rs => [x] :: rs
def runsL : List Int → List (List Int)
  | [] => []
  | x :: l => glue cls x (runsL l)
def bub (x : Int) : List Int → List Int
  | [] => [x]
  | y :: ys => if 0 < cls y ∧ cls y < cls x then y :: bub x ys else x :: bub y ys
def pass : List Int → List Int
  | [] => []
  | x :: xs => bub cls x xs
def itr (f : List Int → List Int) : Nat → List Int → List Int
  | 0, l => l
  | n + 1, l => itr f n (f l)
/-- Nothing, or one of class 0 ahead. -/
def Free (l : List Int) : Prop := ∀ x t, l = x :: t → cls x = 0
variable {cls}
theorem Free.nil : Free cls [] := fun x t h => by cases h
theorem Free.cons {x : Int} {t : List Int} (h : cls x = 0) : Free cls (x :: t) := fun y u e => by cases e; exact h
/-! Insertion. -/
theorem ins_perm (x : Int) : ∀ l, (ins cls x l).Perm (x :: l)
  | [] => List.Perm.refl _
  | y :: ys => by
    unfold ins
    split
    · exact ((ins_perm x ys).cons y).trans (List.Perm.swap x y ys)
    · exact List.Perm.refl _
theorem sort_perm : ∀ l, (sortL cls l).Perm l
  | [] => List.Perm.refl _
  | x :: xs => (ins_perm x _).trans ((sort_perm xs).cons x)
theorem sort_len (l : List Int) : (sortL cls l).length = l.length := (sort_perm l).length_eq
theorem ins_filter (c x : Int) : ∀ l, (ins cls x l).filter (fun z => cls z == c) = (x :: l).filter (fun z => cls z == c)
  | [] => rfl
  | y :: ys => by
    unfold ins
    split
    · rename_i h
      rw [List.filter_cons, ins_filter c x ys]
      by_cases hx : cls x == c
      · have hy : (cls y == c) = false := by
          have := eq_of_beq hx
          rw [beq_eq_false_iff_ne]
          omega
        simp [hx, hy]
      · simp [List.filter_cons, hx]
    · rfl
theorem sort_filter (c : Int) : ∀ l, (sortL cls l).filter (fun z => cls z == c) = l.filter (fun z => cls z == c)
  | [] => rfl
  | x :: xs => by
    show (ins cls x (sortL cls xs)).filter _ = _
    rw [ins_filter, List.filter_cons, List.filter_cons, sort_filter c xs]
theorem ins_mask (x : Int) : ∀ l, (ins cls x l).map (fun z => if cls z = 0 then some z else none) = (x :: l).map (fun z => if cls z = 0 then some z else none)
  | [] => rfl
  | y :: ys => by
    unfold ins
    split
    · rename_i h
      rw [List.map_cons, ins_mask x ys, List.map_cons, List.map_cons, List.map_cons, if_neg (by omega), if_neg (by omega)]
    · rfl
theorem sort_mask : ∀ l, (sortL cls l).map (fun z => if cls z = 0 then some z else none) = l.map (fun z => if cls z = 0 then some z else none)
  | [] => rfl
  | x :: xs => by
    show (ins cls x (sortL cls xs)).map _ = _
    rw [ins_mask, List.map_cons, List.map_cons, sort_mask xs]
theorem sort_at {l : List Int} {i : Nat} {x y : Int} (hx : l[i]? = some x) (hy : (sortL cls l)[i]? = some y) : (cls x = 0 ↔ cls y = 0) ∧ (cls x = 0 → y = x) := by
  have h := congrArg (·[i]?) (sort_mask (cls := cls) l)
  simp only [List.getElem?_map, hx, hy, Option.map_some, Option.some.injEq] at h
  by_cases h1 : cls x = 0
  · rw [if_pos h1] at h
    by_cases h2 : cls y = 0
    · rw [if_pos h2] at h
      exact ⟨⟨fun _ => h2, fun _ => h1⟩, fun _ => by simpa using h⟩
    · rw [if_neg h2] at h
      cases h
  · rw [if_neg h1] at h
    by_cases h2 : cls y = 0
    · rw [if_pos h2] at h
      cases h
    · exact ⟨⟨fun h => absurd h h1, fun h => absurd h h2⟩, fun h => absurd h h1⟩
/-- What stands ahead of an insertion. -/
theorem ins_ord (x : Int) : ∀ l, ordB cls l = true → ordB cls (ins cls x l) = true ∧ ∀ z t, ins cls x l = z :: t → z = x ∨ ∃ u, l = z :: u
  | [], _ => ⟨rfl, fun z t h => by cases h; exact Or.inl rfl⟩
  | y :: ys, h => by
    unfold ins
    split
    · rename_i hyx
      have hy : ordB cls ys = true := by
        cases ys with
        | nil => rfl
        | cons z zs =>
          have h' : (!(decide (0 < cls z) && decide (cls z < cls y)) && ordB cls (z :: zs)) = true := h
          exact (Bool.and_eq_true _ _ ▸ h').2
      obtain ⟨h1, h2⟩ := ins_ord x ys hy
      refine ⟨?_, fun z t e => by cases e; exact Or.inr ⟨_, rfl⟩⟩
      cases e : ins cls x ys with
      | nil => rfl
      | cons z t =>
        rw [e] at h1
        show (!(decide (0 < cls z) && decide (cls z < cls y)) && ordB cls (z :: t)) = true
        rw [h1, Bool.and_true]
        rcases h2 z t e with rfl | ⟨u, rfl⟩
        · have : ¬ cls z < cls y := by omega
          simp [this]
        · have h' : (!(decide (0 < cls z) && decide (cls z < cls y)) && ordB cls (z :: u)) = true := h
          exact (Bool.and_eq_true _ _ ▸ h').1
    · rename_i hyx
      refine ⟨?_, fun z t e => by cases e; exact Or.inl rfl⟩
      show (!(decide (0 < cls y) && decide (cls y < cls x)) && ordB cls (y :: ys)) = true
      rw [h, Bool.and_true]
      by_cases a : 0 < cls y
      · have : ¬ cls y < cls x := fun b => hyx ⟨a, b⟩
        simp [this]
      · simp [a]
theorem sort_ord : ∀ l, ordB cls (sortL cls l) = true
  | [] => rfl
  | x :: xs => (ins_ord x _ (sort_ord xs)).1
theorem ord_sort : ∀ l, ordB cls l = true → sortL cls l = l
  | [], _ => rfl
  | [x], _ => rfl
  | x :: y :: l, h => by
    have h' : (!(decide (0 < cls y) && decide (cls y < cls x)) && ordB cls (y :: l)) = true := h
    rw [Bool.and_eq_true] at h'
    show ins cls x (sortL cls (y :: l)) = _
    rw [ord_sort (y :: l) h'.2]
    unfold ins
    rw [if_neg]
    intro a
    have := h'.1
    simp [a.1, a.2] at this
theorem sort_idem (l : List Int) : sortL cls (sortL cls l) = sortL cls l := ord_sort _ (sort_ord l)
theorem ord_iff (l : List Int) : ordB cls l = true ↔ sortL cls l = l := ⟨ord_sort l, fun h => by rw [← h]; exact sort_ord l⟩
theorem ins_ins {x y : Int} (hx : 0 < cls x) (hy : 0 < cls y) (hxy : cls x < cls y) : ∀ l, ins cls x (ins cls y l) = ins cls y (ins cls x l)
  | [] => by
    show ins cls x [y] = ins cls y [x]
    simp only [ins]
    rw [if_neg (by omega), if_pos (by omega)]
  | z :: l => by
    by_cases h1 : 0 < cls z ∧ cls z < cls x
    · have h2 : 0 < cls z ∧ cls z < cls y := by omega
      simp only [ins, if_pos h1, if_pos h2]
      rw [ins_ins hx hy hxy l]
    · by_cases h2 : 0 < cls z ∧ cls z < cls y
      · simp only [ins, if_pos h2, if_neg h1]
        rw [if_pos (by omega)]
      · simp only [ins, if_neg h2, if_neg h1]
        rw [if_neg (by omega), if_pos (by omega)]
theorem sort_pre (a : List Int) {b c : List Int} (h : sortL cls b = sortL cls c) : sortL cls (a ++ b) = sortL cls (a ++ c) := by
  induction a with
  | nil => exact h
  | cons x a ih =>
    show ins cls x (sortL cls (a ++ b)) = ins cls x (sortL cls (a ++ c))
    rw [ih]
theorem sort_swap {x y : Int} (hx : 0 < cls x) (hy : 0 < cls y) (hxy : cls x ≠ cls y) (a b : List Int) : sortL cls (a ++ x :: y :: b) = sortL cls (a ++ y :: x :: b) := by
  apply sort_pre
  show ins cls x (ins cls y _) = ins cls y (ins cls x _)
  rcases Int.lt_or_gt_of_ne hxy with h | h
  · exact ins_ins hx hy h _
  · exact (ins_ins hy hx h _).symm
/-! Two texts together. -/
theorem ins_app (x : Int) {t : List Int} (ht : Free cls t) : ∀ s, ins cls x (s ++ t) = ins cls x s ++ t
  | [] => by
    cases t with
    | nil => rfl
    | cons y t =>
      have := ht y t rfl
      show ins cls x (y :: t) = x :: y :: t
      unfold ins
      rw [if_neg (by omega)]
  | y :: s => by
    show ins cls x (y :: (s ++ t)) = _
    unfold ins
    split
    · rw [ins_app x ht s]; rfl
    · rfl
theorem sort_free {t : List Int} (ht : Free cls t) : Free cls (sortL cls t) := by
  cases t with
  | nil => exact ht
  | cons y t =>
    have hy := ht y t rfl
    show Free cls (ins cls y (sortL cls t))
    cases sortL cls t with
    | nil => exact Free.cons hy
    | cons z u =>
      unfold ins
      rw [if_neg (by omega)]
      exact Free.cons hy
theorem sort_app (a : List Int) {b : List Int} (hb : Free cls b) : sortL cls (a ++ b) = sortL cls a ++ sortL cls b := by
  induction a with
  | nil => rfl
  | cons x a ih =>
    show ins cls x (sortL cls (a ++ b)) = ins cls x (sortL cls a) ++ sortL cls b
    rw [ih, ins_app x (sort_free hb)]
theorem ord_app : ∀ (a : List Int) {b : List Int}, Free cls b → ordB cls (a ++ b) = (ordB cls a && ordB cls b)
  | [], b, _ => by simp [ordB]
  | [x], b, hb => by
    cases b with
    | nil => rfl
    | cons y t =>
      have := hb y t rfl
      show (!(decide (0 < cls y) && decide (cls y < cls x)) && ordB cls (y :: t)) = (ordB cls [x] && ordB cls (y :: t))
      simp [this, ordB]
  | x :: z :: a, b, hb => by
    show (!(decide (0 < cls z) && decide (cls z < cls x)) && ordB cls (z :: (a ++ b))) = (!(decide (0 < cls z) && decide (cls z < cls x)) && ordB cls (z :: a) && ordB cls b)
    have := ord_app (z :: a) hb
    rw [show z :: a ++ b = z :: (a ++ b) from rfl] at this
    rw [this, Bool.and_assoc]
/-! Runs. -/
def isMark (cls : Int → Int) (x : Int) : Bool := decide (0 < cls x)
theorem drop_free (h0 : ∀ x, 0 ≤ cls x) (l : List Int) : Free cls (l.dropWhile (isMark cls)) := fun x t e => by
  have h := List.head_dropWhile_not (isMark cls) (l := l) (by rw [e]; simp)
  simp only [e, List.head_cons] at h
  have := h0 x
  unfold isMark at h
  have := of_decide_eq_false h
  omega
theorem take_mark (l : List Int) : ∀ x ∈ l.takeWhile (isMark cls), 0 < cls x := fun x hx => by
  have := List.all_takeWhile (p := isMark cls) (l := l)
  exact of_decide_eq_true (List.all_eq_true.1 this x hx)
theorem runs_head (x : Int) : ∀ l : List Int, runsL cls (x :: l) = (x :: l.takeWhile (isMark cls)) :: runsL cls (l.dropWhile (isMark cls))
  | [] => rfl
  | y :: l => by
    have ih := runs_head y l
    show glue cls x (runsL cls (y :: l)) = _
    rw [ih]
    unfold glue
    by_cases h : 0 < cls y
    · have hm : isMark cls y = true := decide_eq_true h
      simp only [if_pos h, List.takeWhile_cons, List.dropWhile_cons, hm, if_true]
    · have hm : isMark cls y = false := decide_eq_false h
      simp only [if_neg h, List.takeWhile_cons, List.dropWhile_cons, hm]
      rw [← ih]
      rfl
theorem take_drop (l : List Int) : l.takeWhile (isMark cls) ++ l.dropWhile (isMark cls) = l := List.takeWhile_append_dropWhile
theorem drop_len (l : List Int) : (l.dropWhile (isMark cls)).length ≤ l.length := (List.dropWhile_suffix _).length_le
/-- By runs: of nothing, and of a run ahead of what is free. -/
theorem by_runs (h0 : ∀ x, 0 ≤ cls x) {P : List Int → Prop} (hn : P []) (hs : ∀ x t r, (∀ y ∈ t, 0 < cls y) → Free cls r → P r → P (x :: (t ++ r))) : ∀ l, P l := by
  intro l
  generalize hn' : l.length = n
  induction n using Nat.strongRecOn generalizing l with
  | _ n ih =>
    cases l with
    | nil => exact hn
    | cons x l =>
      have := hs x (l.takeWhile (isMark cls)) (l.dropWhile (isMark cls)) (take_mark l) (drop_free h0 l) (ih _ (by
        have := drop_len (cls := cls) l
        simp only [List.length_cons] at hn'
        omega) _ rfl)
      rw [take_drop] at this
      exact this
theorem mark_take {t r : List Int} (ht : ∀ y ∈ t, 0 < cls y) (hr : Free cls r) : (t ++ r).takeWhile (isMark cls) = t ∧ (t ++ r).dropWhile (isMark cls) = r := by
  induction t with
  | nil =>
    cases r with
    | nil => exact ⟨rfl, rfl⟩
    | cons y r =>
      have := hr y r rfl
      have hm : isMark cls y = false := decide_eq_false (by omega)
      simp [hm]
  | cons x t ih =>
    obtain ⟨h1, h2⟩ := ih (fun y hy => ht y (List.mem_cons_of_mem _ hy))
    have hm : isMark cls x = true := decide_eq_true (ht x (List.mem_cons_self ..))
    simp only [List.cons_append, List.takeWhile_cons, List.dropWhile_cons, hm, if_true, h1, h2, and_self]
theorem runs_run {x : Int} {t r : List Int} (ht : ∀ y ∈ t, 0 < cls y) (hr : Free cls r) : runsL cls (x :: (t ++ r)) = (x :: t) :: runsL cls r := by
  rw [runs_head, (mark_take ht hr).1, (mark_take ht hr).2]
theorem runs_join (h0 : ∀ x, 0 ≤ cls x) : ∀ l, (runsL cls l).flatten = l := by
  refine by_runs h0 rfl (fun x t r ht hr ih => ?_)
  rw [runs_run ht hr, List.flatten_cons, ih]
  rfl
theorem runs_sort (h0 : ∀ x, 0 ≤ cls x) : ∀ l, ((runsL cls l).map (sortL cls)).flatten = sortL cls l := by
  refine by_runs h0 rfl (fun x t r ht hr ih => ?_)
  rw [runs_run ht hr, List.map_cons, List.flatten_cons, ih, show x :: (t ++ r) = (x :: t) ++ r from rfl, sort_app _ hr]
theorem runs_ord (h0 : ∀ x, 0 ≤ cls x) : ∀ l, (runsL cls l).all (ordB cls) = ordB cls l := by
  refine by_runs h0 rfl (fun x t r ht hr ih => ?_)
  rw [runs_run ht hr, List.all_cons, ih, show x :: (t ++ r) = (x :: t) ++ r from rfl, ord_app _ hr]
/-- A run: not nothing, and marks behind its first. -/
def Run (cls : Int → Int) (r : List Int) : Prop := ∃ x t, r = x :: t ∧ ∀ y ∈ t, 0 < cls y
theorem runs_are (h0 : ∀ x, 0 ≤ cls x) : ∀ l, (∀ r ∈ runsL cls l, Run cls r) ∧ (∀ i r, 0 < i → (runsL cls l)[i]? = some r → Free cls r) ∧ (Free cls l → ∀ r, (runsL cls l)[0]? = some r → Free cls r) := by
  refine by_runs h0 ⟨(fun r h => by cases h), (fun i r _ h => by simp [runsL] at h), (fun _ r h => by simp [runsL] at h)⟩ (fun x t r ht hr ih => ?_)
  rw [runs_run ht hr]
  refine ⟨fun u hu => ?_, fun i u hi hu => ?_, fun hf u hu => ?_⟩
  · rcases List.mem_cons.1 hu with rfl | hu
    · exact ⟨x, t, rfl, ht⟩
    · exact ih.1 u hu
  · obtain ⟨k, rfl⟩ : ∃ k, i = k + 1 := ⟨i - 1, by omega⟩
    rw [List.getElem?_cons_succ] at hu
    by_cases hk : k = 0
    · subst hk; exact ih.2.2 hr u hu
    · exact ih.2.1 k u (by omega) hu
  · rw [List.getElem?_cons_zero] at hu
    cases hu
    exact Free.cons (hf x _ rfl)
/-- One scalar more behind. -/
def snocR (cls : Int → Int) (rs : List (List Int)) (x : Int) : List (List Int) :=
  match rs with
  | [] => [[x]]
  | r :: rs => if cls x = 0 then (r :: rs) ++ [[x]] else (r :: rs).dropLast ++ [((r :: rs).getLast (by simp)) ++ [x]]
theorem runs_snoc (h0 : ∀ x, 0 ≤ cls x) (x : Int) : ∀ l, runsL cls (l ++ [x]) = snocR cls (runsL cls l) x := by
  refine by_runs h0 rfl (fun y t r ht hr ih => ?_)
  rw [runs_run ht hr]
  by_cases hx : cls x = 0
  · simp only [snocR, if_pos hx]
    have hr' : Free cls (r ++ [x]) := by
      cases r with
      | nil => exact Free.cons hx
      | cons z r => exact Free.cons (hr z r rfl)
    rw [show y :: (t ++ r) ++ [x] = y :: (t ++ (r ++ [x])) by simp, runs_run ht hr', ih]
    cases e : runsL cls r with
    | nil => rfl
    | cons u us => simp [snocR, hx]
  · have hx0 := h0 x
    cases r with
    | nil =>
      simp only [snocR, if_neg hx]
      rw [show y :: (t ++ []) ++ [x] = y :: ((t ++ [x]) ++ []) by simp, runs_run (fun z hz => by
        rcases List.mem_append.1 hz with h | h
        · exact ht z h
        · rw [List.mem_singleton.1 h]; omega) Free.nil]
      simp [runsL]
    | cons z r =>
      rw [show y :: (t ++ z :: r) ++ [x] = y :: (t ++ (z :: r ++ [x])) by simp, runs_run ht (show Free cls (z :: r ++ [x]) from Free.cons (hr z r rfl)), ih]
      rw [runs_head z r]
      simp [snocR, hx, List.dropLast]
/-! One order alone: rising classes, each class in its order. -/
theorem uniq : ∀ {l m : List Int}, l.Pairwise (fun a b => cls a ≤ cls b) → m.Pairwise (fun a b => cls a ≤ cls b) → (∀ c, l.filter (fun z => cls z == c) = m.filter (fun z => cls z == c)) → l = m
  | [], [], _, _, _ => rfl
  | [], b :: m, _, _, h => by
    have := h (cls b)
    simp at this
  | a :: l, [], _, _, h => by
    have := h (cls a)
    simp at this
  | a :: l, b :: m, h1, h2, h => by
    have no : ∀ {a : Int} {l : List Int} {b : Int} {m : List Int}, (b :: m).Pairwise (fun a b => cls a ≤ cls b) → (∀ c, (a :: l).filter (fun z => cls z == c) = (b :: m).filter (fun z => cls z == c)) → ¬ cls a < cls b := fun {a l b m} h2 h q => by
      have hin : a ∈ (a :: l).filter (fun z => cls z == cls a) := by simp
      rw [h (cls a), List.mem_filter] at hin
      rcases List.mem_cons.1 hin.1 with e | e
      · rw [e] at q; omega
      · have := (List.pairwise_cons.1 h2).1 a e
        omega
    have hab : cls a = cls b := by
      have q1 := no h2 h
      have q2 := no h1 (fun c => (h c).symm)
      omega
    have he := h (cls a)
    simp only [List.filter_cons, beq_self_eq_true, hab, if_true] at he
    obtain ⟨e1, -⟩ := List.cons.inj he
    subst e1
    rw [uniq (List.pairwise_cons.1 h1).2 (List.pairwise_cons.1 h2).2 (fun c => by
      have hc := h c
      simp only [List.filter_cons] at hc
      split at hc
      · exact (List.cons.inj hc).2
      · exact hc)]
theorem pair_ord : ∀ {l : List Int}, l.Pairwise (fun a b => cls a ≤ cls b) → ordB cls l = true
  | [], _ => rfl
  | [_], _ => rfl
  | x :: y :: l, h => by
    show (!(decide (0 < cls y) && decide (cls y < cls x)) && ordB cls (y :: l)) = true
    rw [pair_ord (List.pairwise_cons.1 h).2, Bool.and_true]
    have := (List.pairwise_cons.1 h).1 y (List.mem_cons_self ..)
    have q : ¬ cls y < cls x := by omega
    simp [q]
theorem ord_pair : ∀ {x : Int} {t : List Int}, (∀ y ∈ t, 0 < cls y) → ordB cls (x :: t) = true → (x :: t).Pairwise (fun a b => cls a ≤ cls b)
  | x, [], _, _ => List.pairwise_singleton _ _
  | x, y :: l, hm, h => by
    have h' : (!(decide (0 < cls y) && decide (cls y < cls x)) && ordB cls (y :: l)) = true := h
    rw [Bool.and_eq_true] at h'
    have ih := ord_pair (fun z hz => hm z (List.mem_cons_of_mem _ hz)) h'.2
    have hxy : cls x ≤ cls y := by
      have h0 := hm y (List.mem_cons_self ..)
      have := h'.1
      by_cases q : cls y < cls x
      · simp [h0, q] at this
      · omega
    refine List.pairwise_cons.2 ⟨fun z hz => ?_, ih⟩
    rcases List.mem_cons.1 hz with rfl | hz
    · exact hxy
    · have := (List.pairwise_cons.1 ih).1 z hz
      omega
/-- Sorting keeps a run a run. -/
theorem sort_run {r : List Int} (h0 : ∀ x, 0 ≤ cls x) (h : Run cls r) : Run cls (sortL cls r) := by
  obtain ⟨x, t, rfl, ht⟩ := h
  have hp := sort_perm (cls := cls) (x :: t)
  cases e : sortL cls (x :: t) with
  | nil =>
    have := hp.length_eq
    rw [e] at this
    simp at this
  | cons y u =>
    refine ⟨y, u, rfl, ?_⟩
    have hm := sort_mask (cls := cls) (x :: t)
    rw [e, List.map_cons, List.map_cons] at hm
    obtain ⟨-, hm2⟩ := List.cons.inj hm
    intro z hz
    obtain ⟨i, hi⟩ := List.getElem?_of_mem hz
    have h2 := congrArg (·[i]?) hm2
    simp only [List.getElem?_map, hi, Option.map_some] at h2
    by_cases q : cls z = 0
    · rw [if_pos q] at h2
      cases ht' : t[i]? with
      | none => rw [ht'] at h2; cases h2
      | some w =>
        rw [ht', Option.map_some] at h2
        have := ht w (List.mem_of_getElem? ht')
        rw [if_neg (by omega)] at h2
        cases h2
    · have := h0 z
      omega
/-- What is in order in a run, each class in its order, is the sorted run. -/
theorem sort_uniq (h0 : ∀ x, 0 ≤ cls x) {r s : List Int} (h : Run cls r) (hs : s.Pairwise (fun a b => cls a ≤ cls b)) (hf : ∀ c, r.filter (fun z => cls z == c) = s.filter (fun z => cls z == c)) : s = sortL cls r := by
  obtain ⟨x, t, e, ht⟩ := sort_run h0 h
  refine uniq hs ?_ (fun c => ?_)
  · have := sort_ord (cls := cls) r
    rw [e] at this ⊢
    exact ord_pair ht this
  · rw [sort_filter, hf c]
/-! Passes of bubbles. -/
theorem bub_len (x : Int) : ∀ l, (bub cls x l).length = l.length + 1
  | [] => rfl
  | y :: ys => by
    unfold bub
    split
    · simp [bub_len x ys]
    · simp [bub_len y ys]
theorem pass_len : ∀ l, (pass cls l).length = l.length
  | [] => rfl
  | x :: xs => bub_len x xs
theorem bub_sort (x : Int) : ∀ (l a : List Int), sortL cls (a ++ bub cls x l) = sortL cls (a ++ x :: l)
  | [], a => rfl
  | y :: ys, a => by
    unfold bub
    split
    · rename_i h
      have := bub_sort x ys (a ++ [y])
      rw [List.append_assoc, List.append_assoc] at this
      rw [show y :: bub cls x ys = [y] ++ bub cls x ys from rfl, this]
      exact sort_swap h.1 (by omega) (by omega) a ys
    · have := bub_sort y ys (a ++ [x])
      rw [List.append_assoc, List.append_assoc] at this
      exact this
theorem pass_sort : ∀ l, sortL cls (pass cls l) = sortL cls l
  | [] => rfl
  | x :: xs => bub_sort x xs []
theorem itr_sort : ∀ n l, sortL cls (itr (pass cls) n l) = sortL cls l
  | 0, _ => rfl
  | n + 1, l => by
    show sortL cls (itr (pass cls) n (pass cls l)) = _
    rw [itr_sort n, pass_sort]
theorem itr_len : ∀ n l, (itr (pass cls) n l).length = l.length
  | 0, _ => rfl
  | n + 1, l => by
    show (itr (pass cls) n (pass cls l)).length = _
    rw [itr_len n, pass_len]
theorem itr_snoc (f : List Int → List Int) : ∀ n l, itr f (n + 1) l = f (itr f n l)
  | 0, _ => rfl
  | n + 1, l => itr_snoc f n (f l)
theorem bub_app : ∀ (x : Int) (s : List Int) {t : List Int}, Free cls t → bub cls x (s ++ t) = bub cls x s ++ pass cls t
  | x, [], t, ht => by
    cases t with
    | nil => rfl
    | cons y t =>
      have := ht y t rfl
      show bub cls x (y :: t) = x :: bub cls y t
      unfold bub
      rw [if_neg (by omega)]
      cases t <;> rfl
  | x, y :: s, t, ht => by
    show bub cls x (y :: (s ++ t)) = _
    unfold bub
    split
    · rw [bub_app x s ht]; rfl
    · rw [bub_app y s ht]; rfl
theorem pass_free {t : List Int} (ht : Free cls t) : Free cls (pass cls t) := by
  cases t with
  | nil => exact ht
  | cons y t =>
    have hy := ht y t rfl
    show Free cls (bub cls y t)
    cases t with
    | nil => exact Free.cons hy
    | cons z u =>
      unfold bub
      rw [if_neg (by omega)]
      exact Free.cons hy
theorem pass_app (s : List Int) {t : List Int} (ht : Free cls t) : pass cls (s ++ t) = pass cls s ++ pass cls t := by
  cases s with
  | nil => rfl
  | cons x s => exact bub_app x s ht
theorem itr_app : ∀ (n : Nat) (s : List Int) {t : List Int}, Free cls t → itr (pass cls) n (s ++ t) = itr (pass cls) n s ++ itr (pass cls) n t
  | 0, _, _, _ => rfl
  | n + 1, s, t, ht => by
    show itr (pass cls) n (pass cls (s ++ t)) = itr (pass cls) n (pass cls s) ++ itr (pass cls) n (pass cls t)
    rw [pass_app s ht, itr_app n _ (pass_free ht)]
theorem bub_perm (x : Int) : ∀ l, (bub cls x l).Perm (x :: l)
  | [] => List.Perm.refl _
  | y :: ys => by
    unfold bub
    split
    · exact ((bub_perm x ys).cons y).trans (List.Perm.swap x y ys)
    · exact (bub_perm y ys).cons x
theorem pass_perm : ∀ l, (pass cls l).Perm l
  | [] => List.Perm.refl _
  | x :: xs => bub_perm x xs
/-- A run's shape under a pass. -/
theorem bub_run : ∀ {x : Int} {t : List Int}, (∀ y ∈ t, 0 < cls y) → Run cls (bub cls x t)
  | x, [], _ => ⟨x, [], rfl, (fun _ h => by cases h)⟩
  | x, y :: t, h => by
    unfold bub
    split
    · rename_i q
      refine ⟨y, _, rfl, fun z hz => ?_⟩
      rcases List.mem_cons.1 ((bub_perm x t).mem_iff.1 hz) with rfl | e
      · omega
      · exact h z (List.mem_cons_of_mem _ e)
    · refine ⟨x, _, rfl, fun z hz => ?_⟩
      exact h z ((bub_perm y t).mem_iff.1 hz)
theorem bub_top : ∀ {t : List Int} {x m : Int}, (∀ y ∈ x :: t, cls y ≤ cls m) → 0 < cls m → bub cls x (t ++ [m]) = bub cls x t ++ [m]
  | [], x, m, h, _ => by
    have := h x (List.mem_cons_self ..)
    show bub cls x [m] = [x] ++ [m]
    unfold bub
    rw [if_neg (by omega)]
    rfl
  | y :: t, x, m, h, h0 => by
    show bub cls x (y :: (t ++ [m])) = _
    unfold bub
    split
    · rw [bub_top (fun z hz => h z (by
        rcases List.mem_cons.1 hz with rfl | e
        · exact List.mem_cons_self ..
        · exact List.mem_cons_of_mem _ (List.mem_cons_of_mem _ e))) h0]
      rfl
    · rw [bub_top (fun z hz => h z (List.mem_cons_of_mem _ hz)) h0]
      rfl
theorem bub_last : ∀ {t : List Int} {x : Int}, (∀ y ∈ t, 0 < cls y) → ∃ u m, bub cls x t = u ++ [m] ∧ ∀ y ∈ x :: t, cls y ≤ cls m
  | [], x, _ => ⟨[], x, rfl, fun y hy => by rw [List.mem_singleton.1 hy]; exact Int.le_refl _⟩
  | y :: t, x, h => by
    have hy := h y (List.mem_cons_self ..)
    have ht : ∀ z ∈ t, 0 < cls z := fun z hz => h z (List.mem_cons_of_mem _ hz)
    unfold bub
    split
    · obtain ⟨u, m, e, hm⟩ := bub_last (x := x) ht
      refine ⟨y :: u, m, by rw [e]; rfl, fun z hz => ?_⟩
      rcases List.mem_cons.1 hz with rfl | hz
      · exact hm z (List.mem_cons_self ..)
      · rcases List.mem_cons.1 hz with rfl | hz
        · have := hm x (List.mem_cons_self ..)
          omega
        · exact hm z (List.mem_cons_of_mem _ hz)
    · obtain ⟨u, m, e, hm⟩ := bub_last (x := y) ht
      refine ⟨x :: u, m, by rw [e]; rfl, fun z hz => ?_⟩
      rcases List.mem_cons.1 hz with rfl | hz
      · have := hm y (List.mem_cons_self ..)
        omega
      · exact hm z hz
theorem run_itr : ∀ (n : Nat) {r : List Int}, Run cls r → r.length ≤ n → (itr (pass cls) n r).Pairwise (fun a b => cls a ≤ cls b)
  | 0, r, ⟨x, t, e, _⟩, h => by rw [e] at h; simp at h
  | n + 1, r, ⟨x, t, e, ht⟩, h => by
    subst e
    show (itr (pass cls) n (bub cls x t)).Pairwise _
    obtain ⟨u, m, e, hm⟩ := bub_last (x := x) ht
    have hrun := bub_run (x := x) ht
    rw [e] at hrun ⊢
    have hp := bub_perm (cls := cls) x t
    rw [e] at hp
    have hl := hp.length_eq
    simp only [List.length_append, List.length_cons, List.length_nil] at hl h
    have hmu : ∀ y ∈ u, cls y ≤ cls m := fun y hy => hm y (hp.mem_iff.1 (List.mem_append_left _ hy))
    cases u with
    | nil =>
      clear hl h
      have : ∀ n, itr (pass cls) n [m] = [m] := fun n => by
        induction n with
        | zero => rfl
        | succ n ih => exact ih
      rw [List.nil_append, this]
      exact List.pairwise_singleton _ _
    | cons z u =>
      obtain ⟨z', t', e', ht'⟩ := hrun
      obtain ⟨e1, e2⟩ := List.cons.inj e'
      subst e1 e2
      have hm0 : 0 < cls m := ht' m (by simp)
      have key : ∀ (n : Nat) (v : List Int), (∀ y ∈ v, cls y ≤ cls m) → itr (pass cls) n (v ++ [m]) = itr (pass cls) n v ++ [m] := fun n => by
        induction n with
        | zero => intro v _; rfl
        | succ n ih =>
          intro v hv
          show itr (pass cls) n (pass cls (v ++ [m])) = itr (pass cls) n (pass cls v) ++ [m]
          cases v with
          | nil => exact ih [] (fun y hy => by cases hy)
          | cons w v =>
            show itr (pass cls) n (bub cls w (v ++ [m])) = _
            rw [bub_top hv hm0]
            exact ih _ (fun y hy => hv y ((bub_perm w v).mem_iff.1 hy))
      rw [key n (z :: u) hmu]
      have ih := run_itr n (r := z :: u) ⟨z, u, rfl, fun y hy => ht' y (List.mem_append_left _ hy)⟩ (by simp only [List.length_cons] at hl ⊢; omega)
      have hpm : ∀ (n : Nat) (v : List Int), (itr (pass cls) n v).Perm v := fun n => by
        induction n with
        | zero => intro v; exact List.Perm.refl _
        | succ n ih => intro v; exact (ih _).trans (pass_perm v)
      rw [List.pairwise_append]
      refine ⟨ih, List.pairwise_singleton _ _, fun a ha b hb => ?_⟩
      rw [List.mem_singleton.1 hb]
      exact hmu a ((hpm n _).mem_iff.1 ha)
theorem itr_free : ∀ (n : Nat) {t : List Int}, Free cls t → Free cls (itr (pass cls) n t)
  | 0, _, h => h
  | n + 1, _, h => itr_free n (pass_free h)
theorem itr_ord (h0 : ∀ x, 0 ≤ cls x) (n : Nat) : ∀ l : List Int, l.length ≤ n → ordB cls (itr (pass cls) n l) = true := by
  refine by_runs h0 (fun _ => ?_) (fun x t r ht hr ih h => ?_)
  · have : ∀ n, itr (pass cls) n [] = [] := fun n => by
      induction n with
      | zero => rfl
      | succ n ih => exact ih
    rw [this]; rfl
  · simp only [List.length_cons, List.length_append] at h
    rw [show x :: (t ++ r) = (x :: t) ++ r from rfl, itr_app n _ hr, ord_app _ (itr_free n hr), ih (by omega), Bool.and_true]
    exact pair_ord (run_itr n ⟨x, t, rfl, ht⟩ (by simp only [List.length_cons]; omega))
/-- As many passes as there are scalars sort them. -/
theorem itr_pass (h0 : ∀ x, 0 ≤ cls x) {n : Nat} {l : List Int} (h : l.length ≤ n) : itr (pass cls) n l = sortL cls l := by
  rw [← itr_sort n l]
  exact (ord_sort _ (itr_ord h0 n l h)).symm
end
end Ordl
