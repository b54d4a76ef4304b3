/- Plain laws on white space, words, trimming and one line; on texts' validity and NFC beside white space. No program in sight. Plain laws on texts: white space in bytes and in scalars, validity, NFC beside white space, Chars. No program in sight. -/
import Derived.Test.YthepfbkbfkhcaaaGreatUtB
import Derived.Test.YthepfbkbfkhcaaaGreatNfH
namespace Tx
def wsN (b : Nat) : Bool := b == 32 || b == 9 || b == 10 || b == 13
def wsI (x : Int) : Bool := x == 32 || x == 9 || x == 10 || x == 13
section
variable {α : Type} {p : α → Bool}
def one1 (cur : List α) : List (List α) := if cur.isEmpty then [] else [cur]
def wgo (p : α → Bool) : List α → List α → List (List α)
  | [], cur => one1 cur
  | x :: t, cur => if p x then one1 cur ++ wgo p t [] else wgo p t (cur ++ [x])
def words (p : α → Bool) (l : List α) : List (List α) := wgo p l []
def joinW (sp : α) : List (List α) → List α
  | [] => []
  | [a] => a
  | a :: b :: t => a ++ sp :: joinW sp (b :: t)
def oneP (p : α → Bool) (sp : α) (l : List α) : List α := joinW sp (words p l)
def lt (p : α → Bool) (l : List α) : List α := l.dropWhile p
def rt (p : α → Bool) (l : List α) : List α := (l.reverse.dropWhile p).reverse
def trim (p : α → Bool) (l : List α) : List α := rt p (lt p l)
def noW (p : α → Bool) (l : List α) : Prop := ∀ x ∈ l, p x = false
theorem one1_nil : one1 ([] : List α) = [] := rfl
theorem one1_ne {l : List α} (h : l ≠ []) : one1 l = [l] := by
  unfold one1
  cases l with
  | nil => exact absurd rfl h
  | cons x t => rfl
theorem wgo_free : ∀ (A t cur : List α), noW p A → wgo p (A ++ t) cur = wgo p t (cur ++ A)
  | [], t, cur, _ => by simp
  | x :: A, t, cur, h => by
    show (if p x then one1 cur ++ wgo p (A ++ t) [] else wgo p (A ++ t) (cur ++ [x])) = _
    rw [h x (List.mem_cons_self ..), if_neg (by simp), wgo_free A t _ (fun y hy => h y (List.mem_cons_of_mem _ hy))]
    simp
theorem wgo_mid {w : α} (hw : p w = true) (B : List α) : ∀ (A cur : List α), wgo p (A ++ w :: B) cur = wgo p A cur ++ wgo p B []
  | [], cur => by
    show (if p w then one1 cur ++ wgo p B [] else _) = _
    rw [if_pos hw]
    rfl
  | x :: A, cur => by
    show (if p x then one1 cur ++ wgo p (A ++ w :: B) [] else wgo p (A ++ w :: B) (cur ++ [x])) = (if p x then one1 cur ++ wgo p A [] else wgo p A (cur ++ [x])) ++ wgo p B []
    cases hx : p x with
    | true => simp only [if_true]; rw [wgo_mid hw B A [], List.append_assoc]
    | false => simp only [Bool.false_eq_true, if_false]; rw [wgo_mid hw B A _]
theorem words_mid {w : α} (hw : p w = true) (A B : List α) : words p (A ++ w :: B) = words p A ++ words p B := wgo_mid hw B A []
theorem words_free {A : List α} (h : noW p A) : words p A = one1 A := by
  have := wgo_free A [] [] h
  rw [List.append_nil] at this
  unfold words
  rw [this]
  rfl
theorem words_nil : words p [] = [] := rfl
theorem one1_good {cur : List α} (h : noW p cur) : ∀ u ∈ one1 cur, u ≠ [] ∧ noW p u := fun u hu => by
  cases cur with
  | nil => cases hu
  | cons x t =>
    rw [one1_ne (by simp), List.mem_singleton] at hu
    rw [hu]
    exact ⟨by simp, h⟩
theorem wgo_good : ∀ (l cur : List α), noW p cur → ∀ u ∈ wgo p l cur, u ≠ [] ∧ noW p u
  | [], cur, h, u, hu => by
    exact one1_good h u hu
  | x :: t, cur, h, u, hu => by
    have hu' : u ∈ (if p x then one1 cur ++ wgo p t [] else wgo p t (cur ++ [x])) := hu
    cases hx : p x with
    | true =>
      rw [hx, if_pos rfl] at hu'
      rcases List.mem_append.1 hu' with hu' | hu'
      · exact one1_good h u hu'
      · exact wgo_good t [] (fun y hy => by cases hy) u hu'
    | false =>
      rw [hx, if_neg (by simp)] at hu'
      refine wgo_good t _ (fun y hy => ?_) u hu'
      rcases List.mem_append.1 hy with hy | hy
      · exact h y hy
      · rw [List.mem_singleton.1 hy]; exact hx
def GoodW (p : α → Bool) (ws : List (List α)) : Prop := ∀ u ∈ ws, u ≠ [] ∧ noW p u
theorem words_good (l : List α) : GoodW p (words p l) := wgo_good l [] (fun y hy => by cases hy)
theorem words_join {sp : α} (hs : p sp = true) : ∀ ws : List (List α), GoodW p ws → words p (joinW sp ws) = ws
  | [], _ => rfl
  | [a], h => by
    obtain ⟨h1, h2⟩ := h a (List.mem_cons_self ..)
    show words p a = [a]
    rw [words_free h2, one1_ne h1]
  | a :: b :: t, h => by
    obtain ⟨h1, h2⟩ := h a (List.mem_cons_self ..)
    show words p (a ++ sp :: joinW sp (b :: t)) = _
    rw [words_mid hs, words_free h2, one1_ne h1, words_join hs (b :: t) (fun u hu => h u (List.mem_cons_of_mem _ hu))]
    rfl
theorem words_one {sp : α} (hs : p sp = true) (l : List α) : words p (oneP p sp l) = words p l := words_join hs _ (words_good l)
theorem one_idem {sp : α} (hs : p sp = true) (l : List α) : oneP p sp (oneP p sp l) = oneP p sp l := by
  unfold oneP
  rw [words_join hs _ (words_good l)]
theorem one_eq {sp : α} {l m : List α} (h : words p l = words p m) : oneP p sp l = oneP p sp m := by unfold oneP; rw [h]
theorem words_lt : ∀ l : List α, words p (lt p l) = words p l
  | [] => rfl
  | x :: t => by
    unfold lt
    cases hx : p x with
    | true =>
      rw [List.dropWhile_cons_of_pos hx]
      have := words_lt t
      unfold lt at this
      rw [this]
      exact (words_mid hx [] t).symm
    | false => rw [List.dropWhile_cons_of_neg (by rw [hx]; simp)]
theorem rt_snoc (l : List α) (x : α) : rt p (l ++ [x]) = if p x then rt p l else l ++ [x] := by
  unfold rt
  rw [List.reverse_append]
  show ((x :: l.reverse).dropWhile p).reverse = _
  cases hx : p x with
  | true => rw [List.dropWhile_cons_of_pos hx]; rfl
  | false => rw [List.dropWhile_cons_of_neg (by rw [hx]; simp)]; simp
theorem snoc_ind {P : List α → Prop} (h0 : P []) (hs : ∀ l x, P l → P (l ++ [x])) : ∀ l, P l := fun l => by
  have : ∀ m : List α, P m.reverse := fun m => by
    induction m with
    | nil => exact h0
    | cons x t ih => rw [List.reverse_cons]; exact hs _ _ ih
  have h := this l.reverse
  rw [List.reverse_reverse] at h
  exact h
theorem words_rt (l : List α) : words p (rt p l) = words p l := by
  refine snoc_ind (P := fun l => words p (rt p l) = words p l) rfl (fun l x ih => ?_) l
  rw [rt_snoc]
  cases hx : p x with
  | true =>
    rw [if_pos rfl, ih, words_mid hx l []]
    simp [words_nil]
  | false => rw [if_neg (by simp)]
theorem words_trim (l : List α) : words p (trim p l) = words p l := by
  unfold trim
  rw [words_rt, words_lt]
theorem one_trim {sp : α} (l : List α) : oneP p sp (trim p l) = oneP p sp l := one_eq (words_trim l)
theorem rt_app (A B : List α) (h : rt p B ≠ []) : rt p (A ++ B) = A ++ rt p B := by
  refine snoc_ind (P := fun B => rt p B ≠ [] → rt p (A ++ B) = A ++ rt p B) (fun h => absurd rfl h) (fun l x ih => ?_) B h
  intro h
  rw [← List.append_assoc, rt_snoc, rt_snoc]
  rw [rt_snoc] at h
  cases hx : p x with
  | true =>
    rw [hx, if_pos rfl] at h
    rw [if_pos rfl, if_pos rfl, ih h]
  | false => rw [if_neg (by simp), if_neg (by simp), List.append_assoc]
theorem rt_cons {x : α} (hx : p x = false) (t : List α) : rt p (x :: t) = x :: rt p t := by
  refine snoc_ind (P := fun t => rt p (x :: t) = x :: rt p t) ?_ (fun l y ih => ?_) t
  · have := rt_snoc (p := p) [] x
    rw [hx, if_neg (by simp)] at this
    exact this
  · show rt p ((x :: l) ++ [y]) = _
    rw [rt_snoc, rt_snoc]
    cases hy : p y with
    | true => rw [if_pos rfl, if_pos rfl, ih]
    | false => rw [if_neg (by simp), if_neg (by simp)]; rfl
theorem rt_idem (l : List α) : rt p (rt p l) = rt p l := by
  refine snoc_ind (P := fun l => rt p (rt p l) = rt p l) rfl (fun l x ih => ?_) l
  rw [rt_snoc]
  cases hx : p x with
  | true => rw [if_pos rfl, ih]
  | false => rw [if_neg (by simp), rt_snoc, hx, if_neg (by simp)]
theorem lt_cons {x : α} (hx : p x = false) (t : List α) : lt p (x :: t) = x :: t := by
  unfold lt
  rw [List.dropWhile_cons_of_neg (by rw [hx]; simp)]
theorem lt_ws {x : α} (hx : p x = true) (t : List α) : lt p (x :: t) = lt p t := by
  unfold lt
  rw [List.dropWhile_cons_of_pos hx]
theorem lt_head : ∀ l : List α, lt p l = [] ∨ ∃ x t, lt p l = x :: t ∧ p x = false
  | [] => Or.inl rfl
  | x :: t => by
    cases hx : p x with
    | true => rw [lt_ws hx]; exact lt_head t
    | false => rw [lt_cons hx]; exact Or.inr ⟨x, t, rfl, hx⟩
theorem trim_idem (l : List α) : trim p (trim p l) = trim p l := by
  unfold trim
  rcases lt_head (p := p) l with h | ⟨x, t, h, hx⟩
  · rw [h]; rfl
  · rw [h, rt_cons hx, lt_cons hx, ← rt_cons hx, rt_idem]
theorem free_lt {l : List α} (h : noW p l) : lt p l = l := by
  cases l with
  | nil => rfl
  | cons x t => exact lt_cons (h x (List.mem_cons_self ..)) t
theorem free_rt {l : List α} (h : noW p l) : rt p l = l := by
  revert h
  refine snoc_ind (P := fun l => noW p l → rt p l = l) (fun _ => rfl) (fun l x _ h => ?_) l
  rw [rt_snoc, h x (List.mem_append_right _ (List.mem_cons_self ..)), if_neg (by simp)]
theorem join_lt {sp : α} : ∀ ws : List (List α), GoodW p ws → lt p (joinW sp ws) = joinW sp ws
  | [], _ => rfl
  | [a], h => free_lt (h a (List.mem_cons_self ..)).2
  | a :: b :: t, h => by
    obtain ⟨h1, h2⟩ := h a (List.mem_cons_self ..)
    cases a with
    | nil => exact absurd rfl h1
    | cons x a => exact lt_cons (h2 x (List.mem_cons_self ..)) _
theorem join_ne {sp : α} : ∀ ws : List (List α), GoodW p ws → ws ≠ [] → joinW sp ws ≠ []
  | [], _, h => absurd rfl h
  | [a], h, _ => (h a (List.mem_cons_self ..)).1
  | a :: b :: t, _, _ => by show a ++ sp :: joinW sp (b :: t) ≠ []; simp
theorem join_rt {sp : α} : ∀ ws : List (List α), GoodW p ws → rt p (joinW sp ws) = joinW sp ws
  | [], _ => rfl
  | [a], h => free_rt (h a (List.mem_cons_self ..)).2
  | a :: b :: t, h => by
    have h2 : GoodW p (b :: t) := fun u hu => h u (List.mem_cons_of_mem _ hu)
    have ih := join_rt (sp := sp) (b :: t) h2
    show rt p (a ++ sp :: joinW sp (b :: t)) = _
    have e : a ++ sp :: joinW sp (b :: t) = (a ++ [sp]) ++ joinW sp (b :: t) := by simp
    rw [e, rt_app _ _ (by rw [ih]; exact join_ne _ h2 (by simp)), ih]
    exact e.symm
theorem trim_one {sp : α} (l : List α) : trim p (oneP p sp l) = oneP p sp l := by
  unfold trim oneP
  rw [join_lt _ (words_good l), join_rt _ (words_good l)]
theorem words_empty : ∀ l : List α, words p l = [] ↔ ∀ x ∈ l, p x = true
  | [] => by simp [words_nil]
  | x :: t => by
    cases hx : p x with
    | true =>
      have := words_mid hx [] t
      rw [List.nil_append, words_nil, List.nil_append] at this
      rw [this, words_empty t]
      constructor
      · intro h y hy
        rcases List.mem_cons.1 hy with rfl | hy
        · exact hx
        · exact h y hy
      · intro h y hy
        exact h y (List.mem_cons_of_mem _ hy)
    | false =>
      constructor
      · intro h
        exfalso
        have hg : ∀ (t cur : List α), cur ≠ [] → wgo p t cur ≠ [] := fun t => by
          induction t with
          | nil => intro cur hc; show one1 cur ≠ []; rw [one1_ne hc]; simp
          | cons y t ih =>
            intro cur hc
            show (if p y then one1 cur ++ wgo p t [] else wgo p t (cur ++ [y])) ≠ []
            cases p y with
            | true => rw [if_pos rfl, one1_ne hc]; simp
            | false => rw [if_neg (by simp)]; exact ih _ (by simp)
        have e : words p (x :: t) = wgo p t [x] := by
          show (if p x then one1 [] ++ wgo p t [] else wgo p t ([] ++ [x])) = _
          rw [hx, if_neg (by simp)]
          rfl
        rw [e] at h
        exact hg t [x] (by simp) h
      · intro h
        have := h x (List.mem_cons_self ..)
        rw [hx] at this
        cases this
theorem one_empty {sp : α} (l : List α) : oneP p sp l = [] ↔ ∀ x ∈ l, p x = true := by
  rw [← words_empty]
  unfold oneP
  constructor
  · intro h
    apply Classical.byContradiction
    intro hn
    exact join_ne _ (words_good l) hn h
  · intro h; rw [h]; rfl
theorem trim_empty (l : List α) : trim p l = [] ↔ ∀ x ∈ l, p x = true := by
  rw [← words_empty, ← words_trim (p := p) l]
  constructor
  · intro h; rw [h]; rfl
  · intro h
    have h2 := (words_empty (p := p) _).1 h
    unfold trim at *
    rcases lt_head (p := p) l with k | ⟨x, t, k, hx⟩
    · rw [k]; rfl
    · rw [k, rt_cons hx] at h2
      have := h2 x (List.mem_cons_self ..)
      rw [hx] at this
      cases this
theorem split_first : ∀ l : List α, noW p l ∨ ∃ A w B, l = A ++ w :: B ∧ noW p A ∧ p w = true
  | [] => Or.inl (fun x hx => by cases hx)
  | x :: t => by
    cases hx : p x with
    | true => exact Or.inr ⟨[], x, t, rfl, (fun y hy => by cases hy), hx⟩
    | false =>
      rcases split_first t with h | ⟨A, w, B, rfl, h1, h2⟩
      · exact Or.inl (fun y hy => by
          rcases List.mem_cons.1 hy with rfl | hy
          · exact hx
          · exact h y hy)
      · exact Or.inr ⟨x :: A, w, B, rfl, (fun y hy => by
          rcases List.mem_cons.1 hy with rfl | hy
          · exact hx
          · exact h1 y hy), h2⟩
theorem split_last (l : List α) : noW p l ∨ ∃ B w A, l = B ++ w :: A ∧ noW p A ∧ p w = true := by
  rcases split_first (p := p) l.reverse with h | ⟨A, w, B, h, h1, h2⟩
  · exact Or.inl (fun x hx => h x (List.mem_reverse.2 hx))
  · refine Or.inr ⟨B.reverse, w, A.reverse, ?_, (fun x hx => h1 x (List.mem_reverse.1 hx)), h2⟩
    have := congrArg List.reverse h
    rw [List.reverse_reverse] at this
    rw [this]
    simp
end
end Tx
namespace Tx
open Ut
theorem wsN_lt {b : Nat} (h : wsN b = true) : b < 128 := by unfold wsN at h; simp at h; omega
theorem cont_app {w : Nat} (hw : w < 128) (B : List Nat) : ∀ (k r lo hi n : Nat) (u : List Nat), 128 ≤ lo → cont k r lo hi n (u ++ w :: B) = cont k r lo hi n u
  | 0, _, _, _, _, _, _ => rfl
  | k + 1, r, lo, hi, n, [], h => by
    show (if lo ≤ w ∧ w ≤ hi then _ else (-1, n)) = (-1, n)
    rw [if_neg (by omega)]
  | k + 1, r, lo, hi, n, c :: u, h => by
    show (if lo ≤ c ∧ c ≤ hi then cont k (r * 64 + c % 64) 128 191 (n + 1) (u ++ w :: B) else (-1, n)) = (if lo ≤ c ∧ c ≤ hi then cont k (r * 64 + c % 64) 128 191 (n + 1) u else (-1, n))
    rw [cont_app hw B k _ 128 191 (n + 1) u (Nat.le_refl _)]
theorem lead_lo {c k r lo hi : Nat} (h : lead c = some (k, r, lo, hi)) : 128 ≤ lo := by
  unfold lead at h
  repeat' split at h
  all_goals first | (cases h; done) | skip
  all_goals
    injection h with h
    injection h with h1 h
    injection h with h2 h
    injection h with h3 h4
    omega
theorem piece_app {w : Nat} (hw : w < 128) (B : List Nat) (c : Nat) (u : List Nat) : piece ((c :: u) ++ w :: B) = piece (c :: u) := by
  show (match lead c with | none => (-1, 1) | some (k, r, lo, hi) => cont k r lo hi 1 (u ++ w :: B)) = (match lead c with | none => (-1, 1) | some (k, r, lo, hi) => cont k r lo hi 1 u)
  cases h : lead c with
  | none => rfl
  | some q =>
    obtain ⟨k, r, lo, hi⟩ := q
    exact cont_app hw B k r lo hi 1 u (lead_lo h)
theorem scal_one {w : Nat} (hw : w < 128) (B : List Nat) : scal (w :: B) = (scal B).map ((w : Int) :: ·) := by
  have e : piece (w :: B) = ((w : Int), 1) := by
    show (match lead w with | none => (-1, 1) | some (k, r, lo, hi) => cont k r lo hi 1 B) = _
    have : lead w = some (0, w, 128, 191) := by unfold lead; rw [if_pos hw]
    rw [this]
    rfl
  rw [scal_cons, e]
  simp only
  rw [if_neg (by omega)]
  rfl
theorem scal_mid {w : Nat} (hw : w < 128) (B : List Nat) : ∀ (n : Nat) (A : List Nat), A.length ≤ n → scal (A ++ w :: B) = (scal A).bind fun a => (scal B).map fun b => a ++ (w : Int) :: b
  | _, [], _ => by
    rw [List.nil_append, scal_one hw]
    show _ = (some []).bind _
    rfl
  | 0, c :: u, h => by simp at h
  | n + 1, c :: u, h => by
    obtain ⟨h1, h2, _⟩ := piece_width c u
    have e : (c :: u) ++ w :: B = c :: (u ++ w :: B) := rfl
    rw [e, scal_cons, ← e, piece_app hw, scal_cons]
    by_cases q : (piece (c :: u)).1 < 0
    · rw [if_pos q, if_pos q]; rfl
    · rw [if_neg q, if_neg q, List.drop_append_of_le_length h2]
      rw [scal_mid hw B n _ (by rw [List.length_drop]; simp only [List.length_cons] at h ⊢; omega)]
      cases scal ((c :: u).drop (piece (c :: u)).2) with
      | none => rfl
      | some a =>
        cases scal B with
        | none => rfl
        | some b => rfl
def V (u : List Nat) : Bool := (scal u).isSome
theorem V_nil : V [] = true := rfl
theorem V_mid {w : Nat} (hw : w < 128) (A B : List Nat) : V (A ++ w :: B) = (V A && V B) := by
  unfold V
  rw [scal_mid hw B A.length A (Nat.le_refl _)]
  cases scal A with
  | none => rfl
  | some a => cases scal B <;> rfl
theorem V_one1 (cur : List Nat) : (one1 cur).all V = V cur := by
  cases cur with
  | nil => rfl
  | cons x t => rw [one1_ne (by simp)]; simp
theorem V_wgo : ∀ (t cur : List Nat), (wgo wsN t cur).all V = V (cur ++ t)
  | [], cur => by
    rw [List.append_nil]
    exact V_one1 cur
  | x :: t, cur => by
    show (if wsN x then one1 cur ++ wgo wsN t [] else wgo wsN t (cur ++ [x])).all V = _
    cases hx : wsN x with
    | true => rw [if_pos rfl, List.all_append, V_one1, V_wgo t [], List.nil_append, V_mid (wsN_lt hx)]
    | false => rw [if_neg (by simp), V_wgo t _]; simp
theorem V_words (u : List Nat) : (words wsN u).all V = V u := V_wgo u []
theorem V_join : ∀ ws : List (List Nat), V (joinW 32 ws) = ws.all V
  | [] => rfl
  | [a] => by show V a = _; simp
  | a :: b :: t => by
    show V (a ++ 32 :: joinW 32 (b :: t)) = _
    rw [V_mid (by omega), V_join (b :: t)]
    rfl
theorem V_oneP (u : List Nat) : V (oneP wsN 32 u) = V u := by unfold oneP; rw [V_join, V_words]
theorem V_lt : ∀ u : List Nat, V (lt wsN u) = V u
  | [] => rfl
  | x :: t => by
    cases hx : wsN x with
    | true =>
      have := V_mid (wsN_lt hx) [] t
      rw [V_nil, Bool.true_and] at this
      rw [lt_ws hx, V_lt t]
      exact this.symm
    | false => rw [lt_cons hx]
theorem V_rt (u : List Nat) : V (rt wsN u) = V u := by
  refine snoc_ind (P := fun u => V (rt wsN u) = V u) rfl (fun l x ih => ?_) u
  rw [rt_snoc]
  cases hx : wsN x with
  | true => rw [if_pos rfl, ih, V_mid (wsN_lt hx) l [], V_nil, Bool.and_true]
  | false => rw [if_neg (by simp)]
theorem V_trim (u : List Nat) : V (trim wsN u) = V u := by unfold trim; rw [V_rt, V_lt]
/-! Bytes and scalars. -/
theorem wsI_lt {x : Int} (h : wsI x = true) : 0 ≤ x ∧ x < 128 := by unfold wsI at h; simp at h; omega
theorem enc_ws {x : Int} (h : wsI x = true) : encI x = [x.toNat] ∧ wsN x.toNat = true := by
  unfold wsI at h
  simp at h
  rcases h with ((rfl | rfl) | rfl) | rfl <;> exact ⟨rfl, rfl⟩
theorem enc_no {x : Int} (hs : isSc x) (h : wsI x = false) : noW wsN (encI x) ∧ encI x ≠ [] := by
  obtain ⟨n, rfl⟩ := sc_nat hs
  have h1 : ¬ n = 32 ∧ ¬ n = 9 ∧ ¬ n = 10 ∧ ¬ n = 13 := by unfold wsI at h; simp at h; omega
  have hb : ∀ b : Nat, 128 ≤ b ∨ b = n → wsN b = false := fun b hb => by unfold wsN; simp; omega
  rw [encI_nat]
  constructor
  · unfold enc
    repeat' split
    all_goals
      intro b hb2
      simp only [List.mem_cons, List.not_mem_nil, or_false] at hb2
      apply hb
      omega
  · intro e
    have := (enc_len n).1
    rw [e] at this
    simp at this
theorem text_nil : text [] = [] := rfl
theorem text_ne {L : List Int} (h : L ≠ []) : text L ≠ [] := by
  cases L with
  | nil => exact absurd rfl h
  | cons x t =>
    rw [text_cons]
    have := (enc_len x.toNat).1
    intro e
    have h2 := congrArg List.length e
    rw [List.length_append] at h2
    have h3 : (encI x).length = (enc x.toNat).length := rfl
    simp at h2
    rw [h2.1] at h3
    simp at h3
    omega
theorem one1_text (L : List Int) : one1 (text L) = (one1 L).map text := by
  cases L with
  | nil => rfl
  | cons x t => rw [one1_ne (text_ne (by simp)), one1_ne (by simp)]; rfl
theorem wgo_text : ∀ (L cur : List Int), AllSc L → wgo wsN (text L) (text cur) = (wgo wsI L cur).map text
  | [], cur, _ => one1_text cur
  | x :: L, cur, h => by
    have hx := h x (List.mem_cons_self ..)
    have hL : AllSc L := fun y hy => h y (List.mem_cons_of_mem _ hy)
    show _ = (if wsI x then one1 cur ++ wgo wsI L [] else wgo wsI L (cur ++ [x])).map text
    rw [text_cons]
    cases hw : wsI x with
    | true =>
      obtain ⟨e1, e2⟩ := enc_ws hw
      rw [e1, if_pos rfl]
      show (if wsN x.toNat then one1 (text cur) ++ wgo wsN (text L) [] else _) = _
      rw [e2, if_pos rfl, List.map_append, one1_text, ← wgo_text L [] hL]
      rfl
    | false =>
      rw [if_neg (by simp), wgo_free _ _ _ (enc_no hx hw).1, ← wgo_text L _ hL, text_app]
      simp [text]
theorem words_text {L : List Int} (h : AllSc L) : words wsN (text L) = (words wsI L).map text := wgo_text L [] h
theorem join_text : ∀ ws : List (List Int), joinW 32 (ws.map text) = text (joinW 32 ws)
  | [] => rfl
  | [a] => rfl
  | a :: b :: t => by
    show text a ++ 32 :: joinW 32 ((b :: t).map text) = text (a ++ 32 :: joinW 32 (b :: t))
    rw [join_text (b :: t), text_app, text_cons]
    rfl
theorem one_text {L : List Int} (h : AllSc L) : oneP wsN 32 (text L) = text (oneP wsI 32 L) := by
  unfold oneP
  rw [words_text h, join_text]
theorem lt_text : ∀ L : List Int, AllSc L → lt wsN (text L) = text (lt wsI L)
  | [], _ => rfl
  | x :: L, h => by
    have hx := h x (List.mem_cons_self ..)
    have hL : AllSc L := fun y hy => h y (List.mem_cons_of_mem _ hy)
    rw [text_cons]
    cases hw : wsI x with
    | true =>
      obtain ⟨e1, e2⟩ := enc_ws hw
      rw [e1, lt_ws hw]
      show lt wsN (x.toNat :: text L) = _
      rw [lt_ws e2, lt_text L hL]
    | false =>
      obtain ⟨h1, h2⟩ := enc_no hx hw
      rw [lt_cons hw, text_cons]
      cases he : encI x with
      | nil => exact absurd he h2
      | cons c u =>
        rw [he] at h1
        exact lt_cons (h1 c (List.mem_cons_self ..)) _
theorem rt_text (L : List Int) : AllSc L → rt wsN (text L) = text (rt wsI L) := by
  refine snoc_ind (P := fun L => AllSc L → rt wsN (text L) = text (rt wsI L)) (fun _ => rfl) (fun L x ih h => ?_) L
  have hx := h x (List.mem_append_right _ (List.mem_cons_self ..))
  have hL : AllSc L := fun y hy => h y (List.mem_append_left _ hy)
  have e0 : text (L ++ [x]) = text L ++ encI x := by rw [text_app, text_cons, text_nil, List.append_nil]
  rw [rt_snoc, e0]
  cases hw : wsI x with
  | true =>
    obtain ⟨e1, e2⟩ := enc_ws hw
    rw [if_pos rfl, e1, rt_snoc, e2, if_pos rfl, ih hL]
  | false =>
    obtain ⟨h1, h2⟩ := enc_no hx hw
    rw [if_neg (by simp), e0, rt_app _ _ (by rw [free_rt h1]; exact h2), free_rt h1]
theorem lt_sc {L : List Int} (h : AllSc L) : AllSc (lt wsI L) := fun x hx => h x (List.dropWhile_sublist _ |>.subset hx)
theorem rt_mem {x : Int} {L : List Int} (h : x ∈ rt wsI L) : x ∈ L := by
  unfold rt at h
  have := (List.dropWhile_sublist (p := wsI) (l := L.reverse)).subset (List.mem_reverse.1 h)
  exact List.mem_reverse.1 this
theorem trim_sc {L : List Int} (h : AllSc L) : AllSc (trim wsI L) := fun x hx => lt_sc h x (rt_mem hx)
theorem trim_text {L : List Int} (h : AllSc L) : trim wsN (text L) = text (trim wsI L) := by
  unfold trim
  rw [lt_text L h, rt_text _ (lt_sc h)]
theorem wgo_mem {x : Int} : ∀ (l cur u : List Int), u ∈ wgo wsI l cur → x ∈ u → x ∈ cur ∨ x ∈ l
  | [], cur, u, hu, hx => by
    have hu' : u ∈ one1 cur := hu
    cases cur with
    | nil => cases hu'
    | cons y t => rw [one1_ne (by simp), List.mem_singleton] at hu'; rw [hu'] at hx; exact Or.inl hx
  | y :: t, cur, u, hu, hx => by
    have hu' : u ∈ (if wsI y then one1 cur ++ wgo wsI t [] else wgo wsI t (cur ++ [y])) := hu
    cases hy : wsI y with
    | true =>
      rw [hy, if_pos rfl] at hu'
      rcases List.mem_append.1 hu' with hu' | hu'
      · cases cur with
        | nil => cases hu'
        | cons z t => rw [one1_ne (by simp), List.mem_singleton] at hu'; rw [hu'] at hx; exact Or.inl hx
      · rcases wgo_mem t [] u hu' hx with h | h
        · cases h
        · exact Or.inr (List.mem_cons_of_mem _ h)
    | false =>
      rw [hy, if_neg (by simp)] at hu'
      rcases wgo_mem t _ u hu' hx with h | h
      · rcases List.mem_append.1 h with h | h
        · exact Or.inl h
        · rw [List.mem_singleton.1 h]; exact Or.inr (List.mem_cons_self ..)
      · exact Or.inr (List.mem_cons_of_mem _ h)
theorem join_mem {x : Int} : ∀ ws : List (List Int), x ∈ joinW 32 ws → x = 32 ∨ ∃ u ∈ ws, x ∈ u
  | [], h => by cases h
  | [a], h => Or.inr ⟨a, List.mem_cons_self .., h⟩
  | a :: b :: t, h => by
    have h' : x ∈ a ++ 32 :: joinW 32 (b :: t) := h
    rcases List.mem_append.1 h' with h | h
    · exact Or.inr ⟨a, List.mem_cons_self .., h⟩
    · rcases List.mem_cons.1 h with h | h
      · exact Or.inl h
      · rcases join_mem (b :: t) h with h | ⟨u, hu, hx⟩
        · exact Or.inl h
        · exact Or.inr ⟨u, List.mem_cons_of_mem _ hu, hx⟩
theorem one_mem {x : Int} {L : List Int} (h : x ∈ oneP wsI 32 L) : x = 32 ∨ x ∈ L := by
  rcases join_mem _ h with h | ⟨u, hu, hx⟩
  · exact Or.inl h
  · rcases wgo_mem L [] u hu hx with h | h
    · cases h
    · exact Or.inr h
theorem one_sc {L : List Int} (h : AllSc L) : AllSc (oneP wsI 32 L) := fun x hx => by
  rcases one_mem hx with rfl | hx
  · unfold isSc; omega
  · exact h x hx
theorem join_memN {x : Nat} : ∀ ws : List (List Nat), x ∈ joinW 32 ws → x = 32 ∨ ∃ u ∈ ws, x ∈ u
  | [], h => by cases h
  | [a], h => Or.inr ⟨a, List.mem_cons_self .., h⟩
  | a :: b :: t, h => by
    have h' : x ∈ a ++ 32 :: joinW 32 (b :: t) := h
    rcases List.mem_append.1 h' with h | h
    · exact Or.inr ⟨a, List.mem_cons_self .., h⟩
    · rcases List.mem_cons.1 h with h | h
      · exact Or.inl h
      · rcases join_memN (b :: t) h with h | ⟨u, hu, hx⟩
        · exact Or.inl h
        · exact Or.inr ⟨u, List.mem_cons_of_mem _ hu, hx⟩
theorem one1_memN {x : Nat} {cur u : List Nat} (hu : u ∈ one1 cur) (hx : x ∈ u) : x ∈ cur := by
  cases cur with
  | nil => cases hu
  | cons z t => rw [one1_ne (by simp), List.mem_singleton] at hu; rw [hu] at hx; exact hx
theorem wgo_memN2 {x : Nat} : ∀ (l cur u : List Nat), u ∈ wgo wsN l cur → x ∈ u → x ∈ cur ∨ x ∈ l
  | [], cur, u, hu, hx => Or.inl (one1_memN hu hx)
  | y :: t, cur, u, hu, hx => by
    have hu' : u ∈ (if wsN y then one1 cur ++ wgo wsN t [] else wgo wsN t (cur ++ [y])) := hu
    cases hy : wsN y with
    | true =>
      rw [hy, if_pos rfl] at hu'
      rcases List.mem_append.1 hu' with hu' | hu'
      · exact Or.inl (one1_memN hu' hx)
      · rcases wgo_memN2 t [] u hu' hx with h | h
        · cases h
        · exact Or.inr (List.mem_cons_of_mem _ h)
    | false =>
      rw [hy, if_neg (by simp)] at hu'
      rcases wgo_memN2 t _ u hu' hx with h | h
      · rcases List.mem_append.1 h with h | h
        · exact Or.inl h
        · rw [List.mem_singleton.1 h]; exact Or.inr (List.mem_cons_self ..)
      · exact Or.inr (List.mem_cons_of_mem _ h)
theorem wgo_memN {x : Nat} {l u : List Nat} (hu : u ∈ words wsN l) (hx : x ∈ u) : x ∈ l := by
  rcases wgo_memN2 l [] u hu hx with h | h
  · cases h
  · exact h
theorem trim_memN {x : Nat} {l : List Nat} (h : x ∈ trim wsN l) : x ∈ l := by
  unfold trim rt lt at h
  have h1 := (List.dropWhile_sublist (p := wsN) (l := (l.dropWhile wsN).reverse)).subset (List.mem_reverse.1 h)
  exact (List.dropWhile_sublist (p := wsN) (l := l)).subset (List.mem_reverse.1 h1)
def totI (ws : List (List Int)) : Nat := (ws.map fun u => u.length + 1).sum
theorem totI_app (a b : List (List Int)) : totI (a ++ b) = totI a + totI b := by simp [totI]
theorem totI_one1 (cur : List Int) : totI (one1 cur) ≤ cur.length + 1 := by
  cases cur with
  | nil => simp [one1_nil, totI]
  | cons x t => rw [one1_ne (by simp)]; simp [totI]
theorem totI_wgo : ∀ (t cur : List Int), totI (wgo wsI t cur) ≤ t.length + cur.length + 1
  | [], cur => by
    have := totI_one1 cur
    show totI (one1 cur) ≤ _
    simp; omega
  | x :: t, cur => by
    show totI (if wsI x then one1 cur ++ wgo wsI t [] else wgo wsI t (cur ++ [x])) ≤ _
    have h1 := totI_one1 cur
    have h2 := totI_wgo t []
    have h3 := totI_wgo t (cur ++ [x])
    rw [List.length_append] at h3
    simp only [List.length_cons, List.length_nil] at h2 h3 ⊢
    split
    · rw [totI_app]; omega
    · omega
theorem joinI_le : ∀ ws : List (List Int), ws ≠ [] → (joinW 32 ws).length + 1 ≤ totI ws
  | [], h => absurd rfl h
  | [a], _ => by show a.length + 1 ≤ _; simp [totI]
  | a :: b :: t, _ => by
    have := joinI_le (b :: t) (by simp)
    show (a ++ 32 :: joinW 32 (b :: t)).length + 1 ≤ totI (a :: b :: t)
    rw [List.length_append, List.length_cons]
    have e : totI (a :: b :: t) = a.length + 1 + totI (b :: t) := by simp [totI]
    omega
theorem one_le (L : List Int) : (oneP wsI 32 L).length ≤ L.length := by
  have h1 := totI_wgo L []
  unfold oneP
  by_cases h : words wsI L = []
  · rw [h]; exact Nat.zero_le _
  · have h2 := joinI_le _ h
    unfold words at *
    simp at h1
    omega
end Tx
namespace Go.Proofs.YthepfbkbfkhcaaaGreat.Tb
open Go
open Ut Tx
/-! NFC beside white space. -/
theorem ws_cls {w : Int} (h : wsI w = true) : classI w = 0 ∧ isSec w = false ∧ madeF w = none := by
  unfold wsI at h
  simp at h
  rcases h with ((rfl | rfl) | rfl) | rfl
  · exact ⟨by decide, by kernel_rfl, by kernel_rfl⟩
  · exact ⟨by decide, by kernel_rfl, by kernel_rfl⟩
  · exact ⟨by decide, by kernel_rfl, by kernel_rfl⟩
  · exact ⟨by decide, by kernel_rfl, by kernel_rfl⟩
theorem pr_ws : (prs.all fun p => !wsI p.1 && !wsI p.2.1 && !wsI p.2.2) = true := by kernel_rfl
theorem whole_ws {w b x : Int} (h : wsI w = true) (k : wholeF w b = some x) : False := by
  obtain ⟨hm, _⟩ := back2 k
  unfold madeF at hm
  split at hm
  · rename_i hh
    have hl := wsI_lt h
    rw [hang_iff] at hh
    split at hm
    · injection hm with hm; injection hm with h1 h2; omega
    · injection hm with hm; injection hm with h1 h2; omega
  · have hmem := look_mem hm
    have := all_of pr_ws hmem
    simp only [h] at this
    simp at this
theorem whole_none_ws {w b : Int} (h : wsI w = true) : wholeF w b = none := by
  cases k : wholeF w b with
  | none => rfl
  | some x => exact (whole_ws h k).elim
theorem ws_shift {w : Int} (hw : wsI w = true) : ∀ (D ms : List Int), flat (D.foldl stepC ([], some (w, ms))) = w :: flat (D.foldl stepC (ms, none))
  | [], ms => rfl
  | r :: D, ms => by
    have e1 : stepC ([], some (w, ms)) r = pushC ([], some (w, ms)) r := by
      show (match tryC w ms r with | some x => ([], some (x, ms)) | none => pushC ([], some (w, ms)) r) = _
      have : tryC w ms r = none := by unfold tryC; rw [whole_none_ws hw]; split <;> rfl
      rw [this]
    have e2 : stepC (ms, none) r = pushC (ms, none) r := rfl
    rw [List.foldl_cons, List.foldl_cons, e1, e2]
    unfold pushC
    by_cases hr : classI r = 0
    · simp only [hr, if_true]
      have := flat_pre D [w] ms (some (r, []))
      exact this
    · simp only [hr, if_false]
      exact ws_shift hw D (ms ++ [r])
theorem nfc_ws {w : Int} (hw : wsI w = true) (B : List Int) : nfcL (w :: B) = w :: nfcL B := by
  obtain ⟨h1, h2, h3⟩ := ws_cls hw
  unfold nfcL dcmp
  rw [dec_cons, parts_none h3]
  show compL (Ordl.sortL classI (w :: dec B)) = _
  rw [Ordl.sort_cons_free h1]
  unfold compL
  rw [List.foldl_cons]
  have e : stepC ([], none) w = ([], some (w, [])) := by show pushC ([], none) w = _; unfold pushC; simp only [h1, if_true]
  rw [e]
  exact ws_shift hw _ []
theorem nfc_mid {w : Int} (hw : wsI w = true) (A B : List Int) : nfcL (A ++ w :: B) = nfcL A ++ w :: nfcL B := by
  obtain ⟨h1, h2, h3⟩ := ws_cls hw
  rw [nfc_app A (b := w :: B) (fun x t e => by injection e with e1 e2; subst e1; exact ⟨h1, h2⟩), nfc_ws hw]
theorem nfc_nil : nfcL [] = [] := rfl
theorem nfc_empty (L : List Int) : nfcL L = [] ↔ L = [] := by
  have h1 := (comp_short (dcmp L)).2.2
  have h2 := dcmp_len L
  have h3 := dec_len L
  constructor
  · intro h
    have e1 : (compL (dcmp L)).length = 0 := by show (nfcL L).length = 0; rw [h]; rfl
    have e2 := h1.1 e1
    exact List.eq_nil_of_length_eq_zero (by omega)
  · rintro rfl; rfl
/-- What is true of all wholes and of all scalars is true of all of NFC. -/
theorem comp_all {P : Int → Prop} (hw : ∀ a b x, wholeF a b = some x → P a → P b → P x) : ∀ (l : List Int) (st : CSt), (∀ x ∈ flat st, P x) → (∀ x ∈ l, P x) → ∀ x ∈ flat (l.foldl stepC st), P x
  | [], _, h, _ => h
  | r :: l, st, h, hl => by
    refine comp_all hw l _ ?_ (fun x hx => hl x (List.mem_cons_of_mem _ hx))
    have hr := hl r (List.mem_cons_self ..)
    have push : ∀ st : CSt, (∀ x ∈ flat st, P x) → ∀ x ∈ flat (pushC st r), P x := fun st h x hx => by
      rw [flat_push] at hx
      rcases List.mem_append.1 hx with hx | hx
      · exact h x hx
      · rw [List.mem_singleton.1 hx]; exact hr
    obtain ⟨pre, _ | ⟨a, ms⟩⟩ := st
    · exact push _ h
    · show ∀ x ∈ flat (match tryC a ms r with | some w => (pre, some (w, ms)) | none => pushC (pre, some (a, ms)) r), P x
      cases ht : tryC a ms r with
      | none => exact push _ h
      | some w =>
        intro y hy
        rcases List.mem_append.1 hy with hy | hy
        · exact h y (List.mem_append_left _ hy)
        · rcases List.mem_cons.1 hy with hy | hy
          · rw [hy]; exact hw a r w (try_some ht).2 (h a (List.mem_append_right _ (List.mem_cons_self ..))) hr
          · exact h y (List.mem_append_right _ (List.mem_cons_of_mem _ hy))
theorem made_ws {r : Int} {x : Int × Int} (h : madeF r = some x) : wsI x.1 = false ∧ wsI x.2 = false ∧ wsI r = false := by
  have hz : ∀ y : Int, 128 ≤ y → wsI y = false := fun y hy => by unfold wsI; simp; omega
  unfold madeF at h
  split at h
  · rename_i hh
    rw [hang_iff] at hh
    split at h
    · injection h with h; subst h; exact ⟨hz _ (by show 128 ≤ r - (r - 44032) % 28; omega), hz _ (by show 128 ≤ 4519 + (r - 44032) % 28; omega), hz _ (by omega)⟩
    · injection h with h; subst h; exact ⟨hz _ (by show 128 ≤ 4352 + (r - 44032) / 28 / 21; omega), hz _ (by show 128 ≤ 4449 + (r - 44032) / 28 % 21; omega), hz _ (by omega)⟩
  · have := all_of pr_ws (look_mem h)
    simp at this
    exact ⟨this.1.2, this.2, this.1.1⟩
theorem parts_ws : ∀ r, wsI r = false → ∀ p ∈ parts r, wsI p = false := by
  refine by_made (P := fun r => wsI r = false → ∀ p ∈ parts r, wsI p = false) (fun r hn h p hp => ?_) (fun r x hs h1 h2 h p hp => ?_)
  · rw [parts_none hn, List.mem_singleton] at hp
    rw [hp]; exact h
  · rw [parts_some hs] at hp
    obtain ⟨k1, k2, _⟩ := made_ws hs
    rcases List.mem_append.1 hp with hp | hp
    · exact h1 k1 p hp
    · split at hp
      · cases hp
      · rename_i hx; exact h2 hx k2 p hp
theorem nfc_noW {L : List Int} (h : noW wsI L) : noW wsI (nfcL L) := by
  unfold nfcL compL
  refine comp_all (P := fun x => wsI x = false) (fun a b x k _ _ => (made_ws (back2 k).1).2.2) _ _ (fun x hx => by cases hx) (fun x hx => ?_)
  obtain ⟨r, hr, hp⟩ := dec_mem (Ordl.sort_mem.1 hx)
  exact parts_ws r (h r hr) x hp
theorem words_nfc : ∀ (n : Nat) (L : List Int), L.length ≤ n → words wsI (nfcL L) = (words wsI L).map nfcL := fun n => by
  have free : ∀ A : List Int, noW wsI A → words wsI (nfcL A) = (words wsI A).map nfcL := fun A h => by
    rw [words_free h, words_free (nfc_noW h)]
    cases hA : A with
    | nil => rfl
    | cons x t =>
      rw [one1_ne (l := x :: t) (by simp), one1_ne (l := nfcL (x :: t)) (fun e => by rw [nfc_empty] at e; cases e)]
      rfl
  induction n with
  | zero =>
    intro L h
    obtain rfl : L = [] := List.eq_nil_of_length_eq_zero (by omega)
    rfl
  | succ n ih =>
    intro L h
    rcases split_first (p := wsI) L with hf | ⟨A, w, B, rfl, h1, h2⟩
    · exact free L hf
    · rw [nfc_mid h2, words_mid h2, words_mid h2, free A h1, ih B (by simp at h; omega), List.map_append]
theorem ws32 : wsI 32 = true := rfl
theorem nfc_join : ∀ ws : List (List Int), nfcL (joinW 32 ws) = joinW 32 (ws.map nfcL)
  | [] => rfl
  | [a] => rfl
  | a :: b :: t => by
    show nfcL (a ++ 32 :: joinW 32 (b :: t)) = nfcL a ++ 32 :: joinW 32 ((b :: t).map nfcL)
    rw [nfc_mid ws32, nfc_join (b :: t)]
theorem nfc_one_ws (L : List Int) : nfcL (oneP wsI 32 L) = oneP wsI 32 (nfcL L) := by
  unfold oneP
  rw [nfc_join, words_nfc L.length L (Nat.le_refl _)]
theorem nfc_lt : ∀ L : List Int, lt wsI (nfcL L) = nfcL (lt wsI L)
  | [] => rfl
  | x :: t => by
    cases hx : wsI x with
    | true => rw [nfc_ws hx, lt_ws hx, lt_ws hx, nfc_lt t]
    | false =>
      rw [lt_cons hx]
      have free : ∀ A B : List Int, A ≠ [] → noW wsI A → lt wsI (nfcL A ++ B) = nfcL A ++ B := fun A B hA h => by
        have h1 := nfc_noW h
        cases hA2 : nfcL A with
        | nil => rw [nfc_empty] at hA2; exact absurd hA2 hA
        | cons y u =>
          rw [hA2] at h1
          exact lt_cons (h1 y (List.mem_cons_self ..)) _
      rcases split_first (p := wsI) (x :: t) with hf | ⟨A, w, B, e, h1, h2⟩
      · have := free (x :: t) [] (by simp) hf
        rw [List.append_nil] at this
        exact this
      · have hA : A ≠ [] := fun hA => by
          subst hA
          injection e with e1 e2
          rw [e1, h2] at hx
          cases hx
        rw [e, nfc_mid h2]
        exact free A _ hA h1
theorem nfc_rt (L : List Int) : rt wsI (nfcL L) = nfcL (rt wsI L) := by
  refine snoc_ind (P := fun L => rt wsI (nfcL L) = nfcL (rt wsI L)) rfl (fun L x ih => ?_) L
  rw [rt_snoc]
  cases hx : wsI x with
  | true => rw [if_pos rfl, nfc_mid hx L [], nfc_nil, rt_snoc, hx, if_pos rfl, ih]
  | false =>
    rw [if_neg (by simp)]
    have free : ∀ B A : List Int, A ≠ [] → noW wsI A → rt wsI (B ++ nfcL A) = B ++ nfcL A := fun B A hA h => by
      have h1 := free_rt (nfc_noW h)
      rw [rt_app _ _ (by rw [h1]; intro e; rw [nfc_empty] at e; exact hA e), h1]
    rcases split_last (p := wsI) (L ++ [x]) with hf | ⟨B, w, A, e, h1, h2⟩
    · have := free [] (L ++ [x]) (by simp) hf
      rw [List.nil_append] at this
      exact this
    · have hA : A ≠ [] := fun hA => by
        subst hA
        have := List.append_inj' e rfl
        have h3 := this.2
        injection h3 with h3 _
        rw [h3, h2] at hx
        cases hx
      rw [e, nfc_mid h2]
      have := free (nfcL B ++ [w]) A hA h1
      simp only [List.append_assoc, List.singleton_append] at this
      exact this
theorem nfc_trim (L : List Int) : trim wsI (nfcL L) = nfcL (trim wsI L) := by
  unfold trim
  rw [nfc_lt, nfc_rt]
/-! Chars. -/
def charI (r : Int) : Bool := decide (r = 9 ∨ r = 10 ∨ r = 13 ∨ (32 ≤ r ∧ r ≤ 55295) ∨ (57344 ≤ r ∧ r ≤ 65533) ∨ (65536 ≤ r ∧ r ≤ 1114111))
theorem pr_char : (prs.all fun p => charI p.1 && charI p.2.1 && (p.2.2 == 0 || charI p.2.2)) = true := by kernel_rfl
theorem made_char {r : Int} {x : Int × Int} (h : madeF r = some x) : charI r = true ∧ charI x.1 = true ∧ (x.2 ≠ 0 → charI x.2 = true) := by
  have hz : ∀ y : Int, 32 ≤ y → y ≤ 55295 → charI y = true := fun y h1 h2 => decide_eq_true (by omega)
  unfold madeF at h
  split at h
  · rename_i hh
    rw [hang_iff] at hh
    split at h
    · injection h with h; subst h; exact ⟨hz _ (by omega) (by omega), hz _ (by show 32 ≤ r - (r - 44032) % 28; omega) (by show r - (r - 44032) % 28 ≤ _; omega), fun _ => hz _ (by show 32 ≤ 4519 + (r - 44032) % 28; omega) (by show 4519 + (r - 44032) % 28 ≤ _; omega)⟩
    · injection h with h; subst h; exact ⟨hz _ (by omega) (by omega), hz _ (by show 32 ≤ 4352 + (r - 44032) / 28 / 21; omega) (by show 4352 + (r - 44032) / 28 / 21 ≤ _; omega), fun _ => hz _ (by show 32 ≤ 4449 + (r - 44032) / 28 % 21; omega) (by show 4449 + (r - 44032) / 28 % 21 ≤ _; omega)⟩
  · have := all_of pr_char (look_mem h)
    simp only [Bool.and_eq_true, Bool.or_eq_true, beq_iff_eq] at this
    exact ⟨this.1.1, this.1.2, fun hx => this.2.resolve_left hx⟩
theorem parts_char : ∀ r, (parts r).all charI = charI r := by
  refine by_made (P := fun r => (parts r).all charI = charI r) (fun r hn => ?_) (fun r x hs h1 h2 => ?_)
  · rw [parts_none hn]; simp
  · obtain ⟨k1, k2, k3⟩ := made_char hs
    rw [parts_some hs, List.all_append, h1, k1, k2]
    split
    · rfl
    · rename_i hx; rw [h2 hx, k3 hx]; rfl
theorem dec_char : ∀ L : List Int, (dec L).all charI = L.all charI
  | [] => rfl
  | x :: L => by rw [dec_cons, List.all_append, parts_char, dec_char L]; rfl
theorem all_mem {l m : List Int} (h : ∀ x, x ∈ l ↔ x ∈ m) : l.all charI = m.all charI := by
  rw [Bool.eq_iff_iff, List.all_eq_true, List.all_eq_true]
  exact ⟨fun k x hx => k x ((h x).2 hx), fun k x hx => k x ((h x).1 hx)⟩
theorem step_char (st : CSt) (r : Int) : (flat (stepC st r)).all charI = ((flat st).all charI && charI r) := by
  have push : ∀ st : CSt, (flat (pushC st r)).all charI = ((flat st).all charI && charI r) := fun st => by rw [flat_push, List.all_append]; simp
  obtain ⟨pre, _ | ⟨a, ms⟩⟩ := st
  · exact push (pre, none)
  · show (flat (match tryC a ms r with | some w => (pre, some (w, ms)) | none => pushC (pre, some (a, ms)) r)).all charI = _
    cases ht : tryC a ms r with
    | none => exact push _
    | some w =>
      have hw := (try_some ht).2
      obtain ⟨hm, hr0⟩ := back2 hw
      obtain ⟨k1, k2, k3⟩ := made_char hm
      have k4 := k3 hr0
      simp only at k1 k2 k4
      show (pre ++ w :: ms).all charI = ((pre ++ a :: ms).all charI && charI r)
      simp [k1, k2, k4]
theorem fold_char : ∀ (l : List Int) (st : CSt), (flat (l.foldl stepC st)).all charI = ((flat st).all charI && l.all charI)
  | [], st => by simp
  | r :: l, st => by rw [List.foldl_cons, fold_char l _, step_char, List.all_cons, Bool.and_assoc]
theorem nfc_char (L : List Int) : (nfcL L).all charI = L.all charI := by
  unfold nfcL compL
  rw [fold_char]
  show (true && (dcmp L).all charI) = _
  rw [Bool.true_and, ← dec_char L]
  exact all_mem fun x => Ordl.sort_mem
theorem ws_char {x : Int} (h : wsI x = true) : charI x = true := by
  unfold wsI at h
  simp at h
  exact decide_eq_true (by omega)
theorem one1_char (cur : List Int) : ((one1 cur).all fun u => u.all charI) = cur.all charI := by
  cases cur with
  | nil => rfl
  | cons x t => rw [one1_ne (by simp)]; simp
theorem wgo_char : ∀ (t cur : List Int), ((wgo wsI t cur).all fun u => u.all charI) = (cur.all charI && t.all charI)
  | [], cur => by rw [show (wgo wsI [] cur) = one1 cur from rfl, one1_char]; simp
  | x :: t, cur => by
    show ((if wsI x then one1 cur ++ wgo wsI t [] else wgo wsI t (cur ++ [x])).all fun u => u.all charI) = _
    cases hx : wsI x with
    | true => rw [if_pos rfl, List.all_append, one1_char, wgo_char t [], List.all_cons, ws_char hx]; simp
    | false => rw [if_neg (by simp), wgo_char t _, List.all_append, List.all_cons, List.all_cons]; simp [Bool.and_assoc]
theorem join_char : ∀ ws : List (List Int), (joinW 32 ws).all charI = ws.all fun u => u.all charI
  | [] => rfl
  | [a] => by show a.all charI = _; simp
  | a :: b :: t => by
    show (a ++ 32 :: joinW 32 (b :: t)).all charI = _
    rw [List.all_append, List.all_cons, join_char (b :: t), ws_char ws32]
    simp
theorem one_char (L : List Int) : (oneP wsI 32 L).all charI = L.all charI := by
  unfold oneP words
  rw [join_char, wgo_char]
  simp
theorem lt_char : ∀ L : List Int, (lt wsI L).all charI = L.all charI
  | [] => rfl
  | x :: t => by
    cases hx : wsI x with
    | true => rw [lt_ws hx, lt_char t, List.all_cons, ws_char hx]; simp
    | false => rw [lt_cons hx]
theorem rt_char (L : List Int) : (rt wsI L).all charI = L.all charI := by
  refine snoc_ind (P := fun L => (rt wsI L).all charI = L.all charI) rfl (fun L x ih => ?_) L
  rw [rt_snoc]
  cases hx : wsI x with
  | true => rw [if_pos rfl, ih, List.all_append]; simp [ws_char hx]
  | false => rw [if_neg (by simp)]
theorem trim_char (L : List Int) : (trim wsI L).all charI = L.all charI := by unfold trim; rw [rt_char, lt_char]
end Go.Proofs.YthepfbkbfkhcaaaGreat.Tb
