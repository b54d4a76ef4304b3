/- What the liberal reader reckons: a text's pieces, a reader's steps, a date's second. Plain laws, no program in sight. -/
import Derived.Test.YtbhafhbaldddiaaMl
namespace Lb
abbrev Wd := List UInt8
/-- What a byte may be of a piece: a digit, a letter, a mark. -/
def srtN (c : Nat) : Nat := if 48 ≤ c ∧ c ≤ 57 then 1 else if 97 ≤ (c ||| 32) ∧ (c ||| 32) ≤ 122 then 2 else 0
def srt (c : UInt8) : Nat := srtN c.toNat
def lw (c : UInt8) : UInt8 := if 65 ≤ c.toNat ∧ c.toNat ≤ 90 then c + 32 else c
def spc (c : UInt8) : Bool := c.toNat == 32 || c.toNat == 9 || c.toNat == 10 || c.toNat == 13
def join (c : UInt8) : List Wd → List Wd
  | (d :: p) :: rest => if srt c ≠ 0 ∧ srt d = srt c then (c :: d :: p) :: rest else [c] :: (d :: p) :: rest
  | l => [c] :: l
theorem join_cc (c d : UInt8) (p : Wd) (rest : List Wd) : join c ((d :: p) :: rest) = if srt c ≠ 0 ∧ srt d = srt c then (c :: d :: p) :: rest else [c] :: (d :: p) :: rest := rfl
def raw : Wd → List Wd
  | [] => []
  | c :: l => join c (raw l)
def keep : Wd → Option Wd
  | [] => none
  | c :: p => if spc c = true then none else some ((c :: p).map lw)
def pcs (s : Wd) : List Wd := (raw s).filterMap keep
theorem raw_head (c : UInt8) (l : Wd) : ∃ p rest, raw (c :: l) = (c :: p) :: rest := by
  show ∃ p rest, join c (raw l) = (c :: p) :: rest
  unfold join
  split
  · split
    · exact ⟨_, _, rfl⟩
    · exact ⟨_, _, rfl⟩
  · exact ⟨_, _, rfl⟩
theorem raw_ne (l : Wd) : ∀ p ∈ raw l, p ≠ [] := by
  induction l with
  | nil => intro p h; cases h
  | cons c l ih =>
    intro p h
    change p ∈ join c (raw l) at h
    unfold join at h
    split at h
    · rename_i d q rest e
      split at h
      · rcases List.mem_cons.1 h with h | h
        · rw [h]; simp
        · exact ih p (by rw [e]; exact List.mem_cons_of_mem _ h)
      · rcases List.mem_cons.1 h with h | h
        · rw [h]; simp
        · exact ih p (by rw [e]; exact h)
    · rcases List.mem_cons.1 h with h | h
      · rw [h]; simp
      · exact ih p h
theorem raw_one (c : UInt8) (l : Wd) (h : l = [] ∨ srt c = 0 ∨ ∃ d m, l = d :: m ∧ srt d ≠ srt c) : raw (c :: l) = [c] :: raw l := by
  show join c (raw l) = _
  match l, h with
  | [], _ => rfl
  | d :: m, h =>
    obtain ⟨p, rest, e⟩ := raw_head d m
    rw [e, join_cc, if_neg]
    rintro ⟨h1, h2⟩
    rcases h with h | h | ⟨d', m', h, h3⟩
    · cases h
    · exact h1 h
    · injection h with h _
      rw [← h] at h3
      exact h3 h2
theorem raw_take : ∀ (n : Nat) (c : UInt8) (l : Wd), n ≤ l.length → (∀ i d, i < n → l[i]? = some d → srt d = srt c) → (n = 0 ∨ srt c ≠ 0) → (n = l.length ∨ srt c = 0 ∨ ∃ d, l[n]? = some d ∧ srt d ≠ srt c) →
    raw (c :: l) = (c :: l.take n) :: raw (l.drop n)
  | 0, c, l, _, _, _, h => by
    rw [raw_one]
    · rfl
    · rcases h with h | h | ⟨d, h, h1⟩
      · exact Or.inl (List.length_eq_zero_iff.1 h.symm)
      · exact Or.inr (Or.inl h)
      · match l, h with
        | d' :: m, h => simp at h; exact Or.inr (Or.inr ⟨d', m, rfl, by rw [h]; exact h1⟩)
  | n + 1, c, [], hl, _, _, _ => by simp at hl
  | n + 1, c, d :: l, hl, hk, h0, he => by
    have hd : srt d = srt c := hk 0 d (by omega) rfl
    have hc : srt c ≠ 0 := by rcases h0 with h | h; (· omega); exact h
    have ih := raw_take n d l (by simpa using hl) (fun i x hi hx => by rw [hd]; exact hk (i + 1) x (by omega) (by simpa using hx)) (Or.inr (by rw [hd]; exact hc)) (by
      rcases he with h | h | ⟨x, h, h1⟩
      · exact Or.inl (by simpa using h)
      · exact absurd h hc
      · exact Or.inr (Or.inr ⟨x, by simpa using h, by rw [hd]; exact h1⟩))
    show join c (raw (d :: l)) = _
    rw [ih, join_cc, if_pos ⟨hc, hd⟩]
    rfl
theorem pcs_take (n : Nat) (c : UInt8) (l : Wd) (h1 : n ≤ l.length) (h2 : ∀ i d, i < n → l[i]? = some d → srt d = srt c) (h3 : n = 0 ∨ srt c ≠ 0) (h4 : n = l.length ∨ srt c = 0 ∨ ∃ d, l[n]? = some d ∧ srt d ≠ srt c) :
    pcs (c :: l) = (if spc c = true then [] else [(c :: l.take n).map lw]) ++ pcs (l.drop n) := by
  unfold pcs
  rw [raw_take n c l h1 h2 h3 h4, List.filterMap_cons]
  unfold keep
  by_cases h : spc c = true
  · simp only [h, if_true]; rfl
  · simp only [h]; rfl
/-- Bytes by a number. -/
theorem all_bytes {p : UInt8 → Prop} [DecidablePred p] (h : (List.range 256).all (fun n => decide (p (UInt8.ofNat n))) = true) (c : UInt8) : p c := by
  have h1 := List.all_eq_true.1 h c.toNat (List.mem_range.2 (UInt8.toNat_lt c))
  have h2 : UInt8.ofNat c.toNat = c := by simp
  rw [h2] at h1
  exact of_decide_eq_true h1
theorem srt_lw (c : UInt8) : srt (lw c) = srt c := all_bytes (p := fun c => srt (lw c) = srt c) (by decide +kernel) c
theorem lw_lw (c : UInt8) : lw (lw c) = lw c := all_bytes (p := fun c => lw (lw c) = lw c) (by decide +kernel) c
theorem spc_lw (c : UInt8) : spc (lw c) = spc c := all_bytes (p := fun c => spc (lw c) = spc c) (by decide +kernel) c
theorem spc_srt (c : UInt8) : spc c = true → srt c = 0 := all_bytes (p := fun c => spc c = true → srt c = 0) (by decide +kernel) c
theorem lw_map (l : Wd) : (l.map lw).map lw = l.map lw := by simp [List.map_map, Function.comp_def, lw_lw]
theorem raw_low (l : Wd) : raw (l.map lw) = (raw l).map (List.map lw) := by
  induction l with
  | nil => rfl
  | cons c l ih =>
    show join (lw c) (raw (l.map lw)) = (join c (raw l)).map (List.map lw)
    rw [ih]
    cases e : raw l with
    | nil => rfl
    | cons q rest =>
      cases q with
      | nil => rfl
      | cons d p =>
        show join (lw c) ((lw d :: p.map lw) :: rest.map (List.map lw)) = _
        unfold join
        simp only [srt_lw]
        split <;> rfl
theorem keep_low (p : Wd) : keep (p.map lw) = keep p := by
  cases p with
  | nil => rfl
  | cons c p =>
    show (if spc (lw c) = true then none else some (((c :: p).map lw).map lw)) = if spc c = true then none else some ((c :: p).map lw)
    rw [spc_lw, lw_map]
theorem pcs_low (l : Wd) : pcs (l.map lw) = pcs l := by
  unfold pcs
  rw [raw_low, List.filterMap_map]
  congr 1
  funext p
  exact keep_low p
theorem join_app (c : UInt8) (a b : List Wd) (ha : a ≠ []) : join c (a ++ b) = join c a ++ b := by
  match a, ha with
  | [] :: a, _ => rfl
  | (d :: p) :: a, _ =>
    show join c ((d :: p) :: (a ++ b)) = _
    unfold join
    simp only
    split <;> rfl
theorem raw_ne_nil (c : UInt8) (l : Wd) : raw (c :: l) ≠ [] := by
  obtain ⟨p, rest, e⟩ := raw_head c l
  rw [e]; simp
theorem raw_app (l m : Wd) (h : ∀ d m', m = d :: m' → srt d = 0) : raw (l ++ m) = raw l ++ raw m := by
  induction l with
  | nil => rfl
  | cons c l ih =>
    cases l with
    | nil =>
      show raw (c :: m) = [c] :: raw m
      apply raw_one
      cases m with
      | nil => exact Or.inl rfl
      | cons d m' =>
        by_cases hc : srt c = 0
        · exact Or.inr (Or.inl hc)
        · exact Or.inr (Or.inr ⟨d, m', rfl, by rw [h d m' rfl]; exact fun e => hc e.symm⟩)
    | cons d l' =>
      show join c (raw (d :: l' ++ m)) = join c (raw (d :: l')) ++ raw m
      rw [ih, join_app _ _ _ (raw_ne_nil d l')]
theorem pcs_app (l m : Wd) (h : ∀ d m', m = d :: m' → srt d = 0) : pcs (l ++ m) = pcs l ++ pcs m := by
  unfold pcs; rw [raw_app l m h, List.filterMap_append]
theorem pcs_white (c : UInt8) (l : Wd) (h : spc c = true) : pcs (c :: l) = pcs l := by
  unfold pcs
  rw [raw_one c l (Or.inr (Or.inl (spc_srt c h))), List.filterMap_cons]
  simp only [keep, h, if_true]
theorem pcs_whites (a l : Wd) (h : ∀ c ∈ a, spc c = true) : pcs (a ++ l) = pcs l := by
  induction a with
  | nil => rfl
  | cons c a ih => rw [List.cons_append, pcs_white c _ (h c (by simp)), ih (fun x hx => h x (by simp [hx]))]
theorem pcs_back (l a : Wd) (h : ∀ c ∈ a, spc c = true) : pcs (l ++ a) = pcs l := by
  rw [pcs_app l a (fun d m e => spc_srt d (h d (by rw [e]; simp)))]
  have : pcs (a ++ []) = pcs [] := pcs_whites a [] h
  rw [List.append_nil] at this
  rw [this]
  show pcs l ++ [] = pcs l
  rw [List.append_nil]
/-- White space about it, and case, make no difference. -/
theorem pcs_case (a l b : Wd) (ha : ∀ c ∈ a, spc c = true) (hb : ∀ c ∈ b, spc c = true) : pcs (a ++ l.map lw ++ b) = pcs l := by
  rw [pcs_back _ b hb, pcs_whites a _ ha, pcs_low]
/-- Pieces: alike bytes all of them, of one kind; a mark stands alone. -/
def Alike (p : Wd) : Prop := ∃ c q, p = c :: q ∧ (∀ d ∈ q, srt d = srt c) ∧ (srt c = 0 → q = [])
theorem raw_alike (l : Wd) : ∀ p ∈ raw l, Alike p := by
  induction l with
  | nil => intro p h; cases h
  | cons c l ih =>
    intro p h
    change p ∈ join c (raw l) at h
    unfold join at h
    split at h
    · rename_i d q rest e
      split at h
      · rename_i hc
        rcases List.mem_cons.1 h with h | h
        · obtain ⟨c', q', e1, e2, e3⟩ := ih (d :: q) (by rw [e]; simp)
          injection e1 with e1 e4
          subst e1; subst e4
          refine ⟨c, d :: q, h, fun x hx => ?_, fun h0 => absurd h0 hc.1⟩
          rcases List.mem_cons.1 hx with hx | hx
          · rw [hx]; exact hc.2
          · rw [e2 x hx]; exact hc.2
        · exact ih p (by rw [e]; exact List.mem_cons_of_mem _ h)
      · rcases List.mem_cons.1 h with h | h
        · exact ⟨c, [], h, by simp, fun _ => rfl⟩
        · exact ih p (by rw [e]; exact h)
    · rcases List.mem_cons.1 h with h | h
      · exact ⟨c, [], h, by simp, fun _ => rfl⟩
      · exact ih p h
theorem raw_self (p : Wd) (h : Alike p) : raw p = [p] := by
  obtain ⟨c, q, rfl, h1, h2⟩ := h
  have := raw_take q.length c q (Nat.le_refl _) (fun i d _ hd => h1 d (List.mem_of_getElem? hd)) (by
    by_cases hc : srt c = 0
    · left; rw [h2 hc]; rfl
    · exact Or.inr hc) (Or.inl rfl)
  rw [this]
  simp [raw]
/-- What a piece is: alike, in lower case, no white space. -/
def Piece (p : Wd) : Prop := Alike p ∧ p.map lw = p ∧ ∀ c q, p = c :: q → spc c = false
theorem pcs_piece (l : Wd) : ∀ p ∈ pcs l, Piece p := by
  intro p hp
  obtain ⟨q, hq, e⟩ := List.mem_filterMap.1 hp
  obtain ⟨c, m, rfl, h1, h2⟩ := raw_alike l q hq
  unfold keep at e
  simp only at e
  split at e
  · cases e
  · rename_i hs
    injection e with e
    subst e
    refine ⟨⟨lw c, m.map lw, rfl, fun d hd => ?_, fun h0 => ?_⟩, lw_map _, fun c' q' e => ?_⟩
    · obtain ⟨d', hd', rfl⟩ := List.mem_map.1 hd
      rw [srt_lw, srt_lw]; exact h1 d' hd'
    · rw [srt_lw] at h0; rw [h2 h0]; rfl
    · injection e with e _
      rw [← e, spc_lw]; simpa using hs
theorem piece_pcs {p : Wd} (h : Piece p) : pcs p = [p] := by
  obtain ⟨h1, h2, h3⟩ := h
  unfold pcs
  rw [raw_self p h1]
  obtain ⟨c, q, rfl, _, _⟩ := h1
  have := h3 c q rfl
  simp only [List.filterMap_cons, List.filterMap_nil, keep]
  rw [this]
  simp only [h2]
  rfl
/-- Pieces, with white space behind each: the same pieces. -/
def glue (sep : Wd) : List Wd → Wd
  | [] => []
  | p :: l => p ++ sep ++ glue sep l
theorem pcs_glue (sep : Wd) (hs : ∀ c ∈ sep, spc c = true) (hn : sep ≠ []) : ∀ l : List Wd, (∀ p ∈ l, Piece p) → pcs (glue sep l) = l
  | [], _ => rfl
  | p :: l, h => by
    have ih := pcs_glue sep hs hn l (fun q hq => h q (by simp [hq]))
    show pcs (p ++ sep ++ glue sep l) = _
    rw [List.append_assoc, pcs_app, pcs_whites sep _ hs, ih, piece_pcs (h p (by simp))]
    · rfl
    · intro d m e
      match sep, hn with
      | d' :: sep, _ =>
        injection e with e _
        rw [← e]
        exact spc_srt d' (hs d' (by simp))
theorem glue_snoc (sep : Wd) (l : List Wd) (p : Wd) : glue sep (l ++ [p]) = glue sep l ++ (p ++ sep) := by
  induction l with
  | nil => simp [glue]
  | cons q l ih => rw [List.cons_append]; simp only [glue, ih, List.append_assoc]
theorem raw_tot (l : Wd) : (raw l).flatten = l := by
  induction l with
  | nil => rfl
  | cons c l ih =>
    show (join c (raw l)).flatten = _
    unfold join
    split
    · rename_i d q rest e
      rw [e] at ih
      split
      · simp at ih ⊢; exact ih
      · simp at ih ⊢; exact ih
    · simp [ih]
theorem flatten_len : ∀ (L : List Wd), (∀ p ∈ L, p ≠ []) → L.length ≤ L.flatten.length ∧ ∀ p ∈ L, p.length ≤ L.flatten.length
  | [], _ => by simp
  | p :: L, h => by
    obtain ⟨h1, h2⟩ := flatten_len L (fun q hq => h q (by simp [hq]))
    have hs : (p :: L).flatten.length = p.length + L.flatten.length := by rw [List.flatten_cons, List.length_append]
    have hp : 0 < p.length := List.length_pos_iff.2 (h p (by simp))
    rw [hs]
    refine ⟨by rw [List.length_cons]; omega, fun q hq => ?_⟩
    rcases List.mem_cons.1 hq with hq | hq
    · subst hq; omega
    · have := h2 q hq; omega
theorem pcs_len (l : Wd) : (pcs l).length ≤ l.length ∧ ∀ p ∈ pcs l, p.length ≤ l.length := by
  obtain ⟨h1, h2⟩ := flatten_len (raw l) (raw_ne l)
  rw [raw_tot] at h1 h2
  refine ⟨Nat.le_trans (List.length_filterMap_le _ _) h1, fun p hp => ?_⟩
  obtain ⟨q, hq, e⟩ := List.mem_filterMap.1 hp
  have := h2 q hq
  cases q with
  | nil => cases e
  | cons c q =>
    unfold keep at e
    simp only at e
    split at e
    · cases e
    · injection e with e
      rw [← e]; simpa using this
end Lb
