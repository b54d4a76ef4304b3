/- What the liberal reader reckons: a text's pieces, a reader's steps, a date's second. Plain laws, no program in sight. What the liberal reader reckons: a reader's steps, a date's second. Plain. A liberal reader's state in the heap, and what leaves it as it is. The walks of a byte's sort, of white space, of lower case. -/
import Derived.Test.YtbhafhbaldddiaaGreatDoorZA
import Derived.RowKit
import Derived.Test.YtbhafhbaldddiaaGreatDoorZC
import Derived.Laws.BitsAll
namespace Lb
abbrev Wd := List UInt8
/-- What a byte may be of a piece: a digit, a letter, a mark. -/
def srtN (c : Nat) : Nat := if 48 ≤ c ∧ c ≤ 57 then 1 else if 97 ≤ (c ||| 32) ∧ (c ||| 32) ≤ 122 then 2 else 0
def srt (c : UInt8) : Nat := srtN c.toNat
def lw (c : UInt8) : UInt8 := if 65 ≤ c.toNat ∧ c.toNat ≤ 90 then c + 32 else c
def spc (c : UInt8) : Bool := c.toNat == 32 || c.toNat == 9 || c.toNat == 10 || c.toNat == 13
def join (c : UInt8) : List Wd → List Wd
  | (d :: p) :: rest => if srt c ≠ 0 ∧ srt d = srt c then (c :: d :: p) :: rest else [c] :: (d :: p) :: rest
  | l => [c] :: l
theorem join_cc (c d : UInt8) (p : Wd) (rest : List Wd) : join c ((d :: p) :: rest) = if srt c ≠ 0 ∧ srt d = srt c then (c :: d :: p) :: rest else [c] :: (d :: p) :: rest := rfl
def raw : Wd → List Wd
  | [] => []
  | c :: l => join c (raw l)
def keep : Wd → Option Wd
  | [] => none
  | c :: p => if spc c = true then none else some ((c :: p).map lw)
def pcs (s : Wd) : List Wd := (raw s).filterMap keep
theorem raw_head (c : UInt8) (l : Wd) : ∃ p rest, raw (c :: l) = (c :: p) :: rest := by
  show ∃ p rest, join c (raw l) = (c :: p) :: rest
  unfold join
  split
  · split
    · exact ⟨_, _, rfl⟩
    · exact ⟨_, _, rfl⟩
  · exact ⟨_, _, rfl⟩
theorem raw_ne (l : Wd) : ∀ p ∈ raw l, p ≠ [] := by
  induction l with
  | nil => intro p h; cases h
  | cons c l ih =>
    intro p h
    change p ∈ join c (raw l) at h
    unfold join at h
    split at h
    · rename_i d q rest e
      split at h
      · rcases List.mem_cons.1 h with h | h
        · rw [h]; simp
        · exact ih p (by rw [e]; exact List.mem_cons_of_mem _ h)
      · rcases List.mem_cons.1 h with h | h
        · rw [h]; simp
        · exact ih p (by rw [e]; exact h)
    · rcases List.mem_cons.1 h with h | h
      · rw [h]; simp
      · exact ih p h
theorem raw_one (c : UInt8) (l : Wd) (h : l = [] ∨ srt c = 0 ∨ ∃ d m, l = d :: m ∧ srt d ≠ srt c) : raw (c :: l) = [c] :: raw l := by
  show join c (raw l) = _
  match l, h with
  | [], _ => rfl
  | d :: m, h =>
    obtain ⟨p, rest, e⟩ := raw_head d m
    rw [e, join_cc, if_neg]
    rintro ⟨h1, h2⟩
    rcases h with h | h | ⟨d', m', h, h3⟩
    · cases h
    · exact h1 h
    · injection h with h _
      rw [← h] at h3
      exact h3 h2
theorem raw_take : ∀ (n : Nat) (c : UInt8) (l : Wd), n ≤ l.length → (∀ i d, i < n → l[i]? = some d → srt d = srt c) → (n = 0 ∨ srt c ≠ 0) → (n = l.length ∨ srt c = 0 ∨ ∃ d, l[n]? = some d ∧ srt d ≠ srt c) →
    raw (c :: l) = (c :: l.take n) :: raw (l.drop n)
  | 0, c, l, _, _, _, h => by
    rw [raw_one]
    · rfl
    · rcases h with h | h | ⟨d, h, h1⟩
      · exact Or.inl (List.length_eq_zero_iff.1 h.symm)
      · exact Or.inr (Or.inl h)
      · match l, h with
        | d' :: m, h => simp at h; exact Or.inr (Or.inr ⟨d', m, rfl, by rw [h]; exact h1⟩)
  | n + 1, c, [], hl, _, _, _ => by simp at hl
  | n + 1, c, d :: l, hl, hk, h0, he => by
    have hd : srt d = srt c := hk 0 d (by omega) rfl
    have hc : srt c ≠ 0 := by rcases h0 with h | h; (· omega); exact h
    have ih := raw_take n d l (by simpa using hl) (fun i x hi hx => by rw [hd]; exact hk (i + 1) x (by omega) (by simpa using hx)) (Or.inr (by rw [hd]; exact hc)) (by
      rcases he with h | h | ⟨x, h, h1⟩
      · exact Or.inl (by simpa using h)
      · exact absurd h hc
      · exact Or.inr (Or.inr ⟨x, by simpa using h, by rw [hd]; exact h1⟩))
    show join c (raw (d :: l)) = _
    rw [ih, join_cc, if_pos ⟨hc, hd⟩]
    rfl
theorem pcs_take (n : Nat) (c : UInt8) (l : Wd) (h1 : n ≤ l.length) (h2 : ∀ i d, i < n → l[i]? = some d → srt d = srt c) (h3 : n = 0 ∨ srt c ≠ 0) (h4 : n = l.length ∨ srt c = 0 ∨ ∃ d, l[n]? = some d ∧ srt d ≠ srt c) :
    pcs (c :: l) = (if spc c = true then [] else [(c :: l.take n).map lw]) ++ pcs (l.drop n) := by
  unfold pcs
  rw [raw_take n c l h1 h2 h3 h4, List.filterMap_cons]
  unfold keep
  by_cases h : spc c = true
  · simp only [h, if_true]; rfl
  · simp only [h]; rfl
/-- Bytes by a number. -/
theorem all_bytes {p : UInt8 → Prop} [DecidablePred p] (h : (List.range 256).all (fun n => decide (p (UInt8.ofNat n))) = true) (c : UInt8) : p c := by
  have h1 := List.all_eq_true.1 h c.toNat (List.mem_range.2 (UInt8.toNat_lt c))
  have h2 : UInt8.ofNat c.toNat = c := by simp
  rw [h2] at h1
  exact of_decide_eq_true h1
theorem srt_lw (c : UInt8) : srt (lw c) = srt c := all_bytes (p := fun c => srt (lw c) = srt c) (by decide +kernel) c
theorem lw_lw (c : UInt8) : lw (lw c) = lw c := all_bytes (p := fun c => lw (lw c) = lw c) (by decide +kernel) c
theorem spc_lw (c : UInt8) : spc (lw c) = spc c := all_bytes (p := fun c => spc (lw c) = spc c) (by decide +kernel) c
theorem spc_srt (c : UInt8) : spc c = true → srt c = 0 := all_bytes (p := fun c => spc c = true → srt c = 0) (by decide +kernel) c
theorem lw_map (l : Wd) : (l.map lw).map lw = l.map lw := by simp [List.map_map, Function.comp_def, lw_lw]
theorem raw_low (l : Wd) : raw (l.map lw) = (raw l).map (List.map lw) := by
  induction l with
  | nil => rfl
  | cons c l ih =>
    show join (lw c) (raw (l.map lw)) = (join c (raw l)).map (List.map lw)
    rw [ih]
    cases e : raw l with
    | nil => rfl
    | cons q rest =>
      cases q with
      | nil => rfl
      | cons d p =>
        show join (lw c) ((lw d :: p.map lw) :: rest.map (List.map lw)) = _
        unfold join
        simp only [srt_lw]
        split <;> rfl
theorem keep_low (p : Wd) : keep (p.map lw) = keep p := by
  cases p with
  | nil => rfl
  | cons c p =>
    show (if spc (lw c) = true then none else some (((c :: p).map lw).map lw)) = if spc c = true then none else some ((c :: p).map lw)
    rw [spc_lw, lw_map]
theorem pcs_low (l : Wd) : pcs (l.map lw) = pcs l := by
  unfold pcs
  rw [raw_low, List.filterMap_map]
  congr 1
  funext p
  exact keep_low p
theorem join_app (c : UInt8) (a b : List Wd) (ha : a ≠ []) : join c (a ++ b) = join c a ++ b := by
  match a, ha with
  | [] :: a, _ => rfl
  | (d :: p) :: a, _ =>
    show join c ((d :: p) :: (a ++ b)) = _
    unfold join
    simp only
    split <;> rfl
theorem raw_ne_nil (c : UInt8) (l : Wd) : raw (c :: l) ≠ [] := by
  obtain ⟨p, rest, e⟩ := raw_head c l
  rw [e]; simp
theorem raw_app (l m : Wd) (h : ∀ d m', m = d :: m' → srt d = 0) : raw (l ++ m) = raw l ++ raw m := by
  induction l with
  | nil => rfl
  | cons c l ih =>
    cases l with
    | nil =>
      show raw (c :: m) = [c] :: raw m
      apply raw_one
      cases m with
      | nil => exact Or.inl rfl
      | cons d m' =>
        by_cases hc : srt c = 0
        · exact Or.inr (Or.inl hc)
        · exact Or.inr (Or.inr ⟨d, m', rfl, by rw [h d m' rfl]; exact fun e => hc e.symm⟩)
    | cons d l' =>
      show join c (raw (d :: l' ++ m)) = join c (raw (d :: l')) ++ raw m
      rw [ih, join_app _ _ _ (raw_ne_nil d l')]
theorem pcs_app (l m : Wd) (h : ∀ d m', m = d :: m' → srt d = 0) : pcs (l ++ m) = pcs l ++ pcs m := by
  unfold pcs; rw [raw_app l m h, List.filterMap_append]
theorem pcs_white (c : UInt8) (l : Wd) (h : spc c = true) : pcs (c :: l) = pcs l := by
  unfold pcs
  rw [raw_one c l (Or.inr (Or.inl (spc_srt c h))), List.filterMap_cons]
  simp only [keep, h, if_true]
theorem pcs_whites (a l : Wd) (h : ∀ c ∈ a, spc c = true) : pcs (a ++ l) = pcs l := by
  induction a with
  | nil => rfl
  | cons c a ih => rw [List.cons_append, pcs_white c _ (h c (by simp)), ih (fun x hx => h x (by simp [hx]))]
theorem pcs_back (l a : Wd) (h : ∀ c ∈ a, spc c = true) : pcs (l ++ a) = pcs l := by
  rw [pcs_app l a (fun d m e => spc_srt d (h d (by rw [e]; simp)))]
  have : pcs (a ++ []) = pcs [] := pcs_whites a [] h
  rw [List.append_nil] at this
  rw [this]
  show pcs l ++ [] = pcs l
  rw [List.append_nil]
/-- White space about it, and case, make no difference. -/
theorem pcs_case (a l b : Wd) (ha : ∀ c ∈ a, spc c = true) (hb : ∀ c ∈ b, spc c = true) : pcs (a ++ l.map lw ++ b) = pcs l := by
  rw [pcs_back _ b hb, pcs_whites a _ ha, pcs_low]
/-- Pieces: alike bytes all of them, of one kind; a mark stands alone. -/
def Alike (p : Wd) : Prop := ∃ c q, p = c :: q ∧ (∀ d ∈ q, srt d = srt c) ∧ (srt c = 0 → q = [])
theorem raw_alike (l : Wd) : ∀ p ∈ raw l, Alike p := by
  induction l with
  | nil => intro p h; cases h
  | cons c l ih =>
    intro p h
    change p ∈ join c (raw l) at h
    unfold join at h
    split at h
    · rename_i d q rest e
      split at h
      · rename_i hc
        rcases List.mem_cons.1 h with h | h
        · obtain ⟨c', q', e1, e2, e3⟩ := ih (d :: q) (by rw [e]; simp)
          injection e1 with e1 e4
          subst e1; subst e4
          refine ⟨c, d :: q, h, fun x hx => ?_, fun h0 => absurd h0 hc.1⟩
          rcases List.mem_cons.1 hx with hx | hx
          · rw [hx]; exact hc.2
          · rw [e2 x hx]; exact hc.2
        · exact ih p (by rw [e]; exact List.mem_cons_of_mem _ h)
      · rcases List.mem_cons.1 h with h | h
        · exact ⟨c, [], h, by simp, fun _ => rfl⟩
        · exact ih p (by rw [e]; exact h)
    · rcases List.mem_cons.1 h with h | h
      · exact ⟨c, [], h, by simp, fun _ => rfl⟩
      · exact ih p h
theorem raw_self (p : Wd) (h : Alike p) : raw p = [p] := by
  obtain ⟨c, q, rfl, h1, h2⟩ := h
  have := raw_take q.length c q (Nat.le_refl _) (fun i d _ hd => h1 d (List.mem_of_getElem? hd)) (by
    by_cases hc : srt c = 0
    · left; rw [h2 hc]; rfl
    · exact Or.inr hc) (Or.inl rfl)
  rw [this]
  simp [raw]
/-- What a piece is: alike, in lower case, no white space. -/
def Piece (p : Wd) : Prop := Alike p ∧ p.map lw = p ∧ ∀ c q, p = c :: q → spc c = false
theorem pcs_piece (l : Wd) : ∀ p ∈ pcs l, Piece p := by
  intro p hp
  obtain ⟨q, hq, e⟩ := List.mem_filterMap.1 hp
  obtain ⟨c, m, rfl, h1, h2⟩ := raw_alike l q hq
  unfold keep at e
  simp only at e
  split at e
  · cases e
  · rename_i hs
    injection e with e
    subst e
    refine ⟨⟨lw c, m.map lw, rfl, fun d hd => ?_, fun h0 => ?_⟩, lw_map _, fun c' q' e => ?_⟩
    · obtain ⟨d', hd', rfl⟩ := List.mem_map.1 hd
      rw [srt_lw, srt_lw]; exact h1 d' hd'
    · rw [srt_lw] at h0; rw [h2 h0]; rfl
    · injection e with e _
      rw [← e, spc_lw]; simpa using hs
theorem piece_pcs {p : Wd} (h : Piece p) : pcs p = [p] := by
  obtain ⟨h1, h2, h3⟩ := h
  unfold pcs
  rw [raw_self p h1]
  obtain ⟨c, q, rfl, _, _⟩ := h1
  have := h3 c q rfl
  simp only [List.filterMap_cons, List.filterMap_nil, keep]
  rw [this]
  simp only [h2]
  rfl
/-- Pieces, with white space behind each: the same pieces. -/
def glue (sep : Wd) : List Wd → Wd
  | [] => []
  | p :: l => p ++ sep ++ glue sep l
theorem pcs_glue (sep : Wd) (hs : ∀ c ∈ sep, spc c = true) (hn : sep ≠ []) : ∀ l : List Wd, (∀ p ∈ l, Piece p) → pcs (glue sep l) = l
  | [], _ => rfl
  | p :: l, h => by
    have ih := pcs_glue sep hs hn l (fun q hq => h q (by simp [hq]))
    show pcs (p ++ sep ++ glue sep l) = _
    rw [List.append_assoc, pcs_app, pcs_whites sep _ hs, ih, piece_pcs (h p (by simp))]
    · rfl
    · intro d m e
      match sep, hn with
      | d' :: sep, _ =>
        injection e with e _
        rw [← e]
        exact spc_srt d' (hs d' (by simp))
theorem glue_snoc (sep : Wd) (l : List Wd) (p : Wd) : glue sep (l ++ [p]) = glue sep l ++ (p ++ sep) := by
  induction l with
  | nil => simp [glue]
  | cons q l ih => rw [List.cons_append]; simp only [glue, ih, List.append_assoc]
theorem raw_tot (l : Wd) : (raw l).flatten = l := by
  induction l with
  | nil => rfl
  | cons c l ih =>
    show (join c (raw l)).flatten = _
    unfold join
    split
    · rename_i d q rest e
      rw [e] at ih
      split
      · simp at ih ⊢; exact ih
      · simp at ih ⊢; exact ih
    · simp [ih]
theorem flatten_len : ∀ (L : List Wd), (∀ p ∈ L, p ≠ []) → L.length ≤ L.flatten.length ∧ ∀ p ∈ L, p.length ≤ L.flatten.length
  | [], _ => by simp
  | p :: L, h => by
    obtain ⟨h1, h2⟩ := flatten_len L (fun q hq => h q (by simp [hq]))
    have hs : (p :: L).flatten.length = p.length + L.flatten.length := by rw [List.flatten_cons, List.length_append]
    have hp : 0 < p.length := List.length_pos_iff.2 (h p (by simp))
    rw [hs]
    refine ⟨by rw [List.length_cons]; omega, fun q hq => ?_⟩
    rcases List.mem_cons.1 hq with hq | hq
    · subst hq; omega
    · have := h2 q hq; omega
theorem pcs_len (l : Wd) : (pcs l).length ≤ l.length ∧ ∀ p ∈ pcs l, p.length ≤ l.length := by
  obtain ⟨h1, h2⟩ := flatten_len (raw l) (raw_ne l)
  rw [raw_tot] at h1 h2
  refine ⟨Nat.le_trans (List.length_filterMap_le _ _) h1, fun p hp => ?_⟩
  obtain ⟨q, hq, e⟩ := List.mem_filterMap.1 hp
  have := h2 q hq
  cases q with
  | nil => cases e
  | cons c q =>
    unfold keep at e
    simp only at e
    split at e
    · cases e
    · injection e with e
      rw [← e]; simpa using this
end Lb
namespace Lb
open Go
def months : List Wd := [[106, 97, 110, 117, 97, 114, 121], [102, 101, 98, 114, 117, 97, 114, 121], [109, 97, 114, 99, 104], [97, 112, 114, 105, 108], [109, 97, 121], [106, 117, 110, 101], [106, 117, 108, 121], [97, 117, 103, 117, 115, 116], [115, 101, 112, 116, 101, 109, 98, 101, 114], [111, 99, 116, 111, 98, 101, 114], [110, 111, 118, 101, 109, 98, 101, 114], [100, 101, 99, 101, 109, 98, 101, 114]]
def days : List Wd := [[109, 111, 110, 100, 97, 121], [116, 117, 101, 115, 100, 97, 121], [119, 101, 100, 110, 101, 115, 100, 97, 121], [116, 104, 117, 114, 115, 100, 97, 121], [102, 114, 105, 100, 97, 121], [115, 97, 116, 117, 114, 100, 97, 121], [115, 117, 110, 100, 97, 121]]
def zones : List (Wd × Int) := [([122], 0), ([117, 116], 0), ([117, 116, 99], 0), ([103, 109, 116], 0), ([101, 100, 116], -4), ([101, 115, 116], -5), ([99, 100, 116], -5), ([99, 115, 116], -6), ([109, 100, 116], -6), ([109, 115, 116], -7), ([112, 100, 116], -7), ([112, 115, 116], -8)]
def isPre : Wd → Wd → Bool
  | [], _ => true
  | _, [] => false
  | a :: p, b :: q => (a == b) && isPre p q
def bgF (names : List Wd) (w : Wd) : Option Nat := names.findIdx? fun n => decide (3 ≤ w.length) && isPre w n
def monF (w : Wd) : Int := match bgF months w with | some i => (i : Int) + 1 | none => 0
def wkB (w : Wd) : Bool := (bgF days w).isSome
def hrF (w : Wd) : Int × Bool := match zones.find? fun p => decide (p.1 = w) with
  | some p => (p.2, true)
  | none => (0, match w with | [c] => srt c == 2 && !(decide (w = [106])) | _ => false)
structure R where
  l : List Wd
  bad : Bool
  y : Int
  mo : Int
  d : Int
  h : Int
  mi : Int
  s : Int
  east : Int
def nx (r : R) : Wd := r.l.headD []
def tl (r : R) : R := { r with l := r.l.tail }
def mkBad (r : R) : R := { r with bad := true }
def dgW (lo hi : Nat) : Wd → Bool
  | [] => false
  | c :: p => decide (lo ≤ p.length + 1) && decide (p.length + 1 ≤ hi) && (srt c == 1)
def dgs (lo hi : Nat) (r : R) : Bool := dgW lo hi (nx r)
def numL (n : Int) (w : Wd) : Int := w.foldl (fun n c => IntKind.i64.wrap (IntKind.i64.wrap (n * 10) + ((c.toNat % 16 : Nat) : Int))) n
def nmV (lo hi : Nat) (r : R) : Int := if dgs lo hi r = true then numL 0 (nx r) else 0
def nmR (lo hi : Nat) (r : R) : R := if dgs lo hi r = true then tl r else mkBad r
def mbB (w : Wd) (r : R) : Bool := decide (nx r = w)
def mbR (w : Wd) (r : R) : R := if nx r = w then tl r else r
def muR (w : Wd) (r : R) : R := if nx r = w then tl r else mkBad r
def sY (v : Int) (r : R) : R := { r with y := v }
def sMo (v : Int) (r : R) : R := { r with mo := v }
def sD (v : Int) (r : R) : R := { r with d := v }
def sH (v : Int) (r : R) : R := { r with h := v }
def sMi (v : Int) (r : R) : R := { r with mi := v }
def sS (v : Int) (r : R) : R := { r with s := v }
def sE (v : Int) (r : R) : R := { r with east := v }
def orB (b : Bool) (r : R) : R := { r with bad := r.bad || b }
def moR (r : R) : R := if monF (nx r) = 0 then mkBad (sMo 0 r) else tl (sMo (monF (nx r)) r)
def wkR (r : R) : R := mbR [44] (if wkB (nx r) = true then tl r else r)
def clB (r : R) : Bool := dgs 1 1048576 r
def cl1 (r : R) : R := sH (nmV 1 2 r) (nmR 1 2 r)
def cl2 (r : R) : R := muR [58] (cl1 r)
def cl3 (r : R) : R := sMi (nmV 2 2 (cl2 r)) (nmR 2 2 (cl2 r))
def cl4 (r : R) : R := sS (nmV 2 2 r) (nmR 2 2 r)
def clR (r : R) : R :=
  if clB r = true then
    if mbB [58] (cl3 r) = true then
      if mbB [46] (cl4 (tl (cl3 r))) = true then nmR 1 1048576 (tl (cl4 (tl (cl3 r)))) else cl4 (tl (cl3 r))
    else cl3 r
  else r
def znF (sg h m : Int) (r : R) : R := sE (sg * (h * 60 + m)) (orB (decide (h > 23) || decide (m > 59)) r)
def znO (sg : Int) (r : R) : R :=
  if dgs 4 4 r = true then znF sg ((nmV 4 4 r) / 100) ((nmV 4 4 r) % 100) (tl r)
  else if mbB [58] (nmR 2 2 r) = true then znF sg (nmV 2 2 r) (nmV 2 2 (tl (nmR 2 2 r))) (nmR 2 2 (tl (nmR 2 2 r)))
  else znF sg (nmV 2 2 r) 0 (nmR 2 2 r)
def znR (r : R) : R :=
  if r.l = [] then r
  else if nx r = [43] then znO 1 (tl r)
  else if nx r = [45] then znO (-1) (tl r)
  else tl (sE ((hrF (nx r)).1 * 60) (orB (!(hrF (nx r)).2) r))
def f1a (r : R) : R := muR [45] (sY (nmV 4 4 r) (nmR 4 4 r))
def f1b (r : R) : R := muR [45] (sMo (nmV 1 2 r) (nmR 1 2 r))
def nmD (r : R) : R := sD (nmV 1 2 r) (nmR 1 2 r)
def nmY (r : R) : R := sY (nmV 4 4 r) (nmR 4 4 r)
def fT (r : R) : R := if mbB [116] r = true then (if dgs 1 1048576 (tl r) = true then tl r else mkBad (tl r)) else r
def fst (r : R) : R := fT (nmD (f1b (f1a r)))
def nmS (r : R) : R := if dgs 2 2 r = true then sY (if 1900 + nmV 2 2 r < 1950 then 2000 + nmV 2 2 r else 1900 + nmV 2 2 r) (nmR 2 2 r) else nmY r
def snd (r : R) : R := nmS (mbR [45] (moR (mbR [45] (nmD (wkR r)))))
def thd (r : R) : R := nmY (mbR [44] (nmD (moR (wkR r))))
def start (l : List Wd) : R := ⟨l, false, 0, 0, 0, 0, 0, 0, 0⟩
def ckz (r : R) : R := if clB r = true then znR (clR r) else r
def okR (r : R) : Bool := !r.bad && decide (r.l = []) && Cv.secOk r.y r.mo r.d r.h r.mi r.s r.east
def resR (r : R) : Option Int := if okR r = true then some (Cv.secV r.y r.mo r.d r.h r.mi r.s r.east) else none
def form (k : Nat) (l : List Wd) : R := ckz (match k with | 0 => fst (start l) | 1 => snd (start l) | _ => thd (start l))
def parseL (l : List Wd) : Option Int := match resR (form 0 l) with
  | some v => some v
  | none => match resR (form 1 l) with
    | some v => some v
    | none => resR (form 2 l)
def parse (s : Wd) : Option Int := parseL (pcs s)
/-- A number of at most four digits is small. -/
theorem numL_bd : ∀ (w : Wd) (n : Int) (k : Nat), 0 ≤ n → n + 1 ≤ (16 : Int) ^ k → k + w.length ≤ 8 → 0 ≤ numL n w ∧ numL n w + 1 ≤ (16 : Int) ^ (k + w.length)
  | [], n, k, h0, h1, _ => ⟨h0, h1⟩
  | c :: w, n, k, h0, h1, h2 => by
    have hp : (16 : Int) ^ (k + 1) = 16 ^ k * 16 := Int.pow_succ _ _
    have hm : (16 : Int) ^ k ≤ 16 ^ 8 := by
      have : k ≤ 8 := by simp at h2; omega
      exact_mod_cast Nat.pow_le_pow_right (by decide : 0 < 16) this
    have hc : c.toNat % 16 < 16 := Nat.mod_lt _ (by decide)
    have e8 : (16 : Int) ^ 8 = 4294967296 := by decide
    have w1 : IntKind.i64.wrap (n * 10) = n * 10 := by simp [IntKind.wrap, IntKind.bits, IntKind.signed]; omega
    have w2 : IntKind.i64.wrap (n * 10 + ((c.toNat % 16 : Nat) : Int)) = n * 10 + ((c.toNat % 16 : Nat) : Int) := by simp [IntKind.wrap, IntKind.bits, IntKind.signed]; omega
    have ih := numL_bd w (n * 10 + ((c.toNat % 16 : Nat) : Int)) (k + 1) (by omega) (by omega) (by simp at h2; omega)
    have e : numL n (c :: w) = numL (n * 10 + ((c.toNat % 16 : Nat) : Int)) w := by
      show numL (IntKind.i64.wrap (IntKind.i64.wrap (n * 10) + _)) w = _
      rw [w1, w2]
    have ek : k + (c :: w).length = k + 1 + w.length := by simp; omega
    rw [e, ek]; exact ih
theorem dgW_len {lo hi : Nat} {w : Wd} (h : dgW lo hi w = true) : lo ≤ w.length ∧ w.length ≤ hi ∧ w ≠ [] := by
  cases w with
  | nil => cases h
  | cons c p => unfold dgW at h; simp at h; simp; omega
theorem nmV_bd (lo hi : Nat) (r : R) (h : hi ≤ 4) : 0 ≤ nmV lo hi r ∧ nmV lo hi r ≤ 65535 := by
  unfold nmV
  split
  · rename_i hd
    obtain ⟨_, h2, _⟩ := dgW_len hd
    obtain ⟨h3, h4⟩ := numL_bd (nx r) 0 0 (by omega) (by decide) (by omega)
    refine ⟨h3, ?_⟩
    have hm : (16 : Int) ^ (0 + (nx r).length) ≤ 16 ^ 4 := by exact_mod_cast Nat.pow_le_pow_right (by decide : 0 < 16) (by omega)
    have e4 : (16 : Int) ^ 4 = 65536 := by decide
    omega
  · omega
end Lb
namespace Go.Proofs.YtbhafhbaldddiaaGreatDoor
open Go.RowKit
open Go
open Lb (R Wd)
set_option linter.unusedVariables false
theorem lgb_set (w : World) (a : Addr) (v : Value) : w.grownBy (w.setCell a v) (some a.block) := ⟨rfl, rfl, rfl, by simp, fun k _ hk => Below.heap_setCell w a v k (fun e => hk (by rw [e]))⟩
theorem lgb_of_below {w w' : World} (h : Below w.heap.size w w') (row : Option Nat) : w.grownBy w' row := ⟨h.os, h.tape, h.output, h.size, fun k hk _ => h.block k hk⟩
theorem lbelow_undrew {n : Nat} {w w' : World} (h : Below n w.drew w') : Below n w w' := ⟨h.os, h.tape, h.output, h.size, h.block⟩
theorem lbyte_at (s : ByteArray) (i : Nat) (h : i < s.size) : ((s[i]'h).toNat : Int) = (Sm.B s i : Int) := by rw [Sm.B_at s i h]
theorem linfo_str : (Tryz.prog.info? 9).map (fun i => (i.zero, i.size, i.bytes)) = some (some (.string ByteArray.empty), 1, 16) := by kernel_rfl
/-- A row of pieces. -/
def PRow (W : World) (B : Nat) (v : Value) (l : List Wd) : Prop :=
  ∃ p c, v = .slice p l.length c ∧ l.length ≤ c ∧ (l ≠ [] → ∃ g i, p = some ⟨g, i, none⟩ ∧ g < B ∧ ∀ k s, l[k]? = some s → W.cell? ⟨g, i + k, none⟩ = some (.string (Ml.mk s)))
def PSz (l : List Wd) : Prop := l.length ≤ 100000 ∧ ∀ s ∈ l, s.length ≤ 100000
theorem PSz.tail {l : List Wd} (h : PSz l) : PSz l.tail := ⟨by have := h.1; simp; omega, fun s hs => h.2 s (List.mem_of_mem_tail hs)⟩
theorem PSz.nx {r : R} (h : PSz r.l) : (Lb.nx r).length ≤ 100000 := by
  unfold Lb.nx
  cases e : r.l with
  | nil => simp
  | cons a t => exact h.2 a (by rw [e]; simp)
def cellsOf (v : Value) (r : R) : Nat → Value
  | 0 => v
  | 1 => .bool r.bad
  | 2 => .int .i64 r.y
  | 3 => .int .i64 r.mo
  | 4 => .int .i64 r.d
  | 5 => .int .i64 r.h
  | 6 => .int .i64 r.mi
  | 7 => .int .i64 r.s
  | _ => .int .i64 r.east
theorem nine {P : Nat → Prop} (h0 : P 0) (h1 : P 1) (h2 : P 2) (h3 : P 3) (h4 : P 4) (h5 : P 5) (h6 : P 6) (h7 : P 7) (h8 : P 8) : ∀ k, k < 9 → P k
  | 0, _ => h0
  | 1, _ => h1
  | 2, _ => h2
  | 3, _ => h3
  | 4, _ => h4
  | 5, _ => h5
  | 6, _ => h6
  | 7, _ => h7
  | 8, _ => h8
  | n + 9, h => absurd h (by omega)
/-- A reader r in the block B; the world from w0 on. -/
def Rd (w0 W : World) (B : Nat) (r : R) : Prop :=
  (∃ v, (∀ k, k < 9 → W.cell? ⟨B, k, none⟩ = some (cellsOf v r k)) ∧ PRow W B v r.l) ∧ (∀ k, k < 9 → W.frozen? ⟨B, k, none⟩ = false) ∧ B < W.heap.size ∧ w0.heap.size ≤ B ∧ Below w0.heap.size w0 W ∧ PSz r.l
def RdPost (v : Value) (w0 : World) (B : Nat) (r : R) (e : Ending) (W' : World) : Prop := e = .returned v ∧ Rd w0 W' B r
theorem PRow.far {W W' : World} {B : Nat} {v : Value} {l : List Wd} (h : PRow W B v l) (hk : ∀ a : Addr, a.block < B → W'.cell? a = W.cell? a) : PRow W' B v l := by
  obtain ⟨p, c, hv, hc, hr⟩ := h
  refine ⟨p, c, hv, hc, fun hl => ?_⟩
  obtain ⟨g, i, hp, hg, hs⟩ := hr hl
  exact ⟨g, i, hp, hg, fun k s hk' => (hk _ hg).trans (hs k s hk')⟩
section
variable {w0 W : World} {B : Nat} {r : R}
theorem Rd.quiet {W' : World} (h : Rd w0 W B r) (hb : Below W.heap.size W W') : Rd w0 W' B r := by
  obtain ⟨⟨v, hv, hp⟩, hf, hB, h0, hw, hs⟩ := h
  refine ⟨⟨v, fun k hk => (hb.cell (p := ⟨B, k, none⟩) hB).trans (hv k hk), hp.far fun a ha => hb.cell (Nat.lt_trans ha hB)⟩, fun k hk => ?_, Nat.lt_of_lt_of_le hB hb.size, h0, hw.trans (hb.mono (by omega)), hs⟩
  have := gb_frozen (lgb_of_below hb none) (a := ⟨B, k, none⟩) hB (by simp)
  exact this.trans (hf k hk)
theorem Rd.drew (h : Rd w0 W B r) : Rd w0 W.drew B r := h.quiet ((Below.refl _ W).drew)
/-- A store into the reader's block. -/
theorem Rd.put (h : Rd w0 W B r) (j : Nat) (x : Value) (r' : R) (hj : j < 9) (h1 : ∀ v, PRow W B v r.l → ∃ v', PRow W B v' r'.l ∧ ∀ k, k < 9 → cellsOf v' r' k = if k = j then x else cellsOf v r k) (hs' : PSz r'.l) : Rd w0 (W.setCell ⟨B, j, none⟩ x) B r' := by
  obtain ⟨⟨v, hv, hp⟩, hf, hB, h0, hw, hs⟩ := h
  obtain ⟨v', hp', hc⟩ := h1 v hp
  refine ⟨⟨v', fun k hk => ?_, hp'.far fun a ha => World.cell?_setCell_other _ _ _ _ (fun e => absurd (congrArg Addr.block e) (by show ¬ B = _; omega))⟩, fun k hk => by rw [World.frozen?_setCell]; exact hf k hk, by simpa using hB, h0, Below.setCell hw (by show _ ≤ B; omega) _, hs'⟩
  by_cases e : k = j
  · subst e
    rw [World.cell?_setCell_same _ _ _ (hv _ hk), hc k hk, if_pos rfl]
  · rw [World.cell?_setCell_other _ _ _ _ (by intro q; injection q with _ q; omega), hv k hk, hc k hk, if_neg e]
theorem Rd.bad1 (h : Rd w0 W B r) (b : Bool) : Rd w0 (W.setCell ⟨B, 1, none⟩ (.bool b)) B { r with bad := b } := h.put 1 _ _ (by omega) (fun v hv => ⟨v, hv, nine rfl rfl rfl rfl rfl rfl rfl rfl rfl⟩) h.2.2.2.2.2
theorem Rd.mkBad (h : Rd w0 W B r) : Rd w0 (W.setCell ⟨B, 1, none⟩ (.bool true)) B (Lb.mkBad r) := h.bad1 true
theorem Rd.sY (h : Rd w0 W B r) (n : Int) : Rd w0 (W.setCell ⟨B, 2, none⟩ (.int .i64 n)) B (Lb.sY n r) := h.put 2 _ _ (by omega) (fun v hv => ⟨v, hv, nine rfl rfl rfl rfl rfl rfl rfl rfl rfl⟩) h.2.2.2.2.2
theorem Rd.sMo (h : Rd w0 W B r) (n : Int) : Rd w0 (W.setCell ⟨B, 3, none⟩ (.int .i64 n)) B (Lb.sMo n r) := h.put 3 _ _ (by omega) (fun v hv => ⟨v, hv, nine rfl rfl rfl rfl rfl rfl rfl rfl rfl⟩) h.2.2.2.2.2
theorem Rd.sD (h : Rd w0 W B r) (n : Int) : Rd w0 (W.setCell ⟨B, 4, none⟩ (.int .i64 n)) B (Lb.sD n r) := h.put 4 _ _ (by omega) (fun v hv => ⟨v, hv, nine rfl rfl rfl rfl rfl rfl rfl rfl rfl⟩) h.2.2.2.2.2
theorem Rd.sH (h : Rd w0 W B r) (n : Int) : Rd w0 (W.setCell ⟨B, 5, none⟩ (.int .i64 n)) B (Lb.sH n r) := h.put 5 _ _ (by omega) (fun v hv => ⟨v, hv, nine rfl rfl rfl rfl rfl rfl rfl rfl rfl⟩) h.2.2.2.2.2
theorem Rd.sMi (h : Rd w0 W B r) (n : Int) : Rd w0 (W.setCell ⟨B, 6, none⟩ (.int .i64 n)) B (Lb.sMi n r) := h.put 6 _ _ (by omega) (fun v hv => ⟨v, hv, nine rfl rfl rfl rfl rfl rfl rfl rfl rfl⟩) h.2.2.2.2.2
theorem Rd.sS (h : Rd w0 W B r) (n : Int) : Rd w0 (W.setCell ⟨B, 7, none⟩ (.int .i64 n)) B (Lb.sS n r) := h.put 7 _ _ (by omega) (fun v hv => ⟨v, hv, nine rfl rfl rfl rfl rfl rfl rfl rfl rfl⟩) h.2.2.2.2.2
theorem Rd.sE (h : Rd w0 W B r) (n : Int) : Rd w0 (W.setCell ⟨B, 8, none⟩ (.int .i64 n)) B (Lb.sE n r) := h.put 8 _ _ (by omega) (fun v hv => ⟨v, hv, nine rfl rfl rfl rfl rfl rfl rfl rfl rfl⟩) h.2.2.2.2.2
theorem PRow.tl {x : Wd} {t : List Wd} {c g i : Nat} (hc : t.length + 1 ≤ c) (hg : g < B) (hs : ∀ k s, (x :: t)[k]? = some s → W.cell? ⟨g, i + k, none⟩ = some (.string (Ml.mk s))) : PRow W B (.slice (some ⟨g, if 1 < c then i + 1 else i, none⟩) t.length (c - 1)) t := by
  refine ⟨_, _, rfl, by omega, fun ht => ⟨g, i + 1, ?_, hg, fun k s hk => ?_⟩⟩
  · have : 0 < t.length := List.length_pos_iff.2 ht
    rw [if_pos (by omega)]
  · have := hs (k + 1) s (by simpa using hk)
    rw [← this]
    congr 2
    omega
theorem Rd.tl (h : Rd w0 W B r) (v' : Value) (hv : PRow W B v' r.l.tail) : Rd w0 (W.setCell ⟨B, 0, none⟩ v') B (Lb.tl r) :=
  h.put 0 _ _ (by omega) (fun v _ => ⟨v', hv, nine rfl rfl rfl rfl rfl rfl rfl rfl rfl⟩) h.2.2.2.2.2.tail
end
end Go.Proofs.YtbhafhbaldddiaaGreatDoor
namespace Go.Proofs.YtbhafhbaldddiaaGreatDoor
open Go.RowKit
open Go
set_option linter.unusedVariables false
theorem spc_any (c : UInt8) (w : World) : Calls Tryz.prog 34 #[.int .i64 (c.toNat : Int)] w (fun e w' => e = .returned (.bool (Lb.spc c)) ∧ w' = w) := by
  have h : c.toNat < 256 := UInt8.toNat_lt c
  unfold Lb.spc
  generalize c.toNat = n at h
  go_enter Tryz.func34, Tryz.ntmps34
  by_cases h1 : n = 32
  · subst h1; go_wp2; go_ret; exact ⟨rfl, rfl⟩
  by_cases h2 : n = 9
  · subst h2; go_wp2; go_ret; exact ⟨rfl, rfl⟩
  by_cases h3 : n = 10
  · subst h3; go_wp2; go_ret; exact ⟨rfl, rfl⟩
  by_cases h4 : n = 13
  · subst h4; go_wp2; go_ret; exact ⟨rfl, rfl⟩
  have e1 : ((n : Int) == 32) = false := by simp; omega
  have e2 : ((n : Int) == 9) = false := by simp; omega
  have e3 : ((n : Int) == 10) = false := by simp; omega
  have e4 : ((n : Int) == 13) = false := by simp; omega
  have f1 : (n == 32) = false := by simp; omega
  have f2 : (n == 9) = false := by simp; omega
  have f3 : (n == 10) = false := by simp; omega
  have f4 : (n == 13) = false := by simp; omega
  rw [f1, f2, f3, f4]
  go_wp2
  go_ret
  exact ⟨rfl, rfl⟩
theorem or32 {n : Nat} (h : n < 256) : bits .or .u8 (n : Int) 32 = ((n ||| 32 : Nat) : Int) := by
  have h1 : (List.range 256).all (fun n => decide (bits .or .u8 (n : Int) 32 = ((n ||| 32 : Nat) : Int))) = true := by decide +kernel
  exact of_decide_eq_true (List.all_eq_true.1 h1 n (List.mem_range.2 h))
theorem srt_any (c : UInt8) (w : World) : Calls Tryz.prog 33 #[.int .u8 (c.toNat : Int)] w (fun e w' => e = .returned (.int .i64 (Lb.srt c : Nat)) ∧ w' = w) := by
  have h : c.toNat < 256 := UInt8.toNat_lt c
  unfold Lb.srt
  generalize c.toNat = n at h
  obtain ⟨k, hk⟩ : ∃ k, Lb.srtN n = k := ⟨_, rfl⟩
  rw [hk]
  have hor := or32 h
  unfold Lb.srtN at hk
  generalize n ||| 32 = m at hk hor
  have HK := Lib.hid hk
  clear hk
  go_enter Tryz.func33, Tryz.ntmps33
  go_wp2
  all_goals
    have hk := HK.out
    go_ret
    first
    | (rw [if_pos (by omega)] at hk; subst hk; exact ⟨rfl, rfl⟩)
    | (rw [if_neg (by omega), if_pos (by omega)] at hk; subst hk; exact ⟨rfl, rfl⟩)
    | (rw [if_neg (by omega), if_neg (by omega)] at hk; subst hk; exact ⟨rfl, rfl⟩)
end Go.Proofs.YtbhafhbaldddiaaGreatDoor
