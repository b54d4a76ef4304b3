/- Plain laws on UTF-8: scalars and their bytes, as numbers. No program in sight. -/
namespace Ut
def isSc (r : Int) : Prop := 0 ≤ r ∧ r ≤ 1114111 ∧ (r < 55296 ∨ 57343 < r)
instance (r : Int) : Decidable (isSc r) := by unfold isSc; infer_instance
/-- How many bytes follow a first one (none: it is none), its bits, the least and the greatest of the next one. -/
def lead (c : Nat) : Option (Nat × Nat × Nat × Nat) :=
  if c < 128 then some (0, c, 128, 191)
  else if c < 194 ∨ 244 < c then none
  else if c < 224 then some (1, c % 32, 128, 191)
  else if c < 240 then some (2, c % 16, if c = 224 then 160 else 128, if c = 237 then 159 else 191)
  else some (3, c % 8, if c = 240 then 144 else 128, if c = 244 then 143 else 191)
def cont : Nat → Nat → Nat → Nat → Nat → List Nat → Int × Nat
  | 0, r, _, _, n, _ => ((r : Int), n)
  | _ + 1, _, _, _, n, [] => (-1, n)
  | k + 1, r, lo, hi, n, c :: rest => if lo ≤ c ∧ c ≤ hi then cont k (r * 64 + c % 64) 128 191 (n + 1) rest else (-1, n)
/-- What stands ahead: a scalar (-1: a wrong part), and how many bytes that is. -/
def piece : List Nat → Int × Nat
  | [] => (-1, 1)
  | c :: rest => match lead c with | none => (-1, 1) | some (k, r, lo, hi) => cont k r lo hi 1 rest
def enc (r : Nat) : List Nat :=
  if r < 128 then [r]
  else if r < 2048 then [192 + r / 64, 128 + r % 64]
  else if r < 65536 then [224 + r / 4096, 128 + r / 64 % 64, 128 + r % 64]
  else [240 + r / 262144, 128 + r / 4096 % 64, 128 + r / 64 % 64, 128 + r % 64]
def encI (r : Int) : List Nat := enc r.toNat
theorem enc_len (r : Nat) : 1 ≤ (enc r).length ∧ (enc r).length ≤ 4 := by
  unfold enc
  repeat' split
  all_goals simp
theorem cont_one {k r lo hi n c : Nat} {rest : List Nat} (h1 : lo ≤ c) (h2 : c ≤ hi) : cont (k + 1) r lo hi n (c :: rest) = cont k (r * 64 + c % 64) 128 191 (n + 1) rest := by
  show (if lo ≤ c ∧ c ≤ hi then _ else _) = _
  rw [if_pos ⟨h1, h2⟩]
theorem enc_bytes {r : Nat} (h : isSc (r : Int)) : ∀ b ∈ enc r, b < 256 := by
  obtain ⟨h0, h1, h2⟩ := h
  unfold enc
  repeat' split
  all_goals
    intro b hb
    simp only [List.mem_cons, List.not_mem_nil, or_false] at hb
    omega
/-- What is written is read. -/
theorem piece_enc {r : Nat} (h : isSc (r : Int)) (t : List Nat) : piece (enc r ++ t) = ((r : Int), (enc r).length) := by
  obtain ⟨h0, h1, h2⟩ := h
  unfold enc
  split
  · rename_i q
    show (match lead r with | none => (-1, 1) | some (k, x, lo, hi) => cont k x lo hi 1 t) = _
    have e : lead r = some (0, r, 128, 191) := by unfold lead; rw [if_pos q]
    rw [e]
    rfl
  · split
    · rename_i q1 q2
      show (match lead (192 + r / 64) with | none => (-1, 1) | some (k, x, lo, hi) => cont k x lo hi 1 ((128 + r % 64) :: t)) = _
      have e : lead (192 + r / 64) = some (1, r / 64, 128, 191) := by
        unfold lead
        rw [if_neg (by omega), if_neg (by omega), if_pos (by omega)]
        congr 3
        omega
      rw [e]
      show cont 1 (r / 64) 128 191 1 ((128 + r % 64) :: t) = _
      rw [cont_one (by omega) (by omega)]
      show (((r / 64 * 64 + (128 + r % 64) % 64 : Nat) : Int), 2) = ((r : Int), 2)
      rw [show r / 64 * 64 + (128 + r % 64) % 64 = r by omega]
    · split
      · rename_i q1 q2 q3
        show (match lead (224 + r / 4096) with | none => (-1, 1) | some (k, x, lo, hi) => cont k x lo hi 1 ((128 + r / 64 % 64) :: (128 + r % 64) :: t)) = _
        have e : lead (224 + r / 4096) = some (2, r / 4096, if 224 + r / 4096 = 224 then 160 else 128, if 224 + r / 4096 = 237 then 159 else 191) := by
          unfold lead
          rw [if_neg (by omega), if_neg (by omega), if_neg (by omega), if_pos (by omega)]
          congr 3
          omega
        rw [e]
        show cont 2 (r / 4096) (if 224 + r / 4096 = 224 then 160 else 128) (if 224 + r / 4096 = 237 then 159 else 191) 1 ((128 + r / 64 % 64) :: (128 + r % 64) :: t) = _
        rw [cont_one (by split <;> omega) (by split <;> omega), cont_one (by omega) (by omega)]
        show ((((r / 4096 * 64 + (128 + r / 64 % 64) % 64) * 64 + (128 + r % 64) % 64 : Nat) : Int), 3) = ((r : Int), 3)
        rw [show (r / 4096 * 64 + (128 + r / 64 % 64) % 64) * 64 + (128 + r % 64) % 64 = r by omega]
      · rename_i q1 q2 q3
        show (match lead (240 + r / 262144) with | none => (-1, 1) | some (k, x, lo, hi) => cont k x lo hi 1 ((128 + r / 4096 % 64) :: (128 + r / 64 % 64) :: (128 + r % 64) :: t)) = _
        have e : lead (240 + r / 262144) = some (3, r / 262144, if 240 + r / 262144 = 240 then 144 else 128, if 240 + r / 262144 = 244 then 143 else 191) := by
          unfold lead
          rw [if_neg (by omega), if_neg (by omega), if_neg (by omega), if_neg (by omega)]
          congr 3
          omega
        rw [e]
        show cont 3 (r / 262144) (if 240 + r / 262144 = 240 then 144 else 128) (if 240 + r / 262144 = 244 then 143 else 191) 1 ((128 + r / 4096 % 64) :: (128 + r / 64 % 64) :: (128 + r % 64) :: t) = _
        rw [cont_one (by split <;> omega) (by split <;> omega), cont_one (by omega) (by omega), cont_one (by omega) (by omega)]
        show (((((r / 262144 * 64 + (128 + r / 4096 % 64) % 64) * 64 + (128 + r / 64 % 64) % 64) * 64 + (128 + r % 64) % 64 : Nat) : Int), 4) = ((r : Int), 4)
        rw [show ((r / 262144 * 64 + (128 + r / 4096 % 64) % 64) * 64 + (128 + r / 64 % 64) % 64) * 64 + (128 + r % 64) % 64 = r by omega]
theorem cont_inv {k r lo hi n : Nat} {u : List Nat} {x : Int} {m : Nat} (h : cont (k + 1) r lo hi n u = (x, m)) (hx : 0 ≤ x) : ∃ c rest, u = c :: rest ∧ lo ≤ c ∧ c ≤ hi ∧ cont k (r * 64 + c % 64) 128 191 (n + 1) rest = (x, m) := by
  cases u with
  | nil =>
    have : ((-1 : Int), n) = (x, m) := h
    injection this with h1 _
    omega
  | cons c rest =>
    have h' : (if lo ≤ c ∧ c ≤ hi then cont k (r * 64 + c % 64) 128 191 (n + 1) rest else (-1, n)) = (x, m) := h
    by_cases q : lo ≤ c ∧ c ≤ hi
    · rw [if_pos q] at h'
      exact ⟨c, rest, rfl, q.1, q.2, h'⟩
    · rw [if_neg q] at h'
      injection h' with h1 _
      omega
theorem cont_zero {r lo hi n : Nat} {u : List Nat} {x : Int} {m : Nat} (h : cont 0 r lo hi n u = (x, m)) : x = (r : Int) ∧ m = n := by
  have : ((r : Int), n) = (x, m) := h
  injection this with h1 h2
  exact ⟨h1.symm, h2.symm⟩
/-- What is read is written so. -/
theorem piece_dec {u : List Nat} {x : Int} {m : Nat} (h : piece u = (x, m)) (hx : 0 ≤ x) : ∃ r : Nat, x = (r : Int) ∧ isSc (r : Int) ∧ u.take m = enc r ∧ m = (enc r).length ∧ m ≤ u.length := by
  cases u with
  | nil =>
    have : ((-1 : Int), 1) = (x, m) := h
    injection this with h1 _
    omega
  | cons c rest =>
    have h' : (match lead c with | none => (-1, 1) | some (k, y, lo, hi) => cont k y lo hi 1 rest) = (x, m) := h
    unfold lead at h'
    by_cases q1 : c < 128
    · rw [if_pos q1] at h'
      obtain ⟨e1, e2⟩ := cont_zero h'
      subst e2
      refine ⟨c, e1, by unfold isSc; omega, ?_, ?_, by simp⟩
      · unfold enc; rw [if_pos q1]; simp
      · unfold enc; rw [if_pos q1]; rfl
    · rw [if_neg q1] at h'
      by_cases q2 : c < 194 ∨ 244 < c
      · rw [if_pos q2] at h'
        have : ((-1 : Int), 1) = (x, m) := h'
        injection this with h1 _
        omega
      · rw [if_neg q2] at h'
        by_cases q3 : c < 224
        · rw [if_pos q3] at h'
          obtain ⟨c1, r1, rfl, a1, a2, h1⟩ := cont_inv (k := 0) h' hx
          obtain ⟨e1, e2⟩ := cont_zero h1
          subst e2
          have hr : enc (c % 32 * 64 + c1 % 64) = [c, c1] := by
            unfold enc
            rw [if_neg (by omega), if_pos (by omega)]
            congr 1
            · omega
            · congr 1; omega
          refine ⟨c % 32 * 64 + c1 % 64, e1, by unfold isSc; omega, ?_, ?_, by simp⟩
          · rw [hr]; rfl
          · rw [hr]; rfl
        · rw [if_neg q3] at h'
          by_cases q4 : c < 240
          · rw [if_pos q4] at h'
            obtain ⟨c1, r1, rfl, a1, a2, h1⟩ := cont_inv (k := 1) h' hx
            obtain ⟨c2, r2, rfl, b1, b2, h2⟩ := cont_inv (k := 0) h1 hx
            obtain ⟨e1, e2⟩ := cont_zero h2
            subst e2
            have a3 : 128 ≤ c1 ∧ c1 ≤ 191 ∧ (c = 224 → 160 ≤ c1) ∧ (c = 237 → c1 ≤ 159) := by
              split at a1 <;> split at a2 <;> omega
            have hr : enc ((c % 16 * 64 + c1 % 64) * 64 + c2 % 64) = [c, c1, c2] := by
              unfold enc
              rw [if_neg (by omega), if_neg (by omega), if_pos (by omega)]
              congr 1
              · omega
              · congr 1
                · omega
                · congr 1; omega
            refine ⟨(c % 16 * 64 + c1 % 64) * 64 + c2 % 64, e1, by unfold isSc; omega, ?_, ?_, by simp⟩
            · rw [hr]; rfl
            · rw [hr]; rfl
          · rw [if_neg q4] at h'
            obtain ⟨c1, r1, rfl, a1, a2, h1⟩ := cont_inv (k := 2) h' hx
            obtain ⟨c2, r2, rfl, b1, b2, h2⟩ := cont_inv (k := 1) h1 hx
            obtain ⟨c3, r3, rfl, d1, d2, h3⟩ := cont_inv (k := 0) h2 hx
            obtain ⟨e1, e2⟩ := cont_zero h3
            subst e2
            have a3 : 128 ≤ c1 ∧ c1 ≤ 191 ∧ (c = 240 → 144 ≤ c1) ∧ (c = 244 → c1 ≤ 143) := by
              split at a1 <;> split at a2 <;> omega
            have hr : enc (((c % 8 * 64 + c1 % 64) * 64 + c2 % 64) * 64 + c3 % 64) = [c, c1, c2, c3] := by
              unfold enc
              rw [if_neg (by omega), if_neg (by omega), if_neg (by omega)]
              congr 1
              · omega
              · congr 1
                · omega
                · congr 1
                  · omega
                  · congr 1; omega
            refine ⟨((c % 8 * 64 + c1 % 64) * 64 + c2 % 64) * 64 + c3 % 64, e1, by unfold isSc; omega, ?_, ?_, by simp⟩
            · rw [hr]; rfl
            · rw [hr]; rfl
/-! Texts. -/
def text (l : List Int) : List Nat := (l.map encI).flatten
theorem text_app (a b : List Int) : text (a ++ b) = text a ++ text b := by simp [text]
theorem text_cons (r : Int) (l : List Int) : text (r :: l) = encI r ++ text l := by simp [text]
/-- A text's scalars, if it is right. -/
def scalN : Nat → List Nat → Option (List Int)
  | _, [] => some []
  | 0, _ :: _ => none
  | k + 1, c :: rest => if (piece (c :: rest)).1 < 0 then none else (scalN k ((c :: rest).drop (piece (c :: rest)).2)).map ((piece (c :: rest)).1 :: ·)
def scal (u : List Nat) : Option (List Int) := scalN u.length u
theorem cont_width : ∀ (k r lo hi n : Nat) (u : List Nat), n ≤ (cont k r lo hi n u).2 ∧ (cont k r lo hi n u).2 ≤ n + u.length ∧ -1 ≤ (cont k r lo hi n u).1
  | 0, r, lo, hi, n, u => ⟨Nat.le_refl _, by show n ≤ n + u.length; omega, by show (-1 : Int) ≤ (r : Int); omega⟩
  | k + 1, r, lo, hi, n, [] => ⟨Nat.le_refl _, Nat.le_refl _, Int.le_refl _⟩
  | k + 1, r, lo, hi, n, c :: rest => by
    show n ≤ (if lo ≤ c ∧ c ≤ hi then cont k (r * 64 + c % 64) 128 191 (n + 1) rest else (-1, n)).2 ∧ (if lo ≤ c ∧ c ≤ hi then cont k (r * 64 + c % 64) 128 191 (n + 1) rest else (-1, n)).2 ≤ n + (c :: rest).length ∧ -1 ≤ (if lo ≤ c ∧ c ≤ hi then cont k (r * 64 + c % 64) 128 191 (n + 1) rest else (-1, n)).1
    obtain ⟨h1, h2, h3⟩ := cont_width k (r * 64 + c % 64) 128 191 (n + 1) rest
    split
    · exact ⟨by omega, by rw [List.length_cons]; omega, h3⟩
    · exact ⟨Nat.le_refl _, by omega, Int.le_refl _⟩
theorem piece_width (c : Nat) (rest : List Nat) : 1 ≤ (piece (c :: rest)).2 ∧ (piece (c :: rest)).2 ≤ (c :: rest).length ∧ -1 ≤ (piece (c :: rest)).1 := by
  show 1 ≤ (match lead c with | none => (-1, 1) | some (k, r, lo, hi) => cont k r lo hi 1 rest : Int × Nat).2 ∧ (match lead c with | none => (-1, 1) | some (k, r, lo, hi) => cont k r lo hi 1 rest : Int × Nat).2 ≤ (c :: rest).length ∧ -1 ≤ (match lead c with | none => (-1, 1) | some (k, r, lo, hi) => cont k r lo hi 1 rest : Int × Nat).1
  cases lead c with
  | none => exact ⟨Nat.le_refl _, by simp, Int.le_refl _⟩
  | some x =>
    obtain ⟨k, r, lo, hi⟩ := x
    obtain ⟨h1, h2, h3⟩ := cont_width k r lo hi 1 rest
    exact ⟨h1, by rw [List.length_cons]; simp only at h2 ⊢; omega, h3⟩
theorem scalN_more : ∀ (k : Nat) (u : List Nat), u.length ≤ k → scalN k u = scal u
  | 0, [], _ => rfl
  | k + 1, [], _ => rfl
  | 0, c :: rest, h => by simp at h
  | k + 1, c :: rest, h => by
    obtain ⟨h1, h2, _⟩ := piece_width c rest
    have e : scal (c :: rest) = if (piece (c :: rest)).1 < 0 then none else (scalN rest.length ((c :: rest).drop (piece (c :: rest)).2)).map ((piece (c :: rest)).1 :: ·) := rfl
    rw [e]
    show (if (piece (c :: rest)).1 < 0 then none else (scalN k ((c :: rest).drop (piece (c :: rest)).2)).map ((piece (c :: rest)).1 :: ·)) = _
    simp only [List.length_cons] at h
    have hd : ((c :: rest).drop (piece (c :: rest)).2).length ≤ rest.length := by rw [List.length_drop, List.length_cons]; omega
    rw [scalN_more k _ (by omega), scalN_more rest.length _ hd]
theorem scal_cons (c : Nat) (rest : List Nat) : scal (c :: rest) = if (piece (c :: rest)).1 < 0 then none else (scal ((c :: rest).drop (piece (c :: rest)).2)).map ((piece (c :: rest)).1 :: ·) := by
  obtain ⟨h1, h2, _⟩ := piece_width c rest
  have hd : ((c :: rest).drop (piece (c :: rest)).2).length ≤ rest.length := by rw [List.length_drop, List.length_cons]; omega
  have e : scal (c :: rest) = if (piece (c :: rest)).1 < 0 then none else (scalN rest.length ((c :: rest).drop (piece (c :: rest)).2)).map ((piece (c :: rest)).1 :: ·) := rfl
  rw [e, scalN_more rest.length _ hd]
def AllSc (l : List Int) : Prop := ∀ x ∈ l, isSc x
theorem encI_nat (r : Nat) : encI (r : Int) = enc r := rfl
theorem sc_nat {x : Int} (h : isSc x) : ∃ r : Nat, x = (r : Int) := ⟨x.toNat, by have := h.1; omega⟩
/-- Written and read. -/
theorem scal_text : ∀ l : List Int, AllSc l → scal (text l) = some l
  | [], _ => rfl
  | x :: l, h => by
    have hx := h x (List.mem_cons_self ..)
    obtain ⟨r, rfl⟩ := sc_nat hx
    rw [text_cons, encI_nat]
    have hp := piece_enc hx (text l)
    have hl := enc_len r
    cases e : enc r with
    | nil => rw [e] at hl; simp at hl
    | cons c rest =>
      rw [e] at hp
      show scal (c :: (rest ++ text l)) = _
      have hp' : piece (c :: (rest ++ text l)) = ((r : Int), (c :: rest).length) := hp
      rw [scal_cons, hp']
      simp only
      rw [if_neg (by omega), show c :: (rest ++ text l) = (c :: rest) ++ text l from rfl, List.drop_left, scal_text l (fun y hy => h y (List.mem_cons_of_mem _ hy))]
      rfl
/-- Read and written. -/
theorem text_scal : ∀ (n : Nat) (u : List Nat) (l : List Int), u.length ≤ n → scal u = some l → AllSc l ∧ text l = u
  | _, [], l, _, h => by
    have : some ([] : List Int) = some l := h
    cases this
    exact ⟨(fun x hx => by cases hx), rfl⟩
  | 0, c :: rest, l, hn, _ => by simp at hn
  | n + 1, c :: rest, l, hn, h => by
    rw [scal_cons] at h
    by_cases q : (piece (c :: rest)).1 < 0
    · rw [if_pos q] at h; cases h
    · rw [if_neg q] at h
      obtain ⟨h1, h2, _⟩ := piece_width c rest
      obtain ⟨r, e1, e2, e3, e4, e5⟩ := piece_dec (u := c :: rest) (x := (piece (c :: rest)).1) (m := (piece (c :: rest)).2) rfl (by omega)
      cases hs : scal ((c :: rest).drop (piece (c :: rest)).2) with
      | none => rw [hs] at h; cases h
      | some l' =>
        rw [hs] at h
        have h' : some ((piece (c :: rest)).1 :: l') = some l := h
        cases h'
        obtain ⟨k1, k2⟩ := text_scal n _ l' (by rw [List.length_drop]; simp only [List.length_cons] at hn ⊢; omega) hs
        refine ⟨fun x hx => ?_, ?_⟩
        · rcases List.mem_cons.1 hx with rfl | hx
          · rw [e1]; exact e2
          · exact k1 x hx
        · rw [text_cons, k2, e1, encI_nat, ← e3]
          exact List.take_append_drop _ _
theorem scal_some {u : List Nat} {l : List Int} (h : scal u = some l) : AllSc l ∧ text l = u := text_scal u.length u l (Nat.le_refl _) h
theorem text_inj {a b : List Int} (ha : AllSc a) (hb : AllSc b) (h : text a = text b) : a = b := by
  have h1 := scal_text a ha
  rw [h, scal_text b hb] at h1
  exact (Option.some.inj h1).symm
theorem text_len : ∀ l : List Int, l.length ≤ (text l).length ∧ (text l).length ≤ 4 * l.length
  | [] => by simp [text]
  | x :: l => by
    have := text_len l
    have h2 := enc_len x.toNat
    rw [text_cons, List.length_append, List.length_cons]
    show l.length + 1 ≤ (enc x.toNat).length + (text l).length ∧ (enc x.toNat).length + (text l).length ≤ 4 * (l.length + 1)
    omega
theorem scal_len {u : List Nat} {l : List Int} (h : scal u = some l) : l.length ≤ u.length := by
  have := text_len l
  rw [(scal_some h).2] at this
  exact this.1
end Ut
