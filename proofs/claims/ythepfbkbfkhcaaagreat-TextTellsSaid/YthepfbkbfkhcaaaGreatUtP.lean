/- Plain law on UTF-8: a text's pieces, one behind the other. No program in sight. -/
import Derived.Test.YthepfbkbfkhcaaaGreatUt
namespace Ut
def pcsN : Nat → Nat → List Nat → List (Nat × Int)
  | 0, _, _ => []
  | _ + 1, _, [] => []
  | k + 1, p, c :: rest => (p, (piece (c :: rest)).1) :: pcsN k (p + (piece (c :: rest)).2) ((c :: rest).drop (piece (c :: rest)).2)
/-- A text's pieces: where each begins, its scalar. -/
def pcs (u : List Nat) : List (Nat × Int) := pcsN u.length 0 u
def posN (K p : Nat) (u : List Nat) (k : Nat) : Nat := (((pcsN K p u)[k]?).map Prod.fst).getD (p + u.length)
theorem posN_zero {K p : Nat} {u : List Nat} (h : u.length ≤ K) : posN K p u 0 = p := by
  cases u with
  | nil =>
    cases K with
    | zero => rfl
    | succ K => rfl
  | cons c rest =>
    cases K with
    | zero => simp at h
    | succ K => rfl
theorem posN_at : ∀ (K p : Nat) (u : List Nat), u.length ≤ K → ∀ k, k < (pcsN K p u).length → p ≤ posN K p u k ∧ posN K p u k < p + u.length ∧ (pcsN K p u)[k]? = some (posN K p u k, (piece (u.drop (posN K p u k - p))).1) ∧ posN K p u (k + 1) = posN K p u k + (piece (u.drop (posN K p u k - p))).2
  | 0, _, _, _, k, hk => by simp [pcsN] at hk
  | _ + 1, _, [], _, k, hk => by simp [pcsN] at hk
  | K + 1, p, c :: rest, h, k, hk => by
    have hw := piece_width c rest
    have hl : ((c :: rest).drop (piece (c :: rest)).2).length ≤ K := by
      rw [List.length_drop]
      omega
    have hd : ((c :: rest).drop (piece (c :: rest)).2).length = (c :: rest).length - (piece (c :: rest)).2 := List.length_drop ..
    have hs : ∀ j, posN (K + 1) p (c :: rest) (j + 1) = posN K (p + (piece (c :: rest)).2) ((c :: rest).drop (piece (c :: rest)).2) j := by
      intro j
      unfold posN
      show (((pcsN K _ _)[j]?).map Prod.fst).getD _ = _
      rw [hd]
      congr 1
      omega
    cases k with
    | zero =>
      have e0 : posN (K + 1) p (c :: rest) 0 = p := rfl
      rw [e0, hs 0, posN_zero hl, Nat.sub_self, List.drop_zero]
      refine ⟨Nat.le_refl _, by simp, rfl, rfl⟩
    | succ k =>
      have hk2 : k < (pcsN K (p + (piece (c :: rest)).2) ((c :: rest).drop (piece (c :: rest)).2)).length := by
        have : (pcsN (K + 1) p (c :: rest)).length = (pcsN K (p + (piece (c :: rest)).2) ((c :: rest).drop (piece (c :: rest)).2)).length + 1 := rfl
        omega
      obtain ⟨a1, a2, a3, a4⟩ := posN_at K _ _ hl k hk2
      rw [hd] at a2
      have hdd : ∀ q, p + (piece (c :: rest)).2 ≤ q → ((c :: rest).drop (piece (c :: rest)).2).drop (q - (p + (piece (c :: rest)).2)) = (c :: rest).drop (q - p) := by
        intro q hq
        rw [List.drop_drop]
        congr 1
        omega
      rw [hdd _ a1] at a3 a4
      rw [hs k, hs (k + 1)]
      refine ⟨by omega, by omega, ?_, a4⟩
      show (pcsN K _ _)[k]? = _
      exact a3
def posP (u : List Nat) (k : Nat) : Nat := posN u.length 0 u k
theorem posP_zero (u : List Nat) : posP u 0 = 0 := posN_zero (Nat.le_refl _)
theorem posP_at {u : List Nat} {k : Nat} (h : k < (pcs u).length) : posP u k < u.length ∧ (pcs u)[k]? = some (posP u k, (piece (u.drop (posP u k))).1) ∧ posP u (k + 1) = posP u k + (piece (u.drop (posP u k))).2 := by
  obtain ⟨_, a2, a3, a4⟩ := posN_at u.length 0 u (Nat.le_refl _) k h
  rw [Nat.sub_zero] at a3 a4
  exact ⟨by unfold posP; omega, a3, a4⟩
theorem posP_end (u : List Nat) : posP u (pcs u).length = u.length := by
  unfold posP posN
  show (((pcs u)[(pcs u).length]?).map Prod.fst).getD _ = _
  rw [List.getElem?_eq_none (Nat.le_refl _)]
  simp
def rP (u : List Nat) (k : Nat) : Int := (((pcs u)[k]?).map Prod.snd).getD 0
theorem rP_at {u : List Nat} {k : Nat} (h : k < (pcs u).length) : rP u k = (piece (u.drop (posP u k))).1 := by
  unfold rP
  rw [(posP_at h).2.1]
  rfl
theorem scal_pcsN : ∀ (K p : Nat) (u : List Nat), u.length ≤ K → scal u = if (∀ q ∈ pcsN K p u, 0 ≤ q.2) then some ((pcsN K p u).map Prod.snd) else none
  | 0, p, u, h => by
    have : u = [] := List.length_eq_zero_iff.1 (by omega)
    subst this
    simp [pcsN]
    rfl
  | K + 1, p, [], h => by
    simp [pcsN]
    rfl
  | K + 1, p, c :: rest, h => by
    have hw := piece_width c rest
    have hl : ((c :: rest).drop (piece (c :: rest)).2).length ≤ K := by
      rw [List.length_drop]
      omega
    rw [scal_cons, scal_pcsN K (p + (piece (c :: rest)).2) _ hl]
    have e : pcsN (K + 1) p (c :: rest) = (p, (piece (c :: rest)).1) :: pcsN K (p + (piece (c :: rest)).2) ((c :: rest).drop (piece (c :: rest)).2) := rfl
    rw [e]
    by_cases q : (piece (c :: rest)).1 < 0
    · rw [if_pos q, if_neg]
      intro k
      have := k _ (List.mem_cons_self ..)
      simp only at this
      omega
    · rw [if_neg q]
      by_cases q2 : ∀ x ∈ pcsN K (p + (piece (c :: rest)).2) ((c :: rest).drop (piece (c :: rest)).2), 0 ≤ x.2
      · rw [if_pos q2, if_pos]
        · rfl
        · intro x hx
          rcases List.mem_cons.1 hx with h | h
          · rw [h]; simp only; omega
          · exact q2 x h
      · rw [if_neg q2, if_neg]
        · rfl
        · intro k
          exact q2 fun x hx => k x (List.mem_cons_of_mem _ hx)
theorem scal_pcs (u : List Nat) : scal u = if (∀ q ∈ pcs u, 0 ≤ q.2) then some ((pcs u).map Prod.snd) else none := scal_pcsN _ 0 u (Nat.le_refl _)
theorem pcs_len : ∀ (K p : Nat) (u : List Nat), (pcsN K p u).length ≤ u.length
  | 0, _, _ => by simp [pcsN]
  | _ + 1, _, [] => by simp [pcsN]
  | K + 1, p, c :: rest => by
    have hw := piece_width c rest
    have := pcs_len K (p + (piece (c :: rest)).2) ((c :: rest).drop (piece (c :: rest)).2)
    rw [List.length_drop] at this
    show (pcsN K _ _).length + 1 ≤ _
    omega
end Ut
