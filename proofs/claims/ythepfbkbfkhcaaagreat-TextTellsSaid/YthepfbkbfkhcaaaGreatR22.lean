/- The walks of cardingref22: space, Trim, One, Empty, Line, Block, chars, IsLine, IsBlock, Cut. -/
import Derived.Test.YthepfbkbfkhcaaaGreatTextOnceW
namespace Tx
theorem join_last (X : List (List Nat)) (A B : List Nat) : joinW 32 (X ++ [A ++ B]) = joinW 32 (X ++ [A]) ++ B := by
  induction X with
  | nil => rfl
  | cons a t ih =>
    cases t with
    | nil => show a ++ 32 :: (A ++ B) = (a ++ 32 :: A) ++ B; simp
    | cons b t =>
      show a ++ 32 :: joinW 32 ((b :: t) ++ [A ++ B]) = (a ++ 32 :: joinW 32 ((b :: t) ++ [A])) ++ B
      rw [ih]
      simp
theorem one_more {pre : List Nat} {x y : Nat} (hy : wsN y = false) (hx : wsN x = false) : oneP wsN 32 ((pre ++ [y]) ++ [x]) = oneP wsN 32 (pre ++ [y]) ++ [x] := by
  unfold oneP
  have key : ∀ l : List Nat, ∃ X A, words wsN (l ++ [y]) = X ++ [A] ∧ words wsN ((l ++ [y]) ++ [x]) = X ++ [A ++ [x]] := fun l => by
    rcases split_last (p := wsN) l with h | ⟨B, w, A, rfl, h1, h2⟩
    · refine ⟨[], l ++ [y], ?_, ?_⟩
      · have : noW wsN (l ++ [y]) := fun z hz => by
          rcases List.mem_append.1 hz with hz | hz
          · exact h z hz
          · rw [List.mem_singleton.1 hz]; exact hy
        rw [words_free this, one1_ne (by simp)]; rfl
      · have : noW wsN ((l ++ [y]) ++ [x]) := fun z hz => by
          rcases List.mem_append.1 hz with hz | hz
          · rcases List.mem_append.1 hz with hz | hz
            · exact h z hz
            · rw [List.mem_singleton.1 hz]; exact hy
          · rw [List.mem_singleton.1 hz]; exact hx
        rw [words_free this, one1_ne (by simp)]; rfl
    · refine ⟨words wsN B, A ++ [y], ?_, ?_⟩
      · have : noW wsN (A ++ [y]) := fun z hz => by
          rcases List.mem_append.1 hz with hz | hz
          · exact h1 z hz
          · rw [List.mem_singleton.1 hz]; exact hy
        rw [List.append_assoc, List.cons_append, words_mid h2, words_free this, one1_ne (by simp)]
      · have : noW wsN ((A ++ [y]) ++ [x]) := fun z hz => by
          rcases List.mem_append.1 hz with hz | hz
          · rcases List.mem_append.1 hz with hz | hz
            · exact h1 z hz
            · rw [List.mem_singleton.1 hz]; exact hy
          · rw [List.mem_singleton.1 hz]; exact hx
        have e : ((B ++ w :: A) ++ [y]) ++ [x] = B ++ w :: ((A ++ [y]) ++ [x]) := by simp
        rw [e, words_mid h2, words_free this, one1_ne (by simp)]
  obtain ⟨X, A, e1, e2⟩ := key pre
  rw [e1, e2, join_last]
theorem one_ws {pre : List Nat} {x : Nat} (hx : wsN x = true) : oneP wsN 32 (pre ++ [x]) = oneP wsN 32 pre := by
  unfold oneP
  rw [words_mid hx, words_nil, List.append_nil]
theorem one_new {pre : List Nat} {y x : Nat} (hy : wsN y = true) (hx : wsN x = false) (hne : words wsN pre ≠ []) : oneP wsN 32 ((pre ++ [y]) ++ [x]) = oneP wsN 32 pre ++ [32, x] := by
  unfold oneP
  have e : (pre ++ [y]) ++ [x] = pre ++ y :: [x] := by simp
  have hf : noW wsN [x] := fun z hz => by rw [List.mem_singleton.1 hz]; exact hx
  rw [e, words_mid hy, words_free hf, one1_ne (by simp), Go.Proofs.YthepfbkbfkhcaaaGreat.join_snoc _ _ hne]
def totN (ws : List (List Nat)) : Nat := (ws.map fun u => u.length + 1).sum
theorem totN_app (a b : List (List Nat)) : totN (a ++ b) = totN a + totN b := by simp [totN]
theorem totN_one1 (cur : List Nat) : totN (one1 cur) ≤ cur.length + 1 := by
  cases cur with
  | nil => simp [one1_nil, totN]
  | cons x t => rw [one1_ne (by simp)]; simp [totN]
theorem totN_wgo : ∀ (t cur : List Nat), totN (wgo wsN t cur) ≤ t.length + cur.length + 1
  | [], cur => by
    have := totN_one1 cur
    show totN (one1 cur) ≤ _
    simp; omega
  | x :: t, cur => by
    show totN (if wsN x then one1 cur ++ wgo wsN t [] else wgo wsN t (cur ++ [x])) ≤ _
    have h1 := totN_one1 cur
    have h2 := totN_wgo t []
    have h3 := totN_wgo t (cur ++ [x])
    rw [List.length_append] at h3
    simp only [List.length_cons, List.length_nil] at h2 h3 ⊢
    split
    · rw [totN_app]; omega
    · omega
theorem joinN_le : ∀ ws : List (List Nat), ws ≠ [] → (joinW 32 ws).length + 1 ≤ totN ws
  | [], h => absurd rfl h
  | [a], _ => by show a.length + 1 ≤ _; simp [totN]
  | a :: b :: t, _ => by
    have := joinN_le (b :: t) (by simp)
    show (a ++ 32 :: joinW 32 (b :: t)).length + 1 ≤ totN (a :: b :: t)
    rw [List.length_append, List.length_cons]
    have e : totN (a :: b :: t) = a.length + 1 + totN (b :: t) := by simp [totN]
    omega
theorem oneN_le (L : List Nat) : (oneP wsN 32 L).length ≤ L.length := by
  have h1 := totN_wgo L []
  unfold oneP
  by_cases h : words wsN L = []
  · rw [h]; exact Nat.zero_le _
  · have h2 := joinN_le _ h
    unfold words at *
    simp at h1
    omega
theorem one_first {x : Nat} (hx : wsN x = false) : oneP wsN 32 [x] = [x] := by
  have hf : noW wsN [x] := fun z hz => by rw [List.mem_singleton.1 hz]; exact hx
  unfold oneP
  rw [words_free hf, one1_ne (by simp)]
  rfl
end Tx
namespace Go.Proofs.YthepfbkbfkhcaaaGreat
open Go.RowKit Go.Shelf
open Go
set_option linter.unusedVariables false
set_option maxRecDepth 100000
theorem r22space_any (c : Nat) (hc : c < 256) (w : World) : Calls Tryz.prog 22 #[.int .u8 (c : Int)] w fun e w' => e = .returned (.bool (Tx.wsN c)) ∧ w = w' := by
  by_cases h1 : c = 32
  · subst h1
    rw [show Tx.wsN 32 = true from rfl]
    go_enter Tryz.func22, Tryz.ntmps22
    go_wp2
    go_ret
    exact ⟨rfl, rfl⟩
  · have b1 : ((c : Int) == 32) = false := by simp; omega
    by_cases h2 : c = 9
    · subst h2
      rw [show Tx.wsN 9 = true from rfl]
      go_enter Tryz.func22, Tryz.ntmps22
      go_wp2
      go_ret
      exact ⟨rfl, rfl⟩
    · have b2 : ((c : Int) == 9) = false := by simp; omega
      by_cases h3 : c = 10
      · subst h3
        rw [show Tx.wsN 10 = true from rfl]
        go_enter Tryz.func22, Tryz.ntmps22
        go_wp2
        go_ret
        exact ⟨rfl, rfl⟩
      · have b3 : ((c : Int) == 10) = false := by simp; omega
        by_cases h4 : c = 13
        · subst h4
          rw [show Tx.wsN 13 = true from rfl]
          go_enter Tryz.func22, Tryz.ntmps22
          go_wp2
          go_ret
          exact ⟨rfl, rfl⟩
        · have b4 : ((c : Int) == 13) = false := by simp; omega
          have e : Tx.wsN c = false := by unfold Tx.wsN; simp; omega
          rw [e]
          go_enter Tryz.func22, Tryz.ntmps22
          go_wp2
          go_ret
          exact ⟨rfl, rfl⟩
theorem r22trim_any (s : ByteArray) (hs : s.size ≤ 100000) (w : World) : Calls Tryz.prog 6 #[.string s] w (TOut (Ut.mk (Tx.trim Tx.wsN (Ut.bsL s))) w) := by
  have C := r22space_any
  go_enter Tryz.func6, Tryz.ntmps6
  go_wp2_with fail
  go_loop [0] (fun sv => ∃ t : ByteArray, sv = .string t ∧ t.size ≤ s.size ∧ Hid (Tx.lt Tx.wsN (Ut.bsL t) = Tx.lt Tx.wsN (Ut.bsL s))) (fun sv => match sv with | .string t => t.size | _ => 0)
  case atStart => exact ⟨s, rfl, Nat.le_refl _, Lib.hid rfl⟩
  case round =>
    obtain ⟨t, rfl, ht, HT⟩ := hrel
    have second : ∀ t : ByteArray, True := fun _ => trivial
    clear second
    by_cases hz : t.size = 0
    · have z1 : ¬ (0 : Int) < (t.size : Int) := by omega
      have hfin : Hid (t = Ut.mk (Tx.trim Tx.wsN (Ut.bsL s))) := Lib.hid (by
        unfold Tx.trim
        rw [← HT.out, Ut.bsL_nil hz]
        show t = Ut.mk []
        exact Ut.bsL_inj (by rw [Ut.bsL_nil hz, Ut.mk_bytes (by simp)]))
      clear HT
      go_wp2_with fail
      go_loop [0] (fun sv => sv = .string t) (fun _ => 0)
      case atStart => rfl
      case round =>
        subst hrel
        go_wp2_with fail
        go_ret
        exact ⟨by rw [← hfin.out]; rfl, rfl⟩
    · have z1 : (0 : Int) < (t.size : Int) := by omega
      have hlt : 0 < t.size := by omega
      have hc := Sm.B_lt t 0
      have hidx : ((t[0]'hlt).toNat : Int) = (Sm.B t 0 : Int) := by rw [Sm.B_at t 0 hlt]
      have hd := Ut.bsL_drop t 0 hlt
      rw [List.drop_zero] at hd
      have c1 := fun w => C (Sm.B t 0) hc w
      generalize Sm.B t 0 = c at *
      have HD := Lib.hid hd
      clear hd
      cases hw : Tx.wsN c with
      | true =>
        rw [hw] at c1
        have HT2 : Hid (Tx.lt Tx.wsN (Ut.bsL (t.extract 1 t.size)) = Tx.lt Tx.wsN (Ut.bsL s)) := Lib.hid (by
          rw [← HT.out, HD.out, Tx.lt_ws hw, Ut.bsL_extract, List.take_of_length_le (by rw [List.length_drop, Ut.bsL_len]; exact Nat.le_refl _)])
        have hsz : (t.extract 1 t.size).size = t.size - 1 := by simp
        have i1 : (1 : Int) ≤ (t.size : Int) := by omega
        go_wp2_with (go_at_call 22; refine (c1 _).mono ?_; rintro e w1 ⟨rfl, rfl⟩)
        go_round
        case rel => exact ⟨_, rfl, by omega, HT2⟩
        case measure => simp; omega
      | false =>
        rw [hw] at c1
        have h0 : Hid (Tx.rt Tx.wsN (Ut.bsL t) = Tx.trim Tx.wsN (Ut.bsL s)) := Lib.hid (by
          unfold Tx.trim
          rw [← HT.out, HD.out, Tx.lt_cons hw])
        clear HT
        go_wp2_with (go_at_call 22; refine (c1 _).mono ?_; rintro e w1 ⟨rfl, rfl⟩)
        go_loop [0] (fun sv => ∃ t : ByteArray, sv = .string t ∧ t.size ≤ s.size ∧ Hid (Tx.rt Tx.wsN (Ut.bsL t) = Tx.trim Tx.wsN (Ut.bsL s))) (fun sv => match sv with | .string t => t.size | _ => 0)
        case atStart => exact ⟨t, rfl, ht, h0⟩
        case round =>
          clear hz z1 hlt hidx HD h0 ht c1
          obtain ⟨t, rfl, ht, HT⟩ := hrel
          by_cases hz : t.size = 0
          · have z1 : ¬ (0 : Int) < (t.size : Int) := by omega
            have hfin : Hid (t = Ut.mk (Tx.trim Tx.wsN (Ut.bsL s))) := Lib.hid (by
              rw [← HT.out, Ut.bsL_nil hz]
              show t = Ut.mk []
              exact Ut.bsL_inj (by rw [Ut.bsL_nil hz, Ut.mk_bytes (by simp)]))
            clear HT
            go_wp2_with fail
            go_ret
            exact ⟨by rw [← hfin.out]; rfl, rfl⟩
          · have z1 : (0 : Int) < (t.size : Int) := by omega
            obtain ⟨m, hm⟩ : ∃ m, t.size = m + 1 := ⟨t.size - 1, by omega⟩
            have hlt : m < t.size := by omega
            have hc := Sm.B_lt t m
            have hidx : ((t[m]'hlt).toNat : Int) = (Sm.B t m : Int) := by rw [Sm.B_at t m hlt]
            have hd := Ut.bsL_drop t m hlt
            have hsp : Ut.bsL t = (Ut.bsL t).take m ++ [Sm.B t m] := by
              have h1 := (List.take_append_drop m (Ut.bsL t)).symm
              rw [hd, List.drop_eq_nil_of_le (by rw [Ut.bsL_len]; omega)] at h1
              exact h1
            have c2 := fun w => C (Sm.B t m) hc w
            generalize Sm.B t m = d at *
            have HSP := Lib.hid hsp
            clear hsp hd
            have i1 : (t.size : Int) - 1 = (m : Int) := by omega
            have i2 : (m : Int) < (t.size : Int) := by omega
            have i3 : (0 : Int) ≤ (m : Int) := by omega
            have i4 : (m : Int) ≤ (t.size : Int) := by omega
            have i5 : IntKind.i64.wrap ((t.size : Int) - 1) = (m : Int) := by rw [IntKind.wrap_i64]; omega
            cases hw2 : Tx.wsN d with
            | true =>
              rw [hw2] at c2
              have HT2 : Hid (Tx.rt Tx.wsN (Ut.bsL (t.extract 0 m)) = Tx.trim Tx.wsN (Ut.bsL s)) := Lib.hid (by
                rw [← HT.out]
                conv => rhs; rw [HSP.out]
                rw [Tx.rt_snoc, hw2, if_pos rfl, Ut.bsL_extract, List.drop_zero, Nat.sub_zero])
              have hsz : (t.extract 0 m).size = m := by simp; omega
              clear HSP HT
              go_wp2_with (go_at_call 22; refine (c2 _).mono ?_; rintro e w1 ⟨rfl, rfl⟩)
              go_round
              case rel => exact ⟨_, rfl, by omega, HT2⟩
              case measure => simp; omega
            | false =>
              rw [hw2] at c2
              have hfin : Hid (t = Ut.mk (Tx.trim Tx.wsN (Ut.bsL s))) := Lib.hid (by
                rw [← HT.out]
                conv => rhs; rw [HSP.out]
                rw [Tx.rt_snoc, hw2, if_neg (by simp), ← HSP.out, Ut.mk_of])
              clear HSP HT
              go_wp2_with (go_at_call 22; refine (c2 _).mono ?_; rintro e w1 ⟨rfl, rfl⟩)
              go_ret
              exact ⟨by rw [← hfin.out]; rfl, rfl⟩
theorem take_B {t : ByteArray} {i : Nat} (h : i < t.size) : (Ut.bsL t).take (i + 1) = (Ut.bsL t).take i ++ [Sm.B t i] := by
  have h3 : i < (Ut.bsL t).length := by rw [Ut.bsL_len]; exact h
  have e : (Ut.bsL t)[i] = Sm.B t i := by
    have := Ut.bsL_get t i h
    rw [List.getElem?_eq_getElem h3] at this
    exact Option.some.inj this
  rw [List.take_succ_eq_append_getElem h3, e]
/-- One of a text whose blanks are single: what is laid out equals the words so far; white space doubled is skipped. -/
def oEq (t : ByteArray) (i : Nat) (O : List Nat) : Prop :=
  (i = 0 ∧ O = []) ∨ (0 < i ∧ Tx.wsN (Sm.B t (i - 1)) = false ∧ O = Tx.oneP Tx.wsN 32 ((Ut.bsL t).take i)) ∨ (0 < i ∧ Tx.wsN (Sm.B t (i - 1)) = true ∧ Tx.words Tx.wsN ((Ut.bsL t).take i) ≠ [] ∧ O = Tx.oneP Tx.wsN 32 ((Ut.bsL t).take i) ++ [32])
theorem oeq_word {t : ByteArray} {i : Nat} {O : List Nat} (hi : i < t.size) (h : oEq t i O) (hx : Tx.wsN (Sm.B t i) = false) : oEq t (i + 1) (O ++ [Sm.B t i]) := by
  refine Or.inr (Or.inl ⟨by omega, hx, ?_⟩)
  rw [take_B hi]
  rcases h with ⟨rfl, rfl⟩ | ⟨h0, h1, rfl⟩ | ⟨h0, h1, h2, rfl⟩
  · rw [List.take_zero, List.nil_append, Tx.one_first hx]
  · obtain ⟨k, rfl⟩ : ∃ k, i = k + 1 := ⟨i - 1, by omega⟩
    rw [take_B (by omega)]
    exact (Tx.one_more h1 hx).symm
  · obtain ⟨k, rfl⟩ : ∃ k, i = k + 1 := ⟨i - 1, by omega⟩
    rw [take_B (by omega)] at h2 ⊢
    rw [Nat.add_sub_cancel] at h1
    have h3 : Tx.words Tx.wsN ((Ut.bsL t).take k) ≠ [] := by
      rw [Tx.words_mid h1, Tx.words_nil, List.append_nil] at h2
      exact h2
    rw [Tx.one_new h1 hx h3, Tx.one_ws h1]
    simp
theorem oeq_blank {t : ByteArray} {i : Nat} {O : List Nat} (hi : i < t.size) (h0 : 0 < i) (h : oEq t i O) (hx : Tx.wsN (Sm.B t i) = true) (hp : Tx.wsN (Sm.B t (i - 1)) = false) : oEq t (i + 1) (O ++ [32]) := by
  rcases h with ⟨rfl, _⟩ | ⟨_, h1, rfl⟩ | ⟨_, h1, _, _⟩
  · omega
  · refine Or.inr (Or.inr ⟨by omega, hx, ?_, ?_⟩)
    · rw [take_B hi, Tx.words_mid hx, Tx.words_nil, List.append_nil]
      intro e
      rw [Tx.words_empty] at e
      obtain ⟨k, rfl⟩ : ∃ k, i = k + 1 := ⟨i - 1, by omega⟩
      have := e (Sm.B t k) (by rw [take_B (by omega)]; exact List.mem_append_right _ (List.mem_cons_self ..))
      rw [Nat.add_sub_cancel, this] at hp
      cases hp
    · rw [take_B hi, Tx.one_ws hx]
  · rw [hp] at h1; cases h1
theorem oeq_skip {t : ByteArray} {i : Nat} {O : List Nat} (hi : i < t.size) (h0 : 0 < i) (h : oEq t i O) (hx : Tx.wsN (Sm.B t i) = true) (hp : Tx.wsN (Sm.B t (i - 1)) = true) : oEq t (i + 1) O := by
  rcases h with ⟨rfl, _⟩ | ⟨_, h1, _⟩ | ⟨_, h1, h2, rfl⟩
  · omega
  · rw [hp] at h1; cases h1
  · refine Or.inr (Or.inr ⟨by omega, hx, ?_, ?_⟩)
    · rw [take_B hi, Tx.words_mid hx, Tx.words_nil, List.append_nil]; exact h2
    · rw [take_B hi, Tx.one_ws hx]
theorem oeq_len {t : ByteArray} {i : Nat} {O : List Nat} (h : oEq t i O) (hi : i ≤ t.size) : O.length ≤ 2 * i := by
  have hl : ((Ut.bsL t).take i).length ≤ i := by rw [List.length_take]; omega
  have hb := Tx.oneN_le ((Ut.bsL t).take i)
  rcases h with ⟨rfl, rfl⟩ | ⟨h0, h1, rfl⟩ | ⟨h0, h1, h2, rfl⟩
  · simp
  · omega
  · rw [List.length_append]
    simp only [List.length_cons, List.length_nil]
    omega
theorem trim_ends {s : ByteArray} (h : 0 < (trimB s).size) : Tx.wsN (Sm.B (trimB s) 0) = false ∧ Tx.wsN (Sm.B (trimB s) ((trimB s).size - 1)) = false := by
  have hb := trim_bytes s
  have hi := Tx.trim_idem (p := Tx.wsN) (Ut.bsL s)
  rw [← hb] at hi
  generalize trimB s = t at *
  obtain ⟨m, hm⟩ : ∃ m, t.size = m + 1 := ⟨t.size - 1, by omega⟩
  constructor
  · have hd := Ut.bsL_drop t 0 h
    rw [List.drop_zero] at hd
    cases hw : Tx.wsN (Sm.B t 0) with
    | false => rfl
    | true =>
      exfalso
      unfold Tx.trim at hi
      rw [hd, Tx.lt_ws hw] at hi
      have h1 := congrArg List.length hi
      have h2 := (List.dropWhile_sublist (p := Tx.wsN) (l := (Ut.bsL t).drop (0 + 1))).length_le
      have h3 : (Tx.rt Tx.wsN (Tx.lt Tx.wsN ((Ut.bsL t).drop (0 + 1)))).length ≤ (Tx.lt Tx.wsN ((Ut.bsL t).drop (0 + 1))).length := by
        unfold Tx.rt
        rw [List.length_reverse]
        have := (List.dropWhile_sublist (p := Tx.wsN) (l := (Tx.lt Tx.wsN ((Ut.bsL t).drop (0 + 1))).reverse)).length_le
        rw [List.length_reverse] at this
        exact this
      rw [List.length_cons] at h1
      unfold Tx.lt at h1 h3
      omega
  · rw [hm, Nat.add_sub_cancel]
    cases hw : Tx.wsN (Sm.B t m) with
    | false => rfl
    | true =>
      exfalso
      have hsp : Ut.bsL t = (Ut.bsL t).take m ++ [Sm.B t m] := by
        have := take_B (t := t) (i := m) (by omega)
        rw [List.take_of_length_le (by rw [Ut.bsL_len]; omega)] at this
        exact this
      have h5 : Tx.rt Tx.wsN (Ut.bsL t) = Ut.bsL t := by
        have : Tx.rt Tx.wsN (Tx.trim Tx.wsN (Ut.bsL t)) = Tx.trim Tx.wsN (Ut.bsL t) := by unfold Tx.trim; exact Tx.rt_idem _
        rw [hi] at this
        exact this
      have h6 : Tx.rt Tx.wsN (Ut.bsL t) = Tx.rt Tx.wsN ((Ut.bsL t).take m) := by
        conv => lhs; rw [hsp]
        rw [Tx.rt_snoc, hw, if_pos rfl]
      rw [h5] at h6
      have h7 := congrArg List.length h6
      have h8 : (Tx.rt Tx.wsN ((Ut.bsL t).take m)).length ≤ ((Ut.bsL t).take m).length := by
        unfold Tx.rt
        rw [List.length_reverse]
        have := (List.dropWhile_sublist (p := Tx.wsN) (l := ((Ut.bsL t).take m).reverse)).length_le
        rw [List.length_reverse] at this
        exact this
      rw [Ut.bsL_len, List.length_take, Ut.bsL_len] at *
      omega
theorem oeq_end {s : ByteArray} {O : List Nat} (h : oEq (trimB s) (trimB s).size O) : Ut.mk O = oneB s := by
  have e : Ut.mk (Tx.oneP Tx.wsN 32 (Ut.bsL (trimB s))) = oneB s := one_trimB s
  rw [← e]
  rcases h with ⟨h0, rfl⟩ | ⟨h0, h1, rfl⟩ | ⟨h0, h1, _, _⟩
  · rw [Ut.bsL_nil h0]; rfl
  · rw [List.take_of_length_le (by rw [Ut.bsL_len]; exact Nat.le_refl _)]
  · rw [(trim_ends h0).2] at h1; cases h1
theorem mk_one {c : Nat} (hc : c < 256) : Lib.strCells (Ut.mk [c]) = [.int .u8 (c : Int)] := by
  unfold Lib.strCells Ut.mk
  show [Value.int .u8 (((UInt8.ofNat c).toNat : Nat) : Int)] = _
  rw [UInt8.toNat_ofNat', Nat.mod_eq_of_lt hc]
set_option maxHeartbeats 8000000 in
theorem r22one_any (s : ByteArray) (hs : s.size ≤ 100000) (w : World) : Calls Tryz.prog 8 #[.string s] w (fun e w' => e = .returned (.string (oneB s)) ∧ Below w.heap.size w w') := by
  have C := r22space_any
  have ct : ∀ w, Calls Tryz.prog 6 #[.string s] w (fun e w' => e = .returned (.string (trimB s)) ∧ w = w') := fun w => r22trim_any s hs w
  obtain ⟨i0, hi, hz0, hz1, hz2⟩ := info_parts infoU
  have hfin : ∀ O, oEq (trimB s) (trimB s).size O → Ut.mk O = oneB s := fun O h => oeq_end h
  have hends := trim_ends (s := s)
  have htl := trimB_le s
  obtain ⟨z, hz⟩ : ∃ z, oneB s = z := ⟨_, rfl⟩
  rw [hz] at hfin ⊢
  have HF := Lib.hid hfin
  have HE := Lib.hid hends
  clear hz hfin hends
  generalize trimB s = t at *
  go_enter Tryz.func8, Tryz.ntmps8
  go_wp2_with (go_at_call 6; refine (ct _).mono ?_; rintro e w1 ⟨rfl, rfl⟩)
  go_loopw [3, 4] (fun ov iv wr => ∃ (i : Nat) (O : List Nat), i ≤ t.size ∧ iv = .int .i64 (i : Int) ∧ Hid (oEq t i O) ∧ Hid (OB w.heap.size ov (Ut.mk O) w wr)) (fun _ iv _ => t.size - (intOf iv).toNat)
  case atStart => exact ⟨0, [], Nat.zero_le _, rfl, Lib.hid (Or.inl ⟨rfl, rfl⟩), Lib.hid OB.nil⟩
  case round =>
    obtain ⟨i, O, hit, rfl, HO, HB⟩ := hrel
    have hol := oeq_len HO.out hit
    have hos : (Ut.mk O).size ≤ 200000 := by rw [Ut.mk_size]; omega
    obtain ⟨pv, cv, rfl⟩ := HB.out.shape
    by_cases hlt : i < t.size
    · have ii : (i : Int) < (t.size : Int) := by omega
      have i00 : (0 : Int) ≤ (i : Int) := by omega
      have iw : IntKind.i64.wrap ((i : Int) + 1) = (i : Int) + 1 := by rw [IntKind.wrap_i64]; omega
      have hc := Sm.B_lt t i
      have hidx : ((t[i]'hlt).toNat : Int) = (Sm.B t i : Int) := by rw [Sm.B_at t i hlt]
      have c1 := fun w => C (Sm.B t i) hc w
      cases hw : Tx.wsN (Sm.B t i) with
      | false =>
        have HO2 := Lib.hid (oeq_word hlt HO.out hw)
        rw [hw] at c1
        have hcell := mk_one hc
        have HCELL := Lib.hid hcell
        have hmk : Ut.mk (O ++ [Sm.B t i]) = Ut.mk O ++ Ut.mk [Sm.B t i] := Ut.mk_app _ _
        have HMK := Lib.hid hmk
        clear hw hcell hmk HO
        generalize Sm.B t i = c at *
        generalize hs1 : Ut.mk O = so at *
        have hso : so.size ≤ 200000 := hos
        go_wp2_with (first | (go_at_call 22; refine (c1 _).mono ?_; rintro e w1 ⟨rfl, rfl⟩) | (at_builtin; refine Lib.wpList_append_byte rfl _ _ 29 rfl w.heap.size 5 i0 Tryz.underlying29 hi hz0 hz1 hz2 (.slice pv so.size cv) so.size (Lib.strCells so) rfl w wr (c : Int) HB.out rfl (by omega) ?_; intro v' w2 hown; have HO3 := Lib.hid (OB.app (s := so) (t := Ut.mk [c]) (by rw [HCELL.out]; exact hown)); clear hown))
        go_roundw
        case rel => exact ⟨i + 1, O ++ [c], by omega, by go_num, HO2, by rw [HMK.out]; exact HO3⟩
        case measure => simp [intOf]; omega
      | true =>
        have hi0 : 0 < i := by
          apply Classical.byContradiction
          intro hn
          obtain rfl : i = 0 := by omega
          have := (HE.out (by omega)).1
          rw [hw] at this
          cases this
        obtain ⟨k, rfl⟩ : ∃ k, i = k + 1 := ⟨i - 1, by omega⟩
        have hkl : k < t.size := by omega
        have hc' := Sm.B_lt t k
        have hidx' : ((t[k]'hkl).toNat : Int) = (Sm.B t k : Int) := by rw [Sm.B_at t k hkl]
        have c2 := fun w => C (Sm.B t k) hc' w
        have k1 : (((k + 1 : Nat) : Int)) - 1 = (k : Int) := by omega
        have k2 : IntKind.i64.wrap ((((k + 1 : Nat) : Int)) - 1) = (k : Int) := by rw [IntKind.wrap_i64]; omega
        have k3 : (k : Int) < (t.size : Int) := by omega
        have k4 : (0 : Int) ≤ (k : Int) := by omega
        have k5 : (k : Int) + 1 < (t.size : Int) := by omega
        cases hp : Tx.wsN (Sm.B t k) with
        | false =>
          have HO2 := Lib.hid (oeq_blank hlt hi0 HO.out hw (by rw [Nat.add_sub_cancel]; exact hp))
          rw [hw] at c1
          rw [hp] at c2
          have hcell := mk_one (c := 32) (by omega)
          have HCELL := Lib.hid hcell
          have hmk : Ut.mk (O ++ [32]) = Ut.mk O ++ Ut.mk [32] := Ut.mk_app _ _
          have HMK := Lib.hid hmk
          clear hw hp hcell hmk HO
          generalize Sm.B t (k + 1) = c at *
          generalize Sm.B t k = c' at *
          generalize hs1 : Ut.mk O = so at *
          have hso : so.size ≤ 200000 := hos
          go_wp2_with (first | (go_at_call 22; (first | (with_reducible refine (c1 _).mono ?_) | (with_reducible refine (c2 _).mono ?_)); rintro e w1 ⟨rfl, rfl⟩) | (at_builtin; refine Lib.wpList_append_byte rfl _ _ 29 rfl w.heap.size 5 i0 Tryz.underlying29 hi hz0 hz1 hz2 (.slice pv so.size cv) so.size (Lib.strCells so) rfl w wr 32 HB.out rfl (by omega) ?_; intro v' w2 hown; have HO3 := Lib.hid (OB.app (s := so) (t := Ut.mk [32]) (by rw [HCELL.out]; exact hown)); clear hown))
          go_roundw
          case rel => exact ⟨k + 1 + 1, O ++ [32], by omega, by go_num, HO2, by rw [HMK.out]; exact HO3⟩
          case measure => simp [intOf]; omega
        | true =>
          have HO2 := Lib.hid (oeq_skip hlt hi0 HO.out hw (by rw [Nat.add_sub_cancel]; exact hp))
          rw [hw] at c1
          rw [hp] at c2
          clear hw hp HO
          generalize Sm.B t (k + 1) = c at *
          generalize Sm.B t k = c' at *
          generalize hs1 : Ut.mk O = so at *
          go_wp2_with (go_at_call 22; (first | (with_reducible refine (c1 _).mono ?_) | (with_reducible refine (c2 _).mono ?_)); rintro e w1 ⟨rfl, rfl⟩)
          go_roundw
          case rel => exact ⟨k + 1 + 1, O, by omega, by go_num, HO2, by rw [hs1]; exact HB⟩
          case measure => simp [intOf]; omega
    · obtain rfl : i = t.size := by omega
      have hv := HB.out.conv
      have hb := HB.out.2.1
      have hf := HF.out O HO.out
      have HFO := Lib.hid hf
      have q1 : ¬ (t.size : Int) < (t.size : Int) := by omega
      clear HO HB hf
      generalize hs1 : Ut.mk O = so at *
      go_wp2_with fail
      go_ret
      exact ⟨by rw [← HFO.out]; rfl, hb⟩
theorem r22empty_any (s : ByteArray) (hs : s.size ≤ 100000) (w : World) : Calls Tryz.prog 10 #[.string s] w (BoolOut (emptyF s) w) := by
  have ct : ∀ w, Calls Tryz.prog 6 #[.string s] w (fun e w' => e = .returned (.string (trimB s)) ∧ w = w') := fun w => r22trim_any s hs w
  have e : (trimB s).toList.isEmpty = emptyF s := by
    rw [Ut.toList_of]
    unfold emptyF
    rw [Bool.eq_iff_iff, decide_eq_true_iff, List.all_eq_true, bs_nil, trim_bytes, Tx.trim_empty]
  rw [← e]
  clear e
  generalize trimB s = t at *
  go_enter Tryz.func10, Tryz.ntmps10
  go_wp2_with (go_at_call 6; refine (ct _).mono ?_; rintro e w1 ⟨rfl, rfl⟩)
  go_ret
  exact ⟨rfl, Below.refl _ _⟩
theorem r22line_any (s : ByteArray) (hs : s.size ≤ 100000) (hg : GoodB (oneB s)) (w : World) : Calls Tryz.prog 12 #[.string s] w (StrPost (lineB s) w) := by
  have c1 := fun w => r22one_any s hs w
  have c2 := fun w => rnfc_any (oneB s) hg w
  unfold lineB
  generalize nnfcB (oneB s) = t at *
  generalize oneB s = o at *
  go_enter Tryz.func12, Tryz.ntmps12
  go_wp2_with (first | (go_at_call 8; refine (c1 _).mono ?_; rintro e w1 ⟨rfl, hb1⟩) | (go_at_call 29; refine (c2 _).mono ?_; rintro e w2 ⟨rfl, hb2⟩))
  go_ret
  exact ⟨rfl, bl hb1 hb2⟩
theorem r22block_any (s : ByteArray) (hs : s.size ≤ 100000) (hg : GoodB (trimB s)) (w : World) : Calls Tryz.prog 14 #[.string s] w (StrPost (blockB s) w) := by
  have c1' : ∀ w, Calls Tryz.prog 6 #[.string s] w (fun e w' => e = .returned (.string (trimB s)) ∧ w = w') := fun w => r22trim_any s hs w
  have c2 := fun w => rnfc_any (trimB s) hg w
  unfold blockB
  generalize nnfcB (trimB s) = t at *
  generalize trimB s = o at *
  go_enter Tryz.func14, Tryz.ntmps14
  go_wp2_with (first | (go_at_call 6; refine (c1' _).mono ?_; rintro e w1 ⟨rfl, rfl⟩) | (go_at_call 29; refine (c2 _).mono ?_; rintro e w2 ⟨rfl, hb2⟩))
  go_ret
  exact ⟨rfl, hb2⟩
theorem r22chars_any (s : ByteArray) (hs : s.size ≤ 100000) (w : World) : Calls Tryz.prog 31 #[.string s] w (BoolOut (rightB s) w) := by
  have c1 := fun w => rvalid_any s hs w
  have c2 := fun w => rbad_any s hs w
  unfold rightB
  cases hv : (Ut.scal (Ut.bsL s)).isSome with
  | false =>
    rw [hv] at c1
    have e : okR (Ut.bsL s) = false := by
      unfold okR
      cases h : Ut.scal (Ut.bsL s) with
      | none => rfl
      | some L => rw [h] at hv; cases hv
    rw [e]
    clear e c2 hv
    go_enter Tryz.func31, Tryz.ntmps31
    go_wp2_with (go_at_call 33; refine (c1 _).mono ?_; rintro e w1 ⟨rfl, hb1⟩)
    go_ret
    exact ⟨rfl, hb1⟩
  | true =>
    rw [hv] at c1
    unfold BadPost at c2
    generalize okR (Ut.bsL s) = z at *
    clear hv
    go_enter Tryz.func31, Tryz.ntmps31
    go_wp2_with (first | (go_at_call 33; refine (c1 _).mono ?_; rintro e w1 ⟨rfl, hb1⟩) | (go_at_call 42; refine (c2 _).mono ?_; rintro e w2 ⟨n, rfl, hn, hb2⟩; have HN := Lib.hid hn; clear hn))
    go_ret
    exact ⟨by rw [← HN.out]; rfl, bl hb1 hb2⟩
theorem r22isline_any (s : ByteArray) (hs : s.size ≤ 100000) (hg : GoodB (oneB s)) (w : World) : Calls Tryz.prog 16 #[.string s] w (BoolOut (rightB s && decide (lineB s = s)) w) := by
  have c1 := fun w => r22chars_any s hs w
  have c2 := fun w => r22line_any s hs hg w
  cases hv : rightB s with
  | false =>
    rw [hv] at c1
    clear hv c2 hg
    go_enter Tryz.func16, Tryz.ntmps16
    go_wp2_with (go_at_call 31; refine (c1 _).mono ?_; rintro e w1 ⟨rfl, hb1⟩)
    go_ret
    exact ⟨rfl, hb1⟩
  | true =>
    rw [hv] at c1
    have e2 := tstr_eq (lineB s) s
    rw [← e2, Bool.true_and]
    clear e2 hv hg
    generalize lineB s = t at *
    go_enter Tryz.func16, Tryz.ntmps16
    go_wp2_with (first | (go_at_call 31; refine (c1 _).mono ?_; rintro e w1 ⟨rfl, hb1⟩) | (go_at_call 12; refine (c2 _).mono ?_; rintro e w2 ⟨rfl, hb2⟩))
    go_ret
    exact ⟨rfl, bl hb1 hb2⟩
theorem r22isblock_any (s : ByteArray) (hs : s.size ≤ 100000) (hg : GoodB (trimB s)) (w : World) : Calls Tryz.prog 18 #[.string s] w (BoolOut (rightB s && decide (blockB s = s)) w) := by
  have c1 := fun w => r22chars_any s hs w
  have c2 := fun w => r22block_any s hs hg w
  cases hv : rightB s with
  | false =>
    rw [hv] at c1
    clear hv c2 hg
    go_enter Tryz.func18, Tryz.ntmps18
    go_wp2_with (go_at_call 31; refine (c1 _).mono ?_; rintro e w1 ⟨rfl, hb1⟩)
    go_ret
    exact ⟨rfl, hb1⟩
  | true =>
    rw [hv] at c1
    have e2 := tstr_eq (blockB s) s
    rw [← e2, Bool.true_and]
    clear e2 hv hg
    generalize blockB s = t at *
    go_enter Tryz.func18, Tryz.ntmps18
    go_wp2_with (first | (go_at_call 31; refine (c1 _).mono ?_; rintro e w1 ⟨rfl, hb1⟩) | (go_at_call 14; refine (c2 _).mono ?_; rintro e w2 ⟨rfl, hb2⟩))
    go_ret
    exact ⟨rfl, bl hb1 hb2⟩
end Go.Proofs.YthepfbkbfkhcaaaGreat
