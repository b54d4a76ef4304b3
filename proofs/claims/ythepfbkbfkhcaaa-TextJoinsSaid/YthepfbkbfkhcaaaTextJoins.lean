/- The walk of the statement TextJoins. The walk of the statement TextJoins. The statement TextJoins of cardinglaw22: for every input the law returns true, and its arguments read afterwards as they did. Conditions: none beside the statement's own. -/
import Derived.Test.YthepfbkbfkhcaaaTextOnceW
namespace Tx
theorem join_app : ∀ ws vs : List (List Int), ws ≠ [] → vs ≠ [] → joinW 32 (ws ++ vs) = joinW 32 ws ++ 32 :: joinW 32 vs
  | [], vs, h, _ => absurd rfl h
  | [a], v :: vs, _, _ => rfl
  | [a], [], _, h => absurd rfl h
  | a :: b :: t, vs, _, hv => by
    show a ++ 32 :: joinW 32 ((b :: t) ++ vs) = (a ++ 32 :: joinW 32 (b :: t)) ++ 32 :: joinW 32 vs
    rw [join_app (b :: t) vs (by simp) hv]
    simp
end Tx
namespace Go.Proofs.Ythepfbkbfkhcaaa
open Go.RowKit Go.Shelf
open Go
set_option linter.unusedVariables false
set_option maxRecDepth 100000
theorem line_mk {M : List Int} (h : Ut.AllSc M) : lineB (Ut.mk (Ut.text M)) = Ut.mk (Ut.text (Tb.nfcL (Tx.oneP Tx.wsI 32 M))) := by
  unfold lineB
  rw [oneB_mk h, nnfc_some (scal_mk (Tx.one_sc h))]
theorem block_mk {M : List Int} (h : Ut.AllSc M) : blockB (Ut.mk (Ut.text M)) = Ut.mk (Ut.text (Tb.nfcL (Tx.trim Tx.wsI M))) := by
  unfold blockB
  rw [trimB_mk h, nnfc_some (scal_mk (Tx.trim_sc h))]
theorem right_mk {M : List Int} (h : Ut.AllSc M) : rightB (Ut.mk (Ut.text M)) = M.all Tb.charI := by
  unfold rightB okR
  rw [scal_mk h]
theorem some_mk {s : ByteArray} {L : List Int} (h : Ut.scal (Ut.bsL s) = some L) : s = Ut.mk (Ut.text L) := by rw [(Ut.scal_some h).2, Ut.mk_of]
theorem not_empty {s : ByteArray} {L : List Int} (h : Ut.scal (Ut.bsL s) = some L) (he : emptyF s = false) : Tx.words Tx.wsI L ≠ [] ∧ Tx.trim Tx.wsI L ≠ [] := by
  have key : ¬ ∀ x ∈ L, Tx.wsI x = true := fun k => by
    have h1 := (Tx.trim_empty L).2 k
    have h2 := trim_some h
    rw [h1] at h2
    have h3 := (Ut.scal_some h2).2
    have h4 : Ut.bsL (trimB s) = [] := h3.symm
    rw [trim_bytes, Tx.trim_empty] at h4
    have h5 : emptyF s = true := List.all_eq_true.2 h4
    rw [h5] at he
    cases he
  exact ⟨fun e => key ((Tx.words_empty L).1 e), fun e => key ((Tx.trim_empty L).1 e)⟩
theorem mk_mid (A B : List Int) (w : Int) (x : Nat) (hw : Ut.encI w = [x]) : Ut.mk (Ut.text (A ++ w :: B)) = Ut.mk (Ut.text A) ++ Ut.mk [x] ++ Ut.mk (Ut.text B) := by
  rw [Ut.text_app, Ut.text_cons, hw, Ut.mk_app, Ut.mk_app, ByteArray.append_assoc]
theorem sc_mid {A B : List Int} {w : Int} (hA : Ut.AllSc A) (hB : Ut.AllSc B) (hw : Ut.isSc w) : Ut.AllSc (A ++ w :: B) := fun x hx => by
  rcases List.mem_append.1 hx with hx | hx
  · exact hA x hx
  · rcases List.mem_cons.1 hx with rfl | hx
    · exact hw
    · exact hB x hx
theorem join_line {a b : ByteArray} {L M : List Int} (ha : Ut.scal (Ut.bsL a) = some L) (hb : Ut.scal (Ut.bsL b) = some M) (ea : emptyF a = false) (eb : emptyF b = false) :
    a ++ ⟨#[32, 10]⟩ ++ b = Ut.mk (Ut.text (L ++ 32 :: 10 :: M)) ∧ lineB (a ++ ⟨#[32, 10]⟩ ++ b) = lineB a ++ ⟨#[32]⟩ ++ lineB b := by
  have hL := (Ut.scal_some ha).1
  have hM := (Ut.scal_some hb).1
  have h10 : Ut.AllSc (10 :: M) := fun x hx => by
    rcases List.mem_cons.1 hx with rfl | hx
    · unfold Ut.isSc; omega
    · exact hM x hx
  have hall := sc_mid (w := 32) hL h10 (by unfold Ut.isSc; omega)
  have e0 : a ++ ⟨#[32, 10]⟩ ++ b = Ut.mk (Ut.text (L ++ 32 :: 10 :: M)) := by
    conv => lhs; rw [some_mk ha, some_mk hb]
    rw [Ut.text_app, Ut.text_cons, Ut.text_cons, Ut.mk_app, show Ut.encI 32 ++ (Ut.encI 10 ++ Ut.text M) = [32, 10] ++ Ut.text M from rfl, Ut.mk_app, ← ByteArray.append_assoc]
    rfl
  refine ⟨e0, ?_⟩
  have n1 := (not_empty ha ea).1
  have n2 := (not_empty hb eb).1
  have e1 : Tx.oneP Tx.wsI 32 (L ++ 32 :: 10 :: M) = Tx.oneP Tx.wsI 32 L ++ 32 :: Tx.oneP Tx.wsI 32 M := by
    unfold Tx.oneP
    have e2 : Tx.words Tx.wsI (L ++ 32 :: 10 :: M) = Tx.words Tx.wsI L ++ Tx.words Tx.wsI M := by
      rw [Tx.words_mid (p := Tx.wsI) rfl]
      congr 1
    rw [e2, Tx.join_app _ _ n1 n2]
  rw [e0, line_mk hall, e1, Tb.nfc_mid Tb.ws32, mk_mid _ _ 32 32 rfl]
  conv => rhs; rw [some_mk ha, some_mk hb]
  rw [line_mk hL, line_mk hM]
  first | done | rfl
theorem join_block {a b : ByteArray} {L M : List Int} (ha : Ut.scal (Ut.bsL a) = some L) (hb : Ut.scal (Ut.bsL b) = some M) (ea : emptyF a = false) (eb : emptyF b = false) :
    Ut.AllSc (Tx.trim Tx.wsI L ++ 10 :: Tx.trim Tx.wsI M) ∧ blockB a ++ ⟨#[10]⟩ ++ blockB b = nnfcB (Ut.mk (Ut.text (Tx.trim Tx.wsI L ++ 10 :: Tx.trim Tx.wsI M))) ∧ trimB (blockB a ++ ⟨#[10]⟩ ++ blockB b) = blockB a ++ ⟨#[10]⟩ ++ blockB b := by
  have hL := (Ut.scal_some ha).1
  have hM := (Ut.scal_some hb).1
  have hall : Ut.AllSc (Tx.trim Tx.wsI L ++ 10 :: Tx.trim Tx.wsI M) := sc_mid (w := 10) (Tx.trim_sc hL) (Tx.trim_sc hM) (by unfold Ut.isSc; omega)
  have e1 : blockB a ++ ⟨#[10]⟩ ++ blockB b = nnfcB (Ut.mk (Ut.text (Tx.trim Tx.wsI L ++ 10 :: Tx.trim Tx.wsI M))) := by
    rw [nnfc_some (scal_mk hall), Tb.nfc_mid (w := 10) rfl, mk_mid _ _ 10 10 rfl]
    conv => lhs; rw [some_mk ha, some_mk hb]
    rw [block_mk hL, block_mk hM]
    rfl
  refine ⟨hall, e1, ?_⟩
  have n1 := (not_empty ha ea).2
  have n2 := (not_empty hb eb).2
  have et : Tx.trim Tx.wsI (Tx.trim Tx.wsI L ++ 10 :: Tx.trim Tx.wsI M) = Tx.trim Tx.wsI L ++ 10 :: Tx.trim Tx.wsI M := by
    have i1 := Tx.trim_idem (p := Tx.wsI) L
    have i2 := Tx.trim_idem (p := Tx.wsI) M
    generalize Tx.trim Tx.wsI L = P at *
    generalize Tx.trim Tx.wsI M = Q at *
    have hlP : ∃ x t, P = x :: t ∧ Tx.wsI x = false := by
      unfold Tx.trim at i1
      rcases Tx.lt_head (p := Tx.wsI) P with h | ⟨x, t, h, hx⟩
      · rw [h] at i1
        exact absurd i1.symm n1
      · rw [h, Tx.rt_cons hx] at i1
        exact ⟨x, _, i1.symm, hx⟩
    have hrQ : Tx.rt Tx.wsI Q = Q := by
      have : Tx.rt Tx.wsI (Tx.trim Tx.wsI Q) = Tx.trim Tx.wsI Q := by unfold Tx.trim; exact Tx.rt_idem _
      rw [i2] at this
      exact this
    obtain ⟨x, t, rfl, hx⟩ := hlP
    unfold Tx.trim
    rw [List.cons_append, Tx.lt_cons hx]
    have e2 : x :: (t ++ 10 :: Q) = ((x :: t) ++ [10]) ++ Q := by simp
    rw [e2, Tx.rt_app _ _ (by rw [hrQ]; exact n2), hrQ]
  rw [e1, trim_nn]
  unfold blockB
  rw [trimB_mk hall, et]
theorem char_mid {A B : List Int} {w : Int} (hA : A.all Tb.charI = true) (hB : B.all Tb.charI = true) (hw : Tb.charI w = true) : (A ++ w :: B).all Tb.charI = true := by
  rw [List.all_append, List.all_cons, hA, hB, hw]
  rfl
theorem right_some {s : ByteArray} {L : List Int} (h : Ut.scal (Ut.bsL s) = some L) : rightB s = L.all Tb.charI := by
  unfold rightB okR
  rw [h]
theorem joins_text {a b : ByteArray} (sa : a.size ≤ 300) (sb : b.size ≤ 300) (ra : rightB a = true) (rb : rightB b = true) (ea : emptyF a = false) (eb : emptyF b = false) :
    GoodB (lineB a ++ ⟨#[32]⟩ ++ lineB b) ∧ GoodB (blockB a ++ ⟨#[10]⟩ ++ blockB b) ∧ GoodB (oneB (a ++ ⟨#[32, 10]⟩ ++ b)) ∧ lineB (a ++ ⟨#[32, 10]⟩ ++ b) = lineB a ++ ⟨#[32]⟩ ++ lineB b ∧ oneB (lineB a ++ ⟨#[32]⟩ ++ lineB b) = lineB a ++ ⟨#[32]⟩ ++ lineB b ∧ trimB (blockB a ++ ⟨#[10]⟩ ++ blockB b) = blockB a ++ ⟨#[10]⟩ ++ blockB b ∧
    (rightB (lineB a ++ ⟨#[32]⟩ ++ lineB b) && decide (lineB (lineB a ++ ⟨#[32]⟩ ++ lineB b) = lineB a ++ ⟨#[32]⟩ ++ lineB b)) = true ∧ (rightB (blockB a ++ ⟨#[10]⟩ ++ blockB b) && decide (blockB (blockB a ++ ⟨#[10]⟩ ++ blockB b) = blockB a ++ ⟨#[10]⟩ ++ blockB b)) = true := by
  cases ha : Ut.scal (Ut.bsL a) with
  | none => unfold rightB okR at ra; rw [ha] at ra; cases ra
  | some L =>
    cases hb : Ut.scal (Ut.bsL b) with
    | none => unfold rightB okR at rb; rw [hb] at rb; cases rb
    | some M =>
      have hL := (Ut.scal_some ha).1
      have hM := (Ut.scal_some hb).1
      have lL := Ut.scal_len ha
      have lM := Ut.scal_len hb
      rw [Ut.bsL_len] at lL lM
      obtain ⟨j0, j1⟩ := join_line ha hb ea eb
      obtain ⟨k0, k1, k2⟩ := join_block ha hb ea eb
      rw [right_some ha] at ra
      rw [right_some hb] at rb
      have hsz : (a ++ ⟨#[32, 10]⟩ ++ b).size ≤ 602 := by
        rw [ByteArray.size_append, ByteArray.size_append]
        show a.size + 2 + b.size ≤ 602
        omega
      have go1 : GoodB (oneB (a ++ ⟨#[32, 10]⟩ ++ b)) := good_one (by omega)
      have gJ : GoodB (lineB a ++ ⟨#[32]⟩ ++ lineB b) := by rw [← j1]; exact good_nnfc go1
      have gK : GoodB (blockB a ++ ⟨#[10]⟩ ++ blockB b) := by
        rw [k1]
        refine good_nnfc (good_mk (good_620 k0 ?_))
        have t1 := trim_len L
        have t2 := trim_len M
        rw [List.length_append, List.length_cons]
        omega
      have hall : Ut.AllSc (L ++ 32 :: 10 :: M) := sc_mid (w := 32) hL (fun x hx => by
        rcases List.mem_cons.1 hx with rfl | hx
        · unfold Ut.isSc; omega
        · exact hM x hx) (by unfold Ut.isSc; omega)
      refine ⟨gJ, gK, go1, j1, by rw [← j1, one_line], k2, ?_, ?_⟩
      · rw [← j1, line_line, decide_eq_true rfl, Bool.and_true, right_line, j0, right_mk hall]
        exact char_mid ra (by rw [List.all_cons, rb]; rfl) rfl
      · have e3 : blockB (blockB a ++ ⟨#[10]⟩ ++ blockB b) = blockB a ++ ⟨#[10]⟩ ++ blockB b := by
          conv => lhs; unfold blockB
          have : trimB (nnfcB (trimB a) ++ ⟨#[10]⟩ ++ nnfcB (trimB b)) = nnfcB (trimB a) ++ ⟨#[10]⟩ ++ nnfcB (trimB b) := k2
          rw [this]
          have k1' : nnfcB (trimB a) ++ ⟨#[10]⟩ ++ nnfcB (trimB b) = nnfcB (Ut.mk (Ut.text (Tx.trim Tx.wsI L ++ 10 :: Tx.trim Tx.wsI M))) := k1
          rw [k1', nn_idem, ← k1']
          rfl
        rw [e3, decide_eq_true rfl, Bool.and_true, k1, right_nn, right_mk k0]
        exact char_mid (by rw [Tb.trim_char]; exact ra) (by rw [Tb.trim_char]; exact rb) rfl
theorem val_right {s : ByteArray} (h : Ut.scal (Ut.bsL s) = none) : rightB s = false := by unfold rightB okR; rw [h]
end Go.Proofs.Ythepfbkbfkhcaaa
namespace Go.Proofs.Ythepfbkbfkhcaaa
open Go.RowKit Go.Shelf
open Go
set_option linter.unusedVariables false
set_option maxRecDepth 100000
def BadR (r : Bool) (w : World) (e : Ending) (w' : World) : Prop := ∃ n : Int, e = .returned (.int .i64 n) ∧ decide (n < 0) = r ∧ Below w.heap.size w w'
set_option maxHeartbeats 16000000 in
theorem textJoins_walk {w : World} (a : ByteArray) (wa : a.size ≤ maxLen) (b : ByteArray) (wb : b.size ≤ maxLen) : Calls Try.prog 7 #[.string a, .string b] w (LawT w) := by
  have k9 := twakes_any
  unfold LawT at k9 ⊢
  have hb0 : Below w.heap.size w w := Below.refl _ _
  by_cases hla : 300 < a.size
  · have hl : (300 : Int) < (a.size : Int) := by omega
    go_enter Try.func7, Try.ntmps7
    go_wp2_with (first | (go_at_call 8; refine (k9 _).mono ?_; rintro e w1 ⟨rfl, hb1⟩; replace hb0 := bl hb0 hb1; clear hb1))
    go_ret
    exact ⟨rfl, hb0⟩
  · have hl : ¬ (300 : Int) < (a.size : Int) := by omega
    by_cases hlb : 300 < b.size
    · have hl2 : (300 : Int) < (b.size : Int) := by omega
      go_enter Try.func7, Try.ntmps7
      go_wp2_with (first | (go_at_call 8; refine (k9 _).mono ?_; rintro e w1 ⟨rfl, hb1⟩; replace hb0 := bl hb0 hb1; clear hb1))
      go_ret
      exact ⟨rfl, hb0⟩
    · have hl2 : ¬ (300 : Int) < (b.size : Int) := by omega
      have sa : a.size ≤ 300 := by omega
      have sb : b.size ≤ 300 := by omega
      have v1 := fun w => rvalid_any a (by omega) w
      have v2 := fun w => rvalid_any b (by omega) w
      have d1 := fun w => rbad_any a (by omega) w
      have d2 := fun w => rbad_any b (by omega) w
      unfold BadPost at d1 d2
      have e4 : okR (Ut.bsL a) = rightB a := rfl
      have e5 : okR (Ut.bsL b) = rightB b := rfl
      rw [e4] at d1
      rw [e5] at d2
      clear e4 e5
      have m1 := fun w => tempty_any a (by omega) w
      have m2 := fun w => tempty_any b (by omega) w
      have hjt := joins_text sa sb
      have c1 := fun w => tline_any a (by omega) (good_one (by omega)) w
      have c2 := fun w => tline_any b (by omega) (good_one (by omega)) w
      have c3 := fun w => tblock_any a (by omega) (good_trim (by omega)) w
      have c4 := fun w => tblock_any b (by omega) (good_trim (by omega)) w
      have g1 : GoodB (lineB a) := good_nnfc (good_one (by omega))
      have g2 : GoodB (lineB b) := good_nnfc (good_one (by omega))
      have g3 : GoodB (blockB a) := good_nnfc (good_trim (by omega))
      have g4 : GoodB (blockB b) := good_nnfc (good_trim (by omega))
      have z1' := g1.1
      have z2' := g2.1
      have z3' := g3.1
      have z4' := g4.1
      clear g1 g2 g3 g4 hla hlb
      cases hva : (Ut.scal (Ut.bsL a)).isSome with
      | false =>
        rw [hva] at v1
        clear hjt hva
        go_enter Try.func7, Try.ntmps7
        go_wp2_with (first | (go_at_call 14; (first | (with_reducible refine (v1 _).mono ?_) | (with_reducible refine (v2 _).mono ?_)); rintro e w2 ⟨rfl, hb2⟩; replace hb0 := bl hb0 hb2; clear hb2) | (go_at_call 17; (first | (with_reducible refine (d1 _).mono ?_) | (with_reducible refine (d2 _).mono ?_)); rintro e w2 ⟨n, rfl, hn, hb2⟩; replace hb0 := bl hb0 hb2; clear hb2; first | (have hn2 : n < 0 := of_decide_eq_true hn; clear hn) | (have hn2 : ¬ n < 0 := of_decide_eq_false hn; clear hn)) | (go_at_call 20; (first | (with_reducible refine (m1 _).mono ?_) | (with_reducible refine (m2 _).mono ?_)); rintro e w2 ⟨rfl, hb2⟩; replace hb0 := bl hb0 hb2; clear hb2) | (go_at_call 8; refine (k9 _).mono ?_; rintro e w1 ⟨rfl, hb1⟩; replace hb0 := bl hb0 hb1; clear hb1))
        go_ret
        exact ⟨rfl, hb0⟩
      | true =>
        rw [hva] at v1
        clear hva
        cases hvb : (Ut.scal (Ut.bsL b)).isSome with
        | false =>
          rw [hvb] at v2
          clear hjt hvb
          go_enter Try.func7, Try.ntmps7
          go_wp2_with (first | (go_at_call 14; (first | (with_reducible refine (v1 _).mono ?_) | (with_reducible refine (v2 _).mono ?_)); rintro e w2 ⟨rfl, hb2⟩; replace hb0 := bl hb0 hb2; clear hb2) | (go_at_call 17; (first | (with_reducible refine (d1 _).mono ?_) | (with_reducible refine (d2 _).mono ?_)); rintro e w2 ⟨n, rfl, hn, hb2⟩; replace hb0 := bl hb0 hb2; clear hb2; first | (have hn2 : n < 0 := of_decide_eq_true hn; clear hn) | (have hn2 : ¬ n < 0 := of_decide_eq_false hn; clear hn)) | (go_at_call 20; (first | (with_reducible refine (m1 _).mono ?_) | (with_reducible refine (m2 _).mono ?_)); rintro e w2 ⟨rfl, hb2⟩; replace hb0 := bl hb0 hb2; clear hb2) | (go_at_call 8; refine (k9 _).mono ?_; rintro e w1 ⟨rfl, hb1⟩; replace hb0 := bl hb0 hb1; clear hb1))
          go_ret
          exact ⟨rfl, hb0⟩
        | true =>
          rw [hvb] at v2
          clear hvb
          cases hra : rightB a with
          | false =>
            rw [hra] at d1
            clear hjt hra
            go_enter Try.func7, Try.ntmps7
            go_wp2_with (first | (go_at_call 14; (first | (with_reducible refine (v1 _).mono ?_) | (with_reducible refine (v2 _).mono ?_)); rintro e w2 ⟨rfl, hb2⟩; replace hb0 := bl hb0 hb2; clear hb2) | (go_at_call 17; (first | (with_reducible refine (d1 _).mono ?_) | (with_reducible refine (d2 _).mono ?_)); rintro e w2 ⟨n, rfl, hn, hb2⟩; replace hb0 := bl hb0 hb2; clear hb2; first | (have hn2 : n < 0 := of_decide_eq_true hn; clear hn) | (have hn2 : ¬ n < 0 := of_decide_eq_false hn; clear hn)) | (go_at_call 20; (first | (with_reducible refine (m1 _).mono ?_) | (with_reducible refine (m2 _).mono ?_)); rintro e w2 ⟨rfl, hb2⟩; replace hb0 := bl hb0 hb2; clear hb2) | (go_at_call 8; refine (k9 _).mono ?_; rintro e w1 ⟨rfl, hb1⟩; replace hb0 := bl hb0 hb1; clear hb1))
            go_ret
            exact ⟨rfl, hb0⟩
          | true =>
            rw [hra] at d1
            cases hrb : rightB b with
            | false =>
              rw [hrb] at d2
              clear hjt hra hrb
              go_enter Try.func7, Try.ntmps7
              go_wp2_with (first | (go_at_call 14; (first | (with_reducible refine (v1 _).mono ?_) | (with_reducible refine (v2 _).mono ?_)); rintro e w2 ⟨rfl, hb2⟩; replace hb0 := bl hb0 hb2; clear hb2) | (go_at_call 17; (first | (with_reducible refine (d1 _).mono ?_) | (with_reducible refine (d2 _).mono ?_)); rintro e w2 ⟨n, rfl, hn, hb2⟩; replace hb0 := bl hb0 hb2; clear hb2; first | (have hn2 : n < 0 := of_decide_eq_true hn; clear hn) | (have hn2 : ¬ n < 0 := of_decide_eq_false hn; clear hn)) | (go_at_call 20; (first | (with_reducible refine (m1 _).mono ?_) | (with_reducible refine (m2 _).mono ?_)); rintro e w2 ⟨rfl, hb2⟩; replace hb0 := bl hb0 hb2; clear hb2) | (go_at_call 8; refine (k9 _).mono ?_; rintro e w1 ⟨rfl, hb1⟩; replace hb0 := bl hb0 hb1; clear hb1))
              go_ret
              exact ⟨rfl, hb0⟩
            | true =>
              rw [hrb] at d2
              cases hea : emptyF a with
              | true =>
                rw [hea] at m1
                clear hjt hra hrb hea
                go_enter Try.func7, Try.ntmps7
                go_wp2_with (first | (go_at_call 14; (first | (with_reducible refine (v1 _).mono ?_) | (with_reducible refine (v2 _).mono ?_)); rintro e w2 ⟨rfl, hb2⟩; replace hb0 := bl hb0 hb2; clear hb2) | (go_at_call 17; (first | (with_reducible refine (d1 _).mono ?_) | (with_reducible refine (d2 _).mono ?_)); rintro e w2 ⟨n, rfl, hn, hb2⟩; replace hb0 := bl hb0 hb2; clear hb2; first | (have hn2 : n < 0 := of_decide_eq_true hn; clear hn) | (have hn2 : ¬ n < 0 := of_decide_eq_false hn; clear hn)) | (go_at_call 20; (first | (with_reducible refine (m1 _).mono ?_) | (with_reducible refine (m2 _).mono ?_)); rintro e w2 ⟨rfl, hb2⟩; replace hb0 := bl hb0 hb2; clear hb2) | (go_at_call 8; refine (k9 _).mono ?_; rintro e w1 ⟨rfl, hb1⟩; replace hb0 := bl hb0 hb1; clear hb1))
                go_ret
                exact ⟨rfl, hb0⟩
              | false =>
                rw [hea] at m1
                cases heb : emptyF b with
                | true =>
                  rw [heb] at m2
                  clear hjt hra hrb hea heb
                  go_enter Try.func7, Try.ntmps7
                  go_wp2_with (first | (go_at_call 14; (first | (with_reducible refine (v1 _).mono ?_) | (with_reducible refine (v2 _).mono ?_)); rintro e w2 ⟨rfl, hb2⟩; replace hb0 := bl hb0 hb2; clear hb2) | (go_at_call 17; (first | (with_reducible refine (d1 _).mono ?_) | (with_reducible refine (d2 _).mono ?_)); rintro e w2 ⟨n, rfl, hn, hb2⟩; replace hb0 := bl hb0 hb2; clear hb2; first | (have hn2 : n < 0 := of_decide_eq_true hn; clear hn) | (have hn2 : ¬ n < 0 := of_decide_eq_false hn; clear hn)) | (go_at_call 20; (first | (with_reducible refine (m1 _).mono ?_) | (with_reducible refine (m2 _).mono ?_)); rintro e w2 ⟨rfl, hb2⟩; replace hb0 := bl hb0 hb2; clear hb2) | (go_at_call 8; refine (k9 _).mono ?_; rintro e w1 ⟨rfl, hb1⟩; replace hb0 := bl hb0 hb1; clear hb1))
                  go_ret
                  exact ⟨rfl, hb0⟩
                | false =>
                  rw [heb] at m2
                  obtain ⟨gJ, gK, gO, f1, f2, f3, f4, f5⟩ := hjt hra hrb hea heb
                  have gJ2 := gJ
                  have gK2 := gK
                  rw [← f2] at gJ2
                  rw [← f3] at gK2
                  have hsO : (a ++ ⟨#[32, 10]⟩ ++ b).size ≤ 100000 := by
                    rw [ByteArray.size_append, ByteArray.size_append]
                    show a.size + 2 + b.size ≤ 100000
                    omega
                  have n1 := fun w => tisline_any _ gJ.1 gJ2 w
                  have n2 := fun w => tisblock_any _ gK.1 gK2 w
                  have n3 := fun w => tline_any _ hsO gO w
                  rw [f4] at n1
                  rw [f5] at n2
                  rw [f1] at n3
                  clear hra hrb hea heb gJ gK gO f1 f2 f3 f4 f5 gJ2 gK2 hsO
                  generalize lineB a = x at *
                  generalize lineB b = y at *
                  generalize blockB a = u at *
                  generalize blockB b = v at *
                  have q1 : (⟨#[32]⟩ : ByteArray).size = 1 := rfl
                  have q2 : (⟨#[10]⟩ : ByteArray).size = 1 := rfl
                  have q3 : (⟨#[32, 10]⟩ : ByteArray).size = 2 := rfl
                  have p1 : (x ++ ⟨#[32]⟩).size = x.size + 1 := by rw [ByteArray.size_append, q1]
                  have p2 : (u ++ ⟨#[10]⟩).size = u.size + 1 := by rw [ByteArray.size_append, q2]
                  have p3 : (a ++ ⟨#[32, 10]⟩).size = a.size + 2 := by rw [ByteArray.size_append, q3]
                  have y1 : ¬ 9223372036854775807 < x.size + 1 := by omega
                  have y2 : ¬ 9223372036854775807 < x.size + 1 + y.size := by omega
                  have y3 : ¬ 9223372036854775807 < u.size + 1 := by omega
                  have y4 : ¬ 9223372036854775807 < u.size + 1 + v.size := by omega
                  have y5 : ¬ 9223372036854775807 < a.size + 2 := by omega
                  have y6 : ¬ 9223372036854775807 < a.size + 2 + b.size := by omega
                  go_enter Try.func7, Try.ntmps7
                  go_wp2_with (first | (go_at_call 14; (first | (with_reducible refine (v1 _).mono ?_) | (with_reducible refine (v2 _).mono ?_)); rintro e w2 ⟨rfl, hb2⟩; replace hb0 := bl hb0 hb2; clear hb2) | (go_at_call 17; (first | (with_reducible refine (d1 _).mono ?_) | (with_reducible refine (d2 _).mono ?_)); rintro e w2 ⟨n, rfl, hn, hb2⟩; replace hb0 := bl hb0 hb2; clear hb2; first | (have hn2 : n < 0 := of_decide_eq_true hn; clear hn) | (have hn2 : ¬ n < 0 := of_decide_eq_false hn; clear hn)) | (go_at_call 20; (first | (with_reducible refine (m1 _).mono ?_) | (with_reducible refine (m2 _).mono ?_)); rintro e w2 ⟨rfl, hb2⟩; replace hb0 := bl hb0 hb2; clear hb2) | (go_at_call 13; (first | (with_reducible refine (c1 _).mono ?_) | (with_reducible refine (c2 _).mono ?_) | (with_reducible refine (n3 _).mono ?_)); rintro e w2 ⟨rfl, hb2⟩; replace hb0 := bl hb0 hb2; clear hb2) | (go_at_call 11; (first | (with_reducible refine (c3 _).mono ?_) | (with_reducible refine (c4 _).mono ?_)); rintro e w2 ⟨rfl, hb2⟩; replace hb0 := bl hb0 hb2; clear hb2) | (go_at_call 18; refine (n1 _).mono ?_; rintro e w2 ⟨rfl, hb2⟩; replace hb0 := bl hb0 hb2; clear hb2) | (go_at_call 19; refine (n2 _).mono ?_; rintro e w2 ⟨rfl, hb2⟩; replace hb0 := bl hb0 hb2; clear hb2) | (go_at_call 8; refine (k9 _).mono ?_; rintro e w1 ⟨rfl, hb1⟩; replace hb0 := bl hb0 hb1; clear hb1))
                  go_ret
                  exact ⟨rfl, hb0⟩
end Go.Proofs.Ythepfbkbfkhcaaa
namespace Go.Proofs.Ythepfbkbfkhcaaa
open Go.ChangeShapes Go.WideShapes Go.ChangeAt Go.RowKit
open Go.ChangeMaps (open_string)
open Go
set_option maxRecDepth 100000 in
theorem textJoins_lifted (os : Os) (started : os.Started) (H : Type) (enc : TypeId × Value → H) :
    ReturnsInHanded {} Try.checked os 7 .any (Rows.textJoinsSpec.pre6 enc Try.prog Try.f7 Rows.textJoinsRow.domain false) (Rows.textJoinsSpec.post enc Try.prog Try.f7 false true false false) := by
  refine returnsInHanded_of_change (C := Try.checked) own started (by kernel_rfl) Try.func7
    (ChangeSpec.witness6 (enc := enc) (C := Try.checked) false ⟨#[], #[.string ⟨#[]⟩, .string ⟨#[]⟩], []⟩ 8 (by kernel_rfl) (by kernel_rfl) (by kernel_rfl) (by kernel_rfl)) ?_
  intro W base args ds gs before hval0 hW hcnd _
  have hval : ∀ (j : Nat) t v, Try.f7.params[j]? = some t → args[j]? = some v → Value.okWide Try.prog W .any base t v := hval0
  have hW' := hW
  obtain ⟨p, q, hA0, hV, rfl, hfz, hnd⟩ := hW
  have hA : DataW.TrodAll enc Try.prog W 0 (fun _ => true) true Try.f7.params.toList args.toList ds p := hA0
  rw [Try.params7] at hA hval
  obtain ⟨v0, vs0, d0x, ds0, p0, q0, hargs, rfl, rfl, h0, r0⟩ := trodAll_cons hA
  obtain ⟨v1, vs1, d1x, ds1, p1, q1, rfl, rfl, rfl, h1, r1⟩ := trodAll_cons r0
  obtain ⟨rfl, rfl, rfl⟩ := trodAll_nil r1
  obtain rfl : args = #[v0, v1] := by cases args; simp_all
  obtain ⟨rfl, rfl⟩ := trodVars_none hV
  obtain ⟨a0, rfl, rfl, rfl, w0⟩ := open_string Try.underlying9 (hval 0 9 v0 rfl rfl) h0
  obtain ⟨a1, rfl, rfl, rfl, w1⟩ := open_string Try.underlying9 (hval 1 9 v1 rfl rfl) h1
  clear hval0
  simp only [List.append_nil] at hW'
  refine (textJoins_walk (w := W) a0 w0 a1 w1).mono fun e W' ⟨he, hb⟩ => ?_
  subst he
  exact ⟨_, rfl, law_post (bt := 4) laidOut (by kernel_rfl) (by simpa only [List.append_nil] using hA0) hW' rfl rfl rfl rfl (by kernel_rfl) Try.underlying4 hb⟩
theorem textJoins_holds : Rows.TextJoinsSaid :=
  OpenClaim.holds_of_wide 7 Try.f7 rfl rfl rfl rfl rfl rfl rfl ⟨rfl, rfl, rfl, rfl, rfl⟩ rfl rfl rfl rfl rfl (by kernel_rfl) Try.func7 (by kernel_rfl)
    (of_decide_eq_true (by kernel_rfl)) (by unfold Func.isWrapper; first | (rw [if_pos (by decide +kernel)]; kernel_rfl) | (rw [if_neg (by decide +kernel)]; exact ⟨rfl, rfl⟩))
    (fun os started H enc _ => textJoins_lifted os started H enc)
#print axioms textJoins_holds
end Go.Proofs.Ythepfbkbfkhcaaa
