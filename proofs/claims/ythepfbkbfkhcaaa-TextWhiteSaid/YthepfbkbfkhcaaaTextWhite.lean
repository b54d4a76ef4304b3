/- The walk of the statement TextWhite. The statement TextWhite of cardinglaw22: for every input the law returns true, and its arguments read afterwards as they did. Conditions: none beside the statement's own. -/
import Derived.Test.YthepfbkbfkhcaaaTextOnceW
namespace Tx
section
variable {α : Type} {p : α → Bool}
theorem words_pre : ∀ (W l : List α), (∀ x ∈ W, p x = true) → words p (W ++ l) = words p l
  | [], l, _ => rfl
  | w :: W, l, h => by
    have hw := h w (List.mem_cons_self ..)
    have := words_mid hw [] (W ++ l)
    rw [List.nil_append, words_nil, List.nil_append] at this
    rw [List.cons_append, this, words_pre W l (fun x hx => h x (List.mem_cons_of_mem _ hx))]
theorem words_post (l W : List α) (h : ∀ x ∈ W, p x = true) : words p (l ++ W) = words p l := by
  cases W with
  | nil => rw [List.append_nil]
  | cons w W =>
    rw [words_mid (h w (List.mem_cons_self ..)), show words p W = [] from (words_empty W).2 (fun x hx => h x (List.mem_cons_of_mem _ hx)), List.append_nil]
theorem words_in (A W : List α) (w : α) (B : List α) (hw : p w = true) (h : ∀ x ∈ W, p x = true) : words p (A ++ W ++ w :: B) = words p (A ++ w :: B) := by
  rw [words_mid hw, words_mid hw, words_post A W h]
theorem lt_pre : ∀ (W l : List α), (∀ x ∈ W, p x = true) → lt p (W ++ l) = lt p l
  | [], l, _ => rfl
  | w :: W, l, h => by rw [List.cons_append, lt_ws (h w (List.mem_cons_self ..)), lt_pre W l (fun x hx => h x (List.mem_cons_of_mem _ hx))]
theorem rt_post (l W : List α) : (∀ x ∈ W, p x = true) → rt p (l ++ W) = rt p l := by
  refine snoc_ind (P := fun W => (∀ x ∈ W, p x = true) → rt p (l ++ W) = rt p l) (fun _ => by rw [List.append_nil]) (fun W w ih h => ?_) W
  rw [← List.append_assoc, rt_snoc, h w (List.mem_append_right _ (List.mem_cons_self ..)), if_pos rfl, ih (fun x hx => h x (List.mem_append_left _ hx))]
theorem lt_post : ∀ (l W : List α), (∀ x ∈ W, p x = true) → lt p (l ++ W) = [] ∧ lt p l = [] ∨ lt p (l ++ W) = lt p l ++ W
  | [], W, h => Or.inl ⟨by have := lt_pre W [] h; rw [List.append_nil] at this; exact this, rfl⟩
  | x :: l, W, h => by
    cases hx : p x with
    | true => rw [List.cons_append, lt_ws hx, lt_ws hx]; exact lt_post l W h
    | false => rw [List.cons_append, lt_cons hx, lt_cons hx]; exact Or.inr rfl
theorem trim_both (W l : List α) (h : ∀ x ∈ W, p x = true) : trim p (W ++ l ++ W) = trim p l := by
  unfold trim
  rw [List.append_assoc, lt_pre W _ h]
  rcases lt_post l W h with ⟨e1, e2⟩ | e
  · rw [e1, e2]
  · rw [e, rt_post _ W h]
end
end Tx
namespace Go.Proofs.Ythepfbkbfkhcaaa
open Go.RowKit Go.Shelf
open Go
set_option linter.unusedVariables false
set_option maxRecDepth 100000
theorem and3 (x : Int) : ∃ k : Nat, k ≤ 3 ∧ bits .and .i64 x 3 = (k : Int) := by
  refine ⟨(BitVec.ofInt 64 x &&& BitVec.ofInt 64 3).toNat, ?_, ?_⟩
  · rw [BitVec.toNat_and]
    exact Nat.and_le_right
  · have hle : (BitVec.ofInt 64 x &&& BitVec.ofInt 64 3).toNat ≤ 3 := by
      rw [BitVec.toNat_and]
      exact Nat.and_le_right
    have e : bits .and .i64 x 3 = IntKind.i64.wrap (((BitVec.ofInt 64 x &&& BitVec.ofInt 64 3).toNat : Nat) : Int) := rfl
    rw [e]
    exact wraps_i64 _ (Int.natCast_nonneg _) (by omega)
theorem mod_q (n : Int) (q : Nat) (hq : 1 ≤ q) (hq2 : q ≤ 600) : ∃ k : Nat, IntKind.i64.wrap (n.tmod (q : Int) + (q : Int)) = n.tmod (q : Int) + (q : Int) ∧ (n.tmod (q : Int) + (q : Int)).tmod (q : Int) = (k : Int) ∧ k < q := by
  have h1 : -(q : Int) < n.tmod (q : Int) ∧ n.tmod (q : Int) < (q : Int) := by
    have a1 := Int.tmod_lt_of_pos n (b := (q : Int)) (by omega)
    have a2 := Int.tmod_eq_emod (a := n) (b := (q : Int))
    have a3 := Int.emod_nonneg n (b := (q : Int)) (by omega)
    have a4 := Int.emod_lt_of_pos n (b := (q : Int)) (by omega)
    have a5 : ((q : Int).natAbs : Int) = (q : Int) := by omega
    split at a2 <;> omega
  generalize n.tmod (q : Int) = t at *
  have h2 : (t + (q : Int)).tmod (q : Int) = (t + (q : Int)) % (q : Int) := Int.tmod_eq_emod_of_nonneg (by omega)
  have h3 := Int.emod_nonneg (t + (q : Int)) (b := (q : Int)) (by omega)
  have h4 := Int.emod_lt_of_pos (t + (q : Int)) (b := (q : Int)) (by omega)
  refine ⟨((t + (q : Int)) % (q : Int)).toNat, ?_, ?_, ?_⟩
  · rw [IntKind.wrap_i64]; omega
  · rw [h2]; omega
  · omega
theorem wapp (a b : ByteArray) : Ut.bsL (a ++ b) = Ut.bsL a ++ Ut.bsL b := by
  unfold Ut.bsL
  rw [ByteArray.data_append]
  simp
def WsB (W : ByteArray) : Prop := ∀ x ∈ Ut.bsL W, Tx.wsN x = true
theorem white_line {s t W : ByteArray} (hW : WsB W) (ht : Tx.words Tx.wsN (Ut.bsL t) = Tx.words Tx.wsN (Ut.bsL s)) : oneB (W ++ t ++ W) = oneB s := by
  unfold oneB
  rw [wapp, wapp]
  congr 1
  refine Tx.one_eq ?_
  rw [Tx.words_post _ _ hW, Tx.words_pre _ _ hW, ht]
theorem white_block {s W : ByteArray} (hW : WsB W) : trimB (W ++ s ++ W) = trimB s := by
  unfold trimB
  rw [wapp, wapp, Tx.trim_both _ _ hW]
theorem white_in {s W : ByteArray} (hW : WsB W) {K : Nat} (hK : K < s.size) (hw : Tx.wsN (Sm.B s K) = true) : Tx.words Tx.wsN (Ut.bsL (s.extract 0 K ++ W ++ s.extract K s.size)) = Tx.words Tx.wsN (Ut.bsL s) := by
  have e2 : Ut.bsL (s.extract K s.size) = Sm.B s K :: (Ut.bsL s).drop (K + 1) := by
    rw [Ut.bsL_extract, List.take_of_length_le (by rw [List.length_drop, Ut.bsL_len]; exact Nat.le_refl _), Ut.bsL_drop s K hK]
  have e1 : Ut.bsL (s.extract 0 K) = (Ut.bsL s).take K := by rw [Ut.bsL_extract, List.drop_zero, Nat.sub_zero]
  rw [wapp, wapp, e2, Tx.words_in _ _ _ _ hw hW, e1, ← Ut.bsL_drop s K hK, List.take_append_drop]
theorem white_calls {s T W : ByteArray} (hs : s.size ≤ 300) (hWs : W.size = 6) (hW : WsB W) (hT : T.size ≤ 306) (hw : Tx.words Tx.wsN (Ut.bsL T) = Tx.words Tx.wsN (Ut.bsL s)) :
    (∀ w, Calls Try.prog 13 #[.string (W ++ T ++ W)] w (StrPost (lineB s) w)) ∧ (∀ w, Calls Try.prog 11 #[.string (W ++ s ++ W)] w (StrPost (blockB s) w)) ∧ (∀ w, Calls Try.prog 13 #[.string s] w (StrPost (lineB s) w)) ∧ (∀ w, Calls Try.prog 11 #[.string s] w (StrPost (blockB s) w)) := by
  have e1 := white_line hW hw
  have e2 := white_block (s := s) hW
  have z1 : (W ++ T ++ W).size ≤ 100000 := by rw [ByteArray.size_append, ByteArray.size_append]; omega
  have z2 : (W ++ s ++ W).size ≤ 100000 := by rw [ByteArray.size_append, ByteArray.size_append]; omega
  have g1 : GoodB (oneB s) := good_one (by omega)
  have g2 : GoodB (trimB s) := good_trim (by omega)
  have g1' := g1
  have g2' := g2
  rw [← e1] at g1'
  rw [← e2] at g2'
  refine ⟨fun w => ?_, fun w => ?_, fun w => tline_any s (by omega) g1 w, fun w => tblock_any s (by omega) g2 w⟩
  · have := tline_any _ z1 g1' w
    unfold lineB at this ⊢
    rw [e1] at this
    exact this
  · have := tblock_any _ z2 g2' w
    unfold blockB at this ⊢
    rw [e2] at this
    exact this
def ws4 : ByteArray := ⟨#[32, 9, 10, 13]⟩
theorem ws4_one {k : Nat} (hk : k ≤ 3) : WsB (ws4.extract k (k + 1)) ∧ (ws4.extract k (k + 1)).size = 1 := by
  have : k = 0 ∨ k = 1 ∨ k = 2 ∨ k = 3 := by omega
  rcases this with rfl | rfl | rfl | rfl <;> exact ⟨by unfold WsB; decide, by decide⟩
theorem ws_app {A B : ByteArray} (hA : WsB A) (hB : WsB B) : WsB (A ++ B) := fun x hx => by
  rw [wapp] at hx
  exact (List.mem_append.1 hx).elim (hA x) (hB x)
theorem ws_nil : WsB ⟨#[]⟩ := fun x hx => by cases hx
set_option maxHeartbeats 16000000 in
theorem textWhite_walk {w : World} (s : ByteArray) (hs : s.size ≤ maxLen) (n : Int) (hn : Is64 n) (at_ : Int) (hat : Is64 at_) : Calls Try.prog 4 #[.string s, .int .i64 n, .int .i64 at_] w (LawT w) := by
  have k9 := twakes_any
  unfold LawT at k9 ⊢
  have hb0 : Below w.heap.size w w := Below.refl _ _
  by_cases hlen : 300 < s.size
  · have hl : (300 : Int) < (s.size : Int) := by omega
    go_enter Try.func4, Try.ntmps4
    go_wp2_with (go_at_call 8; refine (k9 _).mono ?_; rintro e w1 ⟨rfl, hb1⟩; replace hb0 := bl hb0 hb1; clear hb1)
    go_ret
    exact ⟨rfl, hb0⟩
  · have hl : ¬ (300 : Int) < (s.size : Int) := by omega
    have v1 := fun w => rvalid_any s (by omega) w
    cases hv : (Ut.scal (Ut.bsL s)).isSome with
    | false =>
      rw [hv] at v1
      clear hv
      go_enter Try.func4, Try.ntmps4
      go_wp2_with (first | (go_at_call 14; refine (v1 _).mono ?_; rintro e w1 ⟨rfl, hb1⟩; replace hb0 := bl hb0 hb1; clear hb1) | (go_at_call 8; refine (k9 _).mono ?_; rintro e w1 ⟨rfl, hb1⟩; replace hb0 := bl hb0 hb1; clear hb1))
      go_ret
      exact ⟨rfl, hb0⟩
    | true =>
      rw [hv] at v1
      clear hv
      go_enter Try.func4, Try.ntmps4
      go_wp2_with (go_at_call 14; refine (v1 _).mono ?_; rintro e w1 ⟨rfl, hb1⟩; replace hb0 := bl hb0 hb1; clear hb1)
      go_loop [7, 8] (fun sv iv => ∃ (i : Nat) (W : ByteArray), i ≤ 6 ∧ iv = .int .i64 (i : Int) ∧ sv = .string W ∧ W.size = i ∧ Hid (WsB W)) (fun _ iv => 6 - (intOf iv).toNat)
      case atStart => exact ⟨0, ⟨#[]⟩, by omega, rfl, rfl, rfl, Lib.hid ws_nil⟩
      case round =>
        obtain ⟨i, W, hi, rfl, rfl, hWs, HW⟩ := hrel
        by_cases hlt : i < 6
        · have i6 : (i : Int) < 6 := by omega
          have iw : IntKind.i64.wrap (2 * (i : Int)) = 2 * (i : Int) := by rw [IntKind.wrap_i64]; omega
          obtain ⟨kk, hk, hand⟩ := and3 (n / 2 ^ (2 * i))
          obtain ⟨hw4, hz4⟩ := ws4_one hk
          have hz4' : ((⟨#[32, 9, 10, 13]⟩ : ByteArray).extract kk (kk + 1)).size = 1 := hz4
          have hmn : min (kk + 1) 4 = kk + 1 := by omega
          have hkw : IntKind.i64.wrap ((kk : Int) + 1) = (kk : Int) + 1 := by rw [IntKind.wrap_i64]; omega
          have b1 : (0 : Int) ≤ (kk : Int) + 1 := by omega
          have b2 : (kk : Int) + 1 ≤ 4 := by omega
          have b3 : (0 : Int) ≤ (kk : Int) := by omega
          have b4 : (kk : Int) ≤ (kk : Int) + 1 := by omega
          have y1 : ¬ 9223372036854775807 < W.size + 1 := by omega
          have y2 : ¬ 9223372036854775807 < W.size + (kk + 1 - kk) := by omega
          have HW2 : Hid (WsB (W ++ (⟨#[32, 9, 10, 13]⟩ : ByteArray).extract kk (kk + 1))) := Lib.hid (ws_app HW.out hw4)
          have hs2 : (W ++ (⟨#[32, 9, 10, 13]⟩ : ByteArray).extract kk (kk + 1)).size = i + 1 := by rw [ByteArray.size_append, hz4', hWs]
          have HS2 := Lib.hid hs2
          clear hw4 hz4 hs2
          go_wp2_with fail
          go_round
          case rel => exact ⟨i + 1, _, by omega, by go_num, rfl, HS2.out, HW2⟩
          case measure => simp [intOf]; omega
        · obtain rfl : i = 6 := by omega
          have hs3 : s.size ≤ 300 := by omega
          by_cases hz : s.size = 0
          · obtain ⟨c1, c2, c3, c4⟩ := white_calls (s := s) (T := s) hs3 hWs HW.out (by omega) rfl
            have q0 : ¬ (0 : Int) < (s.size : Int) := by omega
            have y1 : ¬ 9223372036854775807 < 6 + s.size := by omega
            have y2 : ¬ 9223372036854775807 < 6 + s.size + 6 := by omega
            have y3 : ¬ 9223372036854775807 < W.size + s.size := by omega
            have y4 : ¬ 9223372036854775807 < W.size + s.size + W.size := by omega
            generalize lineB s = la at *
            generalize blockB s = ba at *
            go_wp2_with (first | (go_at_call 13; (first | (with_reducible refine (c1 _).mono ?_) | (with_reducible refine (c3 _).mono ?_)); rintro e w2 ⟨rfl, hb2⟩; replace hb0 := bl hb0 hb2; clear hb2) | (go_at_call 11; (first | (with_reducible refine (c2 _).mono ?_) | (with_reducible refine (c4 _).mono ?_)); rintro e w2 ⟨rfl, hb2⟩; replace hb0 := bl hb0 hb2; clear hb2) | (go_at_call 8; refine (k9 _).mono ?_; rintro e w2 ⟨rfl, hb2⟩; replace hb0 := bl hb0 hb2; clear hb2))
            go_ret
            exact ⟨rfl, hb0⟩
          · obtain ⟨K, m1, m2, hK⟩ := mod_q at_ s.size (by omega) (by omega)
            have q0 : (0 : Int) < (s.size : Int) := by omega
            have q1 : ¬ (s.size : Int) = 0 := by omega
            have q2 : ((s.size : Int) == 0) = false := by simpa using q1
            have kb0 : (0 : Int) ≤ (K : Int) := by omega
            have kb1 : (K : Int) < (s.size : Int) := by omega
            have kb2 : (K : Int) ≤ (s.size : Int) := by omega
            have hidx : ((s[K]'hK).toNat : Int) = (Sm.B s K : Int) := by rw [Sm.B_at s K hK]
            have hin := fun h => white_in (s := s) (W := W) HW.out hK h
            have y1 : ¬ 9223372036854775807 < 6 + s.size := by omega
            have y2 : ¬ 9223372036854775807 < 6 + s.size + 6 := by omega
            have y3 : ¬ 9223372036854775807 < W.size + s.size := by omega
            have y4 : ¬ 9223372036854775807 < W.size + s.size + W.size := by omega
            by_cases hc : Sm.B s K = 32 ∨ Sm.B s K = 10
            · have hT : (s.extract 0 K ++ W ++ s.extract K s.size).size = s.size + 6 := by
                rw [ByteArray.size_append, ByteArray.size_append, hWs]
                simp
                omega
              obtain ⟨c1, c2, c3, c4⟩ := white_calls (s := s) (T := s.extract 0 K ++ W ++ s.extract K s.size) hs3 hWs HW.out (by omega) (hin (by rcases hc with h | h <;> rw [h] <;> rfl))
              have mn : min K s.size = K := by omega
              have x1 : ¬ 9223372036854775807 < K + 6 := by omega
              have x2 : ¬ 9223372036854775807 < K + 6 + (s.size - K) := by omega
              have x3 : ¬ 9223372036854775807 < 6 + (K + 6 + (s.size - K)) := by omega
              have x4 : ¬ 9223372036854775807 < 6 + (K + 6 + (s.size - K)) + 6 := by omega
              clear hin hT
              generalize lineB s = la at *
              generalize blockB s = ba at *
              rcases hc with hc | hc
              · rw [hc] at hidx
                have hc1 : ((Sm.B s K : Int) == 32) = true := by rw [hc]; rfl
                clear hc
                go_wp2_with fail
                go_quiet (fail)
                replace hb0 := bdn hb0 nq
                go_wp2_with (first | (go_at_call 13; (first | (with_reducible refine (c1 _).mono ?_) | (with_reducible refine (c3 _).mono ?_)); rintro e w2 ⟨rfl, hb2⟩; replace hb0 := bl hb0 hb2; clear hb2) | (go_at_call 11; (first | (with_reducible refine (c2 _).mono ?_) | (with_reducible refine (c4 _).mono ?_)); rintro e w2 ⟨rfl, hb2⟩; replace hb0 := bl hb0 hb2; clear hb2) | (go_at_call 8; refine (k9 _).mono ?_; rintro e w2 ⟨rfl, hb2⟩; replace hb0 := bl hb0 hb2; clear hb2))
                go_ret
                exact ⟨rfl, hb0⟩
              · rw [hc] at hidx
                clear hc
                go_wp2_with fail
                go_quiet (fail)
                replace hb0 := bdn hb0 nq
                go_wp2_with (first | (go_at_call 13; (first | (with_reducible refine (c1 _).mono ?_) | (with_reducible refine (c3 _).mono ?_)); rintro e w2 ⟨rfl, hb2⟩; replace hb0 := bl hb0 hb2; clear hb2) | (go_at_call 11; (first | (with_reducible refine (c2 _).mono ?_) | (with_reducible refine (c4 _).mono ?_)); rintro e w2 ⟨rfl, hb2⟩; replace hb0 := bl hb0 hb2; clear hb2) | (go_at_call 8; refine (k9 _).mono ?_; rintro e w2 ⟨rfl, hb2⟩; replace hb0 := bl hb0 hb2; clear hb2))
                go_ret
                exact ⟨rfl, hb0⟩
            · obtain ⟨c1, c2, c3, c4⟩ := white_calls (s := s) (T := s) hs3 hWs HW.out (by omega) rfl
              have n1 : ((Sm.B s K : Int) == 32) = false := by simp; omega
              have n2 : ((Sm.B s K : Int) == 10) = false := by simp; omega
              clear hin hc
              generalize Sm.B s K = c at *
              generalize lineB s = la at *
              generalize blockB s = ba at *
              go_wp2_with (first | (go_at_call 13; (first | (with_reducible refine (c1 _).mono ?_) | (with_reducible refine (c3 _).mono ?_)); rintro e w2 ⟨rfl, hb2⟩; replace hb0 := bl hb0 hb2; clear hb2) | (go_at_call 11; (first | (with_reducible refine (c2 _).mono ?_) | (with_reducible refine (c4 _).mono ?_)); rintro e w2 ⟨rfl, hb2⟩; replace hb0 := bl hb0 hb2; clear hb2) | (go_at_call 8; refine (k9 _).mono ?_; rintro e w2 ⟨rfl, hb2⟩; replace hb0 := bl hb0 hb2; clear hb2))
              go_ret
              exact ⟨rfl, hb0⟩
end Go.Proofs.Ythepfbkbfkhcaaa
namespace Go.Proofs.Ythepfbkbfkhcaaa
open Go.ChangeShapes Go.WideShapes Go.ChangeAt Go.RowKit
open Go.ChangeMaps (open_string)
open Go
set_option maxRecDepth 100000 in
theorem textWhite_lifted (os : Os) (started : os.Started) (H : Type) (enc : TypeId × Value → H) :
    ReturnsInHanded {} Try.checked os 4 .any (Rows.textWhiteSpec.pre6 enc Try.prog Try.f4 Rows.textWhiteRow.domain false) (Rows.textWhiteSpec.post enc Try.prog Try.f4 false true false false) := by
  refine returnsInHanded_of_change (C := Try.checked) own started (by kernel_rfl) Try.func4
    (ChangeSpec.witness6 (enc := enc) (C := Try.checked) false ⟨#[], #[.string ⟨#[]⟩, .int .i64 0, .int .i64 0], []⟩ 8 (by kernel_rfl) (by kernel_rfl) (by kernel_rfl) (by kernel_rfl)) ?_
  intro W base args ds gs before hval0 hW hcnd _
  have hval : ∀ (j : Nat) t v, Try.f4.params[j]? = some t → args[j]? = some v → Value.okWide Try.prog W .any base t v := hval0
  have hW' := hW
  obtain ⟨p, q, hA0, hV, rfl, hfz, hnd⟩ := hW
  have hA : DataW.TrodAll enc Try.prog W 0 (fun _ => true) true Try.f4.params.toList args.toList ds p := hA0
  rw [Try.params4] at hA hval
  obtain ⟨v0, vs0, d0x, ds0, p0, q0, hargs, rfl, rfl, h0, r0⟩ := trodAll_cons hA
  obtain ⟨v1, vs1, d1x, ds1, p1, q1, rfl, rfl, rfl, h1, r1⟩ := trodAll_cons r0
  obtain ⟨v2, vs2, d2x, ds2, p2, q2, rfl, rfl, rfl, h2, r2⟩ := trodAll_cons r1
  obtain ⟨rfl, rfl, rfl⟩ := trodAll_nil r2
  obtain rfl : args = #[v0, v1, v2] := by cases args; simp_all
  obtain ⟨rfl, rfl⟩ := trodVars_none hV
  obtain ⟨a0, rfl, rfl, rfl, w0⟩ := open_string Try.underlying9 (hval 0 9 v0 rfl rfl) h0
  obtain ⟨a1, rfl, rfl, rfl, w1⟩ := open_int Try.underlying3 (hval 1 3 v1 rfl rfl) h1
  obtain ⟨a2, rfl, rfl, rfl, w2⟩ := open_int Try.underlying3 (hval 2 3 v2 rfl rfl) h2
  clear hval0
  simp only [List.append_nil] at hW'
  refine (textWhite_walk (w := W) a0 w0 a1 (is64_wf w1) a2 (is64_wf w2)).mono fun e W' ⟨he, hb⟩ => ?_
  subst he
  exact ⟨_, rfl, law_post (bt := 4) laidOut (by kernel_rfl) (by simpa only [List.append_nil] using hA0) hW' rfl rfl rfl rfl (by kernel_rfl) Try.underlying4 hb⟩
theorem textWhite_holds : Rows.TextWhiteSaid :=
  OpenClaim.holds_of_wide 4 Try.f4 rfl rfl rfl rfl rfl rfl rfl ⟨rfl, rfl, rfl, rfl, rfl⟩ rfl rfl rfl rfl rfl (by kernel_rfl) Try.func4 (by kernel_rfl)
    (of_decide_eq_true (by kernel_rfl)) (by unfold Func.isWrapper; first | (rw [if_pos (by decide +kernel)]; kernel_rfl) | (rw [if_neg (by decide +kernel)]; exact ⟨rfl, rfl⟩))
    (fun os started H enc _ => textWhite_lifted os started H enc)
#print axioms textWhite_holds
end Go.Proofs.Ythepfbkbfkhcaaa
