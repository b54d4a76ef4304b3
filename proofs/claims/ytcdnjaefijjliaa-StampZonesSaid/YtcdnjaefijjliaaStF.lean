/- The walks of the stamp's full, Stamp and W3c. -/
import Derived.Test.YtcdnjaefijjliaaStE
import Derived.Test.YtcdnjaefijjliaaStB
import Derived.Test.YtcdnjaefijjliaaSmF
namespace Go.Proofs.Ytcdnjaefijjliaa
open Go.RowKit
open Go
set_option linter.unusedVariables false
theorem first_exists (s : ByteArray) (c : Nat) : ∃ k, FirstAt s c k := by
  have key : ∀ n, n ≤ s.size → (∃ m : Nat, m < n ∧ Sm.B s m = c ∧ ∀ i, i < m → Sm.B s i ≠ c) ∨ ∀ i, i < n → Sm.B s i ≠ c := by
    intro n
    induction n with
    | zero => intro _; right; intro i hi; omega
    | succ n ih =>
      intro h
      rcases ih (by omega) with ⟨m, h1, h2, h3⟩ | h1
      · exact Or.inl ⟨m, by omega, h2, h3⟩
      · by_cases e : Sm.B s n = c
        · exact Or.inl ⟨n, by omega, e, h1⟩
        · right
          intro i hi
          by_cases q : i = n
          · subst q; exact e
          · exact h1 i (by omega)
  rcases key s.size (Nat.le_refl _) with ⟨m, h1, h2, h3⟩ | h1
  · exact ⟨m, Or.inl ⟨m, rfl, h1, h2, h3⟩⟩
  · exact ⟨-1, Or.inr ⟨rfl, h1⟩⟩
theorem secR_call (y m d h mi x east : Int) (bh : Is64 h) (bm : Is64 mi) (bs : Is64 x) : ∃ k ok, (k == 0) = ok ∧ ((Sm.secR y m d h mi x east).2 = ok) ∧
    ∀ w, Calls Try.prog 35 #[.agg #[.int .i64 y, .int .i64 m, .int .i64 d, .int .i64 h, .int .i64 mi, .int .i64 x], .int .i64 east] w fun e w' => e = .returned (.tuple #[.int .i64 (Sm.secR y m d h mi x east).1, .int .i64 k]) ∧ Below w.heap.size w w' := by
  unfold Sm.secR
  cases hk : Cv.secOk y m d h mi x east
  · exact ⟨2, false, rfl, rfl, fun w => sec_no y m d h mi x east w bh bm bs hk⟩
  · exact ⟨0, true, rfl, rfl, fun w => sec_yes y m d h mi x east w bh bm bs hk⟩
set_option maxHeartbeats 1000000 in
theorem full_miss (s : ByteArray) (hs : s.size ≤ 1000) (l : Int) (w : World) (h : FirstAt s 84 (-1)) : Calls Try.prog 22 #[.string s, .int .i64 l] w (ZonPost (0, false) w) := by
  have C := fun w => cut_any s (-1) h (by omega) w
  unfold cutT at C
  rw [if_pos rfl] at C
  go_enter Try.func22, Try.ntmps22
  go_wp2_with fail
  refine (C _).mono ?_
  rintro e w1 ⟨rfl, hb1⟩
  go_wp2_with fail
  go_ret2
  exact ⟨rfl, hb1⟩
set_option maxHeartbeats 1000000 in
theorem full_form (s a b : ByteArray) (l : Int) (w : World) (C : ∀ w, Calls Try.prog 34 #[.string s, .string ⟨#[84]⟩] w (fun e w' => e = .returned (.tuple #[.string a, .string b, .bool true]) ∧ Below w.heap.size w w')) (h : Sm.formB a ⟨#[48, 48, 48, 48, 45, 48, 48, 45, 48, 48]⟩ = false) : Calls Try.prog 22 #[.string s, .int .i64 l] w (ZonPost (0, false) w) := by
  go_enter Try.func22, Try.ntmps22
  go_wp2_with fail
  refine (C _).mono ?_
  rintro e w1 ⟨rfl, hb1⟩
  go_wp2_with fail
  refine (fm _ _ false h (by decide) _).mono ?_
  rintro e w2 ⟨rfl, hb2⟩
  go_wp2_with fail
  go_ret2
  exact ⟨rfl, bn hb1 hb2⟩
set_option maxHeartbeats 1000000 in
theorem full_in (s a r : ByteArray) (l : Int) (w : World) (C : ∀ w, Calls Try.prog 34 #[.string s, .string ⟨#[84]⟩] w (fun e w' => e = .returned (.tuple #[.string a, .string r, .bool true]) ∧ Below w.heap.size w w')) (h : Sm.formB a ⟨#[48, 48, 48, 48, 45, 48, 48, 45, 48, 48]⟩ = true)
    (hh mi x : Int) (n : Nat) (ok : Bool) (hn : n ≤ r.size) (K : ∀ w, Calls Try.prog 16 #[.string r] w (fun e w' => e = .returned (.tuple #[.agg #[.int .i64 0, .int .i64 0, .int .i64 0, .int .i64 hh, .int .i64 mi, .int .i64 x], .int .i64 n, .bool ok]) ∧ Below w.heap.size w w'))
    (east : Int) (zok : Bool) (Z : ∀ w, Calls Try.prog 14 #[.string (r.extract n r.size)] w (ZonPost (east, zok) w))
    (v : Int) (vok : Bool) (S : ∀ w, Calls Try.prog 25 #[.string a, .agg #[.int .i64 0, .int .i64 0, .int .i64 0, .int .i64 hh, .int .i64 mi, .int .i64 x], .int .i64 east] w (ZonPost (v, vok) w)) :
    Calls Try.prog 22 #[.string s, .int .i64 l] w (ZonPost (if ok = true ∧ l ≤ n then (if zok = true then (v, vok) else (0, false)) else (0, false)) w) := by
  generalize hF : (if ok = true ∧ l ≤ n then (if zok = true then (v, vok) else (0, false)) else (0, false)) = res
  have HF := Lib.hid hF
  clear hF
  have hn' : (n : Int) ≤ r.size := by omega
  go_enter Try.func22, Try.ntmps22
  go_wp2_with fail
  refine (C _).mono ?_
  rintro e w1 ⟨rfl, hb1⟩
  go_wp2_with fail
  refine (fm _ _ true h (by decide) _).mono ?_
  rintro e w2 ⟨rfl, hb2⟩
  go_wp2_with fail
  refine (K _).mono ?_
  rintro e w3 ⟨rfl, hb3⟩
  have hB3 := bn (bn hb1 hb2) hb3
  clear hb1 hb2 hb3 C K
  cases ok
  · go_wp2_with fail
    go_ret2
    refine ⟨?_, bbox hB3 _⟩
    rw [show res = (0, false) by rw [← HF.out]; simp]
    rfl
  by_cases hl : (n : Int) < l
  · go_wp2_with fail
    go_ret2
    refine ⟨?_, bbox hB3 _⟩
    rw [show res = (0, false) by rw [← HF.out, if_neg (fun k => by omega)]]
    rfl
  go_wp2_with fail
  refine (Z _).mono ?_
  rintro e w4 ⟨rfl, hb4⟩
  have hc := (BX.first w3 _ _ _ _ _ _ _).step hb4
  clear hb4 Z
  obtain ⟨⟨q0, q1, q2, q3, q4, q5⟩, hf, hz, hB⟩ := id hc
  cases zok
  · go_wp2_with fail
    go_ret2
    refine ⟨?_, bn hB3 hB⟩
    rw [show res = (0, false) by rw [← HF.out]; simp [hl]]
    rfl
  go_wp2_with fail
  refine (S _).mono ?_
  rintro e w5 ⟨rfl, hb5⟩
  go_wp2_with fail
  go_ret2
  refine ⟨?_, bn (bn hB3 hB) hb5⟩
  rw [show res = (v, vok) by rw [← HF.out]; simp [hl]]
  rfl
theorem i64_small {a : Int} (h0 : 0 ≤ a) (h1 : a ≤ 99) : Is64 a := by unfold Is64; omega
set_option maxHeartbeats 1000000 in
theorem full_any (s : ByteArray) (hs : s.size ≤ 1000) (l : Nat) (w : World) : Calls Try.prog 22 #[.string s, .int .i64 l] w (ZonPost (Sm.fullF s l) w) := by
  obtain ⟨k, hk⟩ := first_exists s 84
  rcases id hk with ⟨n, rfl, hn, h1, h2⟩ | ⟨rfl, h2⟩
  · have C := fun w => cut_any s n hk (by omega) w
    unfold cutT at C
    rw [if_neg (by omega)] at C
    have e : ((n : Int)).toNat = n := rfl
    rw [e] at C
    by_cases h10 : n = 10 ∧ Sm.dayB s = true
    · obtain ⟨rfl, hd⟩ := h10
      have hB : ∀ i, i < 10 → Sm.B (s.extract 0 10) i = Sm.B s i := fun i hi => by rw [Sm.B_extract, if_pos (by omega), Nat.zero_add]
      obtain ⟨e0, e5, e8, ed⟩ := Sm.same_day hB
      have hsz : (s.extract 0 10).size = 10 := by simp; omega
      have hF : Sm.fullF s l = Sm.tailF s (s.extract 11 s.size) l := by unfold Sm.fullF; rw [if_pos ⟨hd, h1⟩]
      rw [hF]
      generalize hr : s.extract (10 + 1) s.size = r at C
      have hr' : s.extract 11 s.size = r := hr
      try rw [hr']
      have hrs : r.size ≤ 1000 := by rw [← hr]; simp; omega
      have hbd := Sm.clk_bd r
      have hle := Sm.clk_le r
      have K := fun w => clock_any r hrs w
      unfold Sm.tailF
      generalize Sm.clkF r = ck at *
      obtain ⟨hh, mi, x, n, ok⟩ := ck
      simp only at hbd hle K ⊢
      obtain ⟨c1, c2, c3, c4, c5, c6⟩ := hbd
      have Z := fun w => zone_any (r.extract n r.size) w
      generalize Sm.zonF (r.extract n r.size) = zk at *
      obtain ⟨east, zok⟩ := zk
      simp only at Z ⊢
      have hdd : Sm.dayB (s.extract 0 10) = true := ed.trans hd
      obtain ⟨q0, _, q5, _, q8⟩ := (Sm.dayB_iff _).1 hdd
      obtain ⟨kk, sok, g1, g2, g3⟩ := secR_call (Sm.n4 s 0) (Sm.n2 s 5) (Sm.n2 s 8) hh mi x east (i64_small c1 c2) (i64_small c3 c4) (i64_small c5 c6)
      rw [← e0, ← e5, ← e8] at g2 g3 ⊢
      generalize hsr : Sm.secR (Sm.n4 (s.extract 0 10) 0) (Sm.n2 (s.extract 0 10) 5) (Sm.n2 (s.extract 0 10) 8) hh mi x east = sr at *
      obtain ⟨v, vok⟩ := sr
      simp only at g2 g3 ⊢
      subst g2
      have S := fun w => sec_10 (s.extract 0 10) hsz q0 q5 q8 0 0 0 hh mi x east v kk vok g1 g3 w
      have := full_in s (s.extract 0 10) r l w C ((Sm.form_day _ hsz).trans hdd) hh mi x n ok hle K east zok Z v vok S
      have hle : ((l : Int) ≤ n) ↔ l ≤ n := by omega
      by_cases q : ok = true ∧ l ≤ n
      · rw [if_pos ⟨q.1, hle.2 q.2⟩] at this
        rw [if_pos q]; exact this
      · rw [if_neg (fun k => q ⟨k.1, hle.1 k.2⟩)] at this
        rw [if_neg q]; exact this
    · have hform : Sm.formB (s.extract 0 n) ⟨#[48, 48, 48, 48, 45, 48, 48, 45, 48, 48]⟩ = false := by
        by_cases e10 : n = 10
        · subst e10
          have hsz : (s.extract 0 10).size = 10 := by simp; omega
          rw [Sm.form_day _ hsz]
          have hB : ∀ i, i < 10 → Sm.B (s.extract 0 10) i = Sm.B s i := fun i hi => by rw [Sm.B_extract, if_pos (by omega), Nat.zero_add]
          rw [(Sm.same_day hB).2.2.2]
          cases hd : Sm.dayB s
          · rfl
          · exact absurd ⟨rfl, hd⟩ h10
        · exact Sm.form_len _ _ (by
            have e2 : (ByteArray.mk #[48, 48, 48, 48, 45, 48, 48, 45, 48, 48]).size = 10 := rfl
            rw [e2]; simp; omega)
      have hF : Sm.fullF s l = (0, false) := by
        unfold Sm.fullF
        rw [if_neg]
        rintro ⟨a, b⟩
        have hnT := Sm.day_noT a
        by_cases q : n < 10
        · exact hnT n q h1
        · by_cases q2 : n = 10
          · exact h10 ⟨q2, a⟩
          · exact h2 10 (by omega) b
      rw [hF]
      exact full_form s _ _ l w C hform
  · have hF : Sm.fullF s l = (0, false) := by
      unfold Sm.fullF
      rw [if_neg]
      rintro ⟨a, b⟩
      exact h2 10 (Sm.B_in (by omega)) b
    rw [hF]
    exact full_miss s hs l w hk
set_option maxHeartbeats 400000 in
theorem stamp_any (s : ByteArray) (hs : s.size ≤ 1000) (w : World) : Calls Try.prog 10 #[.string s] w (ZonPost (Sm.fullF s 8) w) := by
  have C := fun w => full_any s hs 8 w
  go_enter Try.func10, Try.ntmps10
  go_wp2_with fail
  refine (C _).mono ?_
  rintro e w1 ⟨rfl, hb1⟩
  go_wp2_with fail
  go_ret2
  exact ⟨rfl, hb1⟩
theorem as_0 (w : World) : (Instr.index 42 (.agg #[.string ⟨#[48, 48, 48, 48]⟩, .string ⟨#[48, 48, 48, 48, 45, 48, 48]⟩, .string ⟨#[48, 48, 48, 48, 45, 48, 48, 45, 48, 48]⟩]) (.int .i64 0)).run Try.prog w = .ok (.string ⟨#[48, 48, 48, 48]⟩) w := by kernel_rfl
theorem as_1 (w : World) : (Instr.index 42 (.agg #[.string ⟨#[48, 48, 48, 48]⟩, .string ⟨#[48, 48, 48, 48, 45, 48, 48]⟩, .string ⟨#[48, 48, 48, 48, 45, 48, 48, 45, 48, 48]⟩]) (.int .i64 1)).run Try.prog w = .ok (.string ⟨#[48, 48, 48, 48, 45, 48, 48]⟩) w := by kernel_rfl
theorem as_2 (w : World) : (Instr.index 42 (.agg #[.string ⟨#[48, 48, 48, 48]⟩, .string ⟨#[48, 48, 48, 48, 45, 48, 48]⟩, .string ⟨#[48, 48, 48, 48, 45, 48, 48, 45, 48, 48]⟩]) (.int .i64 2)).run Try.prog w = .ok (.string ⟨#[48, 48, 48, 48, 45, 48, 48, 45, 48, 48]⟩) w := by kernel_rfl
set_option maxHeartbeats 1000000 in
theorem w3c_core (s : ByteArray) (b1 b2 b3 : Bool) (f1 : Sm.formB s ⟨#[48, 48, 48, 48]⟩ = b1) (f2 : Sm.formB s ⟨#[48, 48, 48, 48, 45, 48, 48]⟩ = b2) (f3 : Sm.formB s ⟨#[48, 48, 48, 48, 45, 48, 48, 45, 48, 48]⟩ = b3) (r1 r2 : Int × Bool)
    (S : b1 = true ∨ b2 = true ∨ b3 = true → ∀ w, Calls Try.prog 25 #[.string s, .agg #[.int .i64 0, .int .i64 0, .int .i64 0, .int .i64 0, .int .i64 0, .int .i64 0], .int .i64 0] w (ZonPost r1 w))
    (C : ∀ w, Calls Try.prog 22 #[.string s, .int .i64 5] w (ZonPost r2 w)) (w : World) :
    Calls Try.prog 12 #[.string s] w (ZonPost (if b1 = true ∨ b2 = true ∨ b3 = true then r1 else r2) w) := by
  generalize hF : (if b1 = true ∨ b2 = true ∨ b3 = true then r1 else r2) = res
  have HF := Lib.hid hF
  have HS := Lib.hid S
  clear hF S
  go_enter Try.func12, Try.ntmps12
  go_wp2_with fail
  go_loopw [7] (fun k wr => ((k = .int .i64 0) ∨ (k = .int .i64 1 ∧ b1 = false) ∨ (k = .int .i64 2 ∧ b1 = false ∧ b2 = false) ∨ (k = .int .i64 3 ∧ b1 = false ∧ b2 = false ∧ b3 = false)) ∧ Below w.heap.size w wr) (fun k _ => 3 - (intOf k).toNat)
  case atStart => exact ⟨Or.inl rfl, Below.refl _ _⟩
  case round =>
    obtain ⟨hk, hB⟩ := hrel
    rcases hk with rfl | ⟨rfl, e1⟩ | ⟨rfl, e1, e2⟩ | ⟨rfl, e1, e2, e3⟩
    · have hi := as_0
      cases b1
      · go_wp2_with fail
        refine (fm _ _ false f1 (by decide) _).mono ?_
        rintro e w2 ⟨rfl, hb2⟩
        go_wp2_with fail
        go_roundw
        case rel => exact ⟨Or.inr (Or.inl ⟨by go_num, by first | rfl | trivial⟩), bn hB hb2⟩
        case measure => simp [intOf]; done
      · go_wp2_with fail
        refine (fm _ _ true f1 (by decide) _).mono ?_
        rintro e w2 ⟨rfl, hb2⟩
        go_wp2_with fail
        refine (HS.out (by simp) _).mono ?_
        rintro e w3 ⟨rfl, hb3⟩
        go_wp2_with fail
        go_ret2
        rw [show res = r1 by rw [← HF.out]; simp]
        exact ⟨rfl, bn (bn hB hb2) hb3⟩
    · have hi := as_1
      cases b2
      · go_wp2_with fail
        refine (fm _ _ false f2 (by decide) _).mono ?_
        rintro e w2 ⟨rfl, hb2⟩
        go_wp2_with fail
        go_roundw
        case rel => exact ⟨Or.inr (Or.inr (Or.inl ⟨by go_num, e1, by first | rfl | trivial⟩)), bn hB hb2⟩
        case measure => simp [intOf]; done
      · go_wp2_with fail
        refine (fm _ _ true f2 (by decide) _).mono ?_
        rintro e w2 ⟨rfl, hb2⟩
        go_wp2_with fail
        refine (HS.out (by simp) _).mono ?_
        rintro e w3 ⟨rfl, hb3⟩
        go_wp2_with fail
        go_ret2
        rw [show res = r1 by rw [← HF.out]; simp]
        exact ⟨rfl, bn (bn hB hb2) hb3⟩
    · have hi := as_2
      cases b3
      · go_wp2_with fail
        refine (fm _ _ false f3 (by decide) _).mono ?_
        rintro e w2 ⟨rfl, hb2⟩
        go_wp2_with fail
        go_roundw
        case rel => exact ⟨Or.inr (Or.inr (Or.inr ⟨by go_num, e1, e2, by first | rfl | trivial⟩)), bn hB hb2⟩
        case measure => simp [intOf]; done
      · go_wp2_with fail
        refine (fm _ _ true f3 (by decide) _).mono ?_
        rintro e w2 ⟨rfl, hb2⟩
        go_wp2_with fail
        refine (HS.out (by simp) _).mono ?_
        rintro e w3 ⟨rfl, hb3⟩
        go_wp2_with fail
        go_ret2
        rw [show res = r1 by rw [← HF.out]; simp]
        exact ⟨rfl, bn (bn hB hb2) hb3⟩
    · go_wp2_with fail
      refine (C _).mono ?_
      rintro e w3 ⟨rfl, hb3⟩
      go_wp2_with fail
      go_ret2
      rw [show res = r2 by rw [← HF.out]; simp [e1, e2, e3]]
      exact ⟨rfl, bn hB hb3⟩
end Go.Proofs.Ytcdnjaefijjliaa
