/- The walks of a liberal reader's small steps: next, digits, maybe, must. -/
import Derived.Test.YtbhafhbaldddiaaLbA
import Derived.Lib.Strings
namespace Go.Proofs.Ytbhafhbaldddiaa
open Go.RowKit
open Go
open Lb (R Wd)
set_option linter.unusedVariables false
section
variable {w0 W : World} {B : Nat} {r : R}
/-- What a reader's block holds, as the walk wants it. -/
theorem Rd.open_ (h : Rd w0 W B r) : ∃ p c, (W.cell? ⟨B, 0, none⟩ = some (.slice p r.l.length c) ∧ r.l.length ≤ c) ∧ PRow W B (.slice p r.l.length c) r.l ∧ (W.cell? ⟨B, 1, none⟩ = some (.bool r.bad) ∧ W.cell? ⟨B, 2, none⟩ = some (.int .i64 r.y) ∧ W.cell? ⟨B, 3, none⟩ = some (.int .i64 r.mo) ∧ W.cell? ⟨B, 4, none⟩ = some (.int .i64 r.d) ∧ W.cell? ⟨B, 5, none⟩ = some (.int .i64 r.h) ∧ W.cell? ⟨B, 6, none⟩ = some (.int .i64 r.mi) ∧ W.cell? ⟨B, 7, none⟩ = some (.int .i64 r.s) ∧ W.cell? ⟨B, 8, none⟩ = some (.int .i64 r.east)) ∧
    (W.frozen? ⟨B, 0, none⟩ = false ∧ W.frozen? ⟨B, 1, none⟩ = false ∧ W.frozen? ⟨B, 2, none⟩ = false ∧ W.frozen? ⟨B, 3, none⟩ = false ∧ W.frozen? ⟨B, 4, none⟩ = false ∧ W.frozen? ⟨B, 5, none⟩ = false ∧ W.frozen? ⟨B, 6, none⟩ = false ∧ W.frozen? ⟨B, 7, none⟩ = false ∧ W.frozen? ⟨B, 8, none⟩ = false) := by
  obtain ⟨⟨v, hv, hp⟩, hf, _⟩ := h
  obtain ⟨p, c, rfl, hc, hr⟩ := hp
  exact ⟨p, c, ⟨hv 0 (by omega), hc⟩, ⟨p, c, rfl, hc, hr⟩, ⟨hv 1 (by omega), hv 2 (by omega), hv 3 (by omega), hv 4 (by omega), hv 5 (by omega), hv 6 (by omega), hv 7 (by omega), hv 8 (by omega)⟩, hf 0 (by omega), hf 1 (by omega), hf 2 (by omega), hf 3 (by omega), hf 4 (by omega), hf 5 (by omega), hf 6 (by omega), hf 7 (by omega), hf 8 (by omega)⟩
theorem PRow.first {x : Wd} {t : List Wd} {p : Option Addr} {c : Nat} (h : PRow W B (.slice p (t.length + 1) c) (x :: t)) : ∃ g i, p = some ⟨g, i, none⟩ ∧ W.cell? ⟨g, i, none⟩ = some (.string (Ml.mk x)) ∧ PRow W B (.slice (some ⟨g, if 1 < c then i + 1 else i, none⟩) t.length (c - 1)) t := by
  obtain ⟨p', c', e, hc, hr⟩ := h
  obtain ⟨g, i, e1, hg, hs⟩ := hr (by simp)
  injection e with e2 _ e3
  subst e2; subst e3; subst e1
  exact ⟨g, i, rfl, by have := hs 0 x rfl; simpa using this, PRow.tl (by simpa using hc) hg hs⟩
set_option maxHeartbeats 1000000 in
theorem Rd.next (h : Rd w0 W B r) : Calls Try.prog 37 #[.pointer (some ⟨B, 0, none⟩)] W (RdPost (.string (Ml.mk (Lb.nx r))) w0 B r) := by
  obtain ⟨p, c, ⟨k0, hc⟩, hp, -⟩ := h.open_
  have H := Lib.hid h
  clear h
  unfold Lb.nx RdPost
  obtain ⟨l, hl⟩ : ∃ l, r.l = l := ⟨_, rfl⟩
  rw [hl] at k0 hc hp ⊢
  clear hl
  cases l with
  | nil =>
    go_enter Try.func37, Try.ntmps37
    go_wp2_with fail
    go_ret
    exact ⟨rfl, H.out⟩
  | cons x t =>
    obtain ⟨g, i, rfl, hx, -⟩ := hp.first
    rw [List.length_cons] at k0
    have hne : ¬ ((t.length : Int) + 1 = 0) := by omega
    clear hp hc
    go_enter Try.func37, Try.ntmps37
    go_wp2_with fail
    go_ret
    exact ⟨rfl, H.out⟩
theorem lne_nil {s : ByteArray} (h : s.size ≠ 0) : (s.toList == []) = false := by
  cases e : s.toList == [] with
  | false => rfl
  | true =>
    have := congrArg List.length (eq_of_beq e)
    rw [Go.Lib.toList_data, Array.length_toList] at this
    exact absurd this h
set_option maxHeartbeats 1000000 in
theorem Rd.digits (h : Rd w0 W B r) (lo hi : Nat) (hlo : 1 ≤ lo) (hhi : hi ≤ 1048576) : Calls Try.prog 33 #[.pointer (some ⟨B, 0, none⟩), .int .i64 (lo : Int), .int .i64 (hi : Int)] W (RdPost (.bool (Lb.dgs lo hi r)) w0 B r) := by
  have hn := h.next
  have hs := h.2.2.2.2.2.nx
  unfold RdPost Lb.dgs
  clear h
  generalize Lb.nx r = S at hn hs ⊢
  cases S with
  | nil =>
    have hz : (Ml.mk []).size = 0 := rfl
    have hd : Lb.dgW lo hi [] = false := rfl
    rw [hd]
    clear hd
    generalize Ml.mk [] = T at hn hz
    have l1 : ¬ (lo : Int) ≤ 0 := by omega
    go_enter Try.func33, Try.ntmps33
    go_wp2_with (go_at_call 37; refine hn.mono ?_; rintro e w1 ⟨rfl, h1⟩; have H := Lib.hid h1; clear h1)
    go_ret
    exact ⟨rfl, H.out⟩
  | cons c q =>
    have hsz : (Ml.mk (c :: q)).size = q.length + 1 := rfl
    have hne := lne_nil (s := Ml.mk (c :: q)) (by rw [hsz]; omega)
    have hix : ∀ h, (((Ml.mk (c :: q))[0]'h).toNat : Int) = (c.toNat : Int) := fun h => rfl
    have hsr := srt_any c
    have hq : q.length ≤ 100000 := by simp at hs; omega
    obtain ⟨b, hb⟩ : ∃ b, Lb.dgW lo hi (c :: q) = b := ⟨_, rfl⟩
    rw [hb]
    replace hb : (decide (lo ≤ q.length + 1) && decide (q.length + 1 ≤ hi) && (Lb.srt c == 1)) = b := hb
    generalize Ml.mk (c :: q) = T at hn hsz hne hix
    generalize Lb.srt c = k at hsr hb
    generalize (c.toNat : Int) = cn at hsr hix
    generalize q.length = n at hsz hb hq
    have HB := Lib.hid hb
    clear hb hs
    by_cases l1 : (lo : Int) ≤ (n : Int) + 1
    · by_cases l2 : (n : Int) + 1 ≤ hi
      · by_cases l3 : k = 1
        · subst l3
          go_enter Try.func33, Try.ntmps33
          go_wp2_with (first | (go_at_call 37; refine hn.mono ?_; rintro e w1 ⟨rfl, h1⟩; have H := Lib.hid h1; clear h1) | (go_at_call 21; refine (hsr _).mono ?_; rintro e w2 ⟨rfl, rfl⟩))
          go_ret
          exact ⟨ret_bool (by have e := HB.out; rw [decide_eq_true (by omega), decide_eq_true (by omega)] at e; exact e), H.out⟩
        · have l4 : ((k : Int) == 1) = false := by simp; omega
          go_enter Try.func33, Try.ntmps33
          go_wp2_with (first | (go_at_call 37; refine hn.mono ?_; rintro e w1 ⟨rfl, h1⟩; have H := Lib.hid h1; clear h1) | (go_at_call 21; refine (hsr _).mono ?_; rintro e w2 ⟨rfl, rfl⟩))
          go_ret
          exact ⟨ret_bool (by have e := HB.out; rw [beq_false_of_ne l3, Bool.and_false] at e; exact e), H.out⟩
      · go_enter Try.func33, Try.ntmps33
        go_wp2_with (first | (go_at_call 37; refine hn.mono ?_; rintro e w1 ⟨rfl, h1⟩; have H := Lib.hid h1; clear h1) | (go_at_call 21; refine (hsr _).mono ?_; rintro e w2 ⟨rfl, rfl⟩))
        go_ret
        exact ⟨ret_bool (by have e := HB.out; rw [decide_eq_false (p := n + 1 ≤ hi) (by omega), Bool.and_false, Bool.false_and] at e; exact e), H.out⟩
    · go_enter Try.func33, Try.ntmps33
      go_wp2_with (first | (go_at_call 37; refine hn.mono ?_; rintro e w1 ⟨rfl, h1⟩; have H := Lib.hid h1; clear h1) | (go_at_call 21; refine (hsr _).mono ?_; rintro e w2 ⟨rfl, rfl⟩))
      go_ret
      exact ⟨ret_bool (by have e := HB.out; rw [decide_eq_false (p := lo ≤ n + 1) (by omega), Bool.false_and, Bool.false_and] at e; exact e), H.out⟩
/-- A reader that has a piece: its row, and its row without the first one. -/
def TailPost (w0 W : World) (B : Nat) (r : R) : Prop :=
  (∃ g i, W.cell? ⟨B, 0, none⟩ = some (.slice (some ⟨g, i, none⟩) 1 1) ∧ W.cell? ⟨g, i, none⟩ = some (.string (Ml.mk (Lb.nx r))) ∧ W.frozen? ⟨B, 0, none⟩ = false ∧ Hid (Rd w0 (W.setCell ⟨B, 0, none⟩ (.slice (some ⟨g, i, none⟩) 0 0)) B (Lb.tl r))) ∨
  (∃ g i n c, W.cell? ⟨B, 0, none⟩ = some (.slice (some ⟨g, i, none⟩) (n + 1) (c + 2)) ∧ n ≤ c + 1 ∧ W.cell? ⟨g, i, none⟩ = some (.string (Ml.mk (Lb.nx r))) ∧ W.frozen? ⟨B, 0, none⟩ = false ∧ Hid (Rd w0 (W.setCell ⟨B, 0, none⟩ (.slice (some ⟨g, i + 1, none⟩) n (c + 1))) B (Lb.tl r)))
theorem Rd.tail_ (h : Rd w0 W B r) (hl : r.l ≠ []) : TailPost w0 W B r := by
  obtain ⟨p, c, ⟨k0, hc⟩, hp, _, f0, _⟩ := h.open_
  unfold TailPost
  have hnx : ∀ x t, r.l = x :: t → Lb.nx r = x := fun x t e => by unfold Lb.nx; rw [e]; rfl
  have htl := h.tl
  obtain ⟨l, e⟩ : ∃ l, r.l = l := ⟨_, rfl⟩
  rw [e] at k0 hc hp hl htl
  cases l with
  | nil => exact absurd rfl hl
  | cons x t =>
    rw [hnx x t e]
    obtain ⟨g, i, rfl, hx, hr⟩ := hp.first
    rw [List.length_cons] at k0 hc
    match c, hc with
    | 1, hc =>
      have ht : t.length = 0 := by omega
      rw [ht] at k0 hr
      exact Or.inl ⟨g, i, k0, hx, f0, Lib.hid (htl _ hr)⟩
    | c + 2, hc =>
      have e1 : c + 2 - 1 = c + 1 := rfl
      rw [if_pos (by omega), e1] at hr
      exact Or.inr ⟨g, i, t.length, c, k0, by omega, hx, f0, Lib.hid (htl _ hr)⟩
theorem Rd.head_ (h : Rd w0 W B r) (hl : r.l ≠ []) : ∃ g i n c, W.cell? ⟨B, 0, none⟩ = some (.slice (some ⟨g, i, none⟩) (n + 1) (c + 1)) ∧ n ≤ c ∧ W.cell? ⟨g, i, none⟩ = some (.string (Ml.mk (Lb.nx r))) := by
  rcases h.tail_ hl with ⟨g, i, k0, kx, _⟩ | ⟨g, i, n, c, k0, hc, kx, _⟩
  · exact ⟨g, i, 0, 0, k0, Nat.le_refl _, kx⟩
  · exact ⟨g, i, n, c + 1, k0, hc, kx⟩
end
end Go.Proofs.Ytbhafhbaldddiaa
