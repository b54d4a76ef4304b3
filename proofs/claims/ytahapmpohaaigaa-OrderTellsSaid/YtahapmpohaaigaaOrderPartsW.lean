/- The walk of the statement on parts. -/
import Derived.Test.YtahapmpohaaigaaOsV
namespace Go.Proofs.Ytahapmpohaaigaa
open Go.RowKit
open Go
set_option linter.unusedVariables false
theorem all64_dec {L : List Int} (h : All64 L) : All64 (Tb.dec L) := fun x hx => by
  rcases Tb.dec_in hx with h1 | h1
  · exact h x h1
  · unfold Is64; omega
theorem rowp_one (w : World) (r : Int) : RowP (w.alloc (.cells #[.int .i64 r] 3)) (some ⟨w.heap.size, 0, none⟩) 1 [r] := OwnL.row (n := 1) (own_one w r)
theorem own_two (w : World) (a b : Int) : OwnL (w.alloc (.cells #[.int .i64 a, .int .i64 b] 3)) w.heap.size (.slice (some ⟨w.heap.size, 0, none⟩) 2 2) [a, b] :=
  ⟨rfl, Or.inr ⟨w.heap.size, 2, #[.int .i64 a, .int .i64 b], rfl, Nat.le_refl _, World.alloc_heap_new _ _, Nat.le_refl _, by unfold maxLen; omega, rfl, rfl⟩⟩
theorem rowp_two (w : World) (a b : Int) : RowP (w.alloc (.cells #[.int .i64 a, .int .i64 b] 3)) (some ⟨w.heap.size, 0, none⟩) 2 [a, b] := OwnL.row (n := 2) (own_two w a b)
theorem ba1 (w : World) (o : Obj) : Below w.heap.size w (w.alloc o) := (Below.refl _ w).alloc (Nat.le_refl _) o
set_option maxHeartbeats 8000000 in
theorem orderParts_walk {w : World} (p : Option Addr) (c : Nat) (L : List Int) (h : RowP w p c L) (h64 : All64 L) (r : Int) (hr : Is64 r) : Calls Try.prog 5 #[.slice p L.length c, .int .i64 r] w (LawTrue w) := by
  have k9 := fun w => wakes_any w
  unfold LawTrue at k9 ⊢
  have H := Lib.hid h
  clear h
  obtain ⟨n, hn⟩ : ∃ n, L.length = n := ⟨_, rfl⟩
  rw [hn]
  have HN := Lib.hid hn
  clear hn
  by_cases hbig : 200 < n
  · have q0 : (200 : Int) < (n : Int) := by omega
    go_enter Try.func5, Try.ntmps5
    go_wp2_with fail
    refine (k9 _).mono ?_
    rintro e w1 ⟨rfl, hb⟩
    go_wp2_with fail
    go_ret
    exact ⟨rfl, hb⟩
  · have q0 : ¬ (200 : Int) < (n : Int) := by omega
    have c1 := pdec_any p c L w (by have := HN.out; omega) H.out h64
    rw [HN.out] at c1
    have hle := Tb.dec_len L
    have hid := Tb.dec_idem L
    have h64d := all64_dec h64
    generalize hD : Tb.dec L = D at *
    have HLE := Lib.hid hle
    have HID := Lib.hid hid
    have H64 := Lib.hid h64d
    clear hle hid h64d h64 hD
    go_enter Try.func5, Try.ntmps5
    go_wp2_with fail
    refine c1.mono ?_
    intro e w1 ho
    obtain ⟨pd, cd, rfl, hr1, hb1⟩ := out_open ho
    have R1 := Lib.hid hr1
    have B1 := Lib.hid hb1
    clear c1 ho hr1 hb1
    have c2 := pdec_any pd cd D w1 (by have := HN.out; have := HLE.out; omega) R1.out H64.out
    rw [HID.out] at c2
    go_wp2_with fail
    refine c2.mono ?_
    intro e w2 ho
    obtain ⟨pe, ce, rfl, hr2, hb2⟩ := out_open ho
    have R2 := Lib.hid (R1.out.below hb2 (Nat.le_refl _))
    have B2 := Lib.hid (bn B1.out hb2)
    have c3 := rsame_any pe pd ce cd D D w2 (by have := HN.out; have := HLE.out; omega) (by have := HN.out; have := HLE.out; omega) hr2 R2.out
    have e4 : decide (D = D) = true := by simp
    rw [e4] at c3
    have q3 : ¬ (D.length : Int) < (n : Int) := by have := HN.out; have := HLE.out; omega
    have q4 : ¬ D.length < n := by omega
    clear c2 ho hr2 hb2 R1 B1 e4
    generalize D.length = dn at *
    go_wp2_with fail
    refine c3.mono ?_
    intro e w3 ho
    obtain ⟨rfl, hb3⟩ := eq_open ho
    have B3 := Lib.hid (bn B2.out hb3)
    clear c3 ho hb3 R2 B2
    have cm := rmade_any r w3
    unfold MadePost madeV at cm
    have hbd := fun x => Tb.made_bd (r := r) (x := x)
    have hdm := Tb.dec_made r
    have hpl := Tb.parts_le r
    have cp := fun W => pparts_any r W hr
    generalize hPP : Tb.parts r = P at *
    cases hm : Tb.madeF r with
    | none =>
      rw [hm] at cm hdm
      simp only at hdm
      subst hdm
      go_wp2_with fail
      refine cm.mono ?_
      rintro e w4 ⟨rfl, hb4⟩
      have B4 := Lib.hid (bn B3.out hb4)
      clear hb4 B3 cm
      go_wp2_with fail
      refine (cp w4).mono ?_
      intro e w5 ho
      obtain ⟨pf, cf, rfl, hr5, hb5⟩ := out_open ho
      have c6 := rsame_any pf (some ⟨w5.heap.size, 0, none⟩) cf 1 [r] [r] (w5.alloc (.cells #[.int .i64 r] 3)) (by simp) (by simp) (hr5.below (ba1 w5 _) (Nat.le_refl _)) (rowp_one w5 r)
      have e4 : decide (([r] : List Int) = [r]) = true := by simp
      rw [e4] at c6
      have B5 := Lib.hid (bn (bn B4.out hb5) (ba1 w5 (.cells #[.int .i64 r] 3)))
      have c7 : Calls Try.prog 11 #[.slice pf 1 cf, .slice (some ⟨w5.heap.size, 0, none⟩) 1 1] (w5.alloc (.cells #[.int .i64 r] 3)) (EqPost true (w5.alloc (.cells #[.int .i64 r] 3))) := c6
      clear ho hr5 hb5 B4 cp c6 e4
      go_wp2_with fail
      refine c7.mono ?_
      intro e w6 ho
      obtain ⟨rfl, hb6⟩ := eq_open ho
      have B6 := Lib.hid (bn B5.out hb6)
      clear c7 ho hb6 B5
      go_wp2_with fail
      refine (k9 _).mono ?_
      rintro e w7 ⟨rfl, hb7⟩
      go_wp2_with fail
      go_ret
      exact ⟨rfl, bn B6.out hb7⟩
    | some x =>
      obtain ⟨a, b⟩ := x
      rw [hm] at cm hdm
      have hab := hbd _ hm
      simp only at hdm hab
      have i1 : Is64 a := by unfold Is64; omega
      have i2 : Is64 b := by unfold Is64; omega
      clear hbd hab
      go_wp2_with fail
      refine cm.mono ?_
      rintro e w4 ⟨rfl, hb4⟩
      have B4 := Lib.hid (bn B3.out hb4)
      clear hb4 B3 cm
      by_cases hb0 : b = 0
      · subst hb0
        rw [if_pos rfl] at hdm
        have HDM := Lib.hid hdm
        clear hdm hm
        go_wp2_with fail
        have hba : Below w4.heap.size w4 ((w4.alloc (.cells #[.int .i64 a, .int .i64 0] 3)).alloc (.cells #[.int .i64 a] 3)) := (ba1 w4 _).trans ((ba1 _ _).mono (by simp))
        have hrow := rowp_one (w4.alloc (.cells #[.int .i64 a, .int .i64 0] 3)) a
        refine (cp _).mono ?_
        intro e w5 ho
        obtain ⟨pf, cf, rfl, hr5, hb5⟩ := out_open ho
        have R5 := Lib.hid hr5
        have hrow5 := hrow.below hb5 (Nat.le_refl _)
        have B5 := Lib.hid (bn B4.out (hba.trans (hb5.mono (by simp; omega))))
        have c6 := pdec_any _ 1 [a] w5 (by simp) hrow5 (fun x hx => by rw [List.mem_singleton.1 hx]; exact i1)
        rw [← HDM.out] at c6
        rw [World.size_alloc] at c6
        have c7 : Calls Try.prog 16 #[.slice (some ⟨w4.heap.size + 1, 0, none⟩) 1 1] w5 (OutPost P w5) := c6
        clear ho hr5 hb5 B4 cp c6 hrow hrow5 hba
        go_wp2_with fail
        refine c7.mono ?_
        intro e w6 ho
        obtain ⟨pg, cg, rfl, hr6, hb6⟩ := out_open ho
        have c8 := rsame_any pf pg cf cg P P w6 (by omega) (by omega) (R5.out.below hb6 (Nat.le_refl _)) hr6
        have e4 : decide (P = P) = true := by simp
        rw [e4] at c8
        have B6 := Lib.hid (bn B5.out hb6)
        clear c7 ho hr6 hb6 B5 e4
        go_wp2_with fail
        refine c8.mono ?_
        intro e w7 ho
        obtain ⟨rfl, hb7⟩ := eq_open ho
        have B7 := Lib.hid (bn B6.out hb7)
        clear c8 ho hb7 B6
        go_wp2_with fail
        refine (k9 _).mono ?_
        rintro e w8 ⟨rfl, hb8⟩
        go_wp2_with fail
        go_ret
        exact ⟨rfl, bn B7.out hb8⟩
      · rw [if_neg hb0] at hdm
        have HDM := Lib.hid hdm
        clear hdm hm
        have hb1 : (b == 0) = false := by simpa using hb0
        go_wp2_with fail
        have hba : Below w4.heap.size w4 (w4.alloc (.cells #[.int .i64 a, .int .i64 b] 3)) := ba1 w4 _
        have hrow := rowp_two w4 a b
        refine (cp _).mono ?_
        intro e w5 ho
        obtain ⟨pf, cf, rfl, hr5, hb5⟩ := out_open ho
        have R5 := Lib.hid hr5
        have hrow5 := hrow.below hb5 (Nat.le_refl _)
        have B5 := Lib.hid (bn B4.out (hba.trans (hb5.mono (by simp))))
        have c6 := pdec_any _ 2 [a, b] w5 (by simp) hrow5 (fun x hx => by
          rcases List.mem_cons.1 hx with rfl | hx
          · exact i1
          · rw [List.mem_singleton.1 hx]; exact i2)
        rw [← HDM.out] at c6
        have c7 : Calls Try.prog 16 #[.slice (some ⟨w4.heap.size, 0, none⟩) 2 2] w5 (OutPost P w5) := c6
        clear ho hr5 hb5 B4 cp c6 hrow hrow5 hba
        go_wp2_with fail
        refine c7.mono ?_
        intro e w6 ho
        obtain ⟨pg, cg, rfl, hr6, hb6⟩ := out_open ho
        have c8 := rsame_any pf pg cf cg P P w6 (by omega) (by omega) (R5.out.below hb6 (Nat.le_refl _)) hr6
        have e4 : decide (P = P) = true := by simp
        rw [e4] at c8
        have B6 := Lib.hid (bn B5.out hb6)
        clear c7 ho hr6 hb6 B5 e4
        go_wp2_with fail
        refine c8.mono ?_
        intro e w7 ho
        obtain ⟨rfl, hb7⟩ := eq_open ho
        have B7 := Lib.hid (bn B6.out hb7)
        clear c8 ho hb7 B6
        go_wp2_with fail
        refine (k9 _).mono ?_
        rintro e w8 ⟨rfl, hb8⟩
        go_wp2_with fail
        go_ret
        exact ⟨rfl, bn B7.out hb8⟩
end Go.Proofs.Ytahapmpohaaigaa
