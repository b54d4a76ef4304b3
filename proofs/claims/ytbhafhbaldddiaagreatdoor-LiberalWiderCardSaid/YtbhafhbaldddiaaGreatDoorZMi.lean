/- The walk of the document's Parse on five words. -/
import Derived.Test.YtbhafhbaldddiaaGreatDoorZMh
import Derived.Test.YtbhafhbaldddiaaGreatDoorZMe
namespace Go.Proofs.YtbhafhbaldddiaaGreatDoor
open Go.RowKit
open Go
set_option linter.unusedVariables false
theorem OW.row {w : World} {base : Nat} {v : Value} {out : List ByteArray} (h : OW w base v out) (hn : 0 < out.length) : ∃ g cap, v = .slice (some ⟨g, 0, none⟩) out.length cap ∧ out.length ≤ cap ∧ cap ≤ maxLen ∧ base ≤ g ∧ g < w.heap.size ∧ ∀ j x, out[j]? = some x → w.cell? ⟨g, j, none⟩ = some (.string x) := by
  obtain ⟨a, c, rfl, ho⟩ := h
  obtain ⟨g, cap, e, h1, h2⟩ := ho.form hn
  cases e
  refine ⟨g, c, rfl, ?_, ?_, h1, h2, fun j x hx => ?_⟩
  · rcases ho.2 with ⟨h3, _⟩ | ⟨g', c', cur, h3, _, _, h4, _⟩
    · cases h3
    · cases h3
      exact h4
  · rcases ho.2 with ⟨h3, _⟩ | ⟨g', c', cur, h3, _, _, _, h4, _⟩
    · cases h3
    · cases h3
      exact h4
  · have := ho.cells (g := g) rfl j (.string x) (by rw [List.getElem?_map, hx]; rfl)
    have hadd : (⟨g, 0, none⟩ : Addr).add j = ⟨g, j, none⟩ := by unfold Addr.add; split <;> simp_all
    rw [hadd] at this
    exact this
theorem clk_facts {w w1 w' : World} {g k t : Nat} {z : ByteArray} (hg1 : g < w1.heap.size) (g4 : w1.cell? ⟨g, k, none⟩ = some (.string z)) (hbc : Below (w1.alloc (.cells #[.int .i64 0, .int .i64 0, .int .i64 0, .int .i64 0, .int .i64 0, .int .i64 0] t)).heap.size (w1.alloc (.cells #[.int .i64 0, .int .i64 0, .int .i64 0, .int .i64 0, .int .i64 0, .int .i64 0] t)) w') (hB : Below w.heap.size w w1) :
    w'.cell? ⟨g, k, none⟩ = some (.string z) ∧ Six w' w1.heap.size (.int .i64 0) (.int .i64 0) (.int .i64 0) (.int .i64 0) (.int .i64 0) (.int .i64 0) ∧ (w'.frozen? ⟨w1.heap.size, 0, none⟩ = false ∧ w'.frozen? ⟨w1.heap.size, 1, none⟩ = false ∧ w'.frozen? ⟨w1.heap.size, 2, none⟩ = false ∧ w'.frozen? ⟨w1.heap.size, 3, none⟩ = false ∧ w'.frozen? ⟨w1.heap.size, 4, none⟩ = false ∧ w'.frozen? ⟨w1.heap.size, 5, none⟩ = false) ∧ Below w.heap.size w w' ∧ w1.heap.size < w'.heap.size := by
  obtain ⟨hc, hf⟩ := bcell hbc
  have hz := hB.size
  have hs := hbc.size
  rw [World.size_alloc] at hs
  refine ⟨(hc _ _ (by simp; omega)).trans ((World.cell?_alloc_old _ _ _ (by show g ≠ _; omega)).trans g4), ⟨(hc _ _ (by simp)).trans (by go_simp), (hc _ _ (by simp)).trans (by go_simp), (hc _ _ (by simp)).trans (by go_simp), (hc _ _ (by simp)).trans (by go_simp), (hc _ _ (by simp)).trans (by go_simp), (hc _ _ (by simp)).trans (by go_simp)⟩, ⟨(hf _ _ (by simp)).trans (by go_simp), (hf _ _ (by simp)).trans (by go_simp), (hf _ _ (by simp)).trans (by go_simp), (hf _ _ (by simp)).trans (by go_simp), (hf _ _ (by simp)).trans (by go_simp), (hf _ _ (by simp)).trans (by go_simp)⟩, (hB.alloc hz _).trans (hbc.mono (by simp; omega)), by omega⟩
set_option maxRecDepth 100000 in
set_option maxHeartbeats 4000000 in
theorem rp5_bad (s d m y c z : ByteArray) (hs : s.size ≤ 60) (hw : Ml.wds s = [d, m, y, c, z]) (hm : m.size ≤ 1000000) (b1 b2 b3 b4 b5 : Bool) (vd vm vy ve : Int) (hbad : b1 = false ∨ b2 = false ∨ b3 = false ∨ b4 = false ∨ b5 = false)
    (C1 : ∀ w, Calls Tryz.prog 45 #[.string d] w (SamePost (.tuple #[.int .i64 vd, .bool b1]) w)) (C2 : ∀ w, Calls Tryz.prog 46 #[.string m] w (SamePost (.tuple #[.int .i64 vm, .bool b2]) w))
    (C3 : ∀ w, Calls Tryz.prog 47 #[.string y, .int .i64 4] w (SamePost (.tuple #[.int .i64 vy, .bool b3]) w)) (C4 : ∀ w, Calls Tryz.prog 48 #[.string c] w fun e w' => ∃ ca cb cc, e = .returned (.tuple #[.int .i64 ca, .int .i64 cb, .int .i64 cc, .bool b4]) ∧ True ∧ Below w.heap.size w w')
    (C5 : ∀ w, Calls Tryz.prog 49 #[.string z] w (SamePost (.tuple #[.int .i64 ve, .bool b5]) w)) (w : World) : Calls Tryz.prog 18 #[.string s] w (ErrPost none 70 w) := by
  have WD := words_any s (by omega)
  unfold WordsPost at WD
  rw [hw] at WD
  clear hw
  have WD : ∀ w, Calls Tryz.prog 43 #[.string s] w fun e w' => ∃ v, e = .returned v ∧ OW w' w.heap.size v [d, m, y, c, z] ∧ Below w.heap.size w w' := WD
  cases b1
  · clear hbad hm
    go_enter Tryz.func18, Tryz.ntmps18
    go_wp2_with fail
    refine (WD _).mono ?_
    rintro e w1 ⟨v, rfl, how, hB⟩
    obtain ⟨g, cap, rfl, hcap, hmax, hg0, hg1, hcs⟩ := how.row (by simp)
    have hcap' : 5 ≤ cap := hcap
    have hmax' : cap ≤ 9223372036854775807 := by unfold maxLen at hmax; omega
    have g0 := hcs 0 d rfl
    have g1 := hcs 1 m rfl
    have g2 := hcs 2 y rfl
    have g3 := hcs 3 c rfl
    have g4 := hcs 4 z rfl
    have hz := hB.size
    clear hcs how hcap hmax
    simp only [List.length_cons, List.length_nil, Nat.zero_add, Nat.reduceAdd]
    go_wp2_with (first | (go_at_call 48; (with_reducible refine (C4 _).mono ?_); rintro e w' ⟨ca, cb, cc, rfl, hck, hbc⟩; obtain ⟨q4, ⟨k0, k1, k2, k3, k4, k5⟩, ⟨f0, f1, f2, f3, f4, f5⟩, hB', hz'⟩ := clk_facts hg1 g4 hbc hB; clear hbc hB; have hB := hB'; clear hB') | (go_at_call 45; (with_reducible refine (C1 _).mono ?_); rintro e w' ⟨rfl, rfl⟩) | (go_at_call 46; (with_reducible refine (C2 _).mono ?_); rintro e w' ⟨rfl, rfl⟩) | (go_at_call 47; (with_reducible refine (C3 _).mono ?_); rintro e w' ⟨rfl, rfl⟩) | (go_at_call 49; (with_reducible refine (C5 _).mono ?_); rintro e w' ⟨rfl, rfl⟩))
    all_goals
      go_ret2
      exact ⟨rfl, hB⟩
  cases b2
  · clear hbad hm
    go_enter Tryz.func18, Tryz.ntmps18
    go_wp2_with fail
    refine (WD _).mono ?_
    rintro e w1 ⟨v, rfl, how, hB⟩
    obtain ⟨g, cap, rfl, hcap, hmax, hg0, hg1, hcs⟩ := how.row (by simp)
    have hcap' : 5 ≤ cap := hcap
    have hmax' : cap ≤ 9223372036854775807 := by unfold maxLen at hmax; omega
    have g0 := hcs 0 d rfl
    have g1 := hcs 1 m rfl
    have g2 := hcs 2 y rfl
    have g3 := hcs 3 c rfl
    have g4 := hcs 4 z rfl
    have hz := hB.size
    clear hcs how hcap hmax
    simp only [List.length_cons, List.length_nil, Nat.zero_add, Nat.reduceAdd]
    go_wp2_with (first | (go_at_call 48; (with_reducible refine (C4 _).mono ?_); rintro e w' ⟨ca, cb, cc, rfl, hck, hbc⟩; obtain ⟨q4, ⟨k0, k1, k2, k3, k4, k5⟩, ⟨f0, f1, f2, f3, f4, f5⟩, hB', hz'⟩ := clk_facts hg1 g4 hbc hB; clear hbc hB; have hB := hB'; clear hB') | (go_at_call 45; (with_reducible refine (C1 _).mono ?_); rintro e w' ⟨rfl, rfl⟩) | (go_at_call 46; (with_reducible refine (C2 _).mono ?_); rintro e w' ⟨rfl, rfl⟩) | (go_at_call 47; (with_reducible refine (C3 _).mono ?_); rintro e w' ⟨rfl, rfl⟩) | (go_at_call 49; (with_reducible refine (C5 _).mono ?_); rintro e w' ⟨rfl, rfl⟩))
    all_goals
      go_ret2
      exact ⟨rfl, hB⟩
  cases b3
  · clear hbad hm
    go_enter Tryz.func18, Tryz.ntmps18
    go_wp2_with fail
    refine (WD _).mono ?_
    rintro e w1 ⟨v, rfl, how, hB⟩
    obtain ⟨g, cap, rfl, hcap, hmax, hg0, hg1, hcs⟩ := how.row (by simp)
    have hcap' : 5 ≤ cap := hcap
    have hmax' : cap ≤ 9223372036854775807 := by unfold maxLen at hmax; omega
    have g0 := hcs 0 d rfl
    have g1 := hcs 1 m rfl
    have g2 := hcs 2 y rfl
    have g3 := hcs 3 c rfl
    have g4 := hcs 4 z rfl
    have hz := hB.size
    clear hcs how hcap hmax
    simp only [List.length_cons, List.length_nil, Nat.zero_add, Nat.reduceAdd]
    go_wp2_with (first | (go_at_call 48; (with_reducible refine (C4 _).mono ?_); rintro e w' ⟨ca, cb, cc, rfl, hck, hbc⟩; obtain ⟨q4, ⟨k0, k1, k2, k3, k4, k5⟩, ⟨f0, f1, f2, f3, f4, f5⟩, hB', hz'⟩ := clk_facts hg1 g4 hbc hB; clear hbc hB; have hB := hB'; clear hB') | (go_at_call 45; (with_reducible refine (C1 _).mono ?_); rintro e w' ⟨rfl, rfl⟩) | (go_at_call 46; (with_reducible refine (C2 _).mono ?_); rintro e w' ⟨rfl, rfl⟩) | (go_at_call 47; (with_reducible refine (C3 _).mono ?_); rintro e w' ⟨rfl, rfl⟩) | (go_at_call 49; (with_reducible refine (C5 _).mono ?_); rintro e w' ⟨rfl, rfl⟩))
    all_goals
      go_ret2
      exact ⟨rfl, hB⟩
  cases b4
  · clear hbad hm
    go_enter Tryz.func18, Tryz.ntmps18
    go_wp2_with fail
    refine (WD _).mono ?_
    rintro e w1 ⟨v, rfl, how, hB⟩
    obtain ⟨g, cap, rfl, hcap, hmax, hg0, hg1, hcs⟩ := how.row (by simp)
    have hcap' : 5 ≤ cap := hcap
    have hmax' : cap ≤ 9223372036854775807 := by unfold maxLen at hmax; omega
    have g0 := hcs 0 d rfl
    have g1 := hcs 1 m rfl
    have g2 := hcs 2 y rfl
    have g3 := hcs 3 c rfl
    have g4 := hcs 4 z rfl
    have hz := hB.size
    clear hcs how hcap hmax
    simp only [List.length_cons, List.length_nil, Nat.zero_add, Nat.reduceAdd]
    go_wp2_with (first | (go_at_call 48; (with_reducible refine (C4 _).mono ?_); rintro e w' ⟨ca, cb, cc, rfl, hck, hbc⟩; obtain ⟨q4, ⟨k0, k1, k2, k3, k4, k5⟩, ⟨f0, f1, f2, f3, f4, f5⟩, hB', hz'⟩ := clk_facts hg1 g4 hbc hB; clear hbc hB; have hB := hB'; clear hB') | (go_at_call 45; (with_reducible refine (C1 _).mono ?_); rintro e w' ⟨rfl, rfl⟩) | (go_at_call 46; (with_reducible refine (C2 _).mono ?_); rintro e w' ⟨rfl, rfl⟩) | (go_at_call 47; (with_reducible refine (C3 _).mono ?_); rintro e w' ⟨rfl, rfl⟩) | (go_at_call 49; (with_reducible refine (C5 _).mono ?_); rintro e w' ⟨rfl, rfl⟩))
    all_goals
      go_ret2
      exact ⟨rfl, hB⟩
  cases b5
  · clear hbad hm
    go_enter Tryz.func18, Tryz.ntmps18
    go_wp2_with fail
    refine (WD _).mono ?_
    rintro e w1 ⟨v, rfl, how, hB⟩
    obtain ⟨g, cap, rfl, hcap, hmax, hg0, hg1, hcs⟩ := how.row (by simp)
    have hcap' : 5 ≤ cap := hcap
    have hmax' : cap ≤ 9223372036854775807 := by unfold maxLen at hmax; omega
    have g0 := hcs 0 d rfl
    have g1 := hcs 1 m rfl
    have g2 := hcs 2 y rfl
    have g3 := hcs 3 c rfl
    have g4 := hcs 4 z rfl
    have hz := hB.size
    clear hcs how hcap hmax
    simp only [List.length_cons, List.length_nil, Nat.zero_add, Nat.reduceAdd]
    go_wp2_with (first | (go_at_call 48; (with_reducible refine (C4 _).mono ?_); rintro e w' ⟨ca, cb, cc, rfl, hck, hbc⟩; obtain ⟨q4, ⟨k0, k1, k2, k3, k4, k5⟩, ⟨f0, f1, f2, f3, f4, f5⟩, hB', hz'⟩ := clk_facts hg1 g4 hbc hB; clear hbc hB; have hB := hB'; clear hB') | (go_at_call 45; (with_reducible refine (C1 _).mono ?_); rintro e w' ⟨rfl, rfl⟩) | (go_at_call 46; (with_reducible refine (C2 _).mono ?_); rintro e w' ⟨rfl, rfl⟩) | (go_at_call 47; (with_reducible refine (C3 _).mono ?_); rintro e w' ⟨rfl, rfl⟩) | (go_at_call 49; (with_reducible refine (C5 _).mono ?_); rintro e w' ⟨rfl, rfl⟩))
    all_goals
      go_ret2
      exact ⟨rfl, hB⟩
  simp at hbad
set_option maxRecDepth 100000 in
set_option maxHeartbeats 4000000 in
theorem rp5_good (s d m y c z : ByteArray) (hs : s.size ≤ 60) (hw : Ml.wds s = [d, m, y, c, z]) (mm ee : Int)
    (C1 : ∀ w, Calls Tryz.prog 45 #[.string d] w (SamePost (.tuple #[.int .i64 (Ml.digV d (Ml.dyn d)), .bool true]) w)) (C2 : ∀ w, Calls Tryz.prog 46 #[.string m] w (SamePost (.tuple #[.int .i64 mm, .bool true]) w))
    (C3 : ∀ w, Calls Tryz.prog 47 #[.string y, .int .i64 4] w (SamePost (.tuple #[.int .i64 (Ml.digV y 4), .bool true]) w)) (C4 : ∀ w, Calls Tryz.prog 48 #[.string c] w fun e w' => ∃ ca cb cc, e = .returned (.tuple #[.int .i64 ca, .int .i64 cb, .int .i64 cc, .bool true]) ∧ (ca = Sm.n2 c 0 ∧ cb = Sm.n2 c 3 ∧ cc = Ml.secOf c) ∧ Below w.heap.size w w')
    (C5 : ∀ w, Calls Tryz.prog 49 #[.string z] w (SamePost (.tuple #[.int .i64 ee, .bool true]) w)) (o : Option Int) (ho : (if Cv.secOk (Ml.digV y 4) mm (Ml.digV d (Ml.dyn d)) (Sm.n2 c 0) (Sm.n2 c 3) (Ml.secOf c) ee = true then some (Cv.secV (Ml.digV y 4) mm (Ml.digV d (Ml.dyn d)) (Sm.n2 c 0) (Sm.n2 c 3) (Ml.secOf c) ee) else none) = o) (w : World) : Calls Tryz.prog 18 #[.string s] w (ErrPost o 70 w) := by
  have WD := words_any s (by omega)
  unfold WordsPost at WD
  rw [hw] at WD
  clear hw
  have WD : ∀ w, Calls Tryz.prog 43 #[.string s] w fun e w' => ∃ v, e = .returned v ∧ OW w' w.heap.size v [d, m, y, c, z] ∧ Below w.heap.size w w' := WD
  cases hk : Cv.secOk (Ml.digV y 4) mm (Ml.digV d (Ml.dyn d)) (Sm.n2 c 0) (Sm.n2 c 3) (Ml.secOf c) ee with
  | false =>
    have S := fun w => rsec_no (Ml.digV y 4) mm (Ml.digV d (Ml.dyn d)) (Sm.n2 c 0) (Sm.n2 c 3) (Ml.secOf c) ee w hk
    rw [hk] at ho
    obtain rfl : none = o := ho
    clear hk
    go_enter Tryz.func18, Tryz.ntmps18
    go_wp2_with fail
    refine (WD _).mono ?_
    rintro e w1 ⟨v, rfl, how, hB⟩
    obtain ⟨g, cap, rfl, hcap, hmax, hg0, hg1, hcs⟩ := how.row (by simp)
    have hcap' : 5 ≤ cap := hcap
    have hmax' : cap ≤ 9223372036854775807 := by unfold maxLen at hmax; omega
    have g0 := hcs 0 d rfl
    have g1 := hcs 1 m rfl
    have g2 := hcs 2 y rfl
    have g3 := hcs 3 c rfl
    have g4 := hcs 4 z rfl
    have hz := hB.size
    clear hcs how hcap hmax
    simp only [List.length_cons, List.length_nil, Nat.zero_add, Nat.reduceAdd]
    go_wp2_with (first | (go_at_call 48; (with_reducible refine (C4 _).mono ?_); rintro e w' ⟨ca, cb, cc, rfl, hck, hbc⟩; obtain ⟨q4, ⟨k0, k1, k2, k3, k4, k5⟩, ⟨f0, f1, f2, f3, f4, f5⟩, hB', hz'⟩ := clk_facts hg1 g4 hbc hB; clear hbc hB; have hB := hB'; clear hB'; obtain ⟨rfl, rfl, rfl⟩ := hck) | (go_at_call 45; (with_reducible refine (C1 _).mono ?_); rintro e w' ⟨rfl, rfl⟩) | (go_at_call 46; (with_reducible refine (C2 _).mono ?_); rintro e w' ⟨rfl, rfl⟩) | (go_at_call 47; (with_reducible refine (C3 _).mono ?_); rintro e w' ⟨rfl, rfl⟩) | (go_at_call 49; (with_reducible refine (C5 _).mono ?_); rintro e w' ⟨rfl, rfl⟩) | (go_at_call 50; (with_reducible refine (S _).mono ?_); rintro e w5 ⟨rfl, hbs⟩; have hB5 := (show Below w.heap.size w _ from by repeat (first | exact hB | refine Below.setCell ?_ (by show _ ≤ w1.heap.size; omega) _)).trans (hbs.mono (by simp; omega)); clear hB hbs; have hB := hB5; clear hB5) | (go_at_call 51; (with_reducible refine (DD _).mono ?_); rintro e w' ⟨rfl, rfl⟩))
    all_goals
      go_ret2
      exact ⟨rfl, hB⟩
  | true =>
    have S := fun w => rsec_yes (Ml.digV y 4) mm (Ml.digV d (Ml.dyn d)) (Sm.n2 c 0) (Sm.n2 c 3) (Ml.secOf c) ee w hk
    rw [hk, if_pos rfl] at ho
    have hv := ((Cv.may_iff _ _ _ _ _ _).1 ((Cv.secOk_iff _ _ _ _ _ _ _).1 hk).1).1
    have DD := fun w => rdays_yes (Ml.digV y 4) mm (Ml.digV d (Ml.dyn d)) w hv
    subst ho
    clear hk hv
    go_enter Tryz.func18, Tryz.ntmps18
    go_wp2_with fail
    refine (WD _).mono ?_
    rintro e w1 ⟨v, rfl, how, hB⟩
    obtain ⟨g, cap, rfl, hcap, hmax, hg0, hg1, hcs⟩ := how.row (by simp)
    have hcap' : 5 ≤ cap := hcap
    have hmax' : cap ≤ 9223372036854775807 := by unfold maxLen at hmax; omega
    have g0 := hcs 0 d rfl
    have g1 := hcs 1 m rfl
    have g2 := hcs 2 y rfl
    have g3 := hcs 3 c rfl
    have g4 := hcs 4 z rfl
    have hz := hB.size
    clear hcs how hcap hmax
    simp only [List.length_cons, List.length_nil, Nat.zero_add, Nat.reduceAdd]
    go_wp2_with (first | (go_at_call 48; (with_reducible refine (C4 _).mono ?_); rintro e w' ⟨ca, cb, cc, rfl, hck, hbc⟩; obtain ⟨q4, ⟨k0, k1, k2, k3, k4, k5⟩, ⟨f0, f1, f2, f3, f4, f5⟩, hB', hz'⟩ := clk_facts hg1 g4 hbc hB; clear hbc hB; have hB := hB'; clear hB'; obtain ⟨rfl, rfl, rfl⟩ := hck) | (go_at_call 45; (with_reducible refine (C1 _).mono ?_); rintro e w' ⟨rfl, rfl⟩) | (go_at_call 46; (with_reducible refine (C2 _).mono ?_); rintro e w' ⟨rfl, rfl⟩) | (go_at_call 47; (with_reducible refine (C3 _).mono ?_); rintro e w' ⟨rfl, rfl⟩) | (go_at_call 49; (with_reducible refine (C5 _).mono ?_); rintro e w' ⟨rfl, rfl⟩) | (go_at_call 50; (with_reducible refine (S _).mono ?_); rintro e w5 ⟨rfl, hbs⟩; have hB5 := (show Below w.heap.size w _ from by repeat (first | exact hB | refine Below.setCell ?_ (by show _ ≤ w1.heap.size; omega) _)).trans (hbs.mono (by simp; omega)); clear hB hbs; have hB := hB5; clear hB5) | (go_at_call 51; (with_reducible refine (DD _).mono ?_); rintro e w' ⟨rfl, rfl⟩))
    all_goals
      go_ret2
      exact ⟨rfl, hB⟩
end Go.Proofs.YtbhafhbaldddiaaGreatDoor
