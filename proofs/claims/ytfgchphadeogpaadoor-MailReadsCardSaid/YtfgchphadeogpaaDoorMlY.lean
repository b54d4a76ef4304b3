/- The document's Parse on any text, and the walk of MailReads. -/
import Derived.Test.YtfgchphadeogpaaDoorMlV
namespace Go.Proofs.YtfgchphadeogpaaDoor
open Go.RowKit
open Go
set_option linter.unusedVariables false
set_option maxHeartbeats 1000000 in
theorem rp_else (s : ByteArray) (hs : s.size ≤ 60) (h5 : (Ml.wds s).length ≠ 5) (h6 : (Ml.wds s).length ≠ 6) (w : World) : Calls Tryd.prog 10 #[.string s] w (ErrPost none 70 w) := by
  have WD := words_any s (by omega)
  unfold WordsPost at WD
  obtain ⟨n, hn⟩ : ∃ n, ((Ml.wds s).take 9).length = n := ⟨_, rfl⟩
  have hn2 : n ≠ 5 ∧ n ≠ 6 := by rw [← hn, List.length_take]; omega
  have e5 : ((n : Int) == 5) = false := by simp; omega
  have e5' : ((n : Int) != 5) = true := by simp; omega
  have e6 : ((n : Int) == 6) = false := by simp; omega
  have HN := Lib.hid hn2
  clear h5 h6 hn2
  go_enter Tryd.func10, Tryd.ntmps10
  go_wp2_with fail
  refine (WD _).mono ?_
  rintro e w1 ⟨v, rfl, ⟨a, cap, rfl, how⟩, hB⟩
  rw [hn]
  clear how WD
  go_wp2_with fail
  go_ret2
  exact ⟨rfl, hB⟩
set_option maxHeartbeats 1000000 in
theorem rp6_comma (s a d m y c z : ByteArray) (hs : s.size ≤ 60) (hw : Ml.wds s = [a, d, m, y, c, z]) (hc : Ml.commaB a = false) (w : World) : Calls Tryd.prog 10 #[.string s] w (ErrPost none 70 w) := by
  have WD := words_any s (by omega)
  unfold WordsPost at WD
  rw [hw] at WD
  clear hw
  have WD : ∀ w, Calls Tryd.prog 28 #[.string s] w fun e w' => ∃ v, e = .returned v ∧ OW w' w.heap.size v [a, d, m, y, c, z] ∧ Below w.heap.size w w' := WD
  by_cases h4 : a.size = 4
  · have n4 : ((a.size : Int) == 4) = true := by simp [h4]
    have h3 : 3 < a.size := by omega
    have hb := byte_at a 3 h3
    have hne : Sm.B a 3 ≠ 44 := fun h => by
      unfold Ml.commaB at hc
      rw [h4, h] at hc
      cases hc
    have e1 : ((Sm.B a 3 : Int) == 44) = false := by simp; omega
    have i3 : (3 : Int) < (a.size : Int) := by omega
    clear hc h4 hne
    go_enter Tryd.func10, Tryd.ntmps10
    go_wp2_with fail
    refine (WD _).mono ?_
    rintro e w1 ⟨v, rfl, how, hB⟩
    obtain ⟨g, cap, rfl, hcap, hmax, hg0, hg1, hcs⟩ := how.row (by simp)
    have ga := hcs 0 a rfl
    clear hcs how
    simp only [List.length_cons, List.length_nil, Nat.zero_add, Nat.reduceAdd]
    go_wp2_with fail
    all_goals
      go_ret2
      exact ⟨rfl, hB⟩
  · have n4 : ((a.size : Int) == 4) = false := by simp; omega
    clear hc h4
    go_enter Tryd.func10, Tryd.ntmps10
    go_wp2_with fail
    refine (WD _).mono ?_
    rintro e w1 ⟨v, rfl, how, hB⟩
    obtain ⟨g, cap, rfl, hcap, hmax, hg0, hg1, hcs⟩ := how.row (by simp)
    have ga := hcs 0 a rfl
    clear hcs how
    simp only [List.length_cons, List.length_nil, Nat.zero_add, Nat.reduceAdd]
    go_wp2_with fail
    all_goals
      go_ret2
      exact ⟨rfl, hB⟩
set_option maxHeartbeats 1000000 in
theorem rp6_noday (s a d m y c z : ByteArray) (hs : s.size ≤ 60) (hw : Ml.wds s = [a, d, m, y, c, z]) (n4 : ((a.size : Int) == 4) = true) (h3 : 3 < a.size) (hb3 : ((a[3]'h3).toNat : Int) = 44) (i3 : (3 : Int) ≤ (a.size : Int)) (x : Int)
    (C0 : ∀ w, Calls Tryd.prog 14 #[.string (a.extract 0 3)] w (SamePost (.tuple #[.int .i64 x, .bool false]) w)) (w : World) : Calls Tryd.prog 10 #[.string s] w (ErrPost none 70 w) := by
  have WD := words_any s (by omega)
  unfold WordsPost at WD
  rw [hw] at WD
  clear hw
  have WD : ∀ w, Calls Tryd.prog 28 #[.string s] w fun e w' => ∃ v, e = .returned v ∧ OW w' w.heap.size v [a, d, m, y, c, z] ∧ Below w.heap.size w w' := WD
  go_enter Tryd.func10, Tryd.ntmps10
  go_wp2_with fail
  refine (WD _).mono ?_
  rintro e w1 ⟨v, rfl, how, hB⟩
  obtain ⟨g, cap, rfl, hcap, hmax, hg0, hg1, hcs⟩ := how.row (by simp)
  have ga := hcs 0 a rfl
  clear hcs how
  simp only [List.length_cons, List.length_nil, Nat.zero_add, Nat.reduceAdd]
  go_wp2_with (go_at_call 14; (with_reducible refine (C0 _).mono ?_); rintro e w' ⟨rfl, rfl⟩)
  all_goals
    go_ret2
    exact ⟨rfl, hB⟩
theorem rbad_or {d m y c z : ByteArray} (h : Ml.bad5 false d m y c z = true) : Ml.digO d (Ml.dyn d) = false ∨ (Ml.monF m).isSome = false ∨ Ml.digO y 4 = false ∨ Ml.hmsB c = false ∨ (Ml.zneF z).isSome = false := by
  unfold Ml.bad5 at h
  rw [Ml.digO_len] at h
  revert h
  cases Ml.digO d (Ml.dyn d) <;> cases (Ml.monF m).isSome <;> cases Ml.digO y 4 <;> cases Ml.hmsB c <;> cases (Ml.zneF z).isSome <;> simp
theorem rclock_t (c : ByteArray) (hs : c.size ≤ 100000) (b : Bool) (hb : Ml.hmsB c = b) (w : World) : Calls Tryd.prog 31 #[.string c] w fun e w' => ∃ ca cb cc, e = .returned (.tuple #[.int .i64 ca, .int .i64 cb, .int .i64 cc, .bool b]) ∧ True ∧ Below w.heap.size w w' :=
  (rclock_any c hs w).mono fun e w' h => by
    obtain ⟨x, y, z, h1, _, h3⟩ := h
    rw [hb] at h1
    exact ⟨x, y, z, h1, trivial, h3⟩
theorem rclock_g (c : ByteArray) (hs : c.size ≤ 100000) (hb : Ml.hmsB c = true) (w : World) : Calls Tryd.prog 31 #[.string c] w fun e w' => ∃ ca cb cc, e = .returned (.tuple #[.int .i64 ca, .int .i64 cb, .int .i64 cc, .bool true]) ∧ (ca = Sm.n2 c 0 ∧ cb = Sm.n2 c 3 ∧ cc = Ml.secOf c) ∧ Below w.heap.size w w' :=
  (rclock_any c hs w).mono fun e w' h => by
    obtain ⟨x, y, z, h1, h2, h3⟩ := h
    rw [hb] at h1
    exact ⟨x, y, z, h1, h2 hb, h3⟩
theorem five_doc {d m y c z : ByteArray} {week : Option Int} {mm ee : Int} (h1 : Ml.digO d (Ml.dyn d) = true) (h2 : Ml.monF m = some mm) (h3 : Ml.digO y 4 = true) (h4 : Ml.hmsB c = true) (h5 : Ml.zneF z = some ee) : Ml.five d m y c z week =
    if Cv.secOk (Ml.digV y 4) mm (Ml.digV d (Ml.dyn d)) (Sm.n2 c 0) (Sm.n2 c 3) (Ml.secOf c) ee = true ∧ (week = none ∨ week = some (Cv.wday (Cv.num (Ml.digV y 4) mm (Ml.digV d (Ml.dyn d))))) then
      some (Cv.secV (Ml.digV y 4) mm (Ml.digV d (Ml.dyn d)) (Sm.n2 c 0) (Sm.n2 c 3) (Ml.secOf c) ee) else none := by
  unfold Ml.five
  rw [h2, h5]
  simp only [h1, h3, h4, true_and]
end Go.Proofs.YtfgchphadeogpaaDoor
