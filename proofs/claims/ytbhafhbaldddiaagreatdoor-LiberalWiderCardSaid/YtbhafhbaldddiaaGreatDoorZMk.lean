/- The document's Parse on any text, and the walk of MailReads. The document's Parse on any text; the walk of MailReads. -/
import Derived.Test.YtbhafhbaldddiaaGreatDoorZMi
import Derived.Test.YtbhafhbaldddiaaGreatDoorZMj
namespace Go.Proofs.YtbhafhbaldddiaaGreatDoor
open Go.RowKit
open Go
set_option linter.unusedVariables false
set_option maxHeartbeats 1000000 in
theorem rp_else (s : ByteArray) (hs : s.size ≤ 60) (h5 : (Ml.wds s).length ≠ 5) (h6 : (Ml.wds s).length ≠ 6) (w : World) : Calls Tryz.prog 18 #[.string s] w (ErrPost none 70 w) := by
  have WD := words_any s (by omega)
  unfold WordsPost at WD
  obtain ⟨n, hn⟩ : ∃ n, ((Ml.wds s).take 9).length = n := ⟨_, rfl⟩
  have hn2 : n ≠ 5 ∧ n ≠ 6 := by rw [← hn, List.length_take]; omega
  have e5 : ((n : Int) == 5) = false := by simp; omega
  have e5' : ((n : Int) != 5) = true := by simp; omega
  have e6 : ((n : Int) == 6) = false := by simp; omega
  have HN := Lib.hid hn2
  clear h5 h6 hn2
  go_enter Tryz.func18, Tryz.ntmps18
  go_wp2_with fail
  refine (WD _).mono ?_
  rintro e w1 ⟨v, rfl, ⟨a, cap, rfl, how⟩, hB⟩
  rw [hn]
  clear how WD
  go_wp2_with fail
  go_ret2
  exact ⟨rfl, hB⟩
set_option maxHeartbeats 1000000 in
theorem rp6_comma (s a d m y c z : ByteArray) (hs : s.size ≤ 60) (hw : Ml.wds s = [a, d, m, y, c, z]) (hc : Ml.commaB a = false) (w : World) : Calls Tryz.prog 18 #[.string s] w (ErrPost none 70 w) := by
  have WD := words_any s (by omega)
  unfold WordsPost at WD
  rw [hw] at WD
  clear hw
  have WD : ∀ w, Calls Tryz.prog 43 #[.string s] w fun e w' => ∃ v, e = .returned v ∧ OW w' w.heap.size v [a, d, m, y, c, z] ∧ Below w.heap.size w w' := WD
  by_cases h4 : a.size = 4
  · have n4 : ((a.size : Int) == 4) = true := by simp [h4]
    have h3 : 3 < a.size := by omega
    have hb := byte_at a 3 h3
    have hne : Sm.B a 3 ≠ 44 := fun h => by
      unfold Ml.commaB at hc
      rw [h4, h] at hc
      cases hc
    have e1 : ((Sm.B a 3 : Int) == 44) = false := by simp; omega
    have i3 : (3 : Int) < (a.size : Int) := by omega
    clear hc h4 hne
    go_enter Tryz.func18, Tryz.ntmps18
    go_wp2_with fail
    refine (WD _).mono ?_
    rintro e w1 ⟨v, rfl, how, hB⟩
    obtain ⟨g, cap, rfl, hcap, hmax, hg0, hg1, hcs⟩ := how.row (by simp)
    have ga := hcs 0 a rfl
    clear hcs how
    simp only [List.length_cons, List.length_nil, Nat.zero_add, Nat.reduceAdd]
    go_wp2_with fail
    all_goals
      go_ret2
      exact ⟨rfl, hB⟩
  · have n4 : ((a.size : Int) == 4) = false := by simp; omega
    clear hc h4
    go_enter Tryz.func18, Tryz.ntmps18
    go_wp2_with fail
    refine (WD _).mono ?_
    rintro e w1 ⟨v, rfl, how, hB⟩
    obtain ⟨g, cap, rfl, hcap, hmax, hg0, hg1, hcs⟩ := how.row (by simp)
    have ga := hcs 0 a rfl
    clear hcs how
    simp only [List.length_cons, List.length_nil, Nat.zero_add, Nat.reduceAdd]
    go_wp2_with fail
    all_goals
      go_ret2
      exact ⟨rfl, hB⟩
set_option maxHeartbeats 1000000 in
theorem rp6_noday (s a d m y c z : ByteArray) (hs : s.size ≤ 60) (hw : Ml.wds s = [a, d, m, y, c, z]) (n4 : ((a.size : Int) == 4) = true) (h3 : 3 < a.size) (hb3 : ((a[3]'h3).toNat : Int) = 44) (i3 : (3 : Int) ≤ (a.size : Int)) (x : Int)
    (C0 : ∀ w, Calls Tryz.prog 44 #[.string (a.extract 0 3)] w (SamePost (.tuple #[.int .i64 x, .bool false]) w)) (w : World) : Calls Tryz.prog 18 #[.string s] w (ErrPost none 70 w) := by
  have WD := words_any s (by omega)
  unfold WordsPost at WD
  rw [hw] at WD
  clear hw
  have WD : ∀ w, Calls Tryz.prog 43 #[.string s] w fun e w' => ∃ v, e = .returned v ∧ OW w' w.heap.size v [a, d, m, y, c, z] ∧ Below w.heap.size w w' := WD
  go_enter Tryz.func18, Tryz.ntmps18
  go_wp2_with fail
  refine (WD _).mono ?_
  rintro e w1 ⟨v, rfl, how, hB⟩
  obtain ⟨g, cap, rfl, hcap, hmax, hg0, hg1, hcs⟩ := how.row (by simp)
  have ga := hcs 0 a rfl
  clear hcs how
  simp only [List.length_cons, List.length_nil, Nat.zero_add, Nat.reduceAdd]
  go_wp2_with (go_at_call 44; (with_reducible refine (C0 _).mono ?_); rintro e w' ⟨rfl, rfl⟩)
  all_goals
    go_ret2
    exact ⟨rfl, hB⟩
theorem rbad_or {d m y c z : ByteArray} (h : Ml.bad5 false d m y c z = true) : Ml.digO d (Ml.dyn d) = false ∨ (Ml.monF m).isSome = false ∨ Ml.digO y 4 = false ∨ Ml.hmsB c = false ∨ (Ml.zneF z).isSome = false := by
  unfold Ml.bad5 at h
  rw [Ml.digO_len] at h
  revert h
  cases Ml.digO d (Ml.dyn d) <;> cases (Ml.monF m).isSome <;> cases Ml.digO y 4 <;> cases Ml.hmsB c <;> cases (Ml.zneF z).isSome <;> simp
theorem rclock_t (c : ByteArray) (hs : c.size ≤ 100000) (b : Bool) (hb : Ml.hmsB c = b) (w : World) : Calls Tryz.prog 48 #[.string c] w fun e w' => ∃ ca cb cc, e = .returned (.tuple #[.int .i64 ca, .int .i64 cb, .int .i64 cc, .bool b]) ∧ True ∧ Below w.heap.size w w' :=
  (rclock_any c hs w).mono fun e w' h => by
    obtain ⟨x, y, z, h1, _, h3⟩ := h
    rw [hb] at h1
    exact ⟨x, y, z, h1, trivial, h3⟩
theorem rclock_g (c : ByteArray) (hs : c.size ≤ 100000) (hb : Ml.hmsB c = true) (w : World) : Calls Tryz.prog 48 #[.string c] w fun e w' => ∃ ca cb cc, e = .returned (.tuple #[.int .i64 ca, .int .i64 cb, .int .i64 cc, .bool true]) ∧ (ca = Sm.n2 c 0 ∧ cb = Sm.n2 c 3 ∧ cc = Ml.secOf c) ∧ Below w.heap.size w w' :=
  (rclock_any c hs w).mono fun e w' h => by
    obtain ⟨x, y, z, h1, h2, h3⟩ := h
    rw [hb] at h1
    exact ⟨x, y, z, h1, h2 hb, h3⟩
theorem five_doc {d m y c z : ByteArray} {week : Option Int} {mm ee : Int} (h1 : Ml.digO d (Ml.dyn d) = true) (h2 : Ml.monF m = some mm) (h3 : Ml.digO y 4 = true) (h4 : Ml.hmsB c = true) (h5 : Ml.zneF z = some ee) : Ml.five d m y c z week =
    if Cv.secOk (Ml.digV y 4) mm (Ml.digV d (Ml.dyn d)) (Sm.n2 c 0) (Sm.n2 c 3) (Ml.secOf c) ee = true ∧ (week = none ∨ week = some (Cv.wday (Cv.num (Ml.digV y 4) mm (Ml.digV d (Ml.dyn d))))) then
      some (Cv.secV (Ml.digV y 4) mm (Ml.digV d (Ml.dyn d)) (Sm.n2 c 0) (Sm.n2 c 3) (Ml.secOf c) ee) else none := by
  unfold Ml.five
  rw [h2, h5]
  simp only [h1, h3, h4, true_and]
end Go.Proofs.YtbhafhbaldddiaaGreatDoor
namespace Go.Proofs.YtbhafhbaldddiaaGreatDoor
open Go.RowKit
open Go
set_option linter.unusedVariables false
theorem wds_le {s x : ByteArray} (h : x ∈ Ml.wds s) : x.size ≤ s.size := by
  unfold Ml.wds at h
  obtain ⟨l, hl, rfl⟩ := List.mem_map.1 h
  have h1 := Ml.sp_tot 32 s.data.toList
  have h2 := Ml.tot_mem hl
  have h3 : s.data.toList.length = s.size := by simp
  rw [Ml.mk_size]
  omega
theorem five_g {l : List ByteArray} (h : l.length = 5) : ∃ a b c d e, l = [a, b, c, d, e] := by
  match l, h with
  | [a, b, c, d, e], _ => exact ⟨a, b, c, d, e, rfl⟩
theorem six_g {l : List ByteArray} (h : l.length = 6) : ∃ a b c d e f, l = [a, b, c, d, e, f] := by
  match l, h with
  | [a, b, c, d, e, f], _ => exact ⟨a, b, c, d, e, f, rfl⟩
theorem dyn_le (d : ByteArray) : Ml.dyn d ≤ 4 := by unfold Ml.dyn; split <;> omega
theorem c3_doc (y : ByteArray) (hy : y.size ≤ 100000) (w : World) : Calls Tryz.prog 47 #[.string y, .int .i64 4] w (SamePost (.tuple #[.int .i64 (numV y), .bool (Ml.digO y 4)]) w) := number_any y 4 (by omega) hy w
theorem rparse5 (s d m y c z : ByteArray) (hs : s.size ≤ 60) (hw : Ml.wds s = [d, m, y, c, z]) (w : World) : Calls Tryz.prog 18 #[.string s] w (ErrPost (Ml.five d m y c z none) 70 w) := by
  have hle : ∀ x ∈ [d, m, y, c, z], x.size ≤ s.size := fun x hx => wds_le (hw ▸ hx)
  have l1 := hle d (by simp)
  have l2 := hle m (by simp)
  have l3 := hle y (by simp)
  have l4 := hle c (by simp)
  have l5 := hle z (by simp)
  have C1 := rdyn_any d (by omega)
  have C2 := rmonth_any m (by omega)
  have C3 := c3_doc y (by omega)
  have C5 := rzone_any z (by omega)
  cases hb : Ml.bad5 false d m y c z with
  | true =>
    rw [Ml.five_bad hb]
    exact rp5_bad s d m y c z hs hw (by omega) _ _ _ _ _ _ _ _ _ (rbad_or hb) C1 C2 C3 (rclock_t c (by omega) _ rfl) C5 w
  | false =>
    obtain ⟨h1, ⟨mm, h2⟩, h3, h4, ⟨ee, h5⟩⟩ := (Ml.bad5_iff d m y c z).1 hb
    rw [five_doc h1 h2 h3 h4 h5]
    rw [h1, numV_is (dyn_le d) h1] at C1
    rw [h2] at C2
    rw [h3, numV_is (by omega) h3] at C3
    rw [h5] at C5
    exact rp5_good s d m y c z hs hw mm ee C1 C2 C3 (rclock_g c (by omega) h4) C5 _ (by simp) w
theorem rparse6 (s a d m y c z : ByteArray) (hs : s.size ≤ 60) (hw : Ml.wds s = [a, d, m, y, c, z]) (w : World) : Calls Tryz.prog 18 #[.string s] w (ErrPost (Ml.prs [a, d, m, y, c, z]) 70 w) := by
  have hle : ∀ x ∈ [a, d, m, y, c, z], x.size ≤ s.size := fun x hx => wds_le (hw ▸ hx)
  have l0 := hle a (by simp)
  have l1 := hle d (by simp)
  have l2 := hle m (by simp)
  have l3 := hle y (by simp)
  have l4 := hle c (by simp)
  have l5 := hle z (by simp)
  show Calls _ _ _ _ (ErrPost (if Ml.commaB a = true then (match Ml.dayF (a.extract 0 3) with | some k => Ml.five d m y c z (some k) | none => none) else none) 70 w)
  cases hc : Ml.commaB a with
  | false => exact rp6_comma s a d m y c z hs hw hc w
  | true =>
    rw [if_pos rfl]
    have hc2 := hc
    unfold Ml.commaB at hc2
    rw [Bool.and_eq_true, decide_eq_true_iff, beq_iff_eq] at hc2
    obtain ⟨ha4, ha44⟩ := hc2
    have n4 : ((a.size : Int) == 4) = true := by simp [ha4]
    have h3 : 3 < a.size := by omega
    have hb3 : ((a[3]'h3).toNat : Int) = 44 := by rw [byte_at a 3 h3, ha44]; rfl
    have i3 : (3 : Int) ≤ (a.size : Int) := by omega
    have C0 := rday_any (a.extract 0 3) (by rw [Sm.size_extract]; omega)
    cases hd : Ml.dayF (a.extract 0 3) with
    | none =>
      rw [hd] at C0
      exact rp6_noday s a d m y c z hs hw n4 h3 hb3 i3 _ C0 w
    | some k =>
      rw [hd] at C0
      have hk := Ml.day_size hd
      have C1 := rdyn_any d (by omega)
      have C2 := rmonth_any m (by omega)
      have C3 := c3_doc y (by omega)
      have C5 := rzone_any z (by omega)
      show Calls _ _ _ _ (ErrPost (Ml.five d m y c z (some k)) 70 w)
      cases hb : Ml.bad5 false d m y c z with
      | true =>
        rw [Ml.five_bad hb]
        exact rp6_bad s a d m y c z hs n4 h3 hb3 i3 k hk.2.1 C0 hw (by omega) _ _ _ _ _ _ _ _ _ (rbad_or hb) C1 C2 C3 (rclock_t c (by omega) _ rfl) C5 w
      | false =>
        obtain ⟨h1, ⟨mm, h2⟩, h3', h4, ⟨ee, h5⟩⟩ := (Ml.bad5_iff d m y c z).1 hb
        rw [five_doc h1 h2 h3' h4 h5]
        rw [h1, numV_is (dyn_le d) h1] at C1
        rw [h2] at C2
        rw [h3', numV_is (by omega) h3'] at C3
        rw [h5] at C5
        refine rp6_good s a d m y c z hs n4 h3 hb3 i3 k hk.2.1 C0 hw mm ee C1 C2 C3 (rclock_g c (by omega) h4) C5 _ ?_ w
        congr 1
        simp only [reduceCtorEq, false_or, Option.some.injEq, eq_iff_iff]
        exact ⟨fun h => ⟨h.1, h.2.symm⟩, fun h => ⟨h.1, h.2.symm⟩⟩
set_option maxHeartbeats 1000000 in
theorem rparse_any (s : ByteArray) (hs : s.size ≤ 100000) (w : World) : Calls Tryz.prog 18 #[.string s] w (ErrPost (Ml.parseF s) 70 w) := by
  by_cases h60 : s.size ≤ 60
  · by_cases h5 : (Ml.wds s).length = 5
    · obtain ⟨d, m, y, c, z, hw⟩ := five_g h5
      have e : Ml.parseF s = Ml.five d m y c z none := by unfold Ml.parseF; rw [hw]; rfl
      rw [e]
      exact rparse5 s d m y c z h60 hw w
    · by_cases h6 : (Ml.wds s).length = 6
      · obtain ⟨a, d, m, y, c, z, hw⟩ := six_g h6
        have e : Ml.parseF s = Ml.prs [a, d, m, y, c, z] := by unfold Ml.parseF; rw [hw]
        rw [e]
        exact rparse6 s a d m y c z h60 hw w
      · have e : Ml.parseF s = none := by
          unfold Ml.parseF
          generalize Ml.wds s = W at h5 h6
          match W with
          | [] => rfl
          | [_] => rfl
          | [_, _] => rfl
          | [_, _, _] => rfl
          | [_, _, _, _] => rfl
          | [_, _, _, _, _] => exact absurd rfl h5
          | [_, _, _, _, _, _] => exact absurd rfl h6
          | _ :: _ :: _ :: _ :: _ :: _ :: _ :: _ => rfl
        rw [e]
        exact rp_else s h60 h5 h6 w
  · have e : Ml.parseF s = none := by
      cases h : Ml.parseF s with
      | none => rfl
      | some v => have := Ml.parse_short h; omega
    rw [e]
    clear e
    have g1 : (60 : Int) < (s.size : Int) := by omega
    go_enter Tryz.func18, Tryz.ntmps18
    go_wp2_with fail
    go_ret2
    exact ⟨rfl, Below.refl _ _⟩
end Go.Proofs.YtbhafhbaldddiaaGreatDoor
