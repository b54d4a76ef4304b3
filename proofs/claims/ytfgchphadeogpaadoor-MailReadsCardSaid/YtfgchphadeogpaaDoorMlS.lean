/- The walks of the document's zone, clock and day. -/
import Derived.Test.YtfgchphadeogpaaDoorMlR
import Derived.Deep.RegionHeld3
namespace Go.Proofs.YtfgchphadeogpaaDoor
open Go.RowKit
open Go
set_option linter.unusedVariables false
theorem num2_any (s : ByteArray) (a b : Nat) (hb : b = a + 2) (h : b ≤ s.size) (hs : s.size ≤ 100000) (w : World) : Calls Tryd.prog 30 #[.string (s.extract a b), .int .i64 2] w fun e w' => e = .returned (.tuple #[.int .i64 (numV (s.extract a b)), .bool (Sm.d2 s a)]) ∧ w = w' := by
  have c := number_any (s.extract a b) 2 (by omega) (by rw [Sm.size_extract]; omega) w
  unfold SamePost at c
  rw [Ml.digO2 s a b hb h] at c
  exact c
theorem num2_val {s : ByteArray} {a b : Nat} (hb : b = a + 2) (h : b ≤ s.size) (hd : Sm.d2 s a = true) : numV (s.extract a b) = Sm.n2 s a := by
  have ho : Ml.digO (s.extract a b) 2 = true := by rw [Ml.digO2 s a b hb h]; exact hd
  rw [numV_is (by omega) ho, Ml.digV2 s a b hb h, if_pos hd]
theorem lit_ne {s : ByteArray} {l : List UInt8} (h : ¬ s = Ml.mk l) : (s.toList == l) = false := by
  rw [beq_eq_false_iff_ne]
  intro e
  apply h
  rw [Go.Lib.toList_data] at e
  rw [Ml.of_list e]
def ZnPost (o : Option Int) (w : World) (e : Ending) (w' : World) : Prop := e = .returned (.tuple #[.int .i64 (o.getD 0), .bool o.isSome]) ∧ w = w'
set_option maxRecDepth 100000 in
set_option maxHeartbeats 2000000 in
theorem rzone_named {s : ByteArray} {h : Int} (hh : Ml.hourF s = some h) (w : World) : Calls Tryd.prog 16 #[.string s] w (ZnPost (some (h * 60)) w) := by
  have hm := Ml.hour_mem hh
  clear hh
  unfold Ml.znames at hm
  simp only [List.mem_cons, List.not_mem_nil, or_false, Prod.mk.injEq] at hm
  rcases hm with ⟨rfl, rfl⟩ | ⟨rfl, rfl⟩ | ⟨rfl, rfl⟩ | ⟨rfl, rfl⟩ | ⟨rfl, rfl⟩ | ⟨rfl, rfl⟩ | ⟨rfl, rfl⟩ | ⟨rfl, rfl⟩ | ⟨rfl, rfl⟩ | ⟨rfl, rfl⟩ | ⟨rfl, rfl⟩
  all_goals
    go_enter Tryd.func16, Tryd.ntmps16
    go_wp2
    go_ret2
    exact ⟨rfl, rfl⟩
theorem hour_none {s : ByteArray} (h : Ml.hourF s = none) (p : ByteArray × Int) (hp : p ∈ Ml.znames) : ¬ s = p.1 := by
  intro e
  unfold Ml.hourF at h
  rw [Option.map_eq_none_iff, List.find?_eq_none] at h
  have := h p hp
  simp at this
  exact this e.symm
set_option maxRecDepth 100000 in
set_option maxHeartbeats 2000000 in
theorem rzone_off (s : ByteArray) (hs : s.size ≤ 100000) (hh : Ml.hourF s = none) (o : Option Int) (ho : (if Ml.offB s = true then some (Ml.offV s) else none) = o) (w : World) : Calls Tryd.prog 16 #[.string s] w (ZnPost o w) := by
  have x0 : (s.toList == [71, 77, 84]) = false := lit_ne (hour_none hh (⟨#[71, 77, 84]⟩, 0) (by simp [Ml.znames]))
  have x1 : (s.toList == [85, 84]) = false := lit_ne (hour_none hh (⟨#[85, 84]⟩, 0) (by simp [Ml.znames]))
  have x2 : (s.toList == [90]) = false := lit_ne (hour_none hh (⟨#[90]⟩, 0) (by simp [Ml.znames]))
  have x3 : (s.toList == [69, 83, 84]) = false := lit_ne (hour_none hh (⟨#[69, 83, 84]⟩, -5) (by simp [Ml.znames]))
  have x4 : (s.toList == [69, 68, 84]) = false := lit_ne (hour_none hh (⟨#[69, 68, 84]⟩, -4) (by simp [Ml.znames]))
  have x5 : (s.toList == [67, 83, 84]) = false := lit_ne (hour_none hh (⟨#[67, 83, 84]⟩, -6) (by simp [Ml.znames]))
  have x6 : (s.toList == [67, 68, 84]) = false := lit_ne (hour_none hh (⟨#[67, 68, 84]⟩, -5) (by simp [Ml.znames]))
  have x7 : (s.toList == [77, 83, 84]) = false := lit_ne (hour_none hh (⟨#[77, 83, 84]⟩, -7) (by simp [Ml.znames]))
  have x8 : (s.toList == [77, 68, 84]) = false := lit_ne (hour_none hh (⟨#[77, 68, 84]⟩, -6) (by simp [Ml.znames]))
  have x9 : (s.toList == [80, 83, 84]) = false := lit_ne (hour_none hh (⟨#[80, 83, 84]⟩, -8) (by simp [Ml.znames]))
  have x10 : (s.toList == [80, 68, 84]) = false := lit_ne (hour_none hh (⟨#[80, 68, 84]⟩, -7) (by simp [Ml.znames]))
  clear hh
  by_cases hsz : s.size = 5
  · have h5 : ((s.size : Int) == 5) = true := by simp [hsz]
    have h5' : ((s.size : Int) != 5) = false := by simp [hsz]
    have c1 := fun w => num2_any s 1 3 rfl (by omega) hs w
    have c2 := fun w => num2_any s 3 s.size (by omega) (by omega) hs w
    have v1 : Sm.d2 s 1 = true → numV (s.extract 1 3) = Sm.n2 s 1 := fun h => num2_val rfl (by omega) h
    have v2 : Sm.d2 s 3 = true → numV (s.extract 3 s.size) = Sm.n2 s 3 := fun h => num2_val (by omega) (by omega) h
    have b1 := numV_bd (s.extract 1 3)
    have b2 := numV_bd (s.extract 3 s.size)
    have g3 : (3 : Int) ≤ (s.size : Int) := by omega
    have g4 : (0 : Int) < (s.size : Int) := by omega
    have g0 : 0 < s.size := by omega
    have hb0 := byte_at s 0 g0
    have hbl := Sm.B_lt s 0
    have hoff : Ml.offB s = true ↔ (Sm.d2 s 1 = true ∧ Sm.d2 s 3 = true ∧ Sm.n2 s 1 ≤ 23 ∧ Sm.n2 s 3 ≤ 59 ∧ (Sm.B s 0 = 43 ∨ Sm.B s 0 = 45)) := by
      rw [Ml.off_iff]
      exact ⟨fun h => h.2, fun h => ⟨hsz, h⟩⟩
    have hbd1 : Sm.d2 s 1 = true → 0 ≤ Sm.n2 s 1 ∧ Sm.n2 s 1 ≤ 99 := fun h => Sm.n2_bd h
    have hbd2 : Sm.d2 s 3 = true → 0 ≤ Sm.n2 s 3 ∧ Sm.n2 s 3 ≤ 99 := fun h => Sm.n2_bd h
    have HSZ := Lib.hid hsz
    clear hsz
    unfold Ml.offV at ho
    generalize numV (s.extract 1 3) = m1 at *
    generalize numV (s.extract 3 s.size) = m2 at *
    generalize Sm.n2 s 1 = x at *
    generalize Sm.n2 s 3 = y at *
    generalize Sm.d2 s 1 = p1 at *
    generalize Sm.d2 s 3 = p2 at *
    generalize Sm.B s 0 = q at *
    generalize Ml.offB s = ob at *
    have hno : ¬ (p1 = true ∧ p2 = true ∧ x ≤ 23 ∧ y ≤ 59 ∧ (q = 43 ∨ q = 45)) → none = o := fun h => by
      rw [← ho, if_neg (fun k => h (hoff.1 k))]
    have hyes : (p1 = true ∧ p2 = true ∧ x ≤ 23 ∧ y ≤ 59 ∧ (q = 43 ∨ q = 45)) → some (if q = 45 then -(x * 60 + y) else x * 60 + y) = o := fun h => by
      rw [← ho, if_pos (hoff.2 h)]
    clear ho hoff
    by_cases hq : q = 43 ∨ q = 45
    · cases p1 with
      | false =>
        obtain rfl := hno (by simp)
        clear hno hyes hbd1 hbd2 v1 v2
        rcases hq with rfl | rfl
        all_goals
          go_enter Tryd.func16, Tryd.ntmps16
          go_wp2_with (go_at_call 30; (first | (with_reducible refine (c1 _).mono ?_) | (with_reducible refine (c2 _).mono ?_)); rintro e w3 ⟨rfl, rfl⟩)
          go_ret2
          exact ⟨rfl, rfl⟩
      | true =>
        cases p2 with
        | false =>
          obtain rfl := hno (by simp)
          clear hno hyes hbd1 hbd2 v1 v2
          rcases hq with rfl | rfl
          all_goals
            go_enter Tryd.func16, Tryd.ntmps16
            go_wp2_with (go_at_call 30; (first | (with_reducible refine (c1 _).mono ?_) | (with_reducible refine (c2 _).mono ?_)); rintro e w3 ⟨rfl, rfl⟩)
            go_ret2
            exact ⟨rfl, rfl⟩
        | true =>
          obtain rfl := v1 rfl
          obtain rfl := v2 rfl
          obtain ⟨d1, d2⟩ := hbd1 rfl
          obtain ⟨d3, d4⟩ := hbd2 rfl
          by_cases hx : m1 ≤ 23
          · by_cases hy : m2 ≤ 59
            · rcases hq with rfl | rfl
              · obtain rfl := hyes ⟨rfl, rfl, hx, hy, Or.inl rfl⟩
                rw [if_neg (by omega)]
                clear hno hyes hbd1 hbd2 v1 v2
                go_enter Tryd.func16, Tryd.ntmps16
                go_wp2_with (go_at_call 30; (first | (with_reducible refine (c1 _).mono ?_) | (with_reducible refine (c2 _).mono ?_)); rintro e w3 ⟨rfl, rfl⟩)
                go_ret2
                exact ⟨rfl, rfl⟩
              · obtain rfl := hyes ⟨rfl, rfl, hx, hy, Or.inr rfl⟩
                rw [if_pos rfl]
                clear hno hyes hbd1 hbd2 v1 v2
                go_enter Tryd.func16, Tryd.ntmps16
                go_wp2_with (go_at_call 30; (first | (with_reducible refine (c1 _).mono ?_) | (with_reducible refine (c2 _).mono ?_)); rintro e w3 ⟨rfl, rfl⟩)
                go_ret2
                exact ⟨rfl, rfl⟩
            · obtain rfl := hno (fun h => hy h.2.2.2.1)
              have hy2 : 59 < m2 := by omega
              clear hno hyes hbd1 hbd2 hy v1 v2
              rcases hq with rfl | rfl
              all_goals
                go_enter Tryd.func16, Tryd.ntmps16
                go_wp2_with (go_at_call 30; (first | (with_reducible refine (c1 _).mono ?_) | (with_reducible refine (c2 _).mono ?_)); rintro e w3 ⟨rfl, rfl⟩)
                go_ret2
                exact ⟨rfl, rfl⟩
          · obtain rfl := hno (fun h => hx h.2.2.1)
            have hx2 : 23 < m1 := by omega
            clear hno hyes hbd1 hbd2 hx v1 v2
            rcases hq with rfl | rfl
            all_goals
              go_enter Tryd.func16, Tryd.ntmps16
              go_wp2_with (go_at_call 30; (first | (with_reducible refine (c1 _).mono ?_) | (with_reducible refine (c2 _).mono ?_)); rintro e w3 ⟨rfl, rfl⟩)
              go_ret2
              exact ⟨rfl, rfl⟩
    · obtain rfl := hno (fun h => hq h.2.2.2.2)
      have e1 : ((q : Int) == 43) = false := by simp; omega
      have e2 : ((q : Int) == 45) = false := by simp; omega
      have e1' : ((q : Int) != 43) = true := by simp; omega
      have e2' : ((q : Int) != 45) = true := by simp; omega
      clear hno hyes hbd1 hbd2 v1 v2 hq
      go_enter Tryd.func16, Tryd.ntmps16
      go_wp2_with (go_at_call 30; (first | (with_reducible refine (c1 _).mono ?_) | (with_reducible refine (c2 _).mono ?_)); rintro e w3 ⟨rfl, rfl⟩)
      go_ret2
      exact ⟨rfl, rfl⟩
  · have h5 : ((s.size : Int) == 5) = false := by simp; omega
    have h5' : ((s.size : Int) != 5) = true := by simp; omega
    have hno : none = o := by
      rw [← ho]
      unfold Ml.offB
      simp [hsz]
    subst hno
    clear hsz ho
    go_enter Tryd.func16, Tryd.ntmps16
    go_wp2_with fail
    go_ret2
    exact ⟨rfl, rfl⟩
theorem rzone_any (s : ByteArray) (hs : s.size ≤ 100000) (w : World) : Calls Tryd.prog 16 #[.string s] w (ZnPost (Ml.zneF s) w) := by
  unfold Ml.zneF
  cases hh : Ml.hourF s with
  | some h => exact rzone_named hh w
  | none => exact rzone_off s hs hh _ rfl w
set_option maxHeartbeats 1000000 in
theorem rdyn_any (s : ByteArray) (hs : s.size ≤ 100000) (w : World) : Calls Tryd.prog 29 #[.string s] w (SamePost (.tuple #[.int .i64 (numV s), .bool (Ml.digO s (Ml.dyn s))]) w) := by
  unfold Ml.dyn
  by_cases h : s.size = 1
  · have c : ∀ w, Calls Tryd.prog 30 #[.string s, .int .i64 1] w (SamePost (.tuple #[.int .i64 (numV s), .bool (Ml.digO s 1)]) w) := fun w => number_any s 1 (by omega) hs w
    rw [if_pos h]
    have e1 : ((s.size : Int) == 1) = true := by simp [h]
    clear h
    go_enter Tryd.func29, Tryd.ntmps29
    go_wp2_with fail
    refine (c _).mono ?_
    rintro e w3 ⟨rfl, rfl⟩
    go_wp2_with fail
    go_ret2
    exact ⟨rfl, rfl⟩
  · have c : ∀ w, Calls Tryd.prog 30 #[.string s, .int .i64 2] w (SamePost (.tuple #[.int .i64 (numV s), .bool (Ml.digO s 2)]) w) := fun w => number_any s 2 (by omega) hs w
    rw [if_neg h]
    have e1 : ((s.size : Int) == 1) = false := by simp; omega
    clear h
    go_enter Tryd.func29, Tryd.ntmps29
    go_wp2_with fail
    refine (c _).mono ?_
    rintro e w3 ⟨rfl, rfl⟩
    go_wp2_with fail
    go_ret2
    exact ⟨rfl, rfl⟩
end Go.Proofs.YtfgchphadeogpaaDoor

