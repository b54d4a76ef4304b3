/- The walk of a letter's clock. -/
import Derived.Test.YtfgchphadeogpaaDoorMlD
import Derived.Deep.RegionHeld3
namespace Go.Proofs.YtfgchphadeogpaaDoor
open Go.RowKit
open Go
set_option linter.unusedVariables false
def ckV (c : ByteArray) : Int × Int × Int := match Ml.sp 58 c.data.toList with
  | [a, b] => (Ml.digV (Ml.mk a) 2, Ml.digV (Ml.mk b) 2, 0)
  | [a, b, d] => (Ml.digV (Ml.mk a) 2, Ml.digV (Ml.mk b) 2, Ml.digV (Ml.mk d) 2)
  | _ => (0, 0, 0)
def CkPost (L : Nat) (rest : Value) (bad : Bool) (r : Int × Int × Int) (w : World) (e : Ending) (w' : World) : Prop := e = .returned (.tuple #[.int .i64 r.1, .int .i64 r.2.1, .int .i64 r.2.2]) ∧ LT w' L rest bad ∧ w.grownBy w' (some L)
theorem gb_drew {w w' : World} {row : Option Nat} (h : w.drew.grownBy w' row) : w.grownBy w' row := ⟨h.os, h.tape, h.output, h.size, h.block⟩
theorem or3 (a b c : Bool) : ((a || b) || c) = ((a || c) || b) := by cases a <;> cases b <;> cases c <;> rfl
set_option maxRecDepth 100000 in
set_option maxHeartbeats 4000000 in
theorem clock_2 (c : ByteArray) (hs : c.size ≤ 100000) (a b : List UInt8) (hp : Ml.sp 58 c.data.toList = [a, b]) (w : World) (L : Nat) (rest : Value) (bad : Bool) (h : LT w L rest bad) (o1 o2 : Bool) (v1 v2 : Int)
    (d1 : ∀ w, Calls Tryd.prog 23 #[.string (Ml.mk a), .int .i64 2] w fun e w' => e = .returned (.tuple #[.int .i64 v1, .bool o1]) ∧ w = w')
    (d2 : ∀ w, Calls Tryd.prog 23 #[.string (Ml.mk b), .int .i64 2] w fun e w' => e = .returned (.tuple #[.int .i64 v2, .bool o2]) ∧ w = w') :
    Calls Tryd.prog 24 #[.pointer (some ⟨L, 0, none⟩), .string c] w (CkPost L rest ((bad || !o1) || !o2) (v1, v2, 0) w) := by
  have C := fun w => split_any c 58 hs w
  unfold SplitPost at C
  rw [hp] at C
  have hl : LT (w.alloc (.cells #[.string (Ml.mk a), .string (Ml.mk b)] 9)) L rest bad := h.far (World.grownBy_alloc w _ none) (by simp)
  have hgr : w.grownBy (w.alloc (.cells #[.string (Ml.mk a), .string (Ml.mk b)] 9)) (some L) := World.grownBy_alloc w _ _
  have hLw := h.2.2.2.2
  clear hp h
  go_enter Tryd.func24, Tryd.ntmps24
  go_wp2_with fail
  refine (C _).mono ?_
  rintro e w1 ⟨rfl, hw⟩
  have hw2 : w1 = w.alloc (.cells #[.string (Ml.mk a), .string (Ml.mk b)] 9) := hw
  rw [← hw2] at hl hgr
  have k0 : w1.cell? ⟨w.heap.size, 0, none⟩ = some (.string (Ml.mk a)) := by rw [hw2]; go_simp
  have k1 : w1.cell? ⟨w.heap.size, 1, none⟩ = some (.string (Ml.mk b)) := by rw [hw2]; go_simp
  have hx0 : w.heap.size < w1.heap.size := by rw [hw2]; simp
  have hne : some w.heap.size ≠ some L := fun e => absurd (Option.some.inj e) (by omega)
  clear hw hw2 C
  go_wp2_with fail
  go_region_held3 (fun w' => w'.cell? ⟨w.heap.size, 0, none⟩ = some (.string (Ml.mk a)) ∧ w'.cell? ⟨w.heap.size, 1, none⟩ = some (.string (Ml.mk b))) (first | exact ⟨by assumption, by assumption⟩ | go_keep)
    (first | (go_at_call 23; (first | (with_reducible refine (d1 _).mono ?_) | (with_reducible refine (d2 _).mono ?_)); rintro e w' ⟨rfl, rfl⟩) | (go_at_call 22; (first | ((with_reducible refine (take_any _ L rest _ _ _ hl).mono ?_); rintro e w' ⟨rfl, hl', hg'⟩) | ((with_reducible refine (take_any _ L rest _ _ _ hl.drew).mono ?_); rintro e w' ⟨rfl, hl', hgd⟩; have hg' := gb_drew hgd; clear hgd)); have k0' := (gb_cell (a := ⟨w.heap.size, 0, none⟩) hg' hx0 hne).trans k0; have k1' := (gb_cell (a := ⟨w.heap.size, 1, none⟩) hg' hx0 hne).trans k1; clear k0 k1; have k0 := k0'; have k1 := k1'; have hgr' := gb_same hgr hg'; have hx1 := Nat.lt_of_lt_of_le hx0 hg'.size; clear hl hgr hx0 hg' k0' k1'; have hl := hl'; have hgr := hgr'; have hx0 := hx1; clear hl' hgr' hx1))
  go_wp2_with fail
  go_ret3
  exact ⟨rfl, hl, hgr⟩
set_option maxRecDepth 100000 in
set_option maxHeartbeats 4000000 in
theorem clock_3 (c : ByteArray) (hs : c.size ≤ 100000) (a b d : List UInt8) (hp : Ml.sp 58 c.data.toList = [a, b, d]) (w : World) (L : Nat) (rest : Value) (bad : Bool) (h : LT w L rest bad) (o1 o2 o3 : Bool) (v1 v2 v3 : Int)
    (d1 : ∀ w, Calls Tryd.prog 23 #[.string (Ml.mk a), .int .i64 2] w fun e w' => e = .returned (.tuple #[.int .i64 v1, .bool o1]) ∧ w = w')
    (d2 : ∀ w, Calls Tryd.prog 23 #[.string (Ml.mk b), .int .i64 2] w fun e w' => e = .returned (.tuple #[.int .i64 v2, .bool o2]) ∧ w = w')
    (d3 : ∀ w, Calls Tryd.prog 23 #[.string (Ml.mk d), .int .i64 2] w fun e w' => e = .returned (.tuple #[.int .i64 v3, .bool o3]) ∧ w = w') :
    Calls Tryd.prog 24 #[.pointer (some ⟨L, 0, none⟩), .string c] w (CkPost L rest (((bad || !o1) || !o2) || !o3) (v1, v2, v3) w) := by
  have C := fun w => split_any c 58 hs w
  unfold SplitPost at C
  rw [hp] at C
  have hl : LT (w.alloc (.cells #[.string (Ml.mk a), .string (Ml.mk b), .string (Ml.mk d)] 9)) L rest bad := h.far (World.grownBy_alloc w _ none) (by simp)
  have hgr : w.grownBy (w.alloc (.cells #[.string (Ml.mk a), .string (Ml.mk b), .string (Ml.mk d)] 9)) (some L) := World.grownBy_alloc w _ _
  have hLw := h.2.2.2.2
  clear hp h
  go_enter Tryd.func24, Tryd.ntmps24
  go_wp2_with fail
  refine (C _).mono ?_
  rintro e w1 ⟨rfl, hw⟩
  have hw2 : w1 = w.alloc (.cells #[.string (Ml.mk a), .string (Ml.mk b), .string (Ml.mk d)] 9) := hw
  rw [← hw2] at hl hgr
  have k0 : w1.cell? ⟨w.heap.size, 0, none⟩ = some (.string (Ml.mk a)) := by rw [hw2]; go_simp
  have k1 : w1.cell? ⟨w.heap.size, 1, none⟩ = some (.string (Ml.mk b)) := by rw [hw2]; go_simp
  have k2 : w1.cell? ⟨w.heap.size, 2, none⟩ = some (.string (Ml.mk d)) := by rw [hw2]; go_simp
  have hx0 : w.heap.size < w1.heap.size := by rw [hw2]; simp
  have hne : some w.heap.size ≠ some L := fun e => absurd (Option.some.inj e) (by omega)
  clear hw hw2 C
  go_wp2_with fail
  go_region_held3 (fun w' => w'.cell? ⟨w.heap.size, 0, none⟩ = some (.string (Ml.mk a)) ∧ w'.cell? ⟨w.heap.size, 1, none⟩ = some (.string (Ml.mk b))) (first | exact ⟨by assumption, by assumption⟩ | go_keep)
    (first | (go_at_call 23; (first | (with_reducible refine (d1 _).mono ?_) | (with_reducible refine (d2 _).mono ?_)); rintro e w' ⟨rfl, rfl⟩) | (go_at_call 22; (first | ((with_reducible refine (take_any _ L rest _ _ _ hl).mono ?_); rintro e w' ⟨rfl, hl', hg'⟩) | ((with_reducible refine (take_any _ L rest _ _ _ hl.drew).mono ?_); rintro e w' ⟨rfl, hl', hgd⟩; have hg' := gb_drew hgd; clear hgd)); have k0' := (gb_cell (a := ⟨w.heap.size, 0, none⟩) hg' hx0 hne).trans k0; have k1' := (gb_cell (a := ⟨w.heap.size, 1, none⟩) hg' hx0 hne).trans k1; have k2' := (gb_cell (a := ⟨w.heap.size, 2, none⟩) hg' hx0 hne).trans k2; clear k0 k1 k2; have k0 := k0'; have k1 := k1'; have k2 := k2'; clear k2'; have hgr' := gb_same hgr hg'; have hx1 := Nat.lt_of_lt_of_le hx0 hg'.size; clear hl hgr hx0 hg' k0' k1'; have hl := hl'; have hgr := hgr'; have hx0 := hx1; clear hl' hgr' hx1))
  go_wp2_with fail
  refine (d3 _).mono ?_
  rintro e w3 ⟨rfl, rfl⟩
  go_wp2_with fail
  refine (take_any _ L rest _ _ _ hl).mono ?_
  rintro e w4 ⟨rfl, hl4, hg4⟩
  have hgr4 := gb_same hgr hg4
  clear hl hgr hg4
  go_wp2_with fail
  go_ret3
  exact ⟨rfl, hl4, hgr4⟩
set_option maxRecDepth 100000 in
set_option maxHeartbeats 4000000 in
theorem clock_0 (c : ByteArray) (hs : c.size ≤ 100000) (h2 : (Ml.sp 58 c.data.toList).length ≠ 2) (h3 : (Ml.sp 58 c.data.toList).length ≠ 3) (w : World) (L : Nat) (rest : Value) (bad : Bool) (h : LT w L rest bad) :
    Calls Tryd.prog 24 #[.pointer (some ⟨L, 0, none⟩), .string c] w (CkPost L rest true (0, 0, 0) w) := by
  have C := fun w => split_any c 58 hs w
  unfold SplitPost at C
  generalize Ml.sp 58 c.data.toList = P at *
  generalize hn : P.length = n at *
  have e2 : ((n : Int) == 2) = false := by simp; omega
  have e3 : ((n : Int) == 3) = false := by simp; omega
  have e2' : ((n : Int) != 2) = true := by simp; omega
  have e3' : ((n : Int) != 3) = true := by simp; omega
  clear hn h2 h3
  go_enter Tryd.func24, Tryd.ntmps24
  go_wp2_with fail
  refine (C _).mono ?_
  rintro e w1 ⟨rfl, hw⟩
  have hl : LT w1 L rest bad := by
    rw [hw]
    exact h.far (World.grownBy_alloc w _ none) (by simp)
  have hgr : w.grownBy w1 (some L) := by
    rw [hw]
    exact World.grownBy_alloc w _ _
  clear hw C h
  obtain ⟨k0, k1, f0, f1, hl0⟩ := hl
  go_wp2_with fail
  go_ret3
  exact ⟨rfl, ⟨by go_simp, by go_simp, by rw [World.frozen?_setCell]; exact f0, by rw [World.frozen?_setCell]; exact f1, by simpa using hl0⟩, gb_same hgr (gb_set _ _ _)⟩
theorem ck_bd (c : ByteArray) : 0 ≤ (ckV c).1 ∧ (ckV c).1 ≤ 99 ∧ 0 ≤ (ckV c).2.1 ∧ (ckV c).2.1 ≤ 99 ∧ 0 ≤ (ckV c).2.2 ∧ (ckV c).2.2 ≤ 99 := by
  unfold ckV
  split
  · rename_i a b _
    have h1 := Ml.digV2_bd (Ml.mk a) 2 (by omega)
    have h2 := Ml.digV2_bd (Ml.mk b) 2 (by omega)
    simp only
    omega
  · rename_i a b d _
    have h1 := Ml.digV2_bd (Ml.mk a) 2 (by omega)
    have h2 := Ml.digV2_bd (Ml.mk b) 2 (by omega)
    have h3 := Ml.digV2_bd (Ml.mk d) 2 (by omega)
    simp only
    omega
  · simp
theorem ck_is {c : ByteArray} (h : Ml.hmsB c = true) : ckV c = (Sm.n2 c 0, Sm.n2 c 3, Ml.secOf c) := by
  rcases Ml.hms_to h with ⟨a, b, e, h1, h2⟩ | ⟨a, b, d, e, h1, h2, h3⟩
  · obtain ⟨_, k1, k2, k3⟩ := Ml.hms_of2 e h1 h2
    unfold ckV
    rw [e, k1, k2, k3]
  · obtain ⟨_, k1, k2, k3⟩ := Ml.hms_of3 e h1 h2 h3
    unfold ckV
    rw [e, k1, k2, k3]
theorem clock_any (c : ByteArray) (hs : c.size ≤ 100000) (w : World) (L : Nat) (rest : Value) (bad : Bool) (h : LT w L rest bad) :
    Calls Tryd.prog 24 #[.pointer (some ⟨L, 0, none⟩), .string c] w (CkPost L rest (bad || !Ml.hmsB c) (ckV c) w) := by
  have hle : ∀ x ∈ Ml.sp 58 c.data.toList, x.length ≤ 100000 := fun x hx => by
    have h1 := Ml.sp_tot 58 c.data.toList
    have h2 := Ml.tot_mem hx
    have h3 : c.data.toList.length = c.size := by simp
    omega
  match hp : Ml.sp 58 c.data.toList with
  | [a, b] =>
    rw [hp] at hle
    have := clock_2 c hs a b hp w L rest bad h _ _ _ _ (fun w => digits_any (Ml.mk a) 2 (by omega) (hle a (by simp)) w) (fun w => digits_any (Ml.mk b) 2 (by omega) (hle b (by simp)) w)
    have e1 : ckV c = (Ml.digV (Ml.mk a) 2, Ml.digV (Ml.mk b) 2, 0) := by
      unfold ckV
      rw [hp]
    have e2 : (bad || !Ml.hmsB c) = ((bad || !Ml.digO (Ml.mk a) 2) || !Ml.digO (Ml.mk b) 2) := by
      rw [Ml.hms_2 hp]
      cases bad <;> cases Ml.digO (Ml.mk a) 2 <;> cases Ml.digO (Ml.mk b) 2 <;> rfl
    rw [e1, e2]
    exact this
  | [a, b, d] =>
    rw [hp] at hle
    have := clock_3 c hs a b d hp w L rest bad h _ _ _ _ _ _ (fun w => digits_any (Ml.mk a) 2 (by omega) (hle a (by simp)) w) (fun w => digits_any (Ml.mk b) 2 (by omega) (hle b (by simp)) w) (fun w => digits_any (Ml.mk d) 2 (by omega) (hle d (by simp)) w)
    have e1 : ckV c = (Ml.digV (Ml.mk a) 2, Ml.digV (Ml.mk b) 2, Ml.digV (Ml.mk d) 2) := by
      unfold ckV
      rw [hp]
    have e2 : (bad || !Ml.hmsB c) = (((bad || !Ml.digO (Ml.mk a) 2) || !Ml.digO (Ml.mk b) 2) || !Ml.digO (Ml.mk d) 2) := by
      rw [Ml.hms_3 hp]
      cases bad <;> cases Ml.digO (Ml.mk a) 2 <;> cases Ml.digO (Ml.mk b) 2 <;> cases Ml.digO (Ml.mk d) 2 <;> rfl
    rw [e1, e2]
    exact this
  | [] => exact absurd hp (Ml.sp_ne _ _)
  | [a] =>
    have e1 : ckV c = (0, 0, 0) := by
      unfold ckV
      rw [hp]
    rw [e1, Ml.hms_else (by rw [hp]; simp) (by rw [hp]; simp), Bool.not_false, Bool.or_true]
    exact clock_0 c hs (by rw [hp]; simp) (by rw [hp]; simp) w L rest bad h
  | a :: b :: d :: f :: t =>
    have e1 : ckV c = (0, 0, 0) := by
      unfold ckV
      rw [hp]
    rw [e1, Ml.hms_else (by rw [hp]; simp) (by rw [hp]; simp), Bool.not_false, Bool.or_true]
    exact clock_0 c hs (by rw [hp]; simp) (by rw [hp]; simp) w L rest bad h
end Go.Proofs.YtfgchphadeogpaaDoor
