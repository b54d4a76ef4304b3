/- The walks of the document's seconds; a second's time, in both. -/
import Derived.Test.YtbhafhbaldddiaaCivC
namespace Go.Proofs.Ytbhafhbaldddiaa
open Go.RowKit
open Go
set_option maxHeartbeats 400000 in
theorem rciv_no (n : Int) (w : World) (h : n < -62135596800 ∨ 253402300799 < n) :
    Calls Try.prog 24 #[.int .i64 n] w fun e w' => e = .returned (.tuple #[.agg #[.int .i64 0, .int .i64 0, .int .i64 0, .int .i64 0, .int .i64 0, .int .i64 0], .int .i64 2]) ∧ Below w.heap.size w w' := by
  rcases h with h | h
  · go_enter Try.func24, Try.ntmps24
    go_wp2
    exact bodyPost_ret (v := .tuple #[.agg #[.int .i64 0, .int .i64 0, .int .i64 0, .int .i64 0, .int .i64 0, .int .i64 0], .int .i64 2]) (by simp [results, Try.results24, go_sem]) rfl ⟨rfl, (Below.refl _ _).alloc (Nat.le_refl _) _⟩
  · have h' : ¬ n < -62135596800 := by omega
    go_enter Try.func24, Try.ntmps24
    go_wp2
    exact bodyPost_ret (v := .tuple #[.agg #[.int .i64 0, .int .i64 0, .int .i64 0, .int .i64 0, .int .i64 0, .int .i64 0], .int .i64 2]) (by simp [results, Try.results24, go_sem]) rfl ⟨rfl, (Below.refl _ _).alloc (Nat.le_refl _) _⟩
def Six (W : World) (b : Nat) (v0 v1 v2 v3 v4 v5 : Value) : Prop :=
  W.cell? ⟨b, 0, none⟩ = some v0 ∧ W.cell? ⟨b, 1, none⟩ = some v1 ∧ W.cell? ⟨b, 2, none⟩ = some v2 ∧ W.cell? ⟨b, 3, none⟩ = some v3 ∧ W.cell? ⟨b, 4, none⟩ = some v4 ∧ W.cell? ⟨b, 5, none⟩ = some v5
theorem Six.s0 {W : World} {b : Nat} {v0 v1 v2 v3 v4 v5 : Value} (h : Six W b v0 v1 v2 v3 v4 v5) (x : Value) : Six (W.setCell ⟨b, 0, none⟩ x) b x v1 v2 v3 v4 v5 :=
  ⟨World.cell?_setCell_same _ _ _ h.1, (World.cell?_setCell_other _ _ _ _ (by simp)).trans h.2.1, (World.cell?_setCell_other _ _ _ _ (by simp)).trans h.2.2.1, (World.cell?_setCell_other _ _ _ _ (by simp)).trans h.2.2.2.1, (World.cell?_setCell_other _ _ _ _ (by simp)).trans h.2.2.2.2.1, (World.cell?_setCell_other _ _ _ _ (by simp)).trans h.2.2.2.2.2⟩
theorem Six.s1 {W : World} {b : Nat} {v0 v1 v2 v3 v4 v5 : Value} (h : Six W b v0 v1 v2 v3 v4 v5) (x : Value) : Six (W.setCell ⟨b, 1, none⟩ x) b v0 x v2 v3 v4 v5 :=
  ⟨(World.cell?_setCell_other _ _ _ _ (by simp)).trans h.1, World.cell?_setCell_same _ _ _ h.2.1, (World.cell?_setCell_other _ _ _ _ (by simp)).trans h.2.2.1, (World.cell?_setCell_other _ _ _ _ (by simp)).trans h.2.2.2.1, (World.cell?_setCell_other _ _ _ _ (by simp)).trans h.2.2.2.2.1, (World.cell?_setCell_other _ _ _ _ (by simp)).trans h.2.2.2.2.2⟩
theorem Six.s2 {W : World} {b : Nat} {v0 v1 v2 v3 v4 v5 : Value} (h : Six W b v0 v1 v2 v3 v4 v5) (x : Value) : Six (W.setCell ⟨b, 2, none⟩ x) b v0 v1 x v3 v4 v5 :=
  ⟨(World.cell?_setCell_other _ _ _ _ (by simp)).trans h.1, (World.cell?_setCell_other _ _ _ _ (by simp)).trans h.2.1, World.cell?_setCell_same _ _ _ h.2.2.1, (World.cell?_setCell_other _ _ _ _ (by simp)).trans h.2.2.2.1, (World.cell?_setCell_other _ _ _ _ (by simp)).trans h.2.2.2.2.1, (World.cell?_setCell_other _ _ _ _ (by simp)).trans h.2.2.2.2.2⟩
theorem Six.s3 {W : World} {b : Nat} {v0 v1 v2 v3 v4 v5 : Value} (h : Six W b v0 v1 v2 v3 v4 v5) (x : Value) : Six (W.setCell ⟨b, 3, none⟩ x) b v0 v1 v2 x v4 v5 :=
  ⟨(World.cell?_setCell_other _ _ _ _ (by simp)).trans h.1, (World.cell?_setCell_other _ _ _ _ (by simp)).trans h.2.1, (World.cell?_setCell_other _ _ _ _ (by simp)).trans h.2.2.1, World.cell?_setCell_same _ _ _ h.2.2.2.1, (World.cell?_setCell_other _ _ _ _ (by simp)).trans h.2.2.2.2.1, (World.cell?_setCell_other _ _ _ _ (by simp)).trans h.2.2.2.2.2⟩
theorem Six.s4 {W : World} {b : Nat} {v0 v1 v2 v3 v4 v5 : Value} (h : Six W b v0 v1 v2 v3 v4 v5) (x : Value) : Six (W.setCell ⟨b, 4, none⟩ x) b v0 v1 v2 v3 x v5 :=
  ⟨(World.cell?_setCell_other _ _ _ _ (by simp)).trans h.1, (World.cell?_setCell_other _ _ _ _ (by simp)).trans h.2.1, (World.cell?_setCell_other _ _ _ _ (by simp)).trans h.2.2.1, (World.cell?_setCell_other _ _ _ _ (by simp)).trans h.2.2.2.1, World.cell?_setCell_same _ _ _ h.2.2.2.2.1, (World.cell?_setCell_other _ _ _ _ (by simp)).trans h.2.2.2.2.2⟩
theorem Six.s5 {W : World} {b : Nat} {v0 v1 v2 v3 v4 v5 : Value} (h : Six W b v0 v1 v2 v3 v4 v5) (x : Value) : Six (W.setCell ⟨b, 5, none⟩ x) b v0 v1 v2 v3 v4 x :=
  ⟨(World.cell?_setCell_other _ _ _ _ (by simp)).trans h.1, (World.cell?_setCell_other _ _ _ _ (by simp)).trans h.2.1, (World.cell?_setCell_other _ _ _ _ (by simp)).trans h.2.2.1, (World.cell?_setCell_other _ _ _ _ (by simp)).trans h.2.2.2.1, (World.cell?_setCell_other _ _ _ _ (by simp)).trans h.2.2.2.2.1, World.cell?_setCell_same _ _ _ h.2.2.2.2.2⟩
set_option maxHeartbeats 1000000 in
theorem rciv_core (n y m d : Int) (w : World) (h1 : -62135596800 ≤ n) (h2 : n ≤ 253402300799) (hv : Cv.vldB y m d = true) (hq : Cv.num y m d = (n + 62135596800) / 86400 + -719162) :
    Calls Try.prog 24 #[.int .i64 n] w fun e w' => e = .returned (.tuple #[.agg #[.int .i64 y, .int .i64 m, .int .i64 d, .int .i64 ((n + 62135596800) / 3600 % 24), .int .i64 ((n + 62135596800) / 60 % 60), .int .i64 ((n + 62135596800) % 60)], .int .i64 0]) ∧ Below w.heap.size w w' := by
  have c2 := fun w => rdate_yes y m d w hv
  rw [hq] at c2
  clear hq hv
  go_enter Try.func24, Try.ntmps24
  go_wp2_with fail
  refine (c2 _).mono ?_
  rintro e w' ⟨rfl, rfl⟩
  clear c2
  go_wp2
  exact bodyPost_ret (v := .tuple #[.agg #[.int .i64 y, .int .i64 m, .int .i64 d, .int .i64 ((n + 62135596800) / 3600 % 24), .int .i64 ((n + 62135596800) / 60 % 60), .int .i64 ((n + 62135596800) % 60)], .int .i64 0]) (by simp [results, Try.results24, go_sem]) rfl ⟨rfl, ((Below.refl _ _).alloc (Nat.le_refl _) _).alloc (by simp) _⟩
theorem ret_civ {h h' mi mi' s s' : Int} {y m d v : Value} (e1 : h = h') (e2 : mi = mi') (e3 : s = s') : Ending.returned (.tuple #[.agg #[y, m, d, .int .i64 h, .int .i64 mi, .int .i64 s], v]) = .returned (.tuple #[.agg #[y, m, d, .int .i64 h', .int .i64 mi', .int .i64 s'], v]) := by rw [e1, e2, e3]
theorem rciv_yes (y m d h mi s : Int) (w : World) (hm : Cv.mayB y m d h mi s = true) :
    Calls Try.prog 24 #[.int .i64 (Cv.secV y m d h mi s 0)] w fun e w' => e = .returned (.tuple #[.agg #[.int .i64 y, .int .i64 m, .int .i64 d, .int .i64 h, .int .i64 mi, .int .i64 s], .int .i64 0]) ∧ Below w.heap.size w w' := by
  obtain ⟨hv, hb⟩ := (Cv.may_iff y m d h mi s).1 hm
  have hn := Cv.num_bd hv
  refine (rciv_core _ y m d w (by unfold Cv.secV; omega) (by unfold Cv.secV; omega) hv (by unfold Cv.secV; omega)).mono ?_
  rintro e w' ⟨rfl, hbw⟩
  exact ⟨ret_civ (by unfold Cv.secV; omega) (by unfold Cv.secV; omega) (by unfold Cv.secV; omega), hbw⟩
end Go.Proofs.Ytbhafhbaldddiaa
