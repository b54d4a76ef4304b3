/- Plain law: an armed disk does just so many operations. -/
import Derived.Test.YtehgnlocekcakaaDkN
namespace Dm
def armD (d : Dk) (k : Int) : Dk := { d with left := k }
theorem okB_arm (d : Dk) (k : Int) : okB (armD d k) = okB d := rfl
theorem zb_arm (d : Dk) (k z : Int) : zb (armD d k) z = zb d z := rfl
/-- An operation on a disk that is up and has no end. -/
theorem do_free {d : Dk} {x : Wr} (hl : d.left = -1) (hd : d.down = false) :
    (doF d x = (zero, 2) ∧ (okB d = false ∨ (x.zone ≠ 0 ∧ x.zone ≠ 1) ∨ mayB x (zb d x.zone) = false)) ∨
    (okB d = true ∧ (x.zone = 0 ∨ x.zone = 1) ∧ mayB x (zb d x.zone) = true ∧ roomB d.cap (zb d x.zone) x = false ∧ doF d x = (zero, 31)) ∨
    (okB d = true ∧ (x.zone = 0 ∨ x.zone = 1) ∧ mayB x (zb d x.zone) = true ∧ roomB d.cap (zb d x.zone) x = true ∧ doF d x = (setZ d x.zone (zoneAct (zb d x.zone) (zs d x.zone) x).1 (zoneAct (zb d x.zone) (zs d x.zone) x).2, 0)) := by
  by_cases h : okB d = false ∨ (x.zone ≠ 0 ∧ x.zone ≠ 1) ∨ mayB x (zb d x.zone) = false
  · left; refine ⟨?_, h⟩; unfold doF; rw [if_pos h]
  · right
    have e : doF d x = actF d x := by unfold doF; rw [if_neg h, if_neg (by simp [hd]), if_neg (by omega)]
    have h1 : okB d = true := by
      cases q : okB d
      · exact absurd (Or.inl q) h
      · rfl
    have h2 : x.zone = 0 ∨ x.zone = 1 := by
      by_cases q : x.zone ≠ 0 ∧ x.zone ≠ 1
      · exact absurd (Or.inr (Or.inl q)) h
      · omega
    have h3 : mayB x (zb d x.zone) = true := by
      cases q : mayB x (zb d x.zone)
      · exact absurd (Or.inr (Or.inr q)) h
      · rfl
    cases q : roomB d.cap (zb d x.zone) x
    · left; exact ⟨h1, h2, h3, rfl, by rw [e, act_full d x q]⟩
    · right
      refine ⟨h1, h2, h3, rfl, ?_⟩
      have t : ∀ p : Dk, p.left = -1 → tick p = p := by
        intro p hp; unfold tick; rw [hp, if_neg (by omega), ← hp]
      rw [e]
      rcases h2 with z | z
      · rw [act0 d x z (by rw [z] at q; exact q), z]
        exact congrArg (fun q => (q, (0 : Int))) (t { d with b0 := (zoneAct d.b0 d.s0 x).1, s0 := (zoneAct d.b0 d.s0 x).2 } hl)
      · have e1 : zb d 1 = d.b1 := by unfold zb; rw [if_neg (by decide)]
        have e2 : zs d 1 = d.s1 := by unfold zs; rw [if_neg (by decide)]
        rw [act1 d x z (by rw [z, e1] at q; exact q), z, e1, e2]
        unfold setZ; rw [if_neg (by decide)]
        exact congrArg (fun q => (q, (0 : Int))) (t { d with b1 := (zoneAct d.b1 d.s1 x).1, s1 := (zoneAct d.b1 d.s1 x).2 } hl)
theorem setZ_ok {d : Dk} {z : Int} {b : ByteArray} {s : Int} (h : okB d = true) (k : zOk d.cap b s) : okB (setZ d z b s) = true := by
  have o := (okB_iff d).1 h
  unfold setZ
  split
  · exact (okB_iff _).2 ⟨o.1, k, o.2.2⟩
  · exact (okB_iff _).2 ⟨o.1, o.2.1, k⟩
theorem zOk_of {d : Dk} (h : okB d = true) (z : Int) : zOk d.cap (zb d z) (zs d z) := by
  have o := (okB_iff d).1 h
  unfold zb zs
  split
  · exact o.2.1
  · exact o.2.2
theorem setZ_arm (d : Dk) (k z : Int) (b : ByteArray) (s : Int) : setZ (armD d k) z b s = armD (setZ d z b s) k := by
  unfold setZ armD; split <;> rfl
/-- The same operation on the armed disk. -/
theorem do_armed {d : Dk} {x : Wr} {k : Int} (hd : d.down = false) (hk : 0 ≤ k) :
    ((okB d = false ∨ (x.zone ≠ 0 ∧ x.zone ≠ 1) ∨ mayB x (zb d x.zone) = false) → doF (armD d k) x = (zero, 2)) ∧
    (okB d = true → (x.zone = 0 ∨ x.zone = 1) → mayB x (zb d x.zone) = true → k = 0 → doF (armD d k) x = ({ armD d 0 with down := true }, 30)) ∧
    (okB d = true → (x.zone = 0 ∨ x.zone = 1) → mayB x (zb d x.zone) = true → 0 < k → roomB d.cap (zb d x.zone) x = false → doF (armD d k) x = (zero, 31)) ∧
    (okB d = true → (x.zone = 0 ∨ x.zone = 1) → mayB x (zb d x.zone) = true → 0 < k → roomB d.cap (zb d x.zone) x = true →
      doF (armD d k) x = (armD (setZ d x.zone (zoneAct (zb d x.zone) (zs d x.zone) x).1 (zoneAct (zb d x.zone) (zs d x.zone) x).2) (k - 1), 0)) := by
  have no : okB d = true → (x.zone = 0 ∨ x.zone = 1) → mayB x (zb d x.zone) = true → ¬ (okB (armD d k) = false ∨ (x.zone ≠ 0 ∧ x.zone ≠ 1) ∨ mayB x (zb (armD d k) x.zone) = false) := by
    intro a b c q
    rcases q with q | q | q
    · rw [okB_arm, a] at q; cases q
    · omega
    · rw [zb_arm, c] at q; cases q
  refine ⟨fun h => ?_, fun a b c e => ?_, fun a b c e r => ?_, fun a b c e r => ?_⟩
  · unfold doF; rw [if_pos (by rw [okB_arm, zb_arm]; exact h)]
  · subst e; unfold doF; rw [if_neg (no a b c), if_neg (by simp [armD, hd]), if_pos (by rfl)]
  · unfold doF; rw [if_neg (no a b c), if_neg (by simp [armD, hd]), if_neg (by show ¬ k = 0; omega)]
    exact act_full _ _ r
  · unfold doF; rw [if_neg (no a b c), if_neg (by simp [armD, hd]), if_neg (by show ¬ k = 0; omega)]
    have t : ∀ p : Dk, tick (armD p k) = armD p (k - 1) := by
      intro p; unfold tick armD; simp [e]
    rcases b with z | z
    · rw [act0 (armD d k) x z (by rw [z] at r; exact r), z]
      exact congrArg (fun q => (q, (0 : Int))) (t { d with b0 := (zoneAct d.b0 d.s0 x).1, s0 := (zoneAct d.b0 d.s0 x).2 })
    · have e1 : zb d 1 = d.b1 := by unfold zb; rw [if_neg (by decide)]
      have e2 : zs d 1 = d.s1 := by unfold zs; rw [if_neg (by decide)]
      rw [act1 (armD d k) x z (by rw [z, e1] at r; exact r), z, e1, e2]
      unfold setZ; rw [if_neg (by decide)]
      exact congrArg (fun q => (q, (0 : Int))) (t { d with b1 := (zoneAct d.b1 d.s1 x).1, s1 := (zoneAct d.b1 d.s1 x).2 })
theorem setZ_cap (d : Dk) (z : Int) (b : ByteArray) (s : Int) : (setZ d z b s).cap = d.cap ∧ (setZ d z b s).left = d.left ∧ (setZ d z b s).down = d.down := by
  unfold setZ; split <;> exact ⟨rfl, rfl, rfl⟩
def LeftSays (d : Dk) (xs : List Wr) (i k : Int) : Prop :=
  i ≤ (allF d xs i).2.1 ∧
  ((allF d xs i).2.1 - i < k ∨ (k = (allF d xs i).2.1 - i ∧ (allF d xs i).2.2 ≠ 31) → ∃ j, allF (armD d k) xs i = (armD (allF d xs i).1 j, (allF d xs i).2.1, (allF d xs i).2.2)) ∧
  (¬ ((allF d xs i).2.1 - i < k ∨ (k = (allF d xs i).2.1 - i ∧ (allF d xs i).2.2 ≠ 31)) → ∃ dx, allF (armD d k) xs i = (dx, i + k, 30) ∧ dx.down = true ∧ okB dx = true)
theorem left_law : ∀ (xs : List Wr) (d : Dk) (i k : Int), d.left = -1 → d.down = false → okB d = true → 0 ≤ k → LeftSays d xs i k := by
  intro xs
  induction xs with
  | nil =>
    intro d i k hl hd ho hk
    refine ⟨by simp [allF], fun _ => ⟨k, rfl⟩, fun h => ?_⟩
    exfalso; apply h; simp only [allF]
    by_cases e : k = 0
    · right; exact ⟨by omega, by decide⟩
    · left; omega
  | cons x xs ih =>
    intro d i k hl hd ho hk
    obtain ⟨a1, a2, a3, a4⟩ := do_armed (d := d) (x := x) (k := k) hd hk
    rcases do_free (d := d) (x := x) hl hd with ⟨e, h⟩ | ⟨p1, p2, p3, p4, e⟩ | ⟨p1, p2, p3, p4, e⟩
    · have e' := allF_stop (xs := xs) (i := i) e (show ¬ (2 : Int) = 0 by decide)
      have f' := allF_stop (xs := xs) (i := i) (a1 h) (show ¬ (2 : Int) = 0 by decide)
      unfold LeftSays
      rw [e', f']
      refine ⟨by simp, fun _ => ⟨k, rfl⟩, fun q => ?_⟩
      exfalso; apply q
      by_cases c : k = 0
      · right; exact ⟨by simp; omega, show ¬ (2 : Int) = 31 by decide⟩
      · left; simp; omega
    · have e' := allF_stop (xs := xs) (i := i) e (show ¬ (31 : Int) = 0 by decide)
      unfold LeftSays
      rw [e']
      by_cases c : k = 0
      · have f' := allF_stop (xs := xs) (i := i) (a2 p1 p2 p3 c) (show ¬ (30 : Int) = 0 by decide)
        rw [f']
        refine ⟨by simp, fun q => ?_, fun _ => ⟨{ armD d 0 with down := true }, by rw [c]; simp, rfl, ho⟩⟩
        exfalso; rcases q with q | q
        · simp at q; omega
        · exact q.2 rfl
      · have f' := allF_stop (xs := xs) (i := i) (a3 p1 p2 p3 (by omega) p4) (show ¬ (31 : Int) = 0 by decide)
        rw [f']
        refine ⟨by simp, fun _ => ⟨k, rfl⟩, fun q => ?_⟩
        exfalso; apply q; left; simp; omega
    · have hs := setZ_cap d x.zone (zoneAct (zb d x.zone) (zs d x.zone) x).1 (zoneAct (zb d x.zone) (zs d x.zone) x).2
      have hok := setZ_ok (z := x.zone) ho (zoneAct_ok (zOk_of ho x.zone) p3 p4)
      have e' := allF_next (xs := xs) (i := i) e rfl
      by_cases c : k = 0
      · have f' := allF_stop (xs := xs) (i := i) (a2 p1 p2 p3 c) (show ¬ (30 : Int) = 0 by decide)
        have hi := (ih _ (i + 1) 0 (hs.2.1.trans hl) (hs.2.2.trans hd) hok (by omega)).1
        unfold LeftSays
        rw [e', f']
        refine ⟨by simp only; omega, fun q => ?_, fun _ => ⟨{ armD d 0 with down := true }, by rw [c]; simp, rfl, ho⟩⟩
        exfalso; rcases q with q | q
        · simp only at q; omega
        · have := q.1; simp only at this; omega
      · have f' := allF_next (xs := xs) (i := i) (a4 p1 p2 p3 (by omega) p4) rfl
        obtain ⟨i1, i2, i3⟩ := ih _ (i + 1) (k - 1) (hs.2.1.trans hl) (hs.2.2.trans hd) hok (by omega)
        unfold LeftSays
        rw [e', f']
        refine ⟨by simp only; omega, fun q => i2 ?_, fun q => ?_⟩
        · rcases q with q | q
          · left; simp only at q; omega
          · right; refine ⟨?_, q.2⟩; have := q.1; simp only at this; omega
        · obtain ⟨dx, k1, k2, k3⟩ := i3 (fun r => q (by
            rcases r with r | r
            · left; simp only; omega
            · right; refine ⟨?_, r.2⟩; have := r.1; simp only; omega))
          exact ⟨dx, by rw [k1]; congr 2; omega, k2, k3⟩
end Dm
