/- The walk of the disk's statement on an armed disk, whole. -/
import Derived.Test.YtehgnlocekcakaaDkLeft
namespace Go.Proofs.Ytehgnlocekcakaa
open Go.RowKit
open Go
set_option linter.unusedVariables false
def disk0 : Dm.Dk := ⟨⟨#[]⟩, 0, ⟨#[]⟩, 0, 131072, -1, false⟩
theorem new0 : Dm.newF 131072 = (disk0, 0) := by kernel_rfl
theorem ok0 : Dm.okB disk0 = true := by kernel_rfl
theorem cAll (d0 : Dm.Dk) (v : Value) (xs : List Dm.Wr) (r : Dm.Dk × Int × Int) (hr : Dm.allF d0 xs 0 = r) (w : World) (hv : IsRow w v xs) (hl : Is64 d0.left) (hm : xs.length ≤ 1000000) (hsz : ∀ x ∈ xs, (x.b.size : Int) ≤ 9000000000000000000) :
    Calls Try.prog 11 #[dv d0, v] w fun e w' => e = .returned (.tuple #[dv r.1, .int .i64 r.2.1, .int .i64 r.2.2]) ∧ Below w.heap.size w w' := by
  subst hr; exact all_row d0 v xs w hv hl hm hsz
theorem a_not_empty : (ByteArray.mk #[97]).toList ≠ [] := by
  intro h
  have : (ByteArray.mk #[97]).toList.length = 1 := by simp
  rw [h] at this; cases this
theorem greatW_len {xs : List Dm.Wr} (h : Dm.greatW xs = false) : xs.length ≤ 100 := by
  unfold Dm.greatW at h
  simp only [Bool.or_eq_false_iff, decide_eq_false_iff_not] at h
  omega
theorem all_left64 : ∀ (xs : List Dm.Wr) (d : Dm.Dk) (i : Int), Is64 d.left → Is64 (Dm.allF d xs i).1.left := by
  intro xs
  induction xs with
  | nil => intro d i h; exact h
  | cons x xs ih =>
    intro d i h
    have h2 := do_left64 (d := d) (x := x) rfl h
    unfold Dm.allF
    split
    · exact ih _ _ h2
    · simp only
      split
      · exact h2
      · exact h
theorem diskLeft_walk {w : World} (v : Value) (xs : List Dm.Wr) (hv : IsRow w v xs) (n : Int) (_ : Is64 n) : Calls Try.prog 6 #[v, .int .i64 n] w (LawTrue w) := by
  cases hg : Dm.greatW xs
  · have cW : Calls Try.prog 9 #[v] w fun e w' => e = .returned (.bool false) ∧ w = w' := by
      have := greatW_row v xs w hv; rw [hg] at this; exact this
    have hlen := greatW_len hg
    have hsz : ∀ x ∈ xs, (x.b.size : Int) ≤ 9000000000000000000 := fun x hx => by have := greatW_small hg hx; omega
    obtain ⟨t1, t2, t3, t4⟩ := tmod50 n
    have cN : ∀ w', Calls Try.prog 14 #[.int .i64 131072] w' fun e w'' => e = .returned (.tuple #[dv disk0, .int .i64 0]) ∧ Below w'.heap.size w' w'' := fun w' => by
      have := new_any 131072 w'; rw [new0] at this; exact this
    obtain ⟨⟨da, done, f⟩, ha⟩ : ∃ r, Dm.allF disk0 xs 0 = r := ⟨_, rfl⟩
    have cA := fun w' (hb : Below w.heap.size w w') => cAll disk0 v xs (da, done, f) ha w' (hv.below hb) is_m1 (by omega) hsz
    have cR : ∀ k w', k = n.tmod 50 % 50 → Calls Try.prog 19 #[dv disk0, .int .i64 k] w' fun e w'' => e = .returned (.tuple #[dv (Dm.armD disk0 k), .int .i64 0]) ∧ Below w'.heap.size w' w'' := fun k w' hk => by
      have := arm_any disk0 k w'
      have e : Dm.armF disk0 k = (Dm.armD disk0 k, 0) := by unfold Dm.armF Dm.armD; rw [if_pos ok0, if_neg (by omega)]
      rw [e] at this; exact this
    obtain ⟨i1, i2, i3⟩ := Dm.left_law xs disk0 0 (n.tmod 50 % 50) rfl rfl ok0 t3
    rw [ha] at i1 i2 i3
    simp only at i1 i2 i3
    have his : Is64 (n.tmod 50 % 50) := by unfold Is64; omega
    by_cases hc : done - 0 < n.tmod 50 % 50 ∨ (n.tmod 50 % 50 = done - 0 ∧ f ≠ 31)
    · obtain ⟨j, hj⟩ := i2 hc
      have cB : ∀ k w', k = n.tmod 50 % 50 → Below w.heap.size w w' → _ := fun k w' hk hb => cAll (Dm.armD disk0 k) v xs (Dm.armD da j, done, f) (by rw [hk]; exact hj) w' (hv.below hb) (by rw [hk]; exact his) (by omega) hsz
      have hz : (zEq (Dm.armD da j).b0 da.b0 (Dm.armD da j).s0 da.s0 && zEq (Dm.armD da j).b1 da.b1 (Dm.armD da j).s1 da.s1) = true := by
        show (zEq da.b0 da.b0 da.s0 da.s0 && zEq da.b1 da.b1 da.s1 da.s1) = true
        rw [zEq_refl, zEq_refl]; rfl
      by_cases h1 : done < n.tmod 50 % 50
      · exact left_A1 v n da.b0 da.s0 da.b1 da.s1 da.cap da.left da.down done f (Dm.armD da j).b0 (Dm.armD da j).s0 (Dm.armD da j).b1 (Dm.armD da j).s1 (Dm.armD da j).cap (Dm.armD da j).left (Dm.armD da j).down w cW cN cA cR cB hz h1
      · have h2 : n.tmod 50 % 50 = done - 0 ∧ f ≠ 31 := by
          rcases hc with hc | hc
          · exact absurd hc (by omega)
          · exact hc
        exact left_A2 v n da.b0 da.s0 da.b1 da.s1 da.cap da.left da.down done f (Dm.armD da j).b0 (Dm.armD da j).s0 (Dm.armD da j).b1 (Dm.armD da j).s1 (Dm.armD da j).cap (Dm.armD da j).left (Dm.armD da j).down w cW cN cA cR cB hz (by omega) (by simpa using h2.2)
    · obtain ⟨⟨b0, s0, b1, s1, cap, left, down⟩, hj, hd, ho⟩ := i3 hc
      simp only at hd
      subst hd
      have e0 : 0 + n.tmod 50 % 50 = n.tmod 50 % 50 := by omega
      rw [e0] at hj
      have cB : ∀ k w', k = n.tmod 50 % 50 → Below w.heap.size w w' → _ := fun k w' hk hb => cAll (Dm.armD disk0 k) v xs (⟨b0, s0, b1, s1, cap, left, true⟩, n.tmod 50 % 50, 30) (by rw [hk]; exact hj) w' (hv.below hb) (by rw [hk]; exact his) (by omega) hsz
      have hdo : Dm.doF ⟨b0, s0, b1, s1, cap, left, true⟩ ⟨0, 0, ⟨#[97]⟩, 0⟩ = (Dm.zero, 30) := by
        unfold Dm.doF
        rw [if_neg, if_pos rfl]
        rintro (q | q | q)
        · rw [ho] at q; cases q
        · exact q.1 rfl
        · unfold Dm.mayB at q
          simp only [decide_eq_false_iff_not] at q
          exact q (Or.inl ⟨by trivial, a_not_empty, by trivial⟩)
      have cD : ∀ w', Calls Try.prog 15 #[dv ⟨b0, s0, b1, s1, cap, left, true⟩, wv ⟨0, 0, ⟨#[97]⟩, 0⟩] w' fun e w'' => e = .returned (.tuple #[dv Dm.zero, .int .i64 30]) ∧ Below w'.heap.size w' w'' := fun w' => by
        have hl : Is64 left := by
          have := all_left64 xs (Dm.armD disk0 (n.tmod 50 % 50)) 0 his
          rw [hj] at this; exact this
        have := do_any ⟨b0, s0, b1, s1, cap, left, true⟩ ⟨0, 0, ⟨#[97]⟩, 0⟩ w' hl (by decide)
        rw [hdo] at this; exact this
      have cC : ∀ w', Calls Try.prog 16 #[dv ⟨b0, s0, b1, s1, cap, left, true⟩, .int .i64 0, .int .i64 0] w' fun e w'' => e = .returned (.tuple #[dv ⟨b0.extract 0 (Dm.left1 b0 s0 0).toNat, Dm.left1 b0 s0 0, b1.extract 0 (Dm.left1 b1 s1 0).toNat, Dm.left1 b1 s1 0, cap, -1, false⟩, .int .i64 0]) ∧ Below w'.heap.size w' w'' := fun w' => by
        have := crash_any ⟨b0, s0, b1, s1, cap, left, true⟩ 0 0 w'
        have e : Dm.crashF ⟨b0, s0, b1, s1, cap, left, true⟩ 0 0 = (⟨b0.extract 0 (Dm.left1 b0 s0 0).toNat, Dm.left1 b0 s0 0, b1.extract 0 (Dm.left1 b1 s1 0).toNat, Dm.left1 b1 s1 0, cap, -1, false⟩, 0) := by unfold Dm.crashF; rw [if_pos ho]
        rw [e] at this; exact this
      by_cases h1 : n.tmod 50 % 50 < done
      · exact left_B1 v n da.b0 da.s0 da.b1 da.s1 da.cap da.left da.down done f b0 s0 b1 s1 cap left w cW cN cA cR cB _ _ _ _ _ cD cC h1
      · have h2 : done = n.tmod 50 % 50 := by omega
        have h3 : f = 31 := by
          by_cases q : f = 31
          · exact q
          · exact absurd (Or.inr ⟨by omega, q⟩) hc
        subst h3
        exact left_B2 v n da.b0 da.s0 da.b1 da.s1 da.cap da.left da.down done b0 s0 b1 s1 cap left w cW cN cA cR cB _ _ _ _ _ cD cC h2
  · have cW : Calls Try.prog 9 #[v] w fun e w' => e = .returned (.bool true) ∧ w = w' := by
      have := greatW_row v xs w hv; rw [hg] at this; exact this
    exact left_great v n w cW
end Go.Proofs.Ytehgnlocekcakaa
