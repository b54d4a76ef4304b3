/- The walk of the disk's statement on what is sure, whole. -/
import Derived.Test.YtehgnlocekcakaaDkSa
namespace Go.Proofs.Ytehgnlocekcakaa
open Go.ChangeShapes Go.WideShapes Go.RowKit Go.Deep
open Go
set_option linter.unusedVariables false
/-- A row of ints that comes in. -/
def IsInts (w : World) (v : Value) (n : Nat) : Prop := ∃ (a : Option Addr) (cap : Nat), v = .slice a n cap ∧ ∀ j, j < n → ∃ (b off : Nat), a = some ⟨b, off, none⟩ ∧ b < w.heap.size ∧ ∀ i, i < n → ∃ p : Int, w.cell? ⟨b, off + i, none⟩ = some (.int .i64 p)
section
variable {H : Type} {enc : TypeId × Value → H} {W : World} {base : Nat} {spare : Nat → Bool} {held : Bool}
theorem open_row {r : Reach} {b0 : Nat} {v : Value} {d : DataW H} {p : List MemPlace} (hv : Value.okWide Try.prog W r b0 36 v) (h : DataW.Trod enc Try.prog W base spare held 36 v d p) :
    ∃ n : Nat, IsInts W v n := by
  have hC : Try.prog.cellsOf 3 = 1 := by kernel_rfl
  obtain ⟨a0, len0, cap0, rfl⟩ := okWide_slice Try.underlying36 hv
  obtain ⟨fuel, hf⟩ := h
  rcases open_slice Try.underlying36 hf with ⟨hcs, _⟩ | ⟨a, len, cap, m, n, D, Pl, hcs, _, hl, hm, hmm, _, hi⟩
  · simp [Value.cells] at hcs
    obtain ⟨rfl, rfl, rfl⟩ := hcs
    exact ⟨0, none, 0, rfl, fun j hj => by omega⟩
  · simp [Value.cells] at hcs
    obtain ⟨rfl, rfl, rfl⟩ := hcs
    have hlm : len0 ≤ m := by rw [hmm]; split <;> omega
    have key : ∀ i, i < len0 → ∃ x : Int, W.cell? (a.add i) = some (.int .i64 x) := by
      intro i hi'
      obtain ⟨cs', hc, ht⟩ := hi i (by omega)
      rw [hC] at hc
      obtain ⟨_, hlen, hat⟩ := World.cells?_some hc
      match cs', hlen with
      | [c0], _ =>
        obtain ⟨x, e0, _⟩ := cell_int (c := c0) ht
        subst e0
        exact ⟨x, by simpa [Addr.add] using hat 0 (by omega)⟩
    obtain ⟨b, off, spot⟩ := a
    refine ⟨len0, _, cap0, rfl, fun j hj => ?_⟩
    obtain ⟨x, c0⟩ := key 0 (by omega)
    have hspot : spot = none := by simpa [Addr.add] using World.cell?_spot c0
    subst hspot
    have hlt := World.block_lt_of_cell? _ _ c0
    refine ⟨b, off, rfl, by simpa [Addr.add] using hlt, fun i hi' => ?_⟩
    obtain ⟨y, cy⟩ := key i hi'
    rw [add_plain] at cy
    exact ⟨y, cy⟩
end
set_option maxRecDepth 100000 in
set_option maxHeartbeats 1000000 in
theorem sure_great (most : Int) (av : Option Addr) (nv capv : Nat) (c : Value) (w : World) (cW : ∀ w', Below w.heap.size w w' → Calls Try.prog 9 #[.slice av nv capv] w' fun e w'' => e = .returned (.bool true) ∧ w' = w'') :
    Calls Try.prog 4 #[.int .i64 most, .slice av nv capv, c] w (LawTrue w) := by
  go_enter Try.func4, Try.ntmps4
  go_wp2_with fail
  refine (cW _ (Below.refl _ _)).mono ?_
  rintro e w1 ⟨rfl, rfl⟩
  go_wp2_with fail
  refine (wakes_any _).mono ?_
  rintro e w2 ⟨rfl, hb2⟩
  go_wp2_with fail
  go_ret
  exact ⟨rfl, hb2⟩
set_option maxRecDepth 100000 in
set_option maxHeartbeats 1000000 in
theorem sure_long (most : Int) (av : Option Addr) (nv capv : Nat) (a : Option Addr) (n cap : Nat) (hn : 200 < (n : Int)) (w : World) (cW : ∀ w', Below w.heap.size w w' → Calls Try.prog 9 #[.slice av nv capv] w' fun e w'' => e = .returned (.bool false) ∧ w' = w'') :
    Calls Try.prog 4 #[.int .i64 most, .slice av nv capv, .slice a n cap] w (LawTrue w) := by
  go_enter Try.func4, Try.ntmps4
  go_wp2_with fail
  refine (cW _ (Below.refl _ _)).mono ?_
  rintro e w1 ⟨rfl, rfl⟩
  go_wp2_with fail
  refine (wakes_any _).mono ?_
  rintro e w2 ⟨rfl, hb2⟩
  go_wp2_with fail
  go_ret
  exact ⟨rfl, hb2⟩
set_option maxRecDepth 100000 in
set_option maxHeartbeats 1000000 in
theorem sure_out (most : Int) (av : Option Addr) (nv capv : Nat) (a : Option Addr) (n cap : Nat) (hn : ¬ 200 < (n : Int)) (hm : most < 0 ∨ 131072 < most) (w : World) (cW : ∀ w', Below w.heap.size w w' → Calls Try.prog 9 #[.slice av nv capv] w' fun e w'' => e = .returned (.bool false) ∧ w' = w'')
    (cN : ∀ w, Calls Try.prog 14 #[.int .i64 most] w fun e w' => e = .returned (.tuple #[.agg #[.string ⟨#[]⟩, .int .i64 0, .string ⟨#[]⟩, .int .i64 0, .int .i64 0, .int .i64 0, .bool false], .int .i64 2]) ∧ Below w.heap.size w w') :
    Calls Try.prog 4 #[.int .i64 most, .slice av nv capv, .slice a n cap] w (LawTrue w) := by
  have hm' : most < 0 ∨ (¬ most < 0 ∧ 131072 < most) := by omega
  rcases hm' with h | ⟨h, h2⟩
  all_goals
    go_enter Try.func4, Try.ntmps4
    go_wp2_with fail
    refine (cW _ (Below.refl _ _)).mono ?_
    rintro e w1 ⟨rfl, rfl⟩
    go_wp2_with fail
    refine (cN _).mono ?_
    rintro e w2 ⟨rfl, hb2⟩
    go_wp2_with fail
    refine (wakes_any _).mono ?_
    rintro e w3 ⟨rfl, hb3⟩
    go_wp2_with fail
    go_ret
    exact ⟨rfl, bn (bbox hb2 _) hb3⟩
theorem diskSure_walk {w : World} (most : Int) (_ : Is64 most) (v : Value) (xs : List Dm.Wr) (hv : IsRow w v xs) (c : Value) (n : Nat) (hc : IsInts w c n) : Calls Try.prog 4 #[.int .i64 most, v, c] w (LawTrue w) := by
  obtain ⟨av, nv, capv, hve, hnv, hcell⟩ : ∃ (av : Option Addr) (nv capv : Nat), v = .slice av nv capv ∧ xs.length = nv ∧ ∀ W, Below w.heap.size w W → ∀ j, j < nv → ∃ (x : Dm.Wr) (b off : Nat), xs[j]? = some x ∧ av = some ⟨b, off, none⟩ ∧ W.cell? ⟨b, off + j * 4, none⟩ = some (.int .i8 x.op) ∧ W.cell? ⟨b, off + j * 4 + 1, none⟩ = some (.int .i64 x.zone) ∧ W.cell? ⟨b, off + j * 4 + 2, none⟩ = some (.string x.b) ∧ W.cell? ⟨b, off + j * 4 + 3, none⟩ = some (.int .i64 x.n) := by
    rcases id hv with ⟨a, cap, rfl, rfl⟩ | ⟨b, off, cap, rfl, hr, hlt, _⟩
    · exact ⟨a, 0, cap, rfl, rfl, fun W _ j hj => by omega⟩
    · refine ⟨some ⟨b, off, none⟩, xs.length, cap, rfl, rfl, fun W hW j hj => ?_⟩
      obtain ⟨x, h1, h2, h3, h4, h5⟩ := (hr.below hW hlt) j hj
      exact ⟨x, b, off, h1, rfl, h2, h3, h4, h5⟩
  subst hve
  obtain ⟨a, cap, rfl, hin⟩ := hc
  cases hg : Dm.greatW xs
  · have cW : ∀ w', Below w.heap.size w w' → Calls Try.prog 9 #[.slice av nv capv] w' fun e w'' => e = .returned (.bool false) ∧ w' = w'' := fun w' hb => by
      have := greatW_row _ xs w' (hv.below hb); rw [hg] at this; exact this
    have hlen : xs.length ≤ 100 := by
      have h := hg
      unfold Dm.greatW at h
      simp only [Bool.or_eq_false_iff, decide_eq_false_iff_not] at h
      omega
    by_cases hn : 200 < (n : Int)
    · exact sure_long most av nv capv a n cap hn w cW
    · by_cases hm : most < 0 ∨ 131072 < most
      · refine sure_out most av nv capv a n cap hn hm w cW (fun w => ?_)
        have := new_any most w
        have e : Dm.newF most = (Dm.zero, 2) := by unfold Dm.newF; rw [if_neg (by omega)]
        rw [e] at this; exact this
      · refine sure_main most xs nv capv av n cap a hn hnv (by omega) (by omega) (by omega) w (Lib.hid hcell) (Lib.hid (fun x hx => by have := greatW_small hg hx; omega)) (Lib.hid (fun W hW j hj => ?_)) cW (fun w => ?_)
        · obtain ⟨b, off, ha, hlt, hi⟩ := hin j (by omega)
          obtain ⟨p, hp⟩ := hi j (by omega)
          obtain ⟨q, hq⟩ := hi (j + 1) (by omega)
          exact ⟨b, off, p, q, ha, (hW.cell (p := ⟨b, off + j, none⟩) hlt).trans hp, (hW.cell (p := ⟨b, off + (j + 1), none⟩) hlt).trans hq⟩
        · have := new_any most w
          have e : Dm.newF most = (⟨⟨#[]⟩, 0, ⟨#[]⟩, 0, most, -1, false⟩, 0) := by unfold Dm.newF; rw [if_pos (by omega)]
          rw [e] at this; exact this
  · exact sure_great most av nv capv _ w (fun w' hb => by have := greatW_row _ xs w' (hv.below hb); rw [hg] at this; exact this)
end Go.Proofs.Ytehgnlocekcakaa
