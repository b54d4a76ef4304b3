/- Rows of operations that come in. -/
import Derived.Test.YtehgnlocekcakaaDkOpen
import Derived.Test.YtehgnlocekcakaaDkJ
import Derived.Deep.Slices
namespace Go.Proofs.Ytehgnlocekcakaa
open Go.ChangeShapes Go.WideShapes Go.RowKit Go.Deep
open Go
set_option linter.unusedVariables false
theorem list_of {α : Type} {P : Nat → α → Prop} : ∀ n : Nat, (∀ i, i < n → ∃ x, P i x) → ∃ xs : List α, xs.length = n ∧ ∀ i, i < n → ∃ x, xs[i]? = some x ∧ P i x := by
  intro n
  induction n with
  | zero => intro _; exact ⟨[], rfl, fun i hi => by omega⟩
  | succ n ih =>
    intro h
    obtain ⟨xs, hl, hx⟩ := ih (fun i hi => h i (by omega))
    obtain ⟨y, hy⟩ := h n (by omega)
    refine ⟨xs ++ [y], by simp [hl], fun i hi => ?_⟩
    by_cases e : i = n
    · subst e; exact ⟨y, by rw [List.getElem?_append_right (by omega)]; simp [hl], hy⟩
    · obtain ⟨x, h1, h2⟩ := hx i (by omega)
      exact ⟨x, by rw [List.getElem?_append_left (by omega)]; exact h1, h2⟩
def IsRow (w : World) (v : Value) (xs : List Dm.Wr) : Prop :=
  (∃ a cap, v = .slice a 0 cap ∧ xs = []) ∨ ∃ b off cap, v = .slice (some ⟨b, off, none⟩) xs.length cap ∧ WRow w b off xs ∧ b < w.heap.size ∧ (xs.length : Int) ≤ 9223372036854775807
theorem IsRow.below {w w' : World} {v : Value} {xs : List Dm.Wr} (h : IsRow w v xs) (hb : Below w.heap.size w w') : IsRow w' v xs := by
  rcases h with h | ⟨b, off, cap, e, hr, hlt, hn⟩
  · exact Or.inl h
  · exact Or.inr ⟨b, off, cap, e, hr.below hb hlt, Nat.lt_of_lt_of_le hlt hb.size, hn⟩
set_option maxHeartbeats 400000 in
theorem all_empty (d0 : Dm.Dk) (a : Option Addr) (cap : Nat) (w : World) : Calls Try.prog 11 #[dv d0, .slice a 0 cap] w (AllPost (Dm.allF d0 [] 0) w) := by
  obtain ⟨b0, s0, b1, s1, cp, left, down⟩ := d0
  show Calls Try.prog 11 #[.agg #[.string b0, .int .i64 s0, .string b1, .int .i64 s1, .int .i64 cp, .int .i64 left, .bool down], .slice a 0 cap] w fun e w' => e = .returned (.tuple #[.agg #[.string b0, .int .i64 s0, .string b1, .int .i64 s1, .int .i64 cp, .int .i64 left, .bool down], .int .i64 0, .int .i64 0]) ∧ Below w.heap.size w w'
  go_enter Try.func11, Try.ntmps11
  go_wp2_with fail
  go_loop [13] (fun k => k = .int .i64 0) (fun _ => 0)
  case atStart => rfl
  case round =>
    obtain rfl := hrel
    go_wp2
    refine disk_ret3 (fn := Try.f11) (p := 4) (u := 5) (v := 6) rfl _ _ w (w.heap.size + 1) (.string b0) (.int .i64 s0) (.string b1) (.int .i64 s1) (.int .i64 cp) (.int .i64 left) (.bool down) (.int .i64 0) (.int .i64 0) rfl rfl rfl ?_ ?_ _ (fun hb => ⟨rfl, hb⟩)
    · exact ⟨by go_simp, by go_simp, by go_simp, by go_simp, by go_simp, by go_simp, by go_simp⟩
    · exact bbox (bbox (Below.refl _ _) _) _
set_option maxHeartbeats 400000 in
theorem greatW_empty (a : Option Addr) (cap : Nat) (w : World) : Calls Try.prog 9 #[.slice a 0 cap] w fun e w' => e = .returned (.bool false) ∧ w = w' := by
  go_enter Try.func9, Try.ntmps9
  go_wp2_with fail
  go_loop [3] (fun k => k = .int .i64 0) (fun _ => 0)
  case atStart => rfl
  case round =>
    obtain rfl := hrel
    go_wp2
    go_ret
    exact ⟨rfl, rfl⟩
theorem all_row (d0 : Dm.Dk) (v : Value) (xs : List Dm.Wr) (w : World) (hv : IsRow w v xs) (hl : Is64 d0.left) (hm : xs.length ≤ 1000000) (hsz : ∀ x ∈ xs, (x.b.size : Int) ≤ 9000000000000000000) :
    Calls Try.prog 11 #[dv d0, v] w (AllPost (Dm.allF d0 xs 0) w) := by
  rcases hv with ⟨a, cap, rfl, rfl⟩ | ⟨b, off, cap, rfl, hr, hlt, _⟩
  · exact all_empty d0 a cap w
  · exact all_some d0 xs b off cap w hl hr hlt hm hsz
theorem greatW_row (v : Value) (xs : List Dm.Wr) (w : World) (hv : IsRow w v xs) : Calls Try.prog 9 #[v] w fun e w' => e = .returned (.bool (Dm.greatW xs)) ∧ w = w' := by
  rcases hv with ⟨a, cap, rfl, rfl⟩ | ⟨b, off, cap, rfl, hr, hlt, hn⟩
  · exact greatW_empty a cap w
  · exact greatW_some xs b off cap w hr hn
section
variable {H : Type} {enc : TypeId × Value → H} {W : World} {base : Nat} {spare : Nat → Bool} {held : Bool}
theorem open_writes {r : Reach} {b0 : Nat} {v : Value} {d : DataW H} {p : List MemPlace} (hv : Value.okWide Try.prog W r b0 27 v) (h : DataW.Trod enc Try.prog W base spare held 27 v d p) :
    ∃ xs : List Dm.Wr, IsRow W v xs := by
  have hC : Try.prog.cellsOf 42 = 4 := by kernel_rfl
  obtain ⟨a0, len0, cap0, rfl⟩ := okWide_slice Try.underlying27 hv
  obtain ⟨fuel, hf⟩ := h
  rcases open_slice Try.underlying27 hf with ⟨hcs, _⟩ | ⟨a, len, cap, m, n, D, Pl, hcs, _, hl, hm, hmm, _, hi⟩
  · simp [Value.cells] at hcs
    obtain ⟨rfl, rfl, rfl⟩ := hcs
    exact ⟨[], Or.inl ⟨none, 0, rfl, rfl⟩⟩
  · simp [Value.cells] at hcs
    obtain ⟨rfl, rfl, rfl⟩ := hcs
    by_cases h0 : len0 = 0
    · subst h0; exact ⟨[], Or.inl ⟨_, _, rfl, rfl⟩⟩
    · have key : ∀ i, i < len0 → ∃ x : Dm.Wr, W.cell? (a.add (i * 4)) = some (.int .i8 x.op) ∧ W.cell? ((a.add (i * 4)).add 1) = some (.int .i64 x.zone) ∧ W.cell? ((a.add (i * 4)).add 2) = some (.string x.b) ∧ W.cell? ((a.add (i * 4)).add 3) = some (.int .i64 x.n) := by
        intro i hi'
        have hlm : len0 ≤ m := by rw [hmm]; split <;> omega
        obtain ⟨cs', hc, ht⟩ := hi i (by omega)
        rw [hC] at hc
        obtain ⟨_, hlen, hat⟩ := World.cells?_some hc
        obtain ⟨ys, k, _, _, _, hyl, hg⟩ := DataW.trod_struct Try.underlying42 ht
        match cs', hlen, ys, hyl with
        | [c0, c1, c2, c3], _, [y0, y1, y2, y3], _ =>
          obtain ⟨a0, e0⟩ := cell_i8 (c := c0) (y := y0) (by simpa [h_i8] using hg 0 _ rfl)
          obtain ⟨a1, e1, _⟩ := cell_int (c := c1) (y := y1) (by simpa [h_int] using hg 1 _ rfl)
          obtain ⟨a2, e2⟩ := cell_string (c := c2) (y := y2) (by simpa [h_string] using hg 2 _ rfl)
          obtain ⟨a3, e3, _⟩ := cell_int (c := c3) (y := y3) (by simpa [h_int] using hg 3 _ rfl)
          subst e0 e1 e2 e3
          exact ⟨⟨a0, a1, a2, a3⟩, by simpa [Addr.add] using hat 0 (by omega), by simpa using hat 1 (by omega), by simpa using hat 2 (by omega), by simpa using hat 3 (by omega)⟩
      obtain ⟨xs, hxl, hx⟩ := list_of len0 key
      obtain ⟨b, off, spot⟩ := a
      obtain ⟨x0, _, c0, _⟩ := hx 0 (by omega)
      have hspot : spot = none := by simpa [Addr.add] using World.cell?_spot c0
      subst hspot
      have hlt := World.block_lt_of_cell? _ _ c0
      refine ⟨xs, Or.inr ⟨b, off, cap0, by rw [hxl], fun i hi' => ?_, by simpa [Addr.add] using hlt, ?_⟩⟩
      · obtain ⟨x, h1, c0, c1, c2, c3⟩ := hx i (by omega)
        rw [add_plain] at c0
        rw [add_plain, add_plain] at c1 c2 c3
        exact ⟨x, h1, c0, c1, c2, c3⟩
      · rw [hxl]; unfold maxLen at hm; omega
end
end Go.Proofs.Ytehgnlocekcakaa
