/- A time that comes in: six numbers. -/
import Derived.Test.YtconknlaaleckaaBase
import Derived.Lib.SmallJoins
namespace Go.Proofs.Ytconknlaaleckaa
open Go.Joins Go.ChangeShapes Go.WideShapes Go.RowKit
open Go
section
variable {H : Type} {enc : TypeId × Value → H} {W : World} {base : Nat} {spare : Nat → Bool} {held : Bool}
theorem field_int {n : Nat} {c : Value} {y : DataW H × List MemPlace} (h : DataW.trod enc Try.prog W base spare held n 3 [c] = some y) : ∃ k : Int, c = .int .i64 k ∧ Is64 k := by
  obtain ⟨a, e0, _, wa⟩ := DataW.trod_int Try.underlying3 h
  simp at e0
  exact ⟨a, e0, is64_wf wa⟩
theorem open_civil {r : Reach} {b0 : Nat} {v : Value} {d : DataW H} {p : List MemPlace} (hv : Value.okWide Try.prog W r b0 31 v) (h : DataW.Trod enc Try.prog W base spare held 31 v d p) :
    ∃ y m d h i s : Int, v = .agg #[.int .i64 y, .int .i64 m, .int .i64 d, .int .i64 h, .int .i64 i, .int .i64 s] ∧ Is64 y ∧ Is64 m ∧ Is64 d ∧ Is64 h ∧ Is64 i ∧ Is64 s := by
  have hs := Try.underlying31
  have hC : Try.prog.cellsOf 31 = 6 := by kernel_rfl
  obtain ⟨cs, rfl, hsz⟩ := okWide_struct hs hv
  obtain ⟨l⟩ := cs
  match l, hsz.trans hC with
  | [c0, c1, c2, c3, c4, c5], _ =>
    obtain ⟨fuel, hf⟩ := h
    obtain ⟨xs, n, _, hx, _, hlen, hg⟩ := DataW.trod_struct hs hf
    have h1 : Try.prog.cellsOf 3 = 1 := by kernel_rfl
    match xs, hlen with
    | [y0, y1, y2, y3, y4, y5], _ =>
      obtain ⟨a0, e0, w0⟩ := field_int (c := c0) (y := y0) (by simpa [Value.cells, h1] using hg 0 _ rfl)
      obtain ⟨a1, e1, w1⟩ := field_int (c := c1) (y := y1) (by simpa [Value.cells, h1] using hg 1 _ rfl)
      obtain ⟨a2, e2, w2⟩ := field_int (c := c2) (y := y2) (by simpa [Value.cells, h1] using hg 2 _ rfl)
      obtain ⟨a3, e3, w3⟩ := field_int (c := c3) (y := y3) (by simpa [Value.cells, h1] using hg 3 _ rfl)
      obtain ⟨a4, e4, w4⟩ := field_int (c := c4) (y := y4) (by simpa [Value.cells, h1] using hg 4 _ rfl)
      obtain ⟨a5, e5, w5⟩ := field_int (c := c5) (y := y5) (by simpa [Value.cells, h1] using hg 5 _ rfl)
      subst e0 e1 e2 e3 e4 e5
      exact ⟨a0, a1, a2, a3, a4, a5, rfl, w0, w1, w2, w3, w4, w5⟩
end
end Go.Proofs.Ytconknlaaleckaa
