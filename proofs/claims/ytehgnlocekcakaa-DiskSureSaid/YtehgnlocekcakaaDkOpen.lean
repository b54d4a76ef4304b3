/- Disks and operations that come in. -/
import Derived.Test.YtehgnlocekcakaaDkE
import Derived.OpenShut
namespace Go.Proofs.Ytehgnlocekcakaa
open Go.ChangeShapes Go.WideShapes Go.RowKit
open Go
section
variable {H : Type} {enc : TypeId × Value → H} {W : World} {base : Nat} {spare : Nat → Bool} {held : Bool}
theorem cell_int {n : Nat} {c : Value} {y : DataW H × List MemPlace} (h : DataW.trod enc Try.prog W base spare held n 3 [c] = some y) : ∃ k : Int, c = .int .i64 k ∧ Is64 k := by
  obtain ⟨a, e0, _, wa⟩ := DataW.trod_int Try.underlying3 h
  simp at e0
  exact ⟨a, e0, is64_wf wa⟩
theorem cell_i8 {n : Nat} {c : Value} {y : DataW H × List MemPlace} (h : DataW.trod enc Try.prog W base spare held n 40 [c] = some y) : ∃ k : Int, c = .int .i8 k := by
  obtain ⟨a, e0, _, _⟩ := DataW.trod_int Try.underlying40 h
  simp at e0
  exact ⟨a, e0⟩
theorem cell_bool {n : Nat} {c : Value} {y : DataW H × List MemPlace} (h : DataW.trod enc Try.prog W base spare held n 4 [c] = some y) : ∃ k : Bool, c = .bool k := by
  have := DataW.trod_bool Try.underlying4 h
  obtain ⟨a, e0, _⟩ := this
  simp at e0
  exact ⟨a, e0⟩
theorem cell_string {n : Nat} {c : Value} {y : DataW H × List MemPlace} (h : DataW.trod enc Try.prog W base spare held n 9 [c] = some y) : ∃ k : ByteArray, c = .string k := by
  have := DataW.trod_string Try.underlying9 h
  obtain ⟨a, e0, _⟩ := this
  simp at e0
  exact ⟨a, e0⟩
theorem h_int : Try.prog.cellsOf 3 = 1 := by kernel_rfl
theorem h_i8 : Try.prog.cellsOf 40 = 1 := by kernel_rfl
theorem h_bool : Try.prog.cellsOf 4 = 1 := by kernel_rfl
theorem h_string : Try.prog.cellsOf 9 = 1 := by kernel_rfl
theorem h_zone : Try.prog.cellsOf 23 = 2 := by kernel_rfl
theorem h_zones : Try.prog.cellsOf 24 = 4 := by kernel_rfl
theorem cell_zone {n : Nat} {c0 c1 : Value} {y : DataW H × List MemPlace} (h : DataW.trod enc Try.prog W base spare held n 23 [c0, c1] = some y) : ∃ (b : ByteArray) (s : Int), c0 = .string b ∧ c1 = .int .i64 s ∧ Is64 s := by
  obtain ⟨xs, m, _, hx, _, hlen, hg⟩ := DataW.trod_struct Try.underlying23 h
  match xs, hlen with
  | [y0, y1], _ =>
    obtain ⟨b, e0⟩ := cell_string (c := c0) (y := y0) (by simpa [h_string] using hg 0 _ rfl)
    obtain ⟨s, e1, w1⟩ := cell_int (c := c1) (y := y1) (by simpa [h_int] using hg 1 _ rfl)
    exact ⟨b, s, e0, e1, w1⟩
theorem open_write {r : Reach} {b0 : Nat} {v : Value} {d : DataW H} {p : List MemPlace} (hv : Value.okWide Try.prog W r b0 42 v) (h : DataW.Trod enc Try.prog W base spare held 42 v d p) :
    ∃ x : Dm.Wr, v = wv x := by
  have hC : Try.prog.cellsOf 42 = 4 := by kernel_rfl
  obtain ⟨cs, rfl, hsz⟩ := okWide_struct Try.underlying42 hv
  obtain ⟨l⟩ := cs
  match l, hsz.trans hC with
  | [c0, c1, c2, c3], _ =>
    obtain ⟨fuel, hf⟩ := h
    obtain ⟨xs, n, _, hx, _, hlen, hg⟩ := DataW.trod_struct Try.underlying42 hf
    match xs, hlen with
    | [y0, y1, y2, y3], _ =>
      obtain ⟨a0, e0⟩ := cell_i8 (c := c0) (y := y0) (by simpa [Value.cells, h_i8] using hg 0 _ rfl)
      obtain ⟨a1, e1, _⟩ := cell_int (c := c1) (y := y1) (by simpa [Value.cells, h_int] using hg 1 _ rfl)
      obtain ⟨a2, e2⟩ := cell_string (c := c2) (y := y2) (by simpa [Value.cells, h_string] using hg 2 _ rfl)
      obtain ⟨a3, e3, _⟩ := cell_int (c := c3) (y := y3) (by simpa [Value.cells, h_int] using hg 3 _ rfl)
      subst e0 e1 e2 e3
      exact ⟨⟨a0, a1, a2, a3⟩, rfl⟩
theorem open_disk {r : Reach} {b0 : Nat} {v : Value} {d : DataW H} {p : List MemPlace} (hv : Value.okWide Try.prog W r b0 26 v) (h : DataW.Trod enc Try.prog W base spare held 26 v d p) :
    ∃ x : Dm.Dk, v = dv x ∧ Is64 x.left := by
  have hC : Try.prog.cellsOf 26 = 7 := by kernel_rfl
  obtain ⟨cs, rfl, hsz⟩ := okWide_struct Try.underlying26 hv
  obtain ⟨l⟩ := cs
  match l, hsz.trans hC with
  | [c0, c1, c2, c3, c4, c5, c6], _ =>
    obtain ⟨fuel, hf⟩ := h
    obtain ⟨xs, n, _, hx, _, hlen, hg⟩ := DataW.trod_struct Try.underlying26 hf
    match xs, hlen with
    | [y0, y1, y2, y3], _ =>
      have ha : DataW.trod enc Try.prog W base spare held n 24 [c0, c1, c2, c3] = some y0 := by simpa [Value.cells, h_zones] using hg 0 _ rfl
      obtain ⟨a1, e1, _⟩ := cell_int (c := c4) (y := y1) (by simpa [Value.cells, h_int] using hg 1 _ rfl)
      obtain ⟨a2, e2, w2⟩ := cell_int (c := c5) (y := y2) (by simpa [Value.cells, h_int] using hg 2 _ rfl)
      obtain ⟨a3, e3⟩ := cell_bool (c := c6) (y := y3) (by simpa [Value.cells, h_bool] using hg 3 _ rfl)
      obtain ⟨zs, m, _, _, _, hzl, hz⟩ := DataW.trod_array Try.underlying24 ha
      match zs, hzl with
      | [z0, z1], _ =>
        obtain ⟨p0, q0, f0, g0, _⟩ := cell_zone (c0 := c0) (c1 := c1) (y := z0) (by simpa [h_zone] using hz 0 (by omega))
        obtain ⟨p1, q1, f1, g1, _⟩ := cell_zone (c0 := c2) (c1 := c3) (y := z1) (by simpa [h_zone] using hz 1 (by omega))
        subst e1 e2 e3 f0 g0 f1 g1
        exact ⟨⟨p0, q0, p1, q1, a1, a2, a3⟩, rfl, w2⟩
end
end Go.Proofs.Ytehgnlocekcakaa
