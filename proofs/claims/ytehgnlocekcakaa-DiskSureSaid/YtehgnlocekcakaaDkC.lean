/- Seven cells of a block; a disk as an answer. -/
import Derived.Test.YtehgnlocekcakaaDkB
namespace Go.Proofs.Ytehgnlocekcakaa
open Go.RowKit
open Go
def Seven (W : World) (b : Nat) (v0 v1 v2 v3 v4 v5 v6 : Value) : Prop :=
  W.cell? ⟨b, 0, none⟩ = some v0 ∧ W.cell? ⟨b, 1, none⟩ = some v1 ∧ W.cell? ⟨b, 2, none⟩ = some v2 ∧ W.cell? ⟨b, 3, none⟩ = some v3 ∧ W.cell? ⟨b, 4, none⟩ = some v4 ∧ W.cell? ⟨b, 5, none⟩ = some v5 ∧ W.cell? ⟨b, 6, none⟩ = some v6
theorem Seven.s0 {W : World} {b : Nat} {v0 v1 v2 v3 v4 v5 v6 : Value} (h : Seven W b v0 v1 v2 v3 v4 v5 v6) (x : Value) : Seven (W.setCell ⟨b, 0, none⟩ x) b x v1 v2 v3 v4 v5 v6 :=
  ⟨World.cell?_setCell_same _ _ _ h.1, (World.cell?_setCell_other _ _ _ _ (by simp)).trans h.2.1, (World.cell?_setCell_other _ _ _ _ (by simp)).trans h.2.2.1, (World.cell?_setCell_other _ _ _ _ (by simp)).trans h.2.2.2.1, (World.cell?_setCell_other _ _ _ _ (by simp)).trans h.2.2.2.2.1, (World.cell?_setCell_other _ _ _ _ (by simp)).trans h.2.2.2.2.2.1, (World.cell?_setCell_other _ _ _ _ (by simp)).trans h.2.2.2.2.2.2⟩
theorem Seven.s1 {W : World} {b : Nat} {v0 v1 v2 v3 v4 v5 v6 : Value} (h : Seven W b v0 v1 v2 v3 v4 v5 v6) (x : Value) : Seven (W.setCell ⟨b, 1, none⟩ x) b v0 x v2 v3 v4 v5 v6 :=
  ⟨(World.cell?_setCell_other _ _ _ _ (by simp)).trans h.1, World.cell?_setCell_same _ _ _ h.2.1, (World.cell?_setCell_other _ _ _ _ (by simp)).trans h.2.2.1, (World.cell?_setCell_other _ _ _ _ (by simp)).trans h.2.2.2.1, (World.cell?_setCell_other _ _ _ _ (by simp)).trans h.2.2.2.2.1, (World.cell?_setCell_other _ _ _ _ (by simp)).trans h.2.2.2.2.2.1, (World.cell?_setCell_other _ _ _ _ (by simp)).trans h.2.2.2.2.2.2⟩
theorem Seven.s2 {W : World} {b : Nat} {v0 v1 v2 v3 v4 v5 v6 : Value} (h : Seven W b v0 v1 v2 v3 v4 v5 v6) (x : Value) : Seven (W.setCell ⟨b, 2, none⟩ x) b v0 v1 x v3 v4 v5 v6 :=
  ⟨(World.cell?_setCell_other _ _ _ _ (by simp)).trans h.1, (World.cell?_setCell_other _ _ _ _ (by simp)).trans h.2.1, World.cell?_setCell_same _ _ _ h.2.2.1, (World.cell?_setCell_other _ _ _ _ (by simp)).trans h.2.2.2.1, (World.cell?_setCell_other _ _ _ _ (by simp)).trans h.2.2.2.2.1, (World.cell?_setCell_other _ _ _ _ (by simp)).trans h.2.2.2.2.2.1, (World.cell?_setCell_other _ _ _ _ (by simp)).trans h.2.2.2.2.2.2⟩
theorem Seven.s3 {W : World} {b : Nat} {v0 v1 v2 v3 v4 v5 v6 : Value} (h : Seven W b v0 v1 v2 v3 v4 v5 v6) (x : Value) : Seven (W.setCell ⟨b, 3, none⟩ x) b v0 v1 v2 x v4 v5 v6 :=
  ⟨(World.cell?_setCell_other _ _ _ _ (by simp)).trans h.1, (World.cell?_setCell_other _ _ _ _ (by simp)).trans h.2.1, (World.cell?_setCell_other _ _ _ _ (by simp)).trans h.2.2.1, World.cell?_setCell_same _ _ _ h.2.2.2.1, (World.cell?_setCell_other _ _ _ _ (by simp)).trans h.2.2.2.2.1, (World.cell?_setCell_other _ _ _ _ (by simp)).trans h.2.2.2.2.2.1, (World.cell?_setCell_other _ _ _ _ (by simp)).trans h.2.2.2.2.2.2⟩
theorem Seven.s4 {W : World} {b : Nat} {v0 v1 v2 v3 v4 v5 v6 : Value} (h : Seven W b v0 v1 v2 v3 v4 v5 v6) (x : Value) : Seven (W.setCell ⟨b, 4, none⟩ x) b v0 v1 v2 v3 x v5 v6 :=
  ⟨(World.cell?_setCell_other _ _ _ _ (by simp)).trans h.1, (World.cell?_setCell_other _ _ _ _ (by simp)).trans h.2.1, (World.cell?_setCell_other _ _ _ _ (by simp)).trans h.2.2.1, (World.cell?_setCell_other _ _ _ _ (by simp)).trans h.2.2.2.1, World.cell?_setCell_same _ _ _ h.2.2.2.2.1, (World.cell?_setCell_other _ _ _ _ (by simp)).trans h.2.2.2.2.2.1, (World.cell?_setCell_other _ _ _ _ (by simp)).trans h.2.2.2.2.2.2⟩
theorem Seven.s5 {W : World} {b : Nat} {v0 v1 v2 v3 v4 v5 v6 : Value} (h : Seven W b v0 v1 v2 v3 v4 v5 v6) (x : Value) : Seven (W.setCell ⟨b, 5, none⟩ x) b v0 v1 v2 v3 v4 x v6 :=
  ⟨(World.cell?_setCell_other _ _ _ _ (by simp)).trans h.1, (World.cell?_setCell_other _ _ _ _ (by simp)).trans h.2.1, (World.cell?_setCell_other _ _ _ _ (by simp)).trans h.2.2.1, (World.cell?_setCell_other _ _ _ _ (by simp)).trans h.2.2.2.1, (World.cell?_setCell_other _ _ _ _ (by simp)).trans h.2.2.2.2.1, World.cell?_setCell_same _ _ _ h.2.2.2.2.2.1, (World.cell?_setCell_other _ _ _ _ (by simp)).trans h.2.2.2.2.2.2⟩
theorem Seven.s6 {W : World} {b : Nat} {v0 v1 v2 v3 v4 v5 v6 : Value} (h : Seven W b v0 v1 v2 v3 v4 v5 v6) (x : Value) : Seven (W.setCell ⟨b, 6, none⟩ x) b v0 v1 v2 v3 v4 v5 x :=
  ⟨(World.cell?_setCell_other _ _ _ _ (by simp)).trans h.1, (World.cell?_setCell_other _ _ _ _ (by simp)).trans h.2.1, (World.cell?_setCell_other _ _ _ _ (by simp)).trans h.2.2.1, (World.cell?_setCell_other _ _ _ _ (by simp)).trans h.2.2.2.1, (World.cell?_setCell_other _ _ _ _ (by simp)).trans h.2.2.2.2.1, (World.cell?_setCell_other _ _ _ _ (by simp)).trans h.2.2.2.2.2.1, World.cell?_setCell_same _ _ _ h.2.2.2.2.2.2⟩
theorem Seven.far {W : World} {b c o : Nat} {v0 v1 v2 v3 v4 v5 v6 : Value} (h : Seven W b v0 v1 v2 v3 v4 v5 v6) (hne : c ≠ b) (x : Value) : Seven (W.setCell ⟨c, o, none⟩ x) b v0 v1 v2 v3 v4 v5 v6 :=
  ⟨(World.cell?_setCell_other _ _ _ _ (fun e => hne (congrArg Addr.block e))).trans h.1, (World.cell?_setCell_other _ _ _ _ (fun e => hne (congrArg Addr.block e))).trans h.2.1, (World.cell?_setCell_other _ _ _ _ (fun e => hne (congrArg Addr.block e))).trans h.2.2.1, (World.cell?_setCell_other _ _ _ _ (fun e => hne (congrArg Addr.block e))).trans h.2.2.2.1, (World.cell?_setCell_other _ _ _ _ (fun e => hne (congrArg Addr.block e))).trans h.2.2.2.2.1, (World.cell?_setCell_other _ _ _ _ (fun e => hne (congrArg Addr.block e))).trans h.2.2.2.2.2.1, (World.cell?_setCell_other _ _ _ _ (fun e => hne (congrArg Addr.block e))).trans h.2.2.2.2.2.2⟩
theorem Seven.below {W W' : World} {b B : Nat} {v0 v1 v2 v3 v4 v5 v6 : Value} (h : Seven W b v0 v1 v2 v3 v4 v5 v6) (hb : Below B W W') (hlt : b < B) : Seven W' b v0 v1 v2 v3 v4 v5 v6 :=
  ⟨(hb.cell (p := ⟨b, 0, none⟩) hlt).trans h.1, (hb.cell (p := ⟨b, 1, none⟩) hlt).trans h.2.1, (hb.cell (p := ⟨b, 2, none⟩) hlt).trans h.2.2.1, (hb.cell (p := ⟨b, 3, none⟩) hlt).trans h.2.2.2.1, (hb.cell (p := ⟨b, 4, none⟩) hlt).trans h.2.2.2.2.1, (hb.cell (p := ⟨b, 5, none⟩) hlt).trans h.2.2.2.2.2.1, (hb.cell (p := ⟨b, 6, none⟩) hlt).trans h.2.2.2.2.2.2⟩
theorem Seven.all {W : World} {b : Nat} {v0 v1 v2 v3 v4 v5 v6 : Value} (h : Seven W b v0 v1 v2 v3 v4 v5 v6) (x0 x1 x2 x3 x4 x5 x6 : Value) : Seven (((((((W.setCell ⟨b, 0, none⟩ x0).setCell ⟨b, 1, none⟩ x1).setCell ⟨b, 2, none⟩ x2).setCell ⟨b, 3, none⟩ x3).setCell ⟨b, 4, none⟩ x4).setCell ⟨b, 5, none⟩ x5).setCell ⟨b, 6, none⟩ x6) b x0 x1 x2 x3 x4 x5 x6 :=
  ((((((h.s0 x0).s1 x1).s2 x2).s3 x3).s4 x4).s5 x5).s6 x6
theorem Seven.drewN {W : World} {b : Nat} {v0 v1 v2 v3 v4 v5 v6 : Value} (h : Seven W b v0 v1 v2 v3 v4 v5 v6) (n : Nat) : Seven (W.drewN n) b v0 v1 v2 v3 v4 v5 v6 := h
theorem Seven.drew1 {W : World} {b : Nat} {v0 v1 v2 v3 v4 v5 v6 : Value} (h : Seven W b v0 v1 v2 v3 v4 v5 v6) : Seven W.drew b v0 v1 v2 v3 v4 v5 v6 := h
theorem disk_ret {fn : Func} {p u : Tmp} (hfn : fn.results = #[.cell p 26, .tmp u]) (tmps : Array Value) (W w : World) (b : Nat) (v0 v1 v2 v3 v4 v5 v6 k : Value) (h2 : tmps.getD p undef = .pointer (some ⟨b, 0, none⟩)) (h3 : tmps.getD u undef = k)
    (h7 : Seven W b v0 v1 v2 v3 v4 v5 v6) (hb : Below w.heap.size w W) (Q : Ending → World → Prop) (hQ : Below w.heap.size w W → Q (.returned (.tuple #[.agg #[v0, v1, v2, v3, v4, v5, v6], k])) W) :
    bodyPost Try.prog fn Q Exit.ret ⟨tmps, []⟩ W := by
  obtain ⟨k0, k1, k2, k3, k4, k5, k6⟩ := h7
  refine bodyPost_ret (v := .tuple #[.agg #[v0, v1, v2, v3, v4, v5, v6], k]) ?_ rfl (hQ hb)
  rw [results_cell_tmp hfn, h2, h3]
  simp [go_sem, k0, k1, k2, k3, k4, k5, k6]
theorem Seven.alloc1 {W : World} {b : Nat} {v0 v1 v2 v3 v4 v5 v6 : Value} (h : Seven W b v0 v1 v2 v3 v4 v5 v6) (hlt : b < W.heap.size) (o : Obj) : Seven (W.alloc o) b v0 v1 v2 v3 v4 v5 v6 :=
  Seven.below h ((Below.refl W.heap.size W).alloc (Nat.le_refl _) o) hlt
theorem disk_ret3 {fn : Func} {p u v : Tmp} (hfn : fn.results = #[.cell p 26, .tmp u, .tmp v]) (tmps : Array Value) (W w : World) (b : Nat) (v0 v1 v2 v3 v4 v5 v6 k l : Value) (h2 : tmps[p]?.getD undef = .pointer (some ⟨b, 0, none⟩)) (h3 : tmps[u]?.getD undef = k) (h4 : tmps[v]?.getD undef = l)
    (h7 : Seven W b v0 v1 v2 v3 v4 v5 v6) (hb : Below w.heap.size w W) (Q : Ending → World → Prop) (hQ : Below w.heap.size w W → Q (.returned (.tuple #[.agg #[v0, v1, v2, v3, v4, v5, v6], k, l])) W) :
    bodyPost Try.prog fn Q Exit.ret ⟨tmps, []⟩ W := by
  obtain ⟨k0, k1, k2, k3, k4, k5, k6⟩ := h7
  exact bodyPost_ret (v := .tuple #[.agg #[v0, v1, v2, v3, v4, v5, v6], k, l]) (by simp [results, hfn, go_sem, h2, h3, h4, k0, k1, k2, k3, k4, k5, k6]) rfl (hQ hb)
/-- The memory of 'do' at its switch: the disk, the operation, the answer's place. -/
theorem do_mem (w w1 w2 : World) (x0 x1 x2 x3 x4 x5 x6 y0 y1 y2 y3 z0 z1 z2 z3 z4 z5 z6 : Value) (t u v : TypeId)
    (hb1 : Below (((w.alloc (.cells #[x0, x1, x2, x3, x4, x5, x6] t)).alloc (.cells #[y0, y1, y2, y3] u)).alloc (.cells #[z0, z1, z2, z3, z4, z5, z6] v)).heap.size (((w.alloc (.cells #[x0, x1, x2, x3, x4, x5, x6] t)).alloc (.cells #[y0, y1, y2, y3] u)).alloc (.cells #[z0, z1, z2, z3, z4, z5, z6] v)) w1)
    (hb2 : Below w1.heap.size w1 w2) :
    Seven w2 w.heap.size x0 x1 x2 x3 x4 x5 x6 ∧ Seven w2 (w.heap.size + 1 + 1) z0 z1 z2 z3 z4 z5 z6 ∧
    (w2.cell? ⟨w.heap.size + 1, 0, none⟩ = some y0 ∧ w2.cell? ⟨w.heap.size + 1, 1, none⟩ = some y1 ∧ w2.cell? ⟨w.heap.size + 1, 2, none⟩ = some y2 ∧ w2.cell? ⟨w.heap.size + 1, 3, none⟩ = some y3) ∧
    (∀ o, w2.frozen? ⟨w.heap.size, o, none⟩ = false) ∧ (∀ o, w2.frozen? ⟨w.heap.size + 1 + 1, o, none⟩ = false) ∧ w.heap.size + 1 + 1 < w2.heap.size ∧ Below w.heap.size w w2 := by
  have hs1 := hb1.size
  have hs2 := hb2.size
  have hB : Below w.heap.size w w1 := (((Below.refl _ w).alloc (Nat.le_refl _) _ |>.alloc (by simp) _).alloc (by simp; omega) _).trans (hb1.mono (by simp; omega))
  have hb : Below (w.heap.size + 3) (((w.alloc (.cells #[x0, x1, x2, x3, x4, x5, x6] t)).alloc (.cells #[y0, y1, y2, y3] u)).alloc (.cells #[z0, z1, z2, z3, z4, z5, z6] v)) w2 := by
    simp at hs1
    exact (hb1.mono (by simp)).trans (hb2.mono (by omega))
  refine ⟨Seven.below (W := ((w.alloc (.cells #[x0, x1, x2, x3, x4, x5, x6] t)).alloc (.cells #[y0, y1, y2, y3] u)).alloc (.cells #[z0, z1, z2, z3, z4, z5, z6] v)) ⟨by go_simp, by go_simp, by go_simp, by go_simp, by go_simp, by go_simp, by go_simp⟩ hb (by omega),
    Seven.below (W := ((w.alloc (.cells #[x0, x1, x2, x3, x4, x5, x6] t)).alloc (.cells #[y0, y1, y2, y3] u)).alloc (.cells #[z0, z1, z2, z3, z4, z5, z6] v)) ⟨by go_simp, by go_simp, by go_simp, by go_simp, by go_simp, by go_simp, by go_simp⟩ hb (by omega), ⟨?_, ?_, ?_, ?_⟩, ?_, ?_, ?_, ?_⟩
  · exact (hb.cell (p := ⟨w.heap.size + 1, 0, none⟩) (by simp)).trans (by go_simp)
  · exact (hb.cell (p := ⟨w.heap.size + 1, 1, none⟩) (by simp)).trans (by go_simp)
  · exact (hb.cell (p := ⟨w.heap.size + 1, 2, none⟩) (by simp)).trans (by go_simp)
  · exact (hb.cell (p := ⟨w.heap.size + 1, 3, none⟩) (by simp)).trans (by go_simp)
  · intro o; exact (hb.frozen (p := ⟨w.heap.size, o, none⟩) (by simp)).trans (by go_simp)
  · intro o; exact (hb.frozen (p := ⟨w.heap.size + 1 + 1, o, none⟩) (by simp)).trans (by go_simp)
  · simp at hs1; omega
  · exact bn hB hb2
end Go.Proofs.Ytehgnlocekcakaa
