/- The walk of the disk's statement on what is sure. -/
import Derived.Test.YtehgnlocekcakaaDkApart
import Derived.Test.YtehgnlocekcakaaDkP
import Derived.Test.YtehgnlocekcakaaDkSm
import Derived.BigRegion
import Derived.Deep.RegionWith
import Derived.Deep.RegionHeld3
import Derived.Deep.Cut
import Derived.Deep.CutRange
import Derived.Deep.AppendLies
import Derived.Deep.RegionLaw
namespace Go.Proofs.Ytehgnlocekcakaa
open Go.RowKit
open Go
set_option linter.unusedVariables false
/-- The disk's box, and behind it the box of what is sure. -/
def SW (w : World) (D : Nat) (W : World) (d : Dm.Dk) (u0 u1 : ByteArray) : Prop := DSeven W D d ∧ W.cell? ⟨D + 1, 0, none⟩ = some (.string u0) ∧ W.cell? ⟨D + 1, 1, none⟩ = some (.string u1) ∧
  (∀ o, W.frozen? ⟨D, o, none⟩ = false) ∧ (∀ o, W.frozen? ⟨D + 1, o, none⟩ = false) ∧ D + 1 < W.heap.size ∧ w.heap.size ≤ D ∧ Below w.heap.size w W
section
variable {w W W' : World} {D : Nat} {d : Dm.Dk} {u0 u1 : ByteArray}
theorem SW.step (h : SW w D W d u0 u1) (hb : Below W.heap.size W W') : SW w D W' d u0 u1 := by
  obtain ⟨h1, h2, h3, h4, h5, h6, h7, h8⟩ := h
  have hD : D < W.heap.size := by omega
  exact ⟨Seven.below h1 hb hD, (hb.cell (p := ⟨D + 1, 0, none⟩) h6).trans h2, (hb.cell (p := ⟨D + 1, 1, none⟩) h6).trans h3, fun o => (hb.frozen (p := ⟨D, o, none⟩) hD).trans (h4 o), fun o => (hb.frozen (p := ⟨D + 1, o, none⟩) h6).trans (h5 o), Nat.lt_of_lt_of_le h6 hb.size, h7, bn h8 hb⟩
theorem SW.alloc (h : SW w D W d u0 u1) (o : Obj) : SW w D (W.alloc o) d u0 u1 := h.step ((Below.refl _ _).alloc (Nat.le_refl _) o)
theorem SW.drew (h : SW w D W d u0 u1) : SW w D W.drew d u0 u1 := h.step (Below.refl _ _).drew
theorem SW.sure0 (h : SW w D W d u0 u1) (x : ByteArray) : SW w D (W.setCell ⟨D + 1, 0, none⟩ (.string x)) d x u1 := by
  obtain ⟨⟨k0, k1, k2, k3, k4, k5, k6⟩, h2, h3, h4, h5, h6, h7, h8⟩ := h
  have ne : ∀ o : Nat, (⟨D + 1, 0, none⟩ : Addr) ≠ ⟨D, o, none⟩ := fun o e => by injection e with e; omega
  exact ⟨⟨by rw [World.cell?_setCell_other _ _ _ _ (ne 0)]; exact k0, by rw [World.cell?_setCell_other _ _ _ _ (ne 1)]; exact k1, by rw [World.cell?_setCell_other _ _ _ _ (ne 2)]; exact k2, by rw [World.cell?_setCell_other _ _ _ _ (ne 3)]; exact k3, by rw [World.cell?_setCell_other _ _ _ _ (ne 4)]; exact k4, by rw [World.cell?_setCell_other _ _ _ _ (ne 5)]; exact k5, by rw [World.cell?_setCell_other _ _ _ _ (ne 6)]; exact k6⟩,
    World.cell?_setCell_same _ _ _ h2, by rw [World.cell?_setCell_other _ _ _ _ (by simp)]; exact h3, fun o => by rw [World.frozen?_setCell]; exact h4 o, fun o => by rw [World.frozen?_setCell]; exact h5 o, by simpa using h6, h7, h8.setCell (by show w.heap.size ≤ D + 1; omega) _⟩
theorem SW.sure1 (h : SW w D W d u0 u1) (x : ByteArray) : SW w D (W.setCell ⟨D + 1, 1, none⟩ (.string x)) d u0 x := by
  obtain ⟨⟨k0, k1, k2, k3, k4, k5, k6⟩, h2, h3, h4, h5, h6, h7, h8⟩ := h
  have ne : ∀ o : Nat, (⟨D + 1, 1, none⟩ : Addr) ≠ ⟨D, o, none⟩ := fun o e => by injection e with e; omega
  exact ⟨⟨by rw [World.cell?_setCell_other _ _ _ _ (ne 0)]; exact k0, by rw [World.cell?_setCell_other _ _ _ _ (ne 1)]; exact k1, by rw [World.cell?_setCell_other _ _ _ _ (ne 2)]; exact k2, by rw [World.cell?_setCell_other _ _ _ _ (ne 3)]; exact k3, by rw [World.cell?_setCell_other _ _ _ _ (ne 4)]; exact k4, by rw [World.cell?_setCell_other _ _ _ _ (ne 5)]; exact k5, by rw [World.cell?_setCell_other _ _ _ _ (ne 6)]; exact k6⟩,
    by rw [World.cell?_setCell_other _ _ _ _ (by simp)]; exact h2, World.cell?_setCell_same _ _ _ h3, fun o => by rw [World.frozen?_setCell]; exact h4 o, fun o => by rw [World.frozen?_setCell]; exact h5 o, by simpa using h6, h7, h8.setCell (by show w.heap.size ≤ D + 1; omega) _⟩
theorem SW.put (h : SW w D W d u0 u1) (r : Dm.Dk) : SW w D (((((((W.setCell ⟨D, 0, none⟩ (.string r.b0)).setCell ⟨D, 1, none⟩ (.int .i64 r.s0)).setCell ⟨D, 2, none⟩ (.string r.b1)).setCell ⟨D, 3, none⟩ (.int .i64 r.s1)).setCell ⟨D, 4, none⟩ (.int .i64 r.cap)).setCell ⟨D, 5, none⟩ (.int .i64 r.left)).setCell ⟨D, 6, none⟩ (.bool r.down)) r u0 u1 := by
  obtain ⟨h1, h2, h3, h4, h5, h6, h7, h8⟩ := h
  have ne : ∀ k o : Nat, (⟨D, o, none⟩ : Addr) ≠ ⟨D + 1, k, none⟩ := fun k o e => by injection e with e; omega
  refine ⟨Seven.all h1 _ _ _ _ _ _ _, ?_, ?_, fun o => (fz7 _ _ _ _ _ _ _ _ _ _).trans (h4 o), fun o => (fz7 _ _ _ _ _ _ _ _ _ _).trans (h5 o), by simpa using h6, h7, ?_⟩
  · simp only [World.cell?_setCell_other _ _ _ _ (ne 0 _)]; exact h2
  · simp only [World.cell?_setCell_other _ _ _ _ (ne 1 _)]; exact h3
  · exact ((((((h8.setCell h7 _).setCell h7 _).setCell h7 _).setCell h7 _).setCell h7 _).setCell h7 _).setCell h7 _
end
theorem Four.put {W : World} {X D : Nat} {a0 a1 a2 a3 v0 v1 v2 v3 v4 v5 v6 : Value} (h : Four W X a0 a1 a2 a3) (hne : D ≠ X) : Four (((((((W.setCell ⟨D, 0, none⟩ v0).setCell ⟨D, 1, none⟩ v1).setCell ⟨D, 2, none⟩ v2).setCell ⟨D, 3, none⟩ v3).setCell ⟨D, 4, none⟩ v4).setCell ⟨D, 5, none⟩ v5).setCell ⟨D, 6, none⟩ v6) X a0 a1 a2 a3 := by
  have ne : ∀ k o : Nat, (⟨D, o, none⟩ : Addr) ≠ ⟨X, k, none⟩ := fun k o e => by injection e with e; exact hne e
  obtain ⟨h0, h1, h2, h3⟩ := h
  refine ⟨?_, ?_, ?_, ?_⟩
  · simp only [World.cell?_setCell_other _ _ _ _ (ne 0 _)]; exact h0
  · simp only [World.cell?_setCell_other _ _ _ _ (ne 1 _)]; exact h1
  · simp only [World.cell?_setCell_other _ _ _ _ (ne 2 _)]; exact h2
  · simp only [World.cell?_setCell_other _ _ _ _ (ne 3 _)]; exact h3
theorem cell_keep {W w1 : World} {a : Addr} {v : Value} (h : W.cell? a = some v) (hb : Below W.heap.size W w1) : w1.cell? a = some v := (hb.cell (World.block_lt_of_cell? W a h)).trans h
set_option maxRecDepth 100000 in
set_option maxHeartbeats 2000000 in
theorem sure_main (most : Int) (xs : List Dm.Wr) (nv capv : Nat) (av : Option Addr) (n cap : Nat) (a : Option Addr) (hn : ¬ 200 < (n : Int)) (hxn : xs.length = nv) (hx100 : nv ≤ 100) (hm0 : 0 ≤ most) (hm1 : most ≤ 131072) (w : World)
    (HV : Hid (∀ W, Below w.heap.size w W → ∀ j, j < nv → ∃ (x : Dm.Wr) (b off : Nat), xs[j]? = some x ∧ av = some ⟨b, off, none⟩ ∧ W.cell? ⟨b, off + j * 4, none⟩ = some (.int .i8 x.op) ∧ W.cell? ⟨b, off + j * 4 + 1, none⟩ = some (.int .i64 x.zone) ∧ W.cell? ⟨b, off + j * 4 + 2, none⟩ = some (.string x.b) ∧ W.cell? ⟨b, off + j * 4 + 3, none⟩ = some (.int .i64 x.n)))
    (HX : Hid (∀ x ∈ xs, (x.b.size : Int) ≤ 9000000000000000000))
    (HC : Hid (∀ W, Below w.heap.size w W → ∀ j, j + 1 < n → ∃ (b off : Nat) (p q : Int), a = some ⟨b, off, none⟩ ∧ W.cell? ⟨b, off + j, none⟩ = some (.int .i64 p) ∧ W.cell? ⟨b, off + j + 1, none⟩ = some (.int .i64 q)))
    (cW : ∀ w', Below w.heap.size w w' → Calls Try.prog 9 #[.slice av nv capv] w' fun e w'' => e = .returned (.bool false) ∧ w' = w'')
    (cN : ∀ w, Calls Try.prog 14 #[.int .i64 most] w fun e w' => e = .returned (.tuple #[.agg #[.string ⟨#[]⟩, .int .i64 0, .string ⟨#[]⟩, .int .i64 0, .int .i64 most, .int .i64 (-1), .bool false], .int .i64 0]) ∧ Below w.heap.size w w') :
    Calls Try.prog 4 #[.int .i64 most, .slice av nv capv, .slice a n cap] w (LawTrue w) := by
  go_enter Try.func4, Try.ntmps4
  go_wp2_with fail
  refine (cW _ ?_).mono ?_
  · exact Below.refl _ _
  rintro e w1 ⟨rfl, rfl⟩
  clear cW
  go_wp2_with fail
  refine (cN _).mono ?_
  rintro e w1 ⟨rfl, hb1⟩
  clear cN
  go_wp2_with fail
  have hS : SW w w1.heap.size ((w1.alloc (.cells #[.string ⟨#[]⟩, .int .i64 0, .string ⟨#[]⟩, .int .i64 0, .int .i64 most, .int .i64 (-1), .bool false] 26)).alloc (.cells #[.string ⟨#[]⟩, .string ⟨#[]⟩] 39)) ⟨⟨#[]⟩, 0, ⟨#[]⟩, 0, most, -1, false⟩ ⟨#[]⟩ ⟨#[]⟩ :=
    ⟨⟨by go_simp, by go_simp, by go_simp, by go_simp, by go_simp, by go_simp, by go_simp⟩, by go_simp, by go_simp, fun o => by go_simp, fun o => by go_simp, by simp, hb1.size, bbox (bbox hb1 _) _⟩
  have hI := Dm.inv_new most hm0 hm1
  clear hb1
  generalize ((w1.alloc (.cells #[.string ⟨#[]⟩, .int .i64 0, .string ⟨#[]⟩, .int .i64 0, .int .i64 most, .int .i64 (-1), .bool false] 26)).alloc (.cells #[.string ⟨#[]⟩, .string ⟨#[]⟩] 39)) = W0 at *
  generalize w1.heap.size = D at *
  go_loopw [42] (fun k wr => ∃ j : Nat, j ≤ nv ∧ k = .int .i64 (j : Int) ∧ ∃ (d : Dm.Dk) (u0 u1 : ByteArray), SW w D wr d u0 u1 ∧ Dm.Inv d u0 u1 ∧ Is64 d.left) (fun k _ => nv - (intOf k).toNat)
  case atStart => exact ⟨0, by omega, rfl, _, _, _, hS, hI, is_m1⟩
  case round =>
    clear hS hI
    obtain ⟨j, hj, rfl, ⟨c0, t0, c1, t1, cc, cl, cd⟩, u0, u1, hS, hI, hl⟩ := hrel
    by_cases hlt : j < nv
    · obtain ⟨⟨op, zone, xb, xn⟩, b, off, hxi, rfl, x0, x1, x2, x3⟩ := HV.out wr hS.2.2.2.2.2.2.2 j hlt
      have hxs := HX.out _ (List.mem_of_getElem? hxi)
      obtain ⟨⟨q0, q1, q2, q3, q4, q5, q6⟩, s0, s1, hf, hf1, hz, hwD, hB⟩ := id hS
      have hz0 : D < wr.heap.size := by omega
      simp only at hxs x0 x1 x2 x3 q0 q1 q2 q3 q4 q5 q6 hl
      obtain ⟨⟨⟨e0, p0, e1, p1, ec, el, ed⟩, ke⟩, hr⟩ : ∃ r, Dm.doF ⟨c0, t0, c1, t1, cc, cl, cd⟩ ⟨op, zone, xb, xn⟩ = r := ⟨_, rfl⟩
      have CD : ∀ w, Calls Try.prog 15 #[.agg #[.string c0, .int .i64 t0, .string c1, .int .i64 t1, .int .i64 cc, .int .i64 cl, .bool cd], .agg #[.int .i8 op, .int .i64 zone, .string xb, .int .i64 xn]] w fun e w' =>
          e = .returned (.tuple #[.agg #[.string e0, .int .i64 p0, .string e1, .int .i64 p1, .int .i64 ec, .int .i64 el, .bool ed], .int .i64 ke]) ∧ Below w.heap.size w w' := fun w => cDo ⟨c0, t0, c1, t1, cc, cl, cd⟩ ⟨op, zone, xb, xn⟩ _ hr hl hxs w
      have hel := do_left64 hr hl
      have HR := Lib.hid hr
      have HI := Lib.hid hI
      clear hr hI hxi
      go_wp2_with fail
      refine (CD _).mono ?_
      rintro e w2 ⟨rfl, hb2⟩
      clear CD
      have hx2 : Four w2 wr.heap.size (.int .i8 op) (.int .i64 zone) (.string xb) (.int .i64 xn) := Four.below (W := _) ⟨by go_simp, by go_simp, by go_simp, by go_simp⟩ hb2 (by simp)
      replace hS := (hS.alloc _).step hb2
      have hzX : wr.heap.size < w2.heap.size := by have := hb2.size; simp at this; omega
      clear hb2 q0 q1 q2 q3 q4 q5 q6 s0 s1 hf hf1 hz hB x0 x1 x2 x3
      obtain ⟨x0, x1, x2, x3⟩ := id hx2
      obtain ⟨⟨q0, q1, q2, q3, q4, q5, q6⟩, s0, s1, hf, hf1, hz, hwD, hB⟩ := id hS
      simp only at q0 q1 q2 q3 q4 q5 q6
      have hzD : D < w2.heap.size := by omega
      have hS' := hS.alloc (.cells #[.string e0, .int .i64 p0, .string e1, .int .i64 p1, .int .i64 ec, .int .i64 el, .bool ed] 26)
      have hx2' : Four (w2.alloc (.cells #[.string e0, .int .i64 p0, .string e1, .int .i64 p1, .int .i64 ec, .int .i64 el, .bool ed] 26)) wr.heap.size (.int .i8 op) (.int .i64 zone) (.string xb) (.int .i64 xn) := hx2.below ((Below.refl _ _).alloc (Nat.le_refl _) _) hzX
      go_upto_if 54 with fail
      go_cut [] from 43 to 152 (fun wx => ∃ d', SW w D wx d' u0 u1 ∧ Four wx wr.heap.size (.int .i8 op) (.int .i64 zone) (.string xb) (.int .i64 xn) ∧ ((ke = 0 ∧ d' = (⟨e0, p0, e1, p1, ec, el, ed⟩ : Dm.Dk)) ∨ (ke ≠ 0 ∧ d' = (⟨c0, t0, c1, t1, cc, cl, cd⟩ : Dm.Dk))))
      case first =>
        by_cases hk : ke = 0
        · subst hk
          go_wp2_with fail
          go_meet
          exact ⟨_, (hS.put ⟨e0, p0, e1, p1, ec, el, ed⟩).alloc _, (hx2.put (by omega)).below ((Below.refl _ _).alloc (Nat.le_refl _) _) (by simpa using hzX), Or.inl ⟨by first | rfl | trivial, rfl⟩⟩
        · have hk0 : (ke == 0) = false := by simpa using hk
          go_wp2_with fail
          go_meet
          exact ⟨_, hS', hx2', Or.inr ⟨hk, rfl⟩⟩
      case rest =>
        clear hS hS' hx2 hx2' q0 q1 q2 q3 q4 q5 q6 s0 s1 hf hf1 hz hB x0 x1 x2 x3 hzD
        obtain ⟨d1, hS, hx2, hd1⟩ := hcut
        have HD := Lib.hid hd1
        clear hd1
        obtain ⟨x0, x1, x2, x3⟩ := id hx2
        go_upto_region 13 with fail
        go_cut [13, 62] from 43 to 152 (fun e c wx => e = .int .i64 ke ∧ ∃ cb : Bool, c = .bool cb ∧ (cb = true ↔ (ke = 0 ∧ op = 2)) ∧ wc = wx)
        case first =>
          by_cases hk : ke = 0
          · have hk0 : (ke == 0) = true := by simpa using hk
            by_cases ho : op = 2
            · have ho0 : (op == 2) = true := by simpa using ho
              go_wp2_with fail
              go_meet
              exact ⟨by simp [hk], true, by first | rfl | simp, by simp [hk, ho], rfl⟩
            · have ho0 : (op == 2) = false := by simpa using ho
              go_wp2_with fail
              go_meet
              exact ⟨by simp [hk], false, by first | rfl | simp, by simp [ho], rfl⟩
          · have hk0 : (ke == 0) = false := by simpa using hk
            go_wp2_with fail
            go_meet
            exact ⟨rfl, false, by first | rfl | simp, by simp [hk], rfl⟩
        case rest =>
          obtain ⟨rfl, cb, rfl, hcb, rfl⟩ := hcut
          have HCB := Lib.hid hcb
          clear hcb
          go_upto_if 62 with fail
          go_cut [] from 43 to 152 (fun wx => ∃ (d' : Dm.Dk) (v0 v1 : ByteArray), SW w D wx d' v0 v1 ∧ Dm.Inv d' v0 v1 ∧ Is64 d'.left)
          case first =>
            cases cb
            case true =>
              have hc := HCB.out.1 rfl
              obtain ⟨hk, ho⟩ := hc
              have hd1 : d1 = (⟨e0, p0, e1, p1, ec, el, ed⟩ : Dm.Dk) := by
                rcases HD.out with k | k
                · exact k.2
                · exact absurd hk k.1
              subst hd1
              have ds := Dm.do_sure (d' := ⟨e0, p0, e1, p1, ec, el, ed⟩) HI.out (by rw [HR.out, hk])
              obtain ⟨⟨q0, q1, q2, q3, q4, q5, q6⟩, s0, s1, hf, hf1, hz, hwD, hB⟩ := id hS
              have g0 := hf1 0
              have g1 := hf1 1
              have DS := Lib.hid ds.2
              rcases ds.1 with h0 | h0
              · obtain rfl : zone = 0 := h0
                have hb0 : bits .and .i64 0 1 = 0 := by kernel_rfl
                clear ds hk HD
                go_wp2_with fail
                go_meet
                exact ⟨_, ⟨#[]⟩, u1, hS.sure0 _, by simpa [ho] using DS.out, hel⟩
              · obtain rfl : zone = 1 := h0
                have hb0 : bits .and .i64 1 1 = 1 := by kernel_rfl
                clear ds hk HD
                go_wp2_with fail
                go_meet
                exact ⟨_, u0, ⟨#[]⟩, hS.sure1 _, by simpa [ho] using DS.out, hel⟩
            case false =>
              have hc : ¬ (ke = 0 ∧ op = 2) := fun k => by cases HCB.out.2 k
              have fin : Dm.Inv d1 u0 u1 ∧ Is64 d1.left := by
                rcases HD.out with ⟨hk, rfl⟩ | ⟨hk, rfl⟩
                · have ds := Dm.do_sure (d' := ⟨e0, p0, e1, p1, ec, el, ed⟩) HI.out (by rw [HR.out, hk])
                  have ho : ¬ op = 2 := fun k => hc ⟨hk, k⟩
                  exact ⟨by simpa [ho] using ds.2, hel⟩
                · exact ⟨HI.out, hl⟩
              have FIN := Lib.hid fin
              clear fin hc HD
              go_wp2_with fail
              go_meet
              exact ⟨d1, u0, u1, hS, FIN.out.1, FIN.out.2⟩
          case rest =>
            clear hS hx2 x0 x1 x2 x3 HD
            obtain ⟨⟨c0, t0, c1, t1, cc, cl, cd⟩, u0, u1, hS, hI, hl⟩ := hcut
            go_upto_region 15 with fail
            go_cut [78] from 43 to 152 (fun c wx => ∃ cr : Bool, c = .bool cr ∧ wc = wx ∧ (cr = true → j + 1 < n))
            case first =>
              by_cases hc : j + 1 < n
              · obtain ⟨bc, offc, p, q, rfl, y0, y1⟩ := HC.out wc hS.2.2.2.2.2.2.2 j hc
                have hc' : (j : Int) + 1 < n := by omega
                have hc2 : (j : Int) < n := by omega
                by_cases hp : 0 ≤ p
                · go_wp2_with fail
                  go_meet
                  exact ⟨true, by simp [hp], rfl, fun _ => hc⟩
                · go_wp2_with fail
                  go_meet
                  exact ⟨false, by simp [hp], rfl, fun h => by cases h⟩
              · have hc' : ¬ ((j : Int) + 1 < n) := by omega
                go_wp2_with fail
                go_meet
                exact ⟨false, by simp, rfl, fun h => by cases h⟩
            case rest =>
              obtain ⟨cr, rfl, rfl, hcr⟩ := hcut
              have HCR := Lib.hid hcr
              clear hcr
              go_upto_if 78 with fail
              go_cut [13] from 43 to 152 (fun c wx => ∃ d' : Dm.Dk, SW w D wx d' u0 u1 ∧ Dm.Inv d' u0 u1 ∧ Is64 d'.left)
              case first =>
                cases cr
                · go_wp2_with fail
                  go_meet
                  exact ⟨_, hS, hI, hl⟩
                · have hc := HCR.out rfl
                  obtain ⟨bc, offc, p, q, rfl, y0, y1⟩ := HC.out wc hS.2.2.2.2.2.2.2 j hc
                  obtain ⟨⟨m0, l0, m1, l1, mc, ml, md⟩, hce, hI2, hl2⟩ := Dm.crash_sure hI p q
                  have CC : ∀ w, Calls Try.prog 16 #[.agg #[.string c0, .int .i64 t0, .string c1, .int .i64 t1, .int .i64 cc, .int .i64 cl, .bool cd], .int .i64 p, .int .i64 q] w fun e w' =>
                      e = .returned (.tuple #[.agg #[.string m0, .int .i64 l0, .string m1, .int .i64 l1, .int .i64 mc, .int .i64 ml, .bool md], .int .i64 0]) ∧ Below w.heap.size w w' := fun w => by
                    have := crash_any ⟨c0, t0, c1, t1, cc, cl, cd⟩ p q w
                    rw [hce] at this; exact this
                  have HI2 := Lib.hid hI2
                  have HL2 := Lib.hid hl2
                  have hc2 : (j : Int) < n := by omega
                  have hc3 : (j : Int) + 1 < n := by omega
                  have hc4 : (0 : Int) ≤ (j : Int) + 1 := by omega
                  have hc5 : ((j : Int) + 1).toNat = j + 1 := by omega
                  have hc6 : IntKind.i64.wrap ((j : Int) + 1) = (j : Int) + 1 := by rw [IntKind.wrap_i64]; omega
                  have y1' : wc.cell? ⟨bc, offc + (j + 1), none⟩ = some (.int .i64 q) := y1
                  obtain ⟨⟨q0, q1, q2, q3, q4, q5, q6⟩, s0, s1, hf, hf1, hz, hwD, hB⟩ := id hS
                  simp only at q0 q1 q2 q3 q4 q5 q6
                  clear hI hI2 hl2 hce hf hf1 hB HCR
                  go_wp2_with fail
                  go_region_law (first | (go_simp; go_at_call 16; refine (CC _).mono ?_; rintro e w' ⟨rfl, hb⟩; (first | (replace hS := SW.step hS hb) | (replace hS := SW.step hS.drew hb)); have a0 := hS.1.1; have a1 := hS.1.2.1; have a2 := hS.1.2.2.1; have a3 := hS.1.2.2.2.1; have a4 := hS.1.2.2.2.2.1; have a5 := hS.1.2.2.2.2.2.1; have a6 := hS.1.2.2.2.2.2.2; have b0 := hS.2.2.2.1 0; have b1 := hS.2.2.2.1 1; have b2 := hS.2.2.2.1 2; have b3 := hS.2.2.2.1 3; have b4 := hS.2.2.2.1 4; have b5 := hS.2.2.2.1 5; have b6 := hS.2.2.2.1 6))
                  all_goals
                    go_wp2_with fail
                    go_meet
                    exact ⟨_, hS.put ⟨m0, l0, m1, l1, mc, ml, md⟩, HI2.out, by rw [show ml = -1 from HL2.out]; exact is_m1⟩
              case rest =>
                clear hS hI hl HCR
                obtain ⟨⟨c0, t0, c1, t1, cc, cl, cd⟩, hS, hI, hl⟩ := hcut
                have CK := fun w => check_yes c0 t0 c1 t1 cc cl cd w ((ok_iff _).1 hI.1)
                obtain ⟨⟨q0, q1, q2, q3, q4, q5, q6⟩, s0, s1, hf, hf1, hz, hwD, hB⟩ := id hS
                simp only at q0 q1 q2 q3 q4 q5 q6 hl
                go_wp2_with fail
                go_loopw [97] (fun k wr => ∃ v0 v1, SW w D wr ⟨c0, t0, c1, t1, cc, cl, cd⟩ v0 v1 ∧ Dm.Inv ⟨c0, t0, c1, t1, cc, cl, cd⟩ v0 v1 ∧ (k = .int .i64 0 ∨ k = .int .i64 1 ∨ k = .int .i64 2)) (fun k _ => 2 - (intOf k).toNat)
                case atStart => exact ⟨u0, u1, hS, hI, Or.inl rfl⟩
                case round =>
                  clear hS hI q0 q1 q2 q3 q4 q5 q6 s0 s1 hf hf1 hz hB
                  obtain ⟨v0, v1, hS, hI2, hk3⟩ := hrel
                  have HI2 := Lib.hid hI2
                  obtain ⟨ho, ⟨g0, e0x⟩, g1, e1x⟩ := id hI2
                  obtain ⟨_, ⟨_, o1, o2⟩, _, o3, o4⟩ := (Dm.ok_iff' _).1 ho
                  simp only at g0 e0x g1 e1x o1 o2 o3 o4
                  have f00 : ¬ ((c0.size : Int) < v0.size) := by omega
                  have f01 : ¬ (t0 < v0.size) := by omega
                  have f02 : ¬ ((c0.size : Int) < t0) := by omega
                  have f03 : (v0.size : Int) ≤ c0.size := by omega
                  have f04 : t0 ≤ c0.size := by omega
                  have f10 : ¬ ((c1.size : Int) < v1.size) := by omega
                  have f11 : ¬ (t1 < v1.size) := by omega
                  have f12 : ¬ ((c1.size : Int) < t1) := by omega
                  have f13 : (v1.size : Int) ≤ c1.size := by omega
                  have f14 : t1 ≤ c1.size := by omega
                  have f05 : ¬ (c0.size < v0.size) := by omega
                  have f06 : v0.size ≤ c0.size := by omega
                  have f15 : ¬ (c1.size < v1.size) := by omega
                  have f16 : v1.size ≤ c1.size := by omega
                  clear hI2 ho
                  rcases hk3 with rfl | rfl | rfl
                  · have hi : ∀ w, (Instr.index 24 (.agg #[.string c0, .int .i64 t0, .string c1, .int .i64 t1]) (.int .i64 0)).run Try.prog w = .ok (.agg #[.string c0, .int .i64 t0]) w := fun _ => by kernel_rfl
                    have hS2 := hS.alloc (.cells #[.string c0, .int .i64 t0] 23)
                    have z0 : (wr.alloc (.cells #[.string c0, .int .i64 t0] 23)).cell? ⟨wr.heap.size, 0, none⟩ = some (.string c0) := by simp
                    have z1 : (wr.alloc (.cells #[.string c0, .int .i64 t0] 23)).cell? ⟨wr.heap.size, 1, none⟩ = some (.int .i64 t0) := by simp
                    go_wp2_with fail
                    generalize (wr.alloc (.cells #[.string c0, .int .i64 t0] 23)) = W3 at *
                    generalize wr.heap.size = Z at *
                    obtain ⟨⟨q0, q1, q2, q3, q4, q5, q6⟩, s0, s1, hf, hf1, hz, hwD, hB⟩ := id hS2
                    simp only at q0 q1 q2 q3 q4 q5 q6
                    have y0 := z0
                    have y1 := z1
                    have q0 := cell_regrown q0
                    have q1 := cell_regrown q1
                    have q2 := cell_regrown q2
                    have q3 := cell_regrown q3
                    have q4 := cell_regrown q4
                    have q5 := cell_regrown q5
                    have q6 := cell_regrown q6
                    have s0 := cell_regrown s0
                    have s1 := cell_regrown s1
                    have z0 := cell_regrown z0
                    have z1 := cell_regrown z1
                    have k0 := rg (W := W3) CK
                    have HS2 := Lib.hid hS2
                    clear hS2 hf hf1 hB hS CK
                    refine wp_region_quiet_below (by kernel_rfl) (by kernel_rfl) ?_
                    repeat (quiet_step (first | (go_at_call 17; exact k0 _ _)))
                    refine wpQuiet_nil ?_
                    intro _ hw'
                    obtain ⟨⟨dq, osq⟩, hw''⟩ := hw'
                    subst hw''
                    have hS4 := HS2.out.step (below_regrown _ dq osq)
                    have r0 := z0 dq osq
                    have r1 := z1 dq osq
                    clear q0 q1 q2 q3 q4 q5 q6 s0 s1 z0 z1 k0 y0 y1 hz
                    simp only at r0 r1 hS4 ⊢
                    generalize («Sort».grow (redrawn W3 dq) osq) = W4 at *
                    obtain ⟨⟨q0, q1, q2, q3, q4, q5, q6⟩, s0, s1, hf, hf1, hz, hwD, hB⟩ := id hS4
                    have g0 := hf1 0
                    have HS4 := Lib.hid hS4
                    clear hS4 hf hf1 hB q0 q1 q2 q3 q4 q5 q6
                    go_wp2_with fail
                    go_roundw
                    case rel => exact ⟨c0.extract 0 t0.toNat, v1, HS4.out.sure0 _, Dm.inv_left HI2.out, Or.inr (Or.inl (by go_num))⟩
                    case measure => simp [intOf] <;> omega
                  · have hi : ∀ w, (Instr.index 24 (.agg #[.string c0, .int .i64 t0, .string c1, .int .i64 t1]) (.int .i64 1)).run Try.prog w = .ok (.agg #[.string c1, .int .i64 t1]) w := fun _ => by kernel_rfl
                    have hS2 := hS.alloc (.cells #[.string c1, .int .i64 t1] 23)
                    have z0 : (wr.alloc (.cells #[.string c1, .int .i64 t1] 23)).cell? ⟨wr.heap.size, 0, none⟩ = some (.string c1) := by simp
                    have z1 : (wr.alloc (.cells #[.string c1, .int .i64 t1] 23)).cell? ⟨wr.heap.size, 1, none⟩ = some (.int .i64 t1) := by simp
                    go_wp2_with fail
                    generalize (wr.alloc (.cells #[.string c1, .int .i64 t1] 23)) = W3 at *
                    generalize wr.heap.size = Z at *
                    obtain ⟨⟨q0, q1, q2, q3, q4, q5, q6⟩, s0, s1, hf, hf1, hz, hwD, hB⟩ := id hS2
                    simp only at q0 q1 q2 q3 q4 q5 q6
                    have y0 := z0
                    have y1 := z1
                    have q0 := cell_regrown q0
                    have q1 := cell_regrown q1
                    have q2 := cell_regrown q2
                    have q3 := cell_regrown q3
                    have q4 := cell_regrown q4
                    have q5 := cell_regrown q5
                    have q6 := cell_regrown q6
                    have s0 := cell_regrown s0
                    have s1 := cell_regrown s1
                    have z0 := cell_regrown z0
                    have z1 := cell_regrown z1
                    have k0 := rg (W := W3) CK
                    have HS2 := Lib.hid hS2
                    clear hS2 hf hf1 hB hS CK
                    refine wp_region_quiet_below (by kernel_rfl) (by kernel_rfl) ?_
                    repeat (quiet_step (first | (go_at_call 17; exact k0 _ _)))
                    refine wpQuiet_nil ?_
                    intro _ hw'
                    obtain ⟨⟨dq, osq⟩, hw''⟩ := hw'
                    subst hw''
                    have hS4 := HS2.out.step (below_regrown _ dq osq)
                    have r0 := z0 dq osq
                    have r1 := z1 dq osq
                    clear q0 q1 q2 q3 q4 q5 q6 s0 s1 z0 z1 k0 y0 y1 hz
                    simp only at r0 r1 hS4 ⊢
                    generalize («Sort».grow (redrawn W3 dq) osq) = W4 at *
                    obtain ⟨⟨q0, q1, q2, q3, q4, q5, q6⟩, s0, s1, hf, hf1, hz, hwD, hB⟩ := id hS4
                    have g0 := hf1 1
                    have HS4 := Lib.hid hS4
                    clear hS4 hf hf1 hB q0 q1 q2 q3 q4 q5 q6
                    go_wp2_with fail
                    go_roundw
                    case rel => exact ⟨v0, c1.extract 0 t1.toNat, HS4.out.sure1 _, Dm.inv_right HI2.out, Or.inr (Or.inr (by go_num))⟩
                    case measure => simp [intOf] <;> omega
                  · clear CK
                    go_wp2_with fail
                    go_roundw
                    case rel => exact ⟨j + 1, by omega, by push_cast; try go_num, _, v0, v1, hS, HI2.out, hl⟩
                    case measure => simp [intOf]; omega
    · go_wp2_with fail
      refine (wakes_any _).mono ?_
      rintro e w3 ⟨rfl, hb3⟩
      go_wp2_with fail
      go_ret
      exact ⟨rfl, bn hS.2.2.2.2.2.2.2 hb3⟩
end Go.Proofs.Ytehgnlocekcakaa
