/- The walks of the document's disk: crash, whole. -/
import Derived.Test.YtehgnlocekcakaaDkRf
import Derived.BigRegion
namespace Go.Proofs.Ytehgnlocekcakaa
open Go.RowKit
open Go
set_option linter.unusedVariables false
theorem fr_alloc {W : World} {a : Addr} {o : Obj} (hlt : a.block < W.heap.size) (h : W.frozen? a = false) : (W.alloc o).frozen? a = false :=
  (((Below.refl W.heap.size W).alloc (Nat.le_refl _) o).frozen hlt).trans h
def RcRel (K : Nat) (j : Int) (b0 : ByteArray) (s0 : Int) (b1 : ByteArray) (s1 cap left : Int) (down : Bool) (a b : Int) (w wr : World) : Prop :=
  CrRel j b0 s0 b1 s1 cap left down a b w wr ∧ wr.cell? ⟨K, 0, none⟩ = some (.int .i64 a) ∧ wr.cell? ⟨K, 1, none⟩ = some (.int .i64 b) ∧ K < wr.heap.size ∧ w.heap.size + 1 < K
theorem rc_step0 {K : Nat} {b0 : ByteArray} {s0 : Int} {b1 : ByteArray} {s1 cap left : Int} {down : Bool} {a b : Int} {w wr : World} {T U : Int} {o : Obj} (h : RcRel K 0 b0 s0 b1 s1 cap left down a b w wr) (hT : Dm.left1 b0 s0 a = T) (hU : Dm.left1 b0 s0 a = U) :
    RcRel K 1 b0 s0 b1 s1 cap left down a b w ((((wr.setCell ⟨w.heap.size, 0, none⟩ (.string (b0.extract 0 T.toNat))).setCell ⟨w.heap.size, 1, none⟩ (.int .i64 U)).alloc o).drew) := by
  subst hT
  subst hU
  obtain ⟨⟨hD, hR, hf, hf2, hz, hB⟩, k0, k1, k2, k3⟩ := h
  refine ⟨⟨?_, ?_, ?_, ?_, ?_, ?_⟩, ?_, ?_, ?_, k3⟩
  · have := (((hD.s0 (.string (b0.extract 0 (Dm.left1 b0 s0 a).toNat))).s1 (.int .i64 (Dm.left1 b0 s0 a))).alloc1 (by simp; omega) o).drew1
    simpa using this
  · exact (((hR.far (by omega) _).far (by omega) _).alloc1 (by simp; omega) o).drew1
  · intro q; exact fr_alloc (by simp; omega) (by simpa using hf q)
  · intro q; exact fr_alloc (by simp; omega) (by simpa using hf2 q)
  · simp; omega
  · exact (bbox ((hB.setCell (by simp) _).setCell (by simp) _) o).drew
  · exact (World.cell?_alloc_lt _ _ _ (by simp; omega)).trans ((World.cell?_setCell_other _ _ _ _ (fun e => by have := congrArg Addr.block e; simp only at this; omega)).trans ((World.cell?_setCell_other _ _ _ _ (fun e => by have := congrArg Addr.block e; simp only at this; omega)).trans k0))
  · exact (World.cell?_alloc_lt _ _ _ (by simp; omega)).trans ((World.cell?_setCell_other _ _ _ _ (fun e => by have := congrArg Addr.block e; simp only at this; omega)).trans ((World.cell?_setCell_other _ _ _ _ (fun e => by have := congrArg Addr.block e; simp only at this; omega)).trans k1))
  · simp; omega
theorem rc_step1 {K : Nat} {b0 : ByteArray} {s0 : Int} {b1 : ByteArray} {s1 cap left : Int} {down : Bool} {a b : Int} {w wr : World} {T U : Int} {o : Obj} (h : RcRel K 1 b0 s0 b1 s1 cap left down a b w wr) (hT : Dm.left1 b1 s1 b = T) (hU : Dm.left1 b1 s1 b = U) :
    RcRel K 2 b0 s0 b1 s1 cap left down a b w ((((wr.setCell ⟨w.heap.size, 2, none⟩ (.string (b1.extract 0 T.toNat))).setCell ⟨w.heap.size, 3, none⟩ (.int .i64 U)).alloc o).drew) := by
  subst hT
  subst hU
  obtain ⟨⟨hD, hR, hf, hf2, hz, hB⟩, k0, k1, k2, k3⟩ := h
  refine ⟨⟨?_, ?_, ?_, ?_, ?_, ?_⟩, ?_, ?_, ?_, k3⟩
  · have := (((hD.s2 (.string (b1.extract 0 (Dm.left1 b1 s1 b).toNat))).s3 (.int .i64 (Dm.left1 b1 s1 b))).alloc1 (by simp; omega) o).drew1
    simpa using this
  · exact (((hR.far (by omega) _).far (by omega) _).alloc1 (by simp; omega) o).drew1
  · intro q; exact fr_alloc (by simp; omega) (by simpa using hf q)
  · intro q; exact fr_alloc (by simp; omega) (by simpa using hf2 q)
  · simp; omega
  · exact (bbox ((hB.setCell (by simp) _).setCell (by simp) _) o).drew
  · exact (World.cell?_alloc_lt _ _ _ (by simp; omega)).trans ((World.cell?_setCell_other _ _ _ _ (fun e => by have := congrArg Addr.block e; simp only at this; omega)).trans ((World.cell?_setCell_other _ _ _ _ (fun e => by have := congrArg Addr.block e; simp only at this; omega)).trans k0))
  · exact (World.cell?_alloc_lt _ _ _ (by simp; omega)).trans ((World.cell?_setCell_other _ _ _ _ (fun e => by have := congrArg Addr.block e; simp only at this; omega)).trans ((World.cell?_setCell_other _ _ _ _ (fun e => by have := congrArg Addr.block e; simp only at this; omega)).trans k1))
  · simp; omega
set_option maxHeartbeats 1000000 in
theorem rcrash_yes (b0 : ByteArray) (s0 : Int) (b1 : ByteArray) (s1 cap left : Int) (down : Bool) (a b : Int) (w : World) (h : dOk b0 s0 b1 s1 cap) :
    Calls Try.prog 22 #[.agg #[.string b0, .int .i64 s0, .string b1, .int .i64 s1, .int .i64 cap, .int .i64 left, .bool down], .int .i64 a, .int .i64 b] w fun e w' => e = .returned (.tuple #[.agg #[.string (b0.extract 0 (Dm.left1 b0 s0 a).toNat), .int .i64 (Dm.left1 b0 s0 a), .string (b1.extract 0 (Dm.left1 b1 s1 b).toNat), .int .i64 (Dm.left1 b1 s1 b), .int .i64 cap, .int .i64 (-1), .bool false], .int .i64 0]) ∧ Below w.heap.size w w' := by
    have c1 := fun w => rcheck_yes b0 s0 b1 s1 cap left down w h
    obtain ⟨⟨k1, k2⟩, ⟨z1, z2, z3⟩, ⟨y1, y2, y3⟩⟩ := h
    go_enter Try.func22, Try.ntmps22
    go_wp2_with fail
    refine (c1 _).mono ?_
    rintro e w1 ⟨rfl, hb1⟩
    have hB : Below w.heap.size w w1 := bn (bbox (bbox (Below.refl _ _) _) _) hb1
    have hD : Seven w1 w.heap.size (.string b0) (.int .i64 s0) (.string b1) (.int .i64 s1) (.int .i64 cap) (.int .i64 left) (.bool down) :=
      Seven.below (W := _) ⟨by go_simp, by go_simp, by go_simp, by go_simp, by go_simp, by go_simp, by go_simp⟩ hb1 (by simp <;> omega)
    have hR : Seven w1 (w.heap.size + 1) (.string ⟨#[]⟩) (.int .i64 0) (.string ⟨#[]⟩) (.int .i64 0) (.int .i64 0) (.int .i64 0) (.bool false) :=
      Seven.below (W := _) ⟨by go_simp, by go_simp, by go_simp, by go_simp, by go_simp, by go_simp, by go_simp⟩ hb1 (by simp <;> omega)
    have hf : ∀ o, w1.frozen? ⟨w.heap.size, o, none⟩ = false := fun o => (hb1.frozen (p := ⟨w.heap.size, o, none⟩) (by simp <;> omega)).trans (by go_simp)
    have hf2 : ∀ o, w1.frozen? ⟨w.heap.size + 1, o, none⟩ = false := fun o => (hb1.frozen (p := ⟨w.heap.size + 1, o, none⟩) (by simp <;> omega)).trans (by go_simp)
    have hz : w.heap.size + 1 < w1.heap.size := by have := hb1.size; simp at this; omega
    obtain ⟨q0, q1, q2, q3, q4, q5, q6⟩ := hD
    clear hb1 c1
    go_wp2_with fail
    go_loopw [9] (fun k wr => ∃ j : Int, (j = 0 ∨ j = 1 ∨ j = 2) ∧ k = .int .i64 j ∧ RcRel w1.heap.size j b0 s0 b1 s1 cap left down a b w wr) (fun k _ => (2 - intOf k).toNat)
    case atStart => exact ⟨0, by omega, rfl, ⟨Seven.alloc1 ⟨q0, q1, q2, q3, q4, q5, q6⟩ (by omega) _, hR.alloc1 hz _, fun o => fr_alloc (by simp; omega) (hf o), fun o => fr_alloc (by simp; omega) (hf2 o), by simp; omega, bbox hB _⟩, by simp, by simp, by simp, hz⟩
    case round =>
      obtain ⟨j, hj, rfl, hrl⟩ := hrel
      rcases hj with rfl | rfl | rfl
      · have HR := Lib.hid hrl
        obtain ⟨⟨⟨p0, p1, p2, p3, p4, p5, p6⟩, gR, gf, gf2, gz, gB⟩, K0, K1, K2, K3⟩ := hrl
        simp at p0 p1 p2 p3
        have gz0 : w.heap.size < wr.heap.size := by omega
        clear q0 q1 q2 q3 q4 q5 q6 hf hf2
        by_cases ha : a < 0
        · have e1 := Lib.hid (Dm.left1_lo b0 s0 a ha)
          go_wp2_with fail
          go_region
          go_wp2_with fail
          exact ⟨⟨1, by omega, rfl, rc_step0 HR.out (by have e := e1.out; first | exact e | omega | (rw [e]; split <;> omega)) (by have e := e1.out; first | exact e | omega | (rw [e]; split <;> omega))⟩, by simp [intOf]⟩
        · by_cases ha2 : a ≤ b0.size - s0
          · have e1 := Lib.hid (Dm.left1_mid b0 s0 a (by omega) ha2)
            go_wp2_with fail
            go_region
            go_wp2_with fail
            exact ⟨⟨1, by omega, rfl, rc_step0 HR.out (by have e := e1.out; first | exact e | omega | (rw [e]; split <;> omega)) (by have e := e1.out; first | exact e | omega | (rw [e]; split <;> omega))⟩, by simp [intOf]⟩
          · have e1 := Lib.hid (Dm.left1_hi b0 s0 a (by omega) (by omega))
            go_wp2_with fail
            go_region
            go_wp2_with fail
            exact ⟨⟨1, by omega, rfl, rc_step0 HR.out (by have e := e1.out; first | exact e | omega | (rw [e]; split <;> omega)) (by have e := e1.out; first | exact e | omega | (rw [e]; split <;> omega))⟩, by simp [intOf]⟩
      · have HR := Lib.hid hrl
        obtain ⟨⟨⟨p0, p1, p2, p3, p4, p5, p6⟩, gR, gf, gf2, gz, gB⟩, K0, K1, K2, K3⟩ := hrl
        simp at p0 p1 p2 p3
        have gz0 : w.heap.size < wr.heap.size := by omega
        clear q0 q1 q2 q3 q4 q5 q6 hf hf2
        by_cases ha : b < 0
        · have e1 := Lib.hid (Dm.left1_lo b1 s1 b ha)
          go_wp2_with fail
          go_region
          go_wp2_with fail
          exact ⟨⟨2, by omega, rfl, rc_step1 HR.out (by have e := e1.out; first | exact e | omega | (rw [e]; split <;> omega)) (by have e := e1.out; first | exact e | omega | (rw [e]; split <;> omega))⟩, by simp [intOf]⟩
        · by_cases ha2 : b ≤ b1.size - s1
          · have e1 := Lib.hid (Dm.left1_mid b1 s1 b (by omega) ha2)
            go_wp2_with fail
            go_region
            go_wp2_with fail
            exact ⟨⟨2, by omega, rfl, rc_step1 HR.out (by have e := e1.out; first | exact e | omega | (rw [e]; split <;> omega)) (by have e := e1.out; first | exact e | omega | (rw [e]; split <;> omega))⟩, by simp [intOf]⟩
          · have e1 := Lib.hid (Dm.left1_hi b1 s1 b (by omega) (by omega))
            go_wp2_with fail
            go_region
            go_wp2_with fail
            exact ⟨⟨2, by omega, rfl, rc_step1 HR.out (by have e := e1.out; first | exact e | omega | (rw [e]; split <;> omega)) (by have e := e1.out; first | exact e | omega | (rw [e]; split <;> omega))⟩, by simp [intOf]⟩
      · obtain ⟨⟨⟨p0, p1, p2, p3, p4, p5, p6⟩, hR, gf, gf2, gz, hB⟩, K0, K1, K2, K3⟩ := hrl
        simp at p0 p1 p2 p3
        obtain ⟨r0, r1, r2, r3, r4, r5, r6⟩ := id hR
        have gz0 : w.heap.size < wr.heap.size := by omega
        clear q0 q1 q2 q3 q4 q5 q6 hf hf2
        go_wp2
        refine disk_ret (fn := Try.f22) (p := 6) (u := 7) rfl _ _ _ (w.heap.size + 1) _ _ _ _ _ _ _ _ rfl rfl ?_ ?_ _ (fun hb => ⟨rfl, hb⟩)
        · try with_reducible apply Seven.drew1
          with_reducible apply Seven.all
          repeat (with_reducible apply Seven.far)
          with_reducible exact hR
          all_goals omega
        · repeat (refine Below.setCell ?_ (by simp <;> omega) _)
          with_reducible exact hB
theorem rcrash_any (d : Dm.Dk) (a b : Int) (w : World) : Calls Try.prog 22 #[dv d, .int .i64 a, .int .i64 b] w (DoPost (Dm.crashF d a b) w) := by
  obtain ⟨b0, s0, b1, s1, cap, left, down⟩ := d
  by_cases h : Dm.okB ⟨b0, s0, b1, s1, cap, left, down⟩ = true
  · have e : Dm.crashF ⟨b0, s0, b1, s1, cap, left, down⟩ a b = (⟨b0.extract 0 (Dm.left1 b0 s0 a).toNat, Dm.left1 b0 s0 a, b1.extract 0 (Dm.left1 b1 s1 b).toNat, Dm.left1 b1 s1 b, cap, -1, false⟩, 0) := by unfold Dm.crashF; rw [if_pos h]
    rw [e]; exact rcrash_yes b0 s0 b1 s1 cap left down a b w ((ok_iff _).1 h)
  · have e : Dm.crashF ⟨b0, s0, b1, s1, cap, left, down⟩ a b = (Dm.zero, 2) := by unfold Dm.crashF; rw [if_neg h]
    rw [e]; exact rcrash_no b0 s0 b1 s1 cap left down a b w (fun k => h ((ok_iff _).2 k))
end Go.Proofs.Ytehgnlocekcakaa
