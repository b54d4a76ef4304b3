/- The walks of the disk: arm and crash, whole; rows of operations in memory; all. -/
import Derived.Test.YtehgnlocekcakaaDkH
namespace Go.Proofs.Ytehgnlocekcakaa
open Go.RowKit
open Go
set_option linter.unusedVariables false
theorem arm_any (d : Dm.Dk) (n : Int) (w : World) : Calls Try.prog 19 #[dv d, .int .i64 n] w (DoPost (Dm.armF d n) w) := by
  obtain ⟨b0, s0, b1, s1, cap, left, down⟩ := d
  by_cases h : Dm.okB ⟨b0, s0, b1, s1, cap, left, down⟩ = true
  · by_cases hn : n < -1
    · have e : Dm.armF ⟨b0, s0, b1, s1, cap, left, down⟩ n = (⟨b0, s0, b1, s1, cap, -1, down⟩, 0) := by unfold Dm.armF; rw [if_pos h, if_pos hn]
      rw [e]; exact arm_lo b0 s0 b1 s1 cap left down n w ((ok_iff _).1 h) hn
    · have e : Dm.armF ⟨b0, s0, b1, s1, cap, left, down⟩ n = (⟨b0, s0, b1, s1, cap, n, down⟩, 0) := by unfold Dm.armF; rw [if_pos h, if_neg hn]
      rw [e]; exact arm_hi b0 s0 b1 s1 cap left down n w ((ok_iff _).1 h) (by omega)
  · have e : Dm.armF ⟨b0, s0, b1, s1, cap, left, down⟩ n = (Dm.zero, 2) := by unfold Dm.armF; rw [if_neg h]
    rw [e]; exact arm_no b0 s0 b1 s1 cap left down n w (fun k => h ((ok_iff _).2 k))
theorem crash_any (d : Dm.Dk) (a b : Int) (w : World) : Calls Try.prog 16 #[dv d, .int .i64 a, .int .i64 b] w (DoPost (Dm.crashF d a b) w) := by
  obtain ⟨b0, s0, b1, s1, cap, left, down⟩ := d
  by_cases h : Dm.okB ⟨b0, s0, b1, s1, cap, left, down⟩ = true
  · have e : Dm.crashF ⟨b0, s0, b1, s1, cap, left, down⟩ a b = (⟨b0.extract 0 (Dm.left1 b0 s0 a).toNat, Dm.left1 b0 s0 a, b1.extract 0 (Dm.left1 b1 s1 b).toNat, Dm.left1 b1 s1 b, cap, -1, false⟩, 0) := by unfold Dm.crashF; rw [if_pos h]
    rw [e]; exact crash_yes b0 s0 b1 s1 cap left down a b w ((ok_iff _).1 h)
  · have e : Dm.crashF ⟨b0, s0, b1, s1, cap, left, down⟩ a b = (Dm.zero, 2) := by unfold Dm.crashF; rw [if_neg h]
    rw [e]; exact crash_no b0 s0 b1 s1 cap left down a b w (fun k => h ((ok_iff _).2 k))
theorem fz7 (W : World) (b : Nat) (x0 x1 x2 x3 x4 x5 x6 : Value) (a : Addr) : (((((((W.setCell ⟨b, 0, none⟩ x0).setCell ⟨b, 1, none⟩ x1).setCell ⟨b, 2, none⟩ x2).setCell ⟨b, 3, none⟩ x3).setCell ⟨b, 4, none⟩ x4).setCell ⟨b, 5, none⟩ x5).setCell ⟨b, 6, none⟩ x6).frozen? a = W.frozen? a := by
  simp only [World.frozen?_setCell]
/-- A row of operations in memory, from a cell on. -/
def WRow (w : World) (b off : Nat) (xs : List Dm.Wr) : Prop := ∀ i, i < xs.length → ∃ x, xs[i]? = some x ∧
  w.cell? ⟨b, off + i * 4, none⟩ = some (.int .i8 x.op) ∧ w.cell? ⟨b, off + i * 4 + 1, none⟩ = some (.int .i64 x.zone) ∧ w.cell? ⟨b, off + i * 4 + 2, none⟩ = some (.string x.b) ∧ w.cell? ⟨b, off + i * 4 + 3, none⟩ = some (.int .i64 x.n)
theorem WRow.below {w w' : World} {B b off : Nat} {xs : List Dm.Wr} (h : WRow w b off xs) (hb : Below B w w') (hlt : b < B) : WRow w' b off xs := by
  intro i hi
  obtain ⟨x, hx, c0, c1, c2, c3⟩ := h i hi
  exact ⟨x, hx, (hb.cell (p := ⟨b, off + i * 4, none⟩) hlt).trans c0, (hb.cell (p := ⟨b, off + i * 4 + 1, none⟩) hlt).trans c1, (hb.cell (p := ⟨b, off + i * 4 + 2, none⟩) hlt).trans c2, (hb.cell (p := ⟨b, off + i * 4 + 3, none⟩) hlt).trans c3⟩
def DSeven (w : World) (B : Nat) (d : Dm.Dk) : Prop := Seven w B (.string d.b0) (.int .i64 d.s0) (.string d.b1) (.int .i64 d.s1) (.int .i64 d.cap) (.int .i64 d.left) (.bool d.down)
/-- What a loop over operations keeps. -/
def AllRel (k : Nat) (d0 : Dm.Dk) (xs : List Dm.Wr) (w wr : World) : Prop := ∃ d : Dm.Dk, Is64 d.left ∧ Dm.allF d0 xs 0 = Dm.allF d (xs.drop k) k ∧ DSeven wr w.heap.size d ∧
  Seven wr (w.heap.size + 1) (.string ⟨#[]⟩) (.int .i64 0) (.string ⟨#[]⟩) (.int .i64 0) (.int .i64 0) (.int .i64 0) (.bool false) ∧
  (∀ o, wr.frozen? ⟨w.heap.size, o, none⟩ = false) ∧ (∀ o, wr.frozen? ⟨w.heap.size + 1, o, none⟩ = false) ∧ w.heap.size + 1 < wr.heap.size ∧ Below w.heap.size w wr
def AllPost (r : Dm.Dk × Int × Int) (w : World) (e : Ending) (w' : World) : Prop := e = .returned (.tuple #[dv r.1, .int .i64 r.2.1, .int .i64 r.2.2]) ∧ Below w.heap.size w w'
set_option maxHeartbeats 1000000 in
theorem all_some (d0 : Dm.Dk) (xs : List Dm.Wr) (b off cap : Nat) (w : World) (hl : Is64 d0.left) (hx : WRow w b off xs) (hb : b < w.heap.size) (hm : xs.length ≤ 1000000) (hsz : ∀ x ∈ xs, (x.b.size : Int) ≤ 9000000000000000000) :
    Calls Try.prog 11 #[dv d0, .slice (some ⟨b, off, none⟩) xs.length cap] w (AllPost (Dm.allF d0 xs 0) w) := by
  obtain ⟨b0, s0, b1, s1, cp, left, down⟩ := d0
  show Calls Try.prog 11 #[.agg #[.string b0, .int .i64 s0, .string b1, .int .i64 s1, .int .i64 cp, .int .i64 left, .bool down], .slice (some ⟨b, off, none⟩) xs.length cap] w _
  have HX := Lib.hid hx
  have HS := Lib.hid hsz
  clear hx hsz
  have HL := Lib.hid hl
  clear hl
  generalize hn : xs.length = len at *
  have HN := Lib.hid hn
  clear hn
  go_enter Try.func11, Try.ntmps11
  go_wp2_with fail
  go_loopw [13] (fun k wr => ∃ j : Nat, j ≤ len ∧ k = .int .i64 j ∧ AllRel j ⟨b0, s0, b1, s1, cp, left, down⟩ xs w wr) (fun k _ => len - (intOf k).toNat)
  case atStart => exact ⟨0, by omega, rfl, ⟨b0, s0, b1, s1, cp, left, down⟩, HL.out, rfl, ⟨by go_simp, by go_simp, by go_simp, by go_simp, by go_simp, by go_simp, by go_simp⟩, ⟨by go_simp, by go_simp, by go_simp, by go_simp, by go_simp, by go_simp, by go_simp⟩, fun o => by go_simp, fun o => by go_simp, by simp <;> omega, bbox (bbox (Below.refl _ _) _) _⟩
  case round =>
    obtain ⟨j, hj, rfl, ⟨d, hdl, hF, hD, hR, hf, hf2, hz, hB⟩⟩ := hrel
    obtain ⟨c0, t0, c1, t1, cc, cl, cd⟩ := d
    obtain ⟨q0, q1, q2, q3, q4, q5, q6⟩ := id hD
    by_cases hlt : j < len
    · obtain ⟨x, hxi, x0, x1, x2, x3⟩ := (HX.out.below hB hb) j (by rw [HN.out]; exact hlt)
      have hxs := HS.out x (List.mem_of_getElem? hxi)
      have HXI := Lib.hid hxi
      have HF := Lib.hid hF
      clear hxi hF
      obtain ⟨op, zone, xb, n⟩ := x
      have hz0 : w.heap.size < wr.heap.size := by omega
      have hdrop : xs.drop j = ⟨op, zone, xb, n⟩ :: xs.drop (j + 1) := by
        have hl := HN.out
        rw [List.drop_eq_getElem_cons (by omega)]
        have := HXI.out
        rw [List.getElem?_eq_getElem (by omega)] at this
        rw [Option.some.inj this]
      have HDR := Lib.hid hdrop
      clear hdrop
      obtain ⟨⟨⟨e0, p0, e1, p1, ec, el, ed⟩, ke⟩, hr⟩ : ∃ r, Dm.doF ⟨c0, t0, c1, t1, cc, cl, cd⟩ ⟨op, zone, xb, n⟩ = r := ⟨_, rfl⟩
      have hel : Is64 el := by
        have := Dm.do_left ⟨c0, t0, c1, t1, cc, cl, cd⟩ ⟨op, zone, xb, n⟩
        rw [hr] at this
        unfold Is64 at hdl ⊢
        simp only at this hdl ⊢
        omega
      have CD : ∀ w, Calls Try.prog 15 #[.agg #[.string c0, .int .i64 t0, .string c1, .int .i64 t1, .int .i64 cc, .int .i64 cl, .bool cd], .agg #[.int .i8 op, .int .i64 zone, .string xb, .int .i64 n]] w fun e w' =>
          e = .returned (.tuple #[.agg #[.string e0, .int .i64 p0, .string e1, .int .i64 p1, .int .i64 ec, .int .i64 el, .bool ed], .int .i64 ke]) ∧ Below w.heap.size w w' := fun w => by
        have := do_any ⟨c0, t0, c1, t1, cc, cl, cd⟩ ⟨op, zone, xb, n⟩ w hdl hxs
        rw [hr] at this
        exact this
      have HR := Lib.hid hr
      have HEL := Lib.hid hel
      clear hr hel hdl
      go_wp2_with fail
      refine (CD _).mono ?_
      rintro e w1 ⟨rfl, hb1⟩
      clear CD
      have hB1 : Below w.heap.size w w1 := bn hB (bn (bbox (Below.refl _ _) _) hb1)
      have hb1' : Below wr.heap.size wr w1 := bn (bbox (Below.refl _ _) _) hb1
      have gD : Seven w1 w.heap.size (.string c0) (.int .i64 t0) (.string c1) (.int .i64 t1) (.int .i64 cc) (.int .i64 cl) (.bool cd) := Seven.below hD hb1' (by omega)
      have gR := Seven.below hR hb1' hz
      have gf : ∀ o, w1.frozen? ⟨w.heap.size, o, none⟩ = false := fun o => (hb1'.frozen (p := ⟨w.heap.size, o, none⟩) hz0).trans (hf o)
      have gf2 : ∀ o, w1.frozen? ⟨w.heap.size + 1, o, none⟩ = false := fun o => (hb1'.frozen (p := ⟨w.heap.size + 1, o, none⟩) hz).trans (hf2 o)
      have gz : w.heap.size + 1 < w1.heap.size := by have := hb1'.size; omega
      have gz0 : w.heap.size < w1.heap.size := by omega
      clear hb1 hb1' q0 q1 q2 q3 q4 q5 q6 hf hf2 hD hR hB x0 x1 x2 x3 hz hz0
      obtain ⟨q0, q1, q2, q3, q4, q5, q6⟩ := id gD
      obtain ⟨r0, r1, r2, r3, r4, r5, r6⟩ := id gR
      by_cases hk : ke = 0
      · subst hk
        go_wp2_with fail
        go_roundw
        case rel =>
          refine ⟨j + 1, by omega, by go_num, ⟨e0, p0, e1, p1, ec, el, ed⟩, HEL.out, ?_, ?_, ?_, ?_, ?_, ?_, ?_⟩
          · rw [HF.out, HDR.out, Dm.allF_next HR.out rfl]; rfl
          · show Seven _ _ (.string e0) (.int .i64 p0) (.string e1) (.int .i64 p1) (.int .i64 ec) (.int .i64 el) (.bool ed)
            with_reducible apply Seven.alloc1
            · with_reducible apply Seven.all
              with_reducible exact gD
            · simp; omega
          · with_reducible apply Seven.alloc1
            · repeat (with_reducible apply Seven.far)
              with_reducible exact gR
              all_goals omega
            · simp; omega
          · intro o; exact (frozen?_alloc_cells _ _ _ _).trans ((fz7 _ _ _ _ _ _ _ _ _ _).trans (gf o))
          · intro o; exact (frozen?_alloc_cells _ _ _ _).trans ((fz7 _ _ _ _ _ _ _ _ _ _).trans (gf2 o))
          · simp; omega
          · with_reducible refine bbox ?_ _
            repeat (refine Below.setCell ?_ (by simp) _)
            exact hB1
        case measure => simp [intOf]; omega
      · have hk0 : (ke == 0) = false := by simpa using hk
        have HK := Lib.hid hk
        clear hk
        cases ed
        · go_wp2_with fail
          have hE : Dm.allF ⟨b0, s0, b1, s1, cp, left, down⟩ xs 0 = ((⟨c0, t0, c1, t1, cc, cl, cd⟩ : Dm.Dk), (j : Int), ke) := by rw [HF.out, HDR.out, Dm.allF_stop HR.out HK.out]; rfl
          refine disk_ret3 (fn := Try.f11) (p := 4) (u := 5) (v := 6) rfl _ _ w (w.heap.size + 1) (.string c0) (.int .i64 t0) (.string c1) (.int .i64 t1) (.int .i64 cc) (.int .i64 cl) (.bool cd) (.int .i64 j) (.int .i64 ke) rfl rfl rfl ?_ ?_ _ (fun hb => ?_)
          · with_reducible apply Seven.alloc1
            · with_reducible apply Seven.all
              repeat (with_reducible apply Seven.far)
              with_reducible exact gR
              all_goals omega
            · simp; omega
          · with_reducible refine bbox ?_ _
            repeat (refine Below.setCell ?_ (by simp <;> omega) _)
            exact hB1
          · rw [hE]
            exact ⟨rfl, hb⟩
        · go_wp2_with fail
          have hE : Dm.allF ⟨b0, s0, b1, s1, cp, left, down⟩ xs 0 = ((⟨e0, p0, e1, p1, ec, el, true⟩ : Dm.Dk), (j : Int), ke) := by rw [HF.out, HDR.out, Dm.allF_stop HR.out HK.out]; rfl
          refine disk_ret3 (fn := Try.f11) (p := 4) (u := 5) (v := 6) rfl _ _ w (w.heap.size + 1) (.string e0) (.int .i64 p0) (.string e1) (.int .i64 p1) (.int .i64 ec) (.int .i64 el) (.bool true) (.int .i64 j) (.int .i64 ke) rfl rfl rfl ?_ ?_ _ (fun hb => ?_)
          · with_reducible apply Seven.alloc1
            · with_reducible apply Seven.all
              repeat (with_reducible apply Seven.far)
              with_reducible exact gR
              all_goals omega
            · simp; omega
          · with_reducible refine bbox ?_ _
            repeat (refine Below.setCell ?_ (by simp <;> omega) _)
            exact hB1
          · rw [hE]
            exact ⟨rfl, hb⟩
    · have hz0 : w.heap.size < wr.heap.size := by omega
      obtain ⟨r0, r1, r2, r3, r4, r5, r6⟩ := id hR
      obtain rfl : j = len := by omega
      have hE : Dm.allF ⟨b0, s0, b1, s1, cp, left, down⟩ xs 0 = ((⟨c0, t0, c1, t1, cc, cl, cd⟩ : Dm.Dk), (j : Int), (0 : Int)) := by
        rw [hF, List.drop_of_length_le (by rw [HN.out]; exact Nat.le_refl _)]; rfl
      have HE := Lib.hid hE
      clear hE hF
      go_wp2
      have hE := HE.out
      refine disk_ret3 (fn := Try.f11) (p := 4) (u := 5) (v := 6) rfl _ _ w (w.heap.size + 1) (.string c0) (.int .i64 t0) (.string c1) (.int .i64 t1) (.int .i64 cc) (.int .i64 cl) (.bool cd) (.int .i64 j) (.int .i64 0) rfl rfl rfl ?_ ?_ _ (fun hb => ?_)
      · try with_reducible apply Seven.drew1
        with_reducible apply Seven.all
        repeat (with_reducible apply Seven.far)
        with_reducible exact hR
        all_goals omega
      · repeat (refine Below.setCell ?_ (by simp <;> omega) _)
        exact hB
      · rw [hE]
        exact ⟨rfl, hb⟩
end Go.Proofs.Ytehgnlocekcakaa
