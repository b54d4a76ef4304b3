/- The walks of the document's disk: all. -/
import Derived.Test.YtehgnlocekcakaaDkRe
import Derived.BigRegion
import Derived.Deep.RegionWith
import Derived.Deep.RegionHeld3
namespace Go.Proofs.Ytehgnlocekcakaa
open Go.RowKit
open Go
set_option linter.unusedVariables false
theorem newbox {W w1 : World} {v0 v1 v2 v3 v4 v5 v6 : Value} {t : TypeId} (hb : Below (W.alloc (.cells #[v0, v1, v2, v3, v4, v5, v6] t)).drew.heap.size (W.alloc (.cells #[v0, v1, v2, v3, v4, v5, v6] t)).drew w1) :
    Seven w1 W.heap.size v0 v1 v2 v3 v4 v5 v6 ∧ (∀ o, w1.frozen? ⟨W.heap.size, o, none⟩ = false) ∧ W.heap.size < w1.heap.size := by
  have h0 : W.heap.size < (W.alloc (.cells #[v0, v1, v2, v3, v4, v5, v6] t)).drew.heap.size := by simp
  exact ⟨Seven.below (W := (W.alloc (.cells #[v0, v1, v2, v3, v4, v5, v6] t)).drew) ⟨by simp, by simp, by simp, by simp, by simp, by simp, by simp⟩ hb h0, fun o => (hb.frozen (p := ⟨W.heap.size, o, none⟩) h0).trans (by simp), Nat.lt_of_lt_of_le h0 hb.size⟩
theorem cell_keep {W w1 : World} {a : Addr} {v : Value} (h : W.cell? a = some v) (hb : Below W.heap.size W w1) : w1.cell? a = some v := (hb.cell (World.block_lt_of_cell? W a h)).trans h
theorem late_below {wr w1 : World} {o : Obj} (h : Below wr.drew.heap.size wr.drew w1) : Below wr.heap.size wr (w1.alloc o) := bbox (bn (w := wr) (Below.refl wr.heap.size wr).drew h) _
theorem early_below {wr w1 : World} {o : Obj} (v0 v1 v2 v3 v4 v5 v6 : Value) (h : Below (wr.alloc o).drew.heap.size (wr.alloc o).drew w1) : Below wr.heap.size wr (((((((w1.setCell ⟨wr.heap.size, 0, none⟩ (v0)).setCell ⟨wr.heap.size, 1, none⟩ (v1)).setCell ⟨wr.heap.size, 2, none⟩ (v2)).setCell ⟨wr.heap.size, 3, none⟩ (v3)).setCell ⟨wr.heap.size, 4, none⟩ (v4)).setCell ⟨wr.heap.size, 5, none⟩ (v5)).setCell ⟨wr.heap.size, 6, none⟩ (v6)) := by
  have k : Below wr.heap.size wr w1 := by
    refine bn (w := wr) (a := (wr.alloc o).drew) ?_ h
    exact (bbox (Below.refl wr.heap.size wr) o).drew
  exact ((((((k.setCell (Nat.le_refl _) _).setCell (Nat.le_refl _) _).setCell (Nat.le_refl _) _).setCell (Nat.le_refl _) _).setCell (Nat.le_refl _) _).setCell (Nat.le_refl _) _).setCell (Nat.le_refl _) _
theorem late_seven {w1 : World} {t : TypeId} (v0 v1 v2 v3 v4 v5 v6 : Value) : Seven (w1.alloc (.cells #[v0, v1, v2, v3, v4, v5, v6] t)) w1.heap.size v0 v1 v2 v3 v4 v5 v6 := ⟨by simp, by simp, by simp, by simp, by simp, by simp, by simp⟩
set_option maxHeartbeats 1000000 in
theorem rall_some (d0 : Dm.Dk) (xs : List Dm.Wr) (b off cap : Nat) (w : World) (hl : Is64 d0.left) (hx : WRow w b off xs) (hb : b < w.heap.size) (hm : xs.length ≤ 1000000) (hsz : ∀ x ∈ xs, (x.b.size : Int) ≤ 9000000000000000000) :
    Calls Try.prog 12 #[dv d0, .slice (some ⟨b, off, none⟩) xs.length cap] w (AllPost (Dm.allF d0 xs 0) w) := by
  obtain ⟨b0, s0, b1, s1, cp, left, down⟩ := d0
  show Calls Try.prog 12 #[.agg #[.string b0, .int .i64 s0, .string b1, .int .i64 s1, .int .i64 cp, .int .i64 left, .bool down], .slice (some ⟨b, off, none⟩) xs.length cap] w _
  have HX := Lib.hid hx
  have HS := Lib.hid hsz
  clear hx hsz
  have HL := Lib.hid hl
  clear hl
  generalize hn : xs.length = len at *
  have HN := Lib.hid hn
  clear hn
  go_enter Try.func12, Try.ntmps12
  go_wp2_with fail
  go_loopw [7] (fun k wr => ∃ j : Nat, j ≤ len ∧ k = .int .i64 j ∧ AllRel j ⟨b0, s0, b1, s1, cp, left, down⟩ xs w wr) (fun k _ => len - (intOf k).toNat)
  case atStart => exact ⟨0, by omega, rfl, ⟨b0, s0, b1, s1, cp, left, down⟩, HL.out, rfl, ⟨by go_simp, by go_simp, by go_simp, by go_simp, by go_simp, by go_simp, by go_simp⟩, ⟨by go_simp, by go_simp, by go_simp, by go_simp, by go_simp, by go_simp, by go_simp⟩, fun o => by go_simp, fun o => by go_simp, by simp <;> omega, bbox (bbox (Below.refl _ _) _) _⟩
  case round =>
    obtain ⟨j, hj, rfl, ⟨d, hdl, hF, hD, hR, hf, hf2, hz, hB⟩⟩ := hrel
    obtain ⟨c0, t0, c1, t1, cc, cl, cd⟩ := d
    obtain ⟨q0, q1, q2, q3, q4, q5, q6⟩ := id hD
    by_cases hlt : j < len
    · obtain ⟨x, hxi, x0, x1, x2, x3⟩ := (HX.out.below hB hb) j (by rw [HN.out]; exact hlt)
      have hxs := HS.out x (List.mem_of_getElem? hxi)
      have HXI := Lib.hid hxi
      have HF := Lib.hid hF
      clear hxi hF
      obtain ⟨op, zone, xb, n⟩ := x
      have hz0 : w.heap.size < wr.heap.size := by omega
      have hdrop : xs.drop j = ⟨op, zone, xb, n⟩ :: xs.drop (j + 1) := by
        have hl := HN.out
        rw [List.drop_eq_getElem_cons (by omega)]
        have := HXI.out
        rw [List.getElem?_eq_getElem (by omega)] at this
        rw [Option.some.inj this]
      have HDR := Lib.hid hdrop
      clear hdrop
      obtain ⟨⟨⟨e0, p0, e1, p1, ec, el, ed⟩, ke⟩, hr⟩ : ∃ r, Dm.doF ⟨c0, t0, c1, t1, cc, cl, cd⟩ ⟨op, zone, xb, n⟩ = r := ⟨_, rfl⟩
      have hel : Is64 el := by
        have := Dm.do_left ⟨c0, t0, c1, t1, cc, cl, cd⟩ ⟨op, zone, xb, n⟩
        rw [hr] at this
        unfold Is64 at hdl ⊢
        simp only at this hdl ⊢
        omega
      have CD : ∀ w, Calls Try.prog 20 #[.agg #[.string c0, .int .i64 t0, .string c1, .int .i64 t1, .int .i64 cc, .int .i64 cl, .bool cd], .agg #[.int .i8 op, .int .i64 zone, .string xb, .int .i64 n]] w fun e w' =>
          e = .returned (.tuple #[.agg #[.string e0, .int .i64 p0, .string e1, .int .i64 p1, .int .i64 ec, .int .i64 el, .bool ed], .int .i64 ke]) ∧ Below w.heap.size w w' := fun w => by
        have := rdo_any ⟨c0, t0, c1, t1, cc, cl, cd⟩ ⟨op, zone, xb, n⟩ w hdl hxs
        rw [hr] at this
        exact this
      have HR := Lib.hid hr
      have HEL := Lib.hid hel
      clear hr hel hdl
      go_wp2_with fail
      have hne0 : wr.heap.size ≠ w.heap.size := by omega
      have hne1 : wr.heap.size ≠ b := by omega
      go_region_held3 (fun w' => w'.cell? ⟨w.heap.size, 0, none⟩ = some (.string c0) ∧ w'.cell? ⟨w.heap.size, 1, none⟩ = some (.int .i64 t0) ∧ w'.cell? ⟨w.heap.size, 2, none⟩ = some (.string c1) ∧ w'.cell? ⟨w.heap.size, 3, none⟩ = some (.int .i64 t1) ∧ w'.cell? ⟨w.heap.size, 4, none⟩ = some (.int .i64 cc) ∧ w'.cell? ⟨w.heap.size, 5, none⟩ = some (.int .i64 cl) ∧ w'.cell? ⟨w.heap.size, 6, none⟩ = some (.bool cd) ∧ w'.cell? ⟨b, off + j * 4, none⟩ = some (.int .i8 op) ∧ w'.cell? ⟨b, off + j * 4 + 1, none⟩ = some (.int .i64 zone) ∧ w'.cell? ⟨b, off + j * 4 + 2, none⟩ = some (.string xb) ∧ w'.cell? ⟨b, off + j * 4 + 3, none⟩ = some (.int .i64 n)) (go_keep) (first | (go_at_call 20; refine (CD _).mono ?_; rintro e w1 ⟨rfl, hb1⟩; have k0 := cell_keep (a := ⟨w.heap.size, 0, none⟩) (v := .string c0) (by simp [*]) hb1; have k1 := cell_keep (a := ⟨w.heap.size, 1, none⟩) (v := .int .i64 t0) (by simp [*]) hb1; have k2 := cell_keep (a := ⟨w.heap.size, 2, none⟩) (v := .string c1) (by simp [*]) hb1; have k3 := cell_keep (a := ⟨w.heap.size, 3, none⟩) (v := .int .i64 t1) (by simp [*]) hb1; have k4 := cell_keep (a := ⟨w.heap.size, 4, none⟩) (v := .int .i64 cc) (by simp [*]) hb1; have k5 := cell_keep (a := ⟨w.heap.size, 5, none⟩) (v := .int .i64 cl) (by simp [*]) hb1; have k6 := cell_keep (a := ⟨w.heap.size, 6, none⟩) (v := .bool cd) (by simp [*]) hb1; have k7 := cell_keep (a := ⟨b, off + j * 4, none⟩) (v := .int .i8 op) (by simp [*]) hb1; have k8 := cell_keep (a := ⟨b, off + j * 4 + 1, none⟩) (v := .int .i64 zone) (by simp [*]) hb1; have k9 := cell_keep (a := ⟨b, off + j * 4 + 2, none⟩) (v := .string xb) (by simp [*]) hb1; have k10 := cell_keep (a := ⟨b, off + j * 4 + 3, none⟩) (v := .int .i64 n) (by simp [*]) hb1; have m0 := World.new_ne w1 _ k0; have m1 := World.new_ne w1 _ k7; first | (have hq := newbox hb1; obtain ⟨⟨n0, n1, n2, n3, n4, n5, n6⟩, nf, nz⟩ := hq) | skip))
      · have gB := late_below (o := (.cells #[.string e0, .int .i64 p0, .string e1, .int .i64 p1, .int .i64 ec, .int .i64 el, .bool ed] 26)) hb1
        have gN : Seven (w1.alloc (.cells #[.string e0, .int .i64 p0, .string e1, .int .i64 p1, .int .i64 ec, .int .i64 el, .bool ed] 26)) w1.heap.size (.string e0) (.int .i64 p0) (.string e1) (.int .i64 p1) (.int .i64 ec) (.int .i64 el) (.bool ed) := late_seven _ _ _ _ _ _ _
        have gX : wr.heap.size ≤ w1.heap.size := by have := hb1.size; simpa using this
        have gY : w1.heap.size < (w1.alloc (.cells #[.string e0, .int .i64 p0, .string e1, .int .i64 p1, .int .i64 ec, .int .i64 el, .bool ed] 26)).heap.size := by simp
        clear hb1
        clear k0 k1 k2 k3 k4 k5 k6 k7 k8 k9 k10 m0 m1
        generalize hX : w1.heap.size = X at gN gX gY ⊢
        generalize hW : w1.alloc (.cells #[.string e0, .int .i64 p0, .string e1, .int .i64 p1, .int .i64 ec, .int .i64 el, .bool ed] 26) = W2 at gB gN gY ⊢
        clear hX hW
        have gz1 : wr.heap.size ≤ W2.heap.size := gB.size
        have gB2 : Below w.heap.size w W2 := bn hB gB
        have gD : Seven W2 w.heap.size (.string c0) (.int .i64 t0) (.string c1) (.int .i64 t1) (.int .i64 cc) (.int .i64 cl) (.bool cd) := Seven.below hD gB hz0
        have gR := Seven.below hR gB hz
        have gf : ∀ o, W2.frozen? ⟨w.heap.size, o, none⟩ = false := fun o => (gB.frozen (p := ⟨w.heap.size, o, none⟩) hz0).trans (hf o)
        have gf2 : ∀ o, W2.frozen? ⟨w.heap.size + 1, o, none⟩ = false := fun o => (gB.frozen (p := ⟨w.heap.size + 1, o, none⟩) hz).trans (hf2 o)
        have gz : w.heap.size + 1 < W2.heap.size := by omega
        have gz0 : w.heap.size < W2.heap.size := by omega
        clear CD gB hB hD hR hf hf2 x0 x1 x2 x3 q0 q1 q2 q3 q4 q5 q6
        obtain ⟨q0, q1, q2, q3, q4, q5, q6⟩ := id gD
        obtain ⟨r0, r1, r2, r3, r4, r5, r6⟩ := id gR
        obtain ⟨n0, n1, n2, n3, n4, n5, n6⟩ := id gN
        have hXD : X ≠ w.heap.size := by omega
        have hXR : X ≠ w.heap.size + 1 := by omega
        by_cases hk : ke = 0
        · subst hk
          cases ed
          · go_wp2_with fail
            go_roundw
            case rel =>
              refine ⟨j + 1, by omega, by go_num, ⟨e0, p0, e1, p1, ec, el, false⟩, HEL.out, ?_, ?_, ?_, ?_, ?_, ?_, ?_⟩
              · rw [HF.out, HDR.out, Dm.allF_next HR.out rfl]; rfl
              · show Seven _ _ (.string e0) (.int .i64 p0) (.string e1) (.int .i64 p1) (.int .i64 ec) (.int .i64 el) (.bool false)
                with_reducible apply Seven.all
                with_reducible exact gD
              · repeat (with_reducible apply Seven.far)
                with_reducible exact gR
                all_goals omega
              · intro o; exact (fz7 _ _ _ _ _ _ _ _ _ _).trans (gf o)
              · intro o; exact (fz7 _ _ _ _ _ _ _ _ _ _).trans (gf2 o)
              · simp; omega
              · repeat (refine Below.setCell ?_ (by simp) _)
                exact gB2
            case measure => simp [intOf]; omega
          · go_wp2_with fail
            go_roundw
            case rel =>
              refine ⟨j + 1, by omega, by go_num, ⟨e0, p0, e1, p1, ec, el, true⟩, HEL.out, ?_, ?_, ?_, ?_, ?_, ?_, ?_⟩
              · rw [HF.out, HDR.out, Dm.allF_next HR.out rfl]; rfl
              · show Seven _ _ (.string e0) (.int .i64 p0) (.string e1) (.int .i64 p1) (.int .i64 ec) (.int .i64 el) (.bool true)
                with_reducible apply Seven.all
                with_reducible apply Seven.all
                with_reducible exact gD
              · repeat (with_reducible apply Seven.far)
                with_reducible exact gR
                all_goals omega
              · intro o; exact (fz7 _ _ _ _ _ _ _ _ _ _).trans ((fz7 _ _ _ _ _ _ _ _ _ _).trans (gf o))
              · intro o; exact (fz7 _ _ _ _ _ _ _ _ _ _).trans ((fz7 _ _ _ _ _ _ _ _ _ _).trans (gf2 o))
              · simp; omega
              · repeat (refine Below.setCell ?_ (by simp) _)
                exact gB2
            case measure => simp [intOf]; omega
        · have hk0 : (ke == 0) = false := by simpa using hk
          have HK := Lib.hid hk
          clear hk
          cases ed
          · go_wp2_with fail
            have hE : Dm.allF ⟨b0, s0, b1, s1, cp, left, down⟩ xs 0 = ((⟨c0, t0, c1, t1, cc, cl, cd⟩ : Dm.Dk), (j : Int), ke) := by rw [HF.out, HDR.out, Dm.allF_stop HR.out HK.out]; rfl
            refine disk_ret3 (fn := Try.f12) (p := 4) (u := 5) (v := 6) rfl _ _ w (w.heap.size + 1) (.string c0) (.int .i64 t0) (.string c1) (.int .i64 t1) (.int .i64 cc) (.int .i64 cl) (.bool cd) (.int .i64 j) (.int .i64 ke) rfl rfl rfl ?_ ?_ _ (fun hb => ?_)
            · with_reducible apply Seven.all
              repeat (with_reducible apply Seven.far)
              with_reducible exact gR
              all_goals omega
            · repeat (refine Below.setCell ?_ (by simp <;> omega) _)
              exact gB2
            · rw [hE]
              exact ⟨rfl, hb⟩
          · go_wp2_with fail
            have hE : Dm.allF ⟨b0, s0, b1, s1, cp, left, down⟩ xs 0 = ((⟨e0, p0, e1, p1, ec, el, true⟩ : Dm.Dk), (j : Int), ke) := by rw [HF.out, HDR.out, Dm.allF_stop HR.out HK.out]; rfl
            refine disk_ret3 (fn := Try.f12) (p := 4) (u := 5) (v := 6) rfl _ _ w (w.heap.size + 1) (.string e0) (.int .i64 p0) (.string e1) (.int .i64 p1) (.int .i64 ec) (.int .i64 el) (.bool true) (.int .i64 j) (.int .i64 ke) rfl rfl rfl ?_ ?_ _ (fun hb => ?_)
            · with_reducible apply Seven.all
              repeat (with_reducible apply Seven.far)
              with_reducible exact gR
              all_goals omega
            · repeat (refine Below.setCell ?_ (by simp <;> omega) _)
              exact gB2
            · rw [hE]
              exact ⟨rfl, hb⟩
      · have gB := early_below (.string e0) (.int .i64 p0) (.string e1) (.int .i64 p1) (.int .i64 ec) (.int .i64 el) (.bool ed) hb1
        have gN : Seven (((((((w1.setCell ⟨wr.heap.size, 0, none⟩ (.string e0)).setCell ⟨wr.heap.size, 1, none⟩ (.int .i64 p0)).setCell ⟨wr.heap.size, 2, none⟩ (.string e1)).setCell ⟨wr.heap.size, 3, none⟩ (.int .i64 p1)).setCell ⟨wr.heap.size, 4, none⟩ (.int .i64 ec)).setCell ⟨wr.heap.size, 5, none⟩ (.int .i64 el)).setCell ⟨wr.heap.size, 6, none⟩ (.bool ed)) wr.heap.size (.string e0) (.int .i64 p0) (.string e1) (.int .i64 p1) (.int .i64 ec) (.int .i64 el) (.bool ed) := Seven.all ⟨n0, n1, n2, n3, n4, n5, n6⟩ _ _ _ _ _ _ _
        have gX : wr.heap.size ≤ wr.heap.size := Nat.le_refl _
        have gY : wr.heap.size < (((((((w1.setCell ⟨wr.heap.size, 0, none⟩ (.string e0)).setCell ⟨wr.heap.size, 1, none⟩ (.int .i64 p0)).setCell ⟨wr.heap.size, 2, none⟩ (.string e1)).setCell ⟨wr.heap.size, 3, none⟩ (.int .i64 p1)).setCell ⟨wr.heap.size, 4, none⟩ (.int .i64 ec)).setCell ⟨wr.heap.size, 5, none⟩ (.int .i64 el)).setCell ⟨wr.heap.size, 6, none⟩ (.bool ed)).heap.size := by simpa using nz
        clear hb1 n0 n1 n2 n3 n4 n5 n6 nf nz
        clear k0 k1 k2 k3 k4 k5 k6 k7 k8 k9 k10 m0 m1
        generalize hW : (((((((w1.setCell ⟨wr.heap.size, 0, none⟩ (.string e0)).setCell ⟨wr.heap.size, 1, none⟩ (.int .i64 p0)).setCell ⟨wr.heap.size, 2, none⟩ (.string e1)).setCell ⟨wr.heap.size, 3, none⟩ (.int .i64 p1)).setCell ⟨wr.heap.size, 4, none⟩ (.int .i64 ec)).setCell ⟨wr.heap.size, 5, none⟩ (.int .i64 el)).setCell ⟨wr.heap.size, 6, none⟩ (.bool ed)) = W2 at gB gN gY ⊢
        clear hW
        obtain ⟨X, hX⟩ : ∃ X, X = wr.heap.size := ⟨_, rfl⟩
        have gN := hX ▸ gN
        have gX : wr.heap.size ≤ X := hX ▸ gX
        have gY : X < W2.heap.size := hX ▸ gY
        rw [← hX]
        clear hX
        have gz1 : wr.heap.size ≤ W2.heap.size := gB.size
        have gB2 : Below w.heap.size w W2 := bn hB gB
        have gD : Seven W2 w.heap.size (.string c0) (.int .i64 t0) (.string c1) (.int .i64 t1) (.int .i64 cc) (.int .i64 cl) (.bool cd) := Seven.below hD gB hz0
        have gR := Seven.below hR gB hz
        have gf : ∀ o, W2.frozen? ⟨w.heap.size, o, none⟩ = false := fun o => (gB.frozen (p := ⟨w.heap.size, o, none⟩) hz0).trans (hf o)
        have gf2 : ∀ o, W2.frozen? ⟨w.heap.size + 1, o, none⟩ = false := fun o => (gB.frozen (p := ⟨w.heap.size + 1, o, none⟩) hz).trans (hf2 o)
        have gz : w.heap.size + 1 < W2.heap.size := by omega
        have gz0 : w.heap.size < W2.heap.size := by omega
        clear CD gB hB hD hR hf hf2 x0 x1 x2 x3 q0 q1 q2 q3 q4 q5 q6
        obtain ⟨q0, q1, q2, q3, q4, q5, q6⟩ := id gD
        obtain ⟨r0, r1, r2, r3, r4, r5, r6⟩ := id gR
        obtain ⟨n0, n1, n2, n3, n4, n5, n6⟩ := id gN
        have hXD : X ≠ w.heap.size := by omega
        have hXR : X ≠ w.heap.size + 1 := by omega
        by_cases hk : ke = 0
        · subst hk
          cases ed
          · go_wp2_with fail
            go_roundw
            case rel =>
              refine ⟨j + 1, by omega, by go_num, ⟨e0, p0, e1, p1, ec, el, false⟩, HEL.out, ?_, ?_, ?_, ?_, ?_, ?_, ?_⟩
              · rw [HF.out, HDR.out, Dm.allF_next HR.out rfl]; rfl
              · show Seven _ _ (.string e0) (.int .i64 p0) (.string e1) (.int .i64 p1) (.int .i64 ec) (.int .i64 el) (.bool false)
                with_reducible apply Seven.all
                with_reducible exact gD
              · repeat (with_reducible apply Seven.far)
                with_reducible exact gR
                all_goals omega
              · intro o; exact (fz7 _ _ _ _ _ _ _ _ _ _).trans (gf o)
              · intro o; exact (fz7 _ _ _ _ _ _ _ _ _ _).trans (gf2 o)
              · simp; omega
              · repeat (refine Below.setCell ?_ (by simp) _)
                exact gB2
            case measure => simp [intOf]; omega
          · go_wp2_with fail
            go_roundw
            case rel =>
              refine ⟨j + 1, by omega, by go_num, ⟨e0, p0, e1, p1, ec, el, true⟩, HEL.out, ?_, ?_, ?_, ?_, ?_, ?_, ?_⟩
              · rw [HF.out, HDR.out, Dm.allF_next HR.out rfl]; rfl
              · show Seven _ _ (.string e0) (.int .i64 p0) (.string e1) (.int .i64 p1) (.int .i64 ec) (.int .i64 el) (.bool true)
                with_reducible apply Seven.all
                with_reducible apply Seven.all
                with_reducible exact gD
              · repeat (with_reducible apply Seven.far)
                with_reducible exact gR
                all_goals omega
              · intro o; exact (fz7 _ _ _ _ _ _ _ _ _ _).trans ((fz7 _ _ _ _ _ _ _ _ _ _).trans (gf o))
              · intro o; exact (fz7 _ _ _ _ _ _ _ _ _ _).trans ((fz7 _ _ _ _ _ _ _ _ _ _).trans (gf2 o))
              · simp; omega
              · repeat (refine Below.setCell ?_ (by simp) _)
                exact gB2
            case measure => simp [intOf]; omega
        · have hk0 : (ke == 0) = false := by simpa using hk
          have HK := Lib.hid hk
          clear hk
          cases ed
          · go_wp2_with fail
            have hE : Dm.allF ⟨b0, s0, b1, s1, cp, left, down⟩ xs 0 = ((⟨c0, t0, c1, t1, cc, cl, cd⟩ : Dm.Dk), (j : Int), ke) := by rw [HF.out, HDR.out, Dm.allF_stop HR.out HK.out]; rfl
            refine disk_ret3 (fn := Try.f12) (p := 4) (u := 5) (v := 6) rfl _ _ w (w.heap.size + 1) (.string c0) (.int .i64 t0) (.string c1) (.int .i64 t1) (.int .i64 cc) (.int .i64 cl) (.bool cd) (.int .i64 j) (.int .i64 ke) rfl rfl rfl ?_ ?_ _ (fun hb => ?_)
            · with_reducible apply Seven.all
              repeat (with_reducible apply Seven.far)
              with_reducible exact gR
              all_goals omega
            · repeat (refine Below.setCell ?_ (by simp <;> omega) _)
              exact gB2
            · rw [hE]
              exact ⟨rfl, hb⟩
          · go_wp2_with fail
            have hE : Dm.allF ⟨b0, s0, b1, s1, cp, left, down⟩ xs 0 = ((⟨e0, p0, e1, p1, ec, el, true⟩ : Dm.Dk), (j : Int), ke) := by rw [HF.out, HDR.out, Dm.allF_stop HR.out HK.out]; rfl
            refine disk_ret3 (fn := Try.f12) (p := 4) (u := 5) (v := 6) rfl _ _ w (w.heap.size + 1) (.string e0) (.int .i64 p0) (.string e1) (.int .i64 p1) (.int .i64 ec) (.int .i64 el) (.bool true) (.int .i64 j) (.int .i64 ke) rfl rfl rfl ?_ ?_ _ (fun hb => ?_)
            · with_reducible apply Seven.all
              repeat (with_reducible apply Seven.far)
              with_reducible exact gR
              all_goals omega
            · repeat (refine Below.setCell ?_ (by simp <;> omega) _)
              exact gB2
            · rw [hE]
              exact ⟨rfl, hb⟩
    · have hz0 : w.heap.size < wr.heap.size := by omega
      obtain ⟨r0, r1, r2, r3, r4, r5, r6⟩ := id hR
      obtain rfl : j = len := by omega
      have hE : Dm.allF ⟨b0, s0, b1, s1, cp, left, down⟩ xs 0 = ((⟨c0, t0, c1, t1, cc, cl, cd⟩ : Dm.Dk), (j : Int), (0 : Int)) := by
        rw [hF, List.drop_of_length_le (by rw [HN.out]; exact Nat.le_refl _)]; rfl
      have HE := Lib.hid hE
      clear hE hF
      go_wp2
      have hE := HE.out
      refine disk_ret3 (fn := Try.f12) (p := 4) (u := 5) (v := 6) rfl _ _ w (w.heap.size + 1) (.string c0) (.int .i64 t0) (.string c1) (.int .i64 t1) (.int .i64 cc) (.int .i64 cl) (.bool cd) (.int .i64 j) (.int .i64 0) rfl rfl rfl ?_ ?_ _ (fun hb => ?_)
      · try with_reducible apply Seven.drew1
        with_reducible apply Seven.all
        repeat (with_reducible apply Seven.far)
        with_reducible exact hR
        all_goals omega
      · repeat (refine Below.setCell ?_ (by simp <;> omega) _)
        exact hB
      · rw [hE]
        exact ⟨rfl, hb⟩
end Go.Proofs.Ytehgnlocekcakaa
