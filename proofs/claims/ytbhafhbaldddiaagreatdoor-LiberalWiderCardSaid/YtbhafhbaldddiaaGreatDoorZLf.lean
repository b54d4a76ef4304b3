/- The walk of the liberal Parse. The walks of the document's lower case, and of texts that are the same. The walks of texts that are the same, and of what wakes the law. -/
import Derived.Test.YtbhafhbaldddiaaGreatDoorZLd
import Derived.Test.YtbhafhbaldddiaaGreatDoorZLe
import Derived.Lib.QuietBelow
namespace Lb
/-- A reader's time is small. -/
def Sml (r : R) : Prop := (0 ≤ r.h ∧ r.h ≤ 65535) ∧ (0 ≤ r.mi ∧ r.mi ≤ 65535) ∧ (0 ≤ r.s ∧ r.s ≤ 65535)
theorem Sml.tl {r : R} (h : Sml r) : Sml (tl r) := h
theorem Sml.mkBad {r : R} (h : Sml r) : Sml (mkBad r) := h
theorem Sml.nm {r : R} (a b : Nat) (h : Sml r) : Sml (nmR a b r) := by unfold nmR; split <;> exact h
theorem Sml.mb {r : R} (u : Wd) (h : Sml r) : Sml (mbR u r) := by unfold mbR; split <;> exact h
theorem Sml.mu {r : R} (u : Wd) (h : Sml r) : Sml (muR u r) := by unfold muR; split <;> exact h
theorem Sml.mo {r : R} (h : Sml r) : Sml (moR r) := by unfold moR; split <;> exact h
theorem Sml.wk {r : R} (h : Sml r) : Sml (wkR r) := by unfold wkR; apply Sml.mb; split <;> exact h
theorem Sml.nmD {r : R} (h : Sml r) : Sml (nmD r) := h.nm 1 2
theorem Sml.nmY {r : R} (h : Sml r) : Sml (nmY r) := h.nm 4 4
theorem Sml.nmS {r : R} (h : Sml r) : Sml (nmS r) := by
  unfold Lb.nmS
  split
  · exact h.nm 2 2
  · exact h.nmY
theorem Sml.fT {r : R} (h : Sml r) : Sml (fT r) := by
  unfold Lb.fT
  split
  · split <;> exact h
  · exact h
theorem Sml.cl1 {r : R} (h : Sml r) : Sml (cl1 r) := ⟨nmV_bd 1 2 r (by omega), (h.nm 1 2).2.1, (h.nm 1 2).2.2⟩
theorem Sml.cl3 {r : R} (h : Sml r) : Sml (cl3 r) := by
  have h2 : Sml (cl2 r) := h.cl1.mu [58]
  exact ⟨(h2.nm 2 2).1, nmV_bd 2 2 (cl2 r) (by omega), (h2.nm 2 2).2.2⟩
theorem Sml.cl4 {r : R} (h : Sml r) : Sml (cl4 r) := ⟨(h.nm 2 2).1, (h.nm 2 2).2.1, nmV_bd 2 2 r (by omega)⟩
theorem Sml.clR {r : R} (h : Sml r) : Sml (clR r) := by
  unfold Lb.clR
  split
  · split
    · split
      · exact (Sml.cl4 (h.cl3.tl)).tl.nm 1 1048576
      · exact Sml.cl4 (h.cl3.tl)
    · exact h.cl3
  · exact h
theorem Sml.znF {r : R} (a b c : Int) (h : Sml r) : Sml (znF a b c r) := h
theorem Sml.znR {r : R} (h : Sml r) : Sml (znR r) := by
  unfold Lb.znR znO
  split
  · exact h
  · split
    · split
      · exact h
      · split
        · exact Sml.znF _ _ _ ((h.tl.nm 2 2).tl.nm 2 2)
        · exact Sml.znF _ _ _ (h.tl.nm 2 2)
    · split
      · split
        · exact h
        · split
          · exact Sml.znF _ _ _ ((h.tl.nm 2 2).tl.nm 2 2)
          · exact Sml.znF _ _ _ (h.tl.nm 2 2)
      · exact h
theorem Sml.ckz {r : R} (h : Sml r) : Sml (ckz r) := by
  unfold Lb.ckz
  split
  · exact h.clR.znR
  · exact h
theorem sml_form (k : Nat) (l : List Wd) : Sml (form k l) := by
  have h0 : Sml (start l) := ⟨⟨by show (0 : Int) ≤ 0; decide, by show (0 : Int) ≤ 65535; decide⟩, ⟨by show (0 : Int) ≤ 0; decide, by show (0 : Int) ≤ 65535; decide⟩, ⟨by show (0 : Int) ≤ 0; decide, by show (0 : Int) ≤ 65535; decide⟩⟩
  unfold form
  apply Sml.ckz
  split
  · have a : Sml (f1a (start l)) := Sml.mu [45] (r := sY (nmV 4 4 (start l)) (nmR 4 4 (start l))) (Sml.nm 4 4 h0)
    have b : Sml (f1b (f1a (start l))) := Sml.mu [45] (r := sMo (nmV 1 2 (f1a (start l))) (nmR 1 2 (f1a (start l)))) (Sml.nm 1 2 a)
    exact (Sml.nmD b).fT
  · exact (Sml.mb [45] (Sml.mo (Sml.mb [45] (Sml.nmD h0.wk)))).nmS
  · exact Sml.nmY (Sml.mb [44] (Sml.nmD (Sml.mo h0.wk)))
end Lb
namespace Go.Proofs.YtbhafhbaldddiaaGreatDoor
open Go.RowKit
open Go
open Lb (R Wd)
set_option linter.unusedVariables false
theorem Rd.made {w : World} {base : Nat} {a : Option Addr} {n cap : Nat} {L : List Wd} (hO : OL w base (.slice a n cap) L) (hs : PSz L) (t : Nat) :
    Rd w (w.alloc (.cells #[.slice a n cap, .bool false, .int .i64 0, .int .i64 0, .int .i64 0, .int .i64 0, .int .i64 0, .int .i64 0, .int .i64 0] t)) w.heap.size (Lb.start L) := by
  obtain ⟨a', cap', hv, ho⟩ := hO
  have hB := (Below.refl w.heap.size w).alloc (Nat.le_refl _) (.cells #[.slice a n cap, .bool false, .int .i64 0, .int .i64 0, .int .i64 0, .int .i64 0, .int .i64 0, .int .i64 0, .int .i64 0] t)
  refine ⟨⟨.slice a n cap, nine ?_ ?_ ?_ ?_ ?_ ?_ ?_ ?_ ?_, ?_⟩, fun k _ => by go_simp, by simp, Nat.le_refl _, hB, hs⟩
  all_goals try (show (w.alloc _).cell? _ = _; simp [cellsOf, Lb.start]; done)
  have hlen : L.length ≤ cap' := by
    rcases ho.2 with ⟨e, hn⟩ | ⟨g, c2, cur, e, _, _, hle, _⟩
    · omega
    · rw [hv] at e
      injection e with _ _ e3
      omega
  refine ⟨a', cap', hv, hlen, fun hl => ?_⟩
  have hl2 : 0 < L.length := List.length_pos_iff.2 hl
  rcases ho.2 with ⟨_, hn⟩ | ⟨g, c2, cur, e, _, hg, _⟩
  · exact absurd hn (by show ¬ L.length = 0; omega)
  · have e' := e
    rw [hv] at e
    injection e with e1 _ _
    have hlt : g < w.heap.size := (ho.lt g (by rw [e']; rfl)).2
    refine ⟨g, 0, e1, hlt, fun k s hk => ?_⟩
    rw [hB.cell (p := ⟨g, 0 + k, none⟩) hlt]
    have := ho.cells (g := g) (by rw [e']; rfl) k (.string (Ml.mk s)) (by rw [List.getElem?_map, show L[k]? = some s from hk]; rfl)
    rw [Go.WideShapes.add_plain] at this
    exact this
def ParPost (l : Wd) (w : World) (e : Ending) (w' : World) : Prop := e = .returned (.tuple #[.int .i64 ((Lb.parse l).getD 0), .bool (Lb.parse l).isSome]) ∧ Below w.heap.size w w'
theorem lis64 {a : Int} (h0 : -100000 ≤ a) (h1 : a ≤ 100000) : Is64 a := by unfold Is64; omega
theorem sec_of (r : R) (h : Lb.Sml r) : ∃ v k : Int, ((k == 0) = Cv.secOk r.y r.mo r.d r.h r.mi r.s r.east) ∧ (Cv.secOk r.y r.mo r.d r.h r.mi r.s r.east = true → v = Cv.secV r.y r.mo r.d r.h r.mi r.s r.east) ∧
    ∀ w, Calls Tryz.prog 26 #[.agg #[.int .i64 r.y, .int .i64 r.mo, .int .i64 r.d, .int .i64 r.h, .int .i64 r.mi, .int .i64 r.s], .int .i64 r.east] w fun e w' => e = .returned (.tuple #[.int .i64 v, .int .i64 k]) ∧ Below w.heap.size w w' := by
  obtain ⟨⟨a1, a2⟩, ⟨b1, b2⟩, ⟨c1, c2⟩⟩ := h
  have bh : Is64 r.h := lis64 (by omega) (by omega)
  have bm : Is64 r.mi := lis64 (by omega) (by omega)
  have bs : Is64 r.s := lis64 (by omega) (by omega)
  cases hk : Cv.secOk r.y r.mo r.d r.h r.mi r.s r.east with
  | false => exact ⟨0, 2, rfl, fun h => (nomatch h), fun w => sec_no _ _ _ _ _ _ _ w bh bm bs hk⟩
  | true => exact ⟨_, 0, rfl, fun _ => rfl, fun w => sec_yes _ _ _ _ _ _ _ w bh bm bs hk⟩
theorem ix_form0 (w : World) : (Instr.index 41 (.agg #[.func (.func 21) #[] #[], .func (.func 22) #[] #[], .func (.func 23) #[] #[]]) (.int .i64 0)).run Tryz.prog w = .ok (.func (.func 21) #[] #[]) w := by kernel_rfl
theorem ix_form1 (w : World) : (Instr.index 41 (.agg #[.func (.func 21) #[] #[], .func (.func 22) #[] #[], .func (.func 23) #[] #[]]) (.int .i64 1)).run Tryz.prog w = .ok (.func (.func 22) #[] #[]) w := by kernel_rfl
theorem ix_form2 (w : World) : (Instr.index 41 (.agg #[.func (.func 21) #[] #[], .func (.func 22) #[] #[], .func (.func 23) #[] #[]]) (.int .i64 2)).run Tryz.prog w = .ok (.func (.func 23) #[] #[]) w := by kernel_rfl
def ForK (L : List Wd) (k : Value) : Prop := k = .int .i64 0 ∨ (k = .int .i64 1 ∧ Lb.resR (Lb.form 0 L) = none) ∨ (k = .int .i64 2 ∧ Lb.resR (Lb.form 0 L) = none ∧ Lb.resR (Lb.form 1 L) = none) ∨ (k = .int .i64 3 ∧ Lb.resR (Lb.form 0 L) = none ∧ Lb.resR (Lb.form 1 L) = none ∧ Lb.resR (Lb.form 2 L) = none)
theorem res_bad {r : R} (h : r.bad = true) : Lb.resR r = none := by unfold Lb.resR Lb.okR; rw [h]; rfl
theorem res_left {r : R} (h : r.l ≠ []) : Lb.resR r = none := by unfold Lb.resR Lb.okR; rw [decide_eq_false h]; simp
theorem res_sec {r : R} (h : Cv.secOk r.y r.mo r.d r.h r.mi r.s r.east = false) : Lb.resR r = none := by unfold Lb.resR Lb.okR; rw [h]; simp
theorem res_yes {r : R} (h1 : r.bad = false) (h2 : r.l = []) (h3 : Cv.secOk r.y r.mo r.d r.h r.mi r.s r.east = true) : Lb.resR r = some (Cv.secV r.y r.mo r.d r.h r.mi r.s r.east) := by
  unfold Lb.resR Lb.okR; rw [h1, h2, h3]; rfl
set_option maxRecDepth 100000 in
set_option maxHeartbeats 8000000 in
theorem lparse_any (l : Wd) (hl : l.length ≤ 100000) (w : World) : Calls Tryz.prog 6 #[.string (Ml.mk l)] w (ParPost l w) := by
  have hp := pcs_any l hl
  have hsz : PSz (Lb.pcs l) := ⟨Nat.le_trans (Lb.pcs_len l).1 hl, fun s hs => Nat.le_trans ((Lb.pcs_len l).2 s hs) hl⟩
  unfold PcsPost at hp
  unfold ParPost Lb.parse
  generalize Lb.pcs l = L at hp hsz ⊢
  obtain ⟨res, hres⟩ : ∃ res, Lb.parseL L = res := ⟨_, rfl⟩
  rw [hres]
  have HR := Lib.hid hres
  have HS := Lib.hid hsz
  clear hres hsz
  have x0 := ix_form0
  have x1 := ix_form1
  have x2 := ix_form2
  go_enter Tryz.func6, Tryz.ntmps6
  go_wp2_with fail
  refine (hp _).mono ?_
  rintro e w1 ⟨v, rfl, ⟨ad, cap, rfl, hown⟩, hB⟩
  have hOL : OL w1 w.heap.size (.slice ad L.length cap) L := ⟨ad, cap, rfl, hown⟩
  have HOL := Lib.hid hOL
  have HB := Lib.hid hB
  clear hOL hown hB hp
  go_wp2_with fail
  go_loopw [13] (fun k wr => ForK L k ∧ Below w1.heap.size w1 wr) (fun k _ => 3 - (intOf k).toNat)
  case atStart => exact ⟨Or.inl rfl, Below.refl _ _⟩
  case round =>
    obtain ⟨hk, hB2⟩ := hrel
    have hO2 := HOL.out.below hB2
    have HO2 := Lib.hid hO2
    have HB2 := Lib.hid hB2
    clear hO2 hB2
    have hmade : ∀ t, Rd wr (wr.alloc (.cells #[.slice ad L.length cap, .bool false, .int .i64 0, .int .i64 0, .int .i64 0, .int .i64 0, .int .i64 0, .int .i64 0, .int .i64 0] t)) wr.heap.size (Lb.start L) := fun t => Rd.made HO2.out HS.out t
    have HM := Lib.hid hmade
    clear hmade
    unfold ForK at hk
    rcases hk with rfl | ⟨rfl, n0⟩ | ⟨rfl, n0, n1⟩ | ⟨rfl, n0, n1, n2⟩
    · have hform : Lb.form 0 L = Lb.ckz (Lb.fst (Lb.start L)) := rfl
      have hbd := Lb.sml_form 0 L
      obtain ⟨f, hf⟩ : ∃ f, Lb.form 0 L = f := ⟨_, rfl⟩
      rw [hf] at hbd hform
      have HF := Lib.hid hf
      clear hf
      go_wp2_with fail
      refine ((HM.out _).first).mono ?_
      rintro e w2 ⟨rfl, h1⟩
      have H1 := Lib.hid h1
      clear h1
      go_wp2_with fail
      refine (H1.out.clock).mono ?_
      rintro e w3 ⟨rfl, h1⟩
      have H2 := Lib.hid h1
      clear h1 H1
      obtain ⟨b, hb⟩ : ∃ b, Lb.clB (Lb.fst (Lb.start L)) = b := ⟨_, rfl⟩
      rw [hb]
      unfold Lb.ckz at hform
      rw [hb] at hform
      cases b
      · rw [if_neg (by decide)] at hform
        have H3 : Hid (Rd wr w3 wr.heap.size f) := Lib.hid (by have e : Lb.clR (Lb.fst (Lb.start L)) = Lb.fst (Lb.start L) := (by unfold Lb.clR; rw [hb]; rfl); have h := H2.out; rw [e, ← hform] at h; exact h)
        clear H2
        clear hb hform
        obtain ⟨sv, sk, hsk, hsv, S⟩ := sec_of f hbd
        have HSK := Lib.hid hsk
        have HSV := Lib.hid hsv
        clear hbd hsk hsv
        go_wp2_with fail
        have h1 := H3.out
        obtain ⟨p1, c1, ⟨k0, hc1⟩, -, ⟨k1, k2, k3, k4, k5, k6, k7, k8⟩, -⟩ := h1.open_
        replace k2 := cell_regrown k2
        replace k3 := cell_regrown k3
        replace k4 := cell_regrown k4
        replace k5 := cell_regrown k5
        replace k6 := cell_regrown k6
        replace k7 := cell_regrown k7
        replace k8 := cell_regrown k8
        have kS := rg (W := w3) S
        clear h1 k0 k1 hc1 S
        refine wp_region_quiet_below (by kernel_rfl) (by kernel_rfl) ?_
        repeat (quiet_step (first | (go_at_call 26; exact kS _ _)))
        refine wpQuiet_nil ?_
        intro _ hw'
        obtain ⟨⟨dq, osq⟩, hw''⟩ := hw'
        subst hw''
        have h1 := H3.out.quiet (below_regrown _ dq osq)
        clear k2 k3 k4 k5 k6 k7 k8 kS H3
        obtain ⟨p1, c1, ⟨k0, hc1⟩, -, ⟨k1, k2, k3, k4, k5, k6, k7, k8⟩, -⟩ := h1.open_
        clear k2 k3 k4 k5 k6 k7 k8
        have hB4 := h1.2.2.2.2.1
        have HB4 := Lib.hid (bn HB2.out hB4)
        simp only at k0 k1 ⊢
        generalize «Sort».grow (redrawn _ dq) osq = W4 at *
        clear h1 hB4
        obtain ⟨bd, hbad⟩ : ∃ bd, f.bad = bd := ⟨_, rfl⟩
        rw [hbad] at k1
        cases bd
        · by_cases hl0 : f.l = []
          · have hz : f.l.length = 0 := by rw [hl0]; rfl
            rw [hz] at k0 hc1
            cases hs : Cv.secOk f.y f.mo f.d f.h f.mi f.s f.east with
            | false =>
              have hn : Lb.resR f = none := res_sec hs
              rw [← HF.out] at hn
              have HN := Lib.hid hn
              have hk0 : (sk == 0) = false := by rw [HSK.out, hs]
              clear hn hs hbad hl0 hz
              go_wp2
              go_roundw
              case rel => exact ⟨Or.inr (Or.inl ⟨by go_num, HN.out⟩), HB4.out⟩
              case measure => simp [intOf]
            | true =>
              have hy : Lb.resR f = some sv := by rw [res_yes hbad hl0 hs, HSV.out hs]
              have hres : res = some sv := by
                rw [← HR.out]
                unfold Lb.parseL
                rw [← HF.out] at hy
                rw [hy]
              have hk0 : sk = 0 := by
                have := HSK.out
                rw [hs] at this
                simpa using this
              subst hres
              subst hk0
              clear hy hs hbad hl0 hz
              go_wp2
              go_ret2
              exact ⟨rfl, bn HB.out HB4.out⟩
          · have hpos : 0 < f.l.length := List.length_pos_iff.2 hl0
            have hn : Lb.resR f = none := res_left hl0
            rw [← HF.out] at hn
            have HN := Lib.hid hn
            obtain ⟨m, hm⟩ : ∃ m, f.l.length = m := ⟨_, rfl⟩
            rw [hm] at k0 hpos hc1
            have hne : ((m : Int) == 0) = false := by simp; omega
            clear hn hbad hl0 hm
            go_wp2
            go_roundw
            case rel => exact ⟨Or.inr (Or.inl ⟨by go_num, HN.out⟩), HB4.out⟩
            case measure => simp [intOf]
        · have hn : Lb.resR f = none := res_bad hbad
          rw [← HF.out] at hn
          have HN := Lib.hid hn
          clear hn hbad
          go_wp2
          go_roundw
          case rel => exact ⟨Or.inr (Or.inl ⟨by go_num, HN.out⟩), HB4.out⟩
          case measure => simp [intOf]
      · rw [if_pos rfl] at hform
        go_wp2_with fail
        refine (H2.out.zone).mono ?_
        rintro e w4 ⟨rfl, h1⟩
        rw [← hform] at h1
        have H3 := Lib.hid h1
        clear h1 H2
        clear hb hform
        obtain ⟨sv, sk, hsk, hsv, S⟩ := sec_of f hbd
        have HSK := Lib.hid hsk
        have HSV := Lib.hid hsv
        clear hbd hsk hsv
        go_wp2_with fail
        have h1 := H3.out
        obtain ⟨p1, c1, ⟨k0, hc1⟩, -, ⟨k1, k2, k3, k4, k5, k6, k7, k8⟩, -⟩ := h1.open_
        replace k2 := cell_regrown k2
        replace k3 := cell_regrown k3
        replace k4 := cell_regrown k4
        replace k5 := cell_regrown k5
        replace k6 := cell_regrown k6
        replace k7 := cell_regrown k7
        replace k8 := cell_regrown k8
        have kS := rg (W := w4) S
        clear h1 k0 k1 hc1 S
        refine wp_region_quiet_below (by kernel_rfl) (by kernel_rfl) ?_
        repeat (quiet_step (first | (go_at_call 26; exact kS _ _)))
        refine wpQuiet_nil ?_
        intro _ hw'
        obtain ⟨⟨dq, osq⟩, hw''⟩ := hw'
        subst hw''
        have h1 := H3.out.quiet (below_regrown _ dq osq)
        clear k2 k3 k4 k5 k6 k7 k8 kS H3
        obtain ⟨p1, c1, ⟨k0, hc1⟩, -, ⟨k1, k2, k3, k4, k5, k6, k7, k8⟩, -⟩ := h1.open_
        clear k2 k3 k4 k5 k6 k7 k8
        have hB4 := h1.2.2.2.2.1
        have HB4 := Lib.hid (bn HB2.out hB4)
        simp only at k0 k1 ⊢
        generalize «Sort».grow (redrawn _ dq) osq = W4 at *
        clear h1 hB4
        obtain ⟨bd, hbad⟩ : ∃ bd, f.bad = bd := ⟨_, rfl⟩
        rw [hbad] at k1
        cases bd
        · by_cases hl0 : f.l = []
          · have hz : f.l.length = 0 := by rw [hl0]; rfl
            rw [hz] at k0 hc1
            cases hs : Cv.secOk f.y f.mo f.d f.h f.mi f.s f.east with
            | false =>
              have hn : Lb.resR f = none := res_sec hs
              rw [← HF.out] at hn
              have HN := Lib.hid hn
              have hk0 : (sk == 0) = false := by rw [HSK.out, hs]
              clear hn hs hbad hl0 hz
              go_wp2
              go_roundw
              case rel => exact ⟨Or.inr (Or.inl ⟨by go_num, HN.out⟩), HB4.out⟩
              case measure => simp [intOf]
            | true =>
              have hy : Lb.resR f = some sv := by rw [res_yes hbad hl0 hs, HSV.out hs]
              have hres : res = some sv := by
                rw [← HR.out]
                unfold Lb.parseL
                rw [← HF.out] at hy
                rw [hy]
              have hk0 : sk = 0 := by
                have := HSK.out
                rw [hs] at this
                simpa using this
              subst hres
              subst hk0
              clear hy hs hbad hl0 hz
              go_wp2
              go_ret2
              exact ⟨rfl, bn HB.out HB4.out⟩
          · have hpos : 0 < f.l.length := List.length_pos_iff.2 hl0
            have hn : Lb.resR f = none := res_left hl0
            rw [← HF.out] at hn
            have HN := Lib.hid hn
            obtain ⟨m, hm⟩ : ∃ m, f.l.length = m := ⟨_, rfl⟩
            rw [hm] at k0 hpos hc1
            have hne : ((m : Int) == 0) = false := by simp; omega
            clear hn hbad hl0 hm
            go_wp2
            go_roundw
            case rel => exact ⟨Or.inr (Or.inl ⟨by go_num, HN.out⟩), HB4.out⟩
            case measure => simp [intOf]
        · have hn : Lb.resR f = none := res_bad hbad
          rw [← HF.out] at hn
          have HN := Lib.hid hn
          clear hn hbad
          go_wp2
          go_roundw
          case rel => exact ⟨Or.inr (Or.inl ⟨by go_num, HN.out⟩), HB4.out⟩
          case measure => simp [intOf]
    · have hform : Lb.form 1 L = Lb.ckz (Lb.snd (Lb.start L)) := rfl
      have H_n0 := Lib.hid n0
      clear n0
      have hbd := Lb.sml_form 1 L
      obtain ⟨f, hf⟩ : ∃ f, Lb.form 1 L = f := ⟨_, rfl⟩
      rw [hf] at hbd hform
      have HF := Lib.hid hf
      clear hf
      go_wp2_with fail
      refine ((HM.out _).second).mono ?_
      rintro e w2 ⟨rfl, h1⟩
      have H1 := Lib.hid h1
      clear h1
      go_wp2_with fail
      refine (H1.out.clock).mono ?_
      rintro e w3 ⟨rfl, h1⟩
      have H2 := Lib.hid h1
      clear h1 H1
      obtain ⟨b, hb⟩ : ∃ b, Lb.clB (Lb.snd (Lb.start L)) = b := ⟨_, rfl⟩
      rw [hb]
      unfold Lb.ckz at hform
      rw [hb] at hform
      cases b
      · rw [if_neg (by decide)] at hform
        have H3 : Hid (Rd wr w3 wr.heap.size f) := Lib.hid (by have e : Lb.clR (Lb.snd (Lb.start L)) = Lb.snd (Lb.start L) := (by unfold Lb.clR; rw [hb]; rfl); have h := H2.out; rw [e, ← hform] at h; exact h)
        clear H2
        clear hb hform
        obtain ⟨sv, sk, hsk, hsv, S⟩ := sec_of f hbd
        have HSK := Lib.hid hsk
        have HSV := Lib.hid hsv
        clear hbd hsk hsv
        go_wp2_with fail
        have h1 := H3.out
        obtain ⟨p1, c1, ⟨k0, hc1⟩, -, ⟨k1, k2, k3, k4, k5, k6, k7, k8⟩, -⟩ := h1.open_
        replace k2 := cell_regrown k2
        replace k3 := cell_regrown k3
        replace k4 := cell_regrown k4
        replace k5 := cell_regrown k5
        replace k6 := cell_regrown k6
        replace k7 := cell_regrown k7
        replace k8 := cell_regrown k8
        have kS := rg (W := w3) S
        clear h1 k0 k1 hc1 S
        refine wp_region_quiet_below (by kernel_rfl) (by kernel_rfl) ?_
        repeat (quiet_step (first | (go_at_call 26; exact kS _ _)))
        refine wpQuiet_nil ?_
        intro _ hw'
        obtain ⟨⟨dq, osq⟩, hw''⟩ := hw'
        subst hw''
        have h1 := H3.out.quiet (below_regrown _ dq osq)
        clear k2 k3 k4 k5 k6 k7 k8 kS H3
        obtain ⟨p1, c1, ⟨k0, hc1⟩, -, ⟨k1, k2, k3, k4, k5, k6, k7, k8⟩, -⟩ := h1.open_
        clear k2 k3 k4 k5 k6 k7 k8
        have hB4 := h1.2.2.2.2.1
        have HB4 := Lib.hid (bn HB2.out hB4)
        simp only at k0 k1 ⊢
        generalize «Sort».grow (redrawn _ dq) osq = W4 at *
        clear h1 hB4
        obtain ⟨bd, hbad⟩ : ∃ bd, f.bad = bd := ⟨_, rfl⟩
        rw [hbad] at k1
        cases bd
        · by_cases hl0 : f.l = []
          · have hz : f.l.length = 0 := by rw [hl0]; rfl
            rw [hz] at k0 hc1
            cases hs : Cv.secOk f.y f.mo f.d f.h f.mi f.s f.east with
            | false =>
              have hn : Lb.resR f = none := res_sec hs
              rw [← HF.out] at hn
              have HN := Lib.hid hn
              have hk0 : (sk == 0) = false := by rw [HSK.out, hs]
              clear hn hs hbad hl0 hz
              go_wp2
              go_roundw
              case rel => exact ⟨Or.inr (Or.inr (Or.inl ⟨by go_num, H_n0.out, HN.out⟩)), HB4.out⟩
              case measure => simp [intOf]
            | true =>
              have hy : Lb.resR f = some sv := by rw [res_yes hbad hl0 hs, HSV.out hs]
              have hres : res = some sv := by
                rw [← HR.out]
                unfold Lb.parseL
                rw [← HF.out] at hy
                rw [H_n0.out, hy]
              have hk0 : sk = 0 := by
                have := HSK.out
                rw [hs] at this
                simpa using this
              subst hres
              subst hk0
              clear hy hs hbad hl0 hz
              go_wp2
              go_ret2
              exact ⟨rfl, bn HB.out HB4.out⟩
          · have hpos : 0 < f.l.length := List.length_pos_iff.2 hl0
            have hn : Lb.resR f = none := res_left hl0
            rw [← HF.out] at hn
            have HN := Lib.hid hn
            obtain ⟨m, hm⟩ : ∃ m, f.l.length = m := ⟨_, rfl⟩
            rw [hm] at k0 hpos hc1
            have hne : ((m : Int) == 0) = false := by simp; omega
            clear hn hbad hl0 hm
            go_wp2
            go_roundw
            case rel => exact ⟨Or.inr (Or.inr (Or.inl ⟨by go_num, H_n0.out, HN.out⟩)), HB4.out⟩
            case measure => simp [intOf]
        · have hn : Lb.resR f = none := res_bad hbad
          rw [← HF.out] at hn
          have HN := Lib.hid hn
          clear hn hbad
          go_wp2
          go_roundw
          case rel => exact ⟨Or.inr (Or.inr (Or.inl ⟨by go_num, H_n0.out, HN.out⟩)), HB4.out⟩
          case measure => simp [intOf]
      · rw [if_pos rfl] at hform
        go_wp2_with fail
        refine (H2.out.zone).mono ?_
        rintro e w4 ⟨rfl, h1⟩
        rw [← hform] at h1
        have H3 := Lib.hid h1
        clear h1 H2
        clear hb hform
        obtain ⟨sv, sk, hsk, hsv, S⟩ := sec_of f hbd
        have HSK := Lib.hid hsk
        have HSV := Lib.hid hsv
        clear hbd hsk hsv
        go_wp2_with fail
        have h1 := H3.out
        obtain ⟨p1, c1, ⟨k0, hc1⟩, -, ⟨k1, k2, k3, k4, k5, k6, k7, k8⟩, -⟩ := h1.open_
        replace k2 := cell_regrown k2
        replace k3 := cell_regrown k3
        replace k4 := cell_regrown k4
        replace k5 := cell_regrown k5
        replace k6 := cell_regrown k6
        replace k7 := cell_regrown k7
        replace k8 := cell_regrown k8
        have kS := rg (W := w4) S
        clear h1 k0 k1 hc1 S
        refine wp_region_quiet_below (by kernel_rfl) (by kernel_rfl) ?_
        repeat (quiet_step (first | (go_at_call 26; exact kS _ _)))
        refine wpQuiet_nil ?_
        intro _ hw'
        obtain ⟨⟨dq, osq⟩, hw''⟩ := hw'
        subst hw''
        have h1 := H3.out.quiet (below_regrown _ dq osq)
        clear k2 k3 k4 k5 k6 k7 k8 kS H3
        obtain ⟨p1, c1, ⟨k0, hc1⟩, -, ⟨k1, k2, k3, k4, k5, k6, k7, k8⟩, -⟩ := h1.open_
        clear k2 k3 k4 k5 k6 k7 k8
        have hB4 := h1.2.2.2.2.1
        have HB4 := Lib.hid (bn HB2.out hB4)
        simp only at k0 k1 ⊢
        generalize «Sort».grow (redrawn _ dq) osq = W4 at *
        clear h1 hB4
        obtain ⟨bd, hbad⟩ : ∃ bd, f.bad = bd := ⟨_, rfl⟩
        rw [hbad] at k1
        cases bd
        · by_cases hl0 : f.l = []
          · have hz : f.l.length = 0 := by rw [hl0]; rfl
            rw [hz] at k0 hc1
            cases hs : Cv.secOk f.y f.mo f.d f.h f.mi f.s f.east with
            | false =>
              have hn : Lb.resR f = none := res_sec hs
              rw [← HF.out] at hn
              have HN := Lib.hid hn
              have hk0 : (sk == 0) = false := by rw [HSK.out, hs]
              clear hn hs hbad hl0 hz
              go_wp2
              go_roundw
              case rel => exact ⟨Or.inr (Or.inr (Or.inl ⟨by go_num, H_n0.out, HN.out⟩)), HB4.out⟩
              case measure => simp [intOf]
            | true =>
              have hy : Lb.resR f = some sv := by rw [res_yes hbad hl0 hs, HSV.out hs]
              have hres : res = some sv := by
                rw [← HR.out]
                unfold Lb.parseL
                rw [← HF.out] at hy
                rw [H_n0.out, hy]
              have hk0 : sk = 0 := by
                have := HSK.out
                rw [hs] at this
                simpa using this
              subst hres
              subst hk0
              clear hy hs hbad hl0 hz
              go_wp2
              go_ret2
              exact ⟨rfl, bn HB.out HB4.out⟩
          · have hpos : 0 < f.l.length := List.length_pos_iff.2 hl0
            have hn : Lb.resR f = none := res_left hl0
            rw [← HF.out] at hn
            have HN := Lib.hid hn
            obtain ⟨m, hm⟩ : ∃ m, f.l.length = m := ⟨_, rfl⟩
            rw [hm] at k0 hpos hc1
            have hne : ((m : Int) == 0) = false := by simp; omega
            clear hn hbad hl0 hm
            go_wp2
            go_roundw
            case rel => exact ⟨Or.inr (Or.inr (Or.inl ⟨by go_num, H_n0.out, HN.out⟩)), HB4.out⟩
            case measure => simp [intOf]
        · have hn : Lb.resR f = none := res_bad hbad
          rw [← HF.out] at hn
          have HN := Lib.hid hn
          clear hn hbad
          go_wp2
          go_roundw
          case rel => exact ⟨Or.inr (Or.inr (Or.inl ⟨by go_num, H_n0.out, HN.out⟩)), HB4.out⟩
          case measure => simp [intOf]
    · have hform : Lb.form 2 L = Lb.ckz (Lb.thd (Lb.start L)) := rfl
      have H_n0 := Lib.hid n0
      have H_n1 := Lib.hid n1
      clear n0 n1
      have hbd := Lb.sml_form 2 L
      obtain ⟨f, hf⟩ : ∃ f, Lb.form 2 L = f := ⟨_, rfl⟩
      rw [hf] at hbd hform
      have HF := Lib.hid hf
      clear hf
      go_wp2_with fail
      refine ((HM.out _).third).mono ?_
      rintro e w2 ⟨rfl, h1⟩
      have H1 := Lib.hid h1
      clear h1
      go_wp2_with fail
      refine (H1.out.clock).mono ?_
      rintro e w3 ⟨rfl, h1⟩
      have H2 := Lib.hid h1
      clear h1 H1
      obtain ⟨b, hb⟩ : ∃ b, Lb.clB (Lb.thd (Lb.start L)) = b := ⟨_, rfl⟩
      rw [hb]
      unfold Lb.ckz at hform
      rw [hb] at hform
      cases b
      · rw [if_neg (by decide)] at hform
        have H3 : Hid (Rd wr w3 wr.heap.size f) := Lib.hid (by have e : Lb.clR (Lb.thd (Lb.start L)) = Lb.thd (Lb.start L) := (by unfold Lb.clR; rw [hb]; rfl); have h := H2.out; rw [e, ← hform] at h; exact h)
        clear H2
        clear hb hform
        obtain ⟨sv, sk, hsk, hsv, S⟩ := sec_of f hbd
        have HSK := Lib.hid hsk
        have HSV := Lib.hid hsv
        clear hbd hsk hsv
        go_wp2_with fail
        have h1 := H3.out
        obtain ⟨p1, c1, ⟨k0, hc1⟩, -, ⟨k1, k2, k3, k4, k5, k6, k7, k8⟩, -⟩ := h1.open_
        replace k2 := cell_regrown k2
        replace k3 := cell_regrown k3
        replace k4 := cell_regrown k4
        replace k5 := cell_regrown k5
        replace k6 := cell_regrown k6
        replace k7 := cell_regrown k7
        replace k8 := cell_regrown k8
        have kS := rg (W := w3) S
        clear h1 k0 k1 hc1 S
        refine wp_region_quiet_below (by kernel_rfl) (by kernel_rfl) ?_
        repeat (quiet_step (first | (go_at_call 26; exact kS _ _)))
        refine wpQuiet_nil ?_
        intro _ hw'
        obtain ⟨⟨dq, osq⟩, hw''⟩ := hw'
        subst hw''
        have h1 := H3.out.quiet (below_regrown _ dq osq)
        clear k2 k3 k4 k5 k6 k7 k8 kS H3
        obtain ⟨p1, c1, ⟨k0, hc1⟩, -, ⟨k1, k2, k3, k4, k5, k6, k7, k8⟩, -⟩ := h1.open_
        clear k2 k3 k4 k5 k6 k7 k8
        have hB4 := h1.2.2.2.2.1
        have HB4 := Lib.hid (bn HB2.out hB4)
        simp only at k0 k1 ⊢
        generalize «Sort».grow (redrawn _ dq) osq = W4 at *
        clear h1 hB4
        obtain ⟨bd, hbad⟩ : ∃ bd, f.bad = bd := ⟨_, rfl⟩
        rw [hbad] at k1
        cases bd
        · by_cases hl0 : f.l = []
          · have hz : f.l.length = 0 := by rw [hl0]; rfl
            rw [hz] at k0 hc1
            cases hs : Cv.secOk f.y f.mo f.d f.h f.mi f.s f.east with
            | false =>
              have hn : Lb.resR f = none := res_sec hs
              rw [← HF.out] at hn
              have HN := Lib.hid hn
              have hk0 : (sk == 0) = false := by rw [HSK.out, hs]
              clear hn hs hbad hl0 hz
              go_wp2
              go_roundw
              case rel => exact ⟨Or.inr (Or.inr (Or.inr ⟨by go_num, H_n0.out, H_n1.out, HN.out⟩)), HB4.out⟩
              case measure => simp [intOf]
            | true =>
              have hy : Lb.resR f = some sv := by rw [res_yes hbad hl0 hs, HSV.out hs]
              have hres : res = some sv := by
                rw [← HR.out]
                unfold Lb.parseL
                rw [← HF.out] at hy
                rw [H_n0.out, H_n1.out, hy]
              have hk0 : sk = 0 := by
                have := HSK.out
                rw [hs] at this
                simpa using this
              subst hres
              subst hk0
              clear hy hs hbad hl0 hz
              go_wp2
              go_ret2
              exact ⟨rfl, bn HB.out HB4.out⟩
          · have hpos : 0 < f.l.length := List.length_pos_iff.2 hl0
            have hn : Lb.resR f = none := res_left hl0
            rw [← HF.out] at hn
            have HN := Lib.hid hn
            obtain ⟨m, hm⟩ : ∃ m, f.l.length = m := ⟨_, rfl⟩
            rw [hm] at k0 hpos hc1
            have hne : ((m : Int) == 0) = false := by simp; omega
            clear hn hbad hl0 hm
            go_wp2
            go_roundw
            case rel => exact ⟨Or.inr (Or.inr (Or.inr ⟨by go_num, H_n0.out, H_n1.out, HN.out⟩)), HB4.out⟩
            case measure => simp [intOf]
        · have hn : Lb.resR f = none := res_bad hbad
          rw [← HF.out] at hn
          have HN := Lib.hid hn
          clear hn hbad
          go_wp2
          go_roundw
          case rel => exact ⟨Or.inr (Or.inr (Or.inr ⟨by go_num, H_n0.out, H_n1.out, HN.out⟩)), HB4.out⟩
          case measure => simp [intOf]
      · rw [if_pos rfl] at hform
        go_wp2_with fail
        refine (H2.out.zone).mono ?_
        rintro e w4 ⟨rfl, h1⟩
        rw [← hform] at h1
        have H3 := Lib.hid h1
        clear h1 H2
        clear hb hform
        obtain ⟨sv, sk, hsk, hsv, S⟩ := sec_of f hbd
        have HSK := Lib.hid hsk
        have HSV := Lib.hid hsv
        clear hbd hsk hsv
        go_wp2_with fail
        have h1 := H3.out
        obtain ⟨p1, c1, ⟨k0, hc1⟩, -, ⟨k1, k2, k3, k4, k5, k6, k7, k8⟩, -⟩ := h1.open_
        replace k2 := cell_regrown k2
        replace k3 := cell_regrown k3
        replace k4 := cell_regrown k4
        replace k5 := cell_regrown k5
        replace k6 := cell_regrown k6
        replace k7 := cell_regrown k7
        replace k8 := cell_regrown k8
        have kS := rg (W := w4) S
        clear h1 k0 k1 hc1 S
        refine wp_region_quiet_below (by kernel_rfl) (by kernel_rfl) ?_
        repeat (quiet_step (first | (go_at_call 26; exact kS _ _)))
        refine wpQuiet_nil ?_
        intro _ hw'
        obtain ⟨⟨dq, osq⟩, hw''⟩ := hw'
        subst hw''
        have h1 := H3.out.quiet (below_regrown _ dq osq)
        clear k2 k3 k4 k5 k6 k7 k8 kS H3
        obtain ⟨p1, c1, ⟨k0, hc1⟩, -, ⟨k1, k2, k3, k4, k5, k6, k7, k8⟩, -⟩ := h1.open_
        clear k2 k3 k4 k5 k6 k7 k8
        have hB4 := h1.2.2.2.2.1
        have HB4 := Lib.hid (bn HB2.out hB4)
        simp only at k0 k1 ⊢
        generalize «Sort».grow (redrawn _ dq) osq = W4 at *
        clear h1 hB4
        obtain ⟨bd, hbad⟩ : ∃ bd, f.bad = bd := ⟨_, rfl⟩
        rw [hbad] at k1
        cases bd
        · by_cases hl0 : f.l = []
          · have hz : f.l.length = 0 := by rw [hl0]; rfl
            rw [hz] at k0 hc1
            cases hs : Cv.secOk f.y f.mo f.d f.h f.mi f.s f.east with
            | false =>
              have hn : Lb.resR f = none := res_sec hs
              rw [← HF.out] at hn
              have HN := Lib.hid hn
              have hk0 : (sk == 0) = false := by rw [HSK.out, hs]
              clear hn hs hbad hl0 hz
              go_wp2
              go_roundw
              case rel => exact ⟨Or.inr (Or.inr (Or.inr ⟨by go_num, H_n0.out, H_n1.out, HN.out⟩)), HB4.out⟩
              case measure => simp [intOf]
            | true =>
              have hy : Lb.resR f = some sv := by rw [res_yes hbad hl0 hs, HSV.out hs]
              have hres : res = some sv := by
                rw [← HR.out]
                unfold Lb.parseL
                rw [← HF.out] at hy
                rw [H_n0.out, H_n1.out, hy]
              have hk0 : sk = 0 := by
                have := HSK.out
                rw [hs] at this
                simpa using this
              subst hres
              subst hk0
              clear hy hs hbad hl0 hz
              go_wp2
              go_ret2
              exact ⟨rfl, bn HB.out HB4.out⟩
          · have hpos : 0 < f.l.length := List.length_pos_iff.2 hl0
            have hn : Lb.resR f = none := res_left hl0
            rw [← HF.out] at hn
            have HN := Lib.hid hn
            obtain ⟨m, hm⟩ : ∃ m, f.l.length = m := ⟨_, rfl⟩
            rw [hm] at k0 hpos hc1
            have hne : ((m : Int) == 0) = false := by simp; omega
            clear hn hbad hl0 hm
            go_wp2
            go_roundw
            case rel => exact ⟨Or.inr (Or.inr (Or.inr ⟨by go_num, H_n0.out, H_n1.out, HN.out⟩)), HB4.out⟩
            case measure => simp [intOf]
        · have hn : Lb.resR f = none := res_bad hbad
          rw [← HF.out] at hn
          have HN := Lib.hid hn
          clear hn hbad
          go_wp2
          go_roundw
          case rel => exact ⟨Or.inr (Or.inr (Or.inr ⟨by go_num, H_n0.out, H_n1.out, HN.out⟩)), HB4.out⟩
          case measure => simp [intOf]
    · have hno : res = none := by rw [← HR.out]; unfold Lb.parseL; rw [n0, n1, n2]
      subst hno
      clear n0 n1 n2
      go_wp2
      go_ret2
      exact ⟨rfl, bn HB.out HB2.out⟩
end Go.Proofs.YtbhafhbaldddiaaGreatDoor
namespace Go.Proofs.YtbhafhbaldddiaaGreatDoor
open Go.RowKit
open Go
open Lb (R Wd)
set_option linter.unusedVariables false
theorem linfo_u8 : (Tryz.prog.info? 5).map (fun i => (i.zero, i.size, i.bytes)) = some (some (.int .u8 0), 1, 1) := by kernel_rfl
def lowI (l : List UInt8) (j : Nat) : List Value := (l.take j).map fun c => Value.int .u8 ((Lb.lw c).toNat : Int)
theorem lowI_step (l : List UInt8) (j : Nat) (h : j < l.length) : lowI l j ++ [.int .u8 ((Lb.lw (l.getD j 0)).toNat : Int)] = lowI l (j + 1) := by
  unfold lowI
  rw [List.take_succ_eq_append_getElem h, List.map_append]
  congr 1
  simp [List.getD_eq_getElem?_getD, h]
theorem lowI_len (l : List UInt8) (j : Nat) (h : j ≤ l.length) : (lowI l j).length = j := by unfold lowI; simp; omega
theorem one_u8 (x : Int) : ∀ u ∈ [Value.int .u8 x], u.oneCell' = true := by
  intro u hu
  simp at hu
  subst hu
  rfl
theorem lw_add {c : UInt8} (h : lup c = true) : ((c.toNat : Int) + 32) = ((Lb.lw c).toNat : Int) := by
  have := (lw_up h).2
  omega
set_option maxRecDepth 100000 in
set_option maxHeartbeats 2000000 in
theorem rlow_any (l : List UInt8) (hl : l.length ≤ 100000) (w : World) : Calls Tryz.prog 39 #[.string (Ml.mk l)] w (LowPost l w) := by
  obtain ⟨L, hL⟩ : ∃ L, l.map Lb.lw = L := ⟨_, rfl⟩
  unfold LowPost
  rw [hL]
  have HL := Lib.hid hL
  clear hL
  have hat := mk_at l
  have hsz : (Ml.mk l).size = l.length := rfl
  obtain ⟨z, hz⟩ : ∃ z, l.length = z := ⟨_, rfl⟩
  rw [hz] at hsz hl
  have HZ := Lib.hid hz
  have HAT := Lib.hid hat
  clear hz hat
  generalize Ml.mk l = T at *
  obtain ⟨i0, hi, hi0, hi1, hi2⟩ := info_parts linfo_u8
  go_enter Tryz.func39, Tryz.ntmps39
  go_wp2_with fail
  go_loopw [3, 4] (fun v i wr => ∃ j : Nat, j ≤ z ∧ i = .int .i64 (j : Int) ∧ (∃ a cap, v = .slice a j cap) ∧ wr.ownsRow w.heap.size 5 1 v j (lowI l j) ∧ Below w.heap.size w wr) (fun _ i _ => z - (intOf i).toNat)
  case atStart => exact ⟨0, Nat.zero_le _, rfl, ⟨none, 0, rfl⟩, World.ownsRow_nil _ _ _ _, Below.refl _ _⟩
  case round =>
    obtain ⟨j, hj, rfl, ⟨a, cap, rfl⟩, hown, hB⟩ := hrel
    have HO := Lib.hid hown
    have HB := Lib.hid hB
    have hzz := hB.size
    clear hown hB
    by_cases hlt : j < z
    · have hj2 : (j : Int) < (z : Int) := by omega
      have hix := HAT.out j
      have hst := lowI_step l j (by rw [HZ.out]; exact hlt)
      obtain ⟨c, hc⟩ : ∃ c, l.getD j 0 = c := ⟨_, rfl⟩
      rw [hc] at hix hst
      have HST := Lib.hid hst
      clear hst hc
      have h256 : c.toNat < 256 := UInt8.toNat_lt c
      cases hb : lup c with
      | true =>
        have ha := lw_add hb
        have hl256 : (Lb.lw c).toNat < 256 := UInt8.toNat_lt _
        unfold lup at hb
        have hb1 : (65 : Int) ≤ c.toNat := by simp at hb; omega
        have hb2 : (c.toNat : Int) ≤ 90 := by simp at hb; omega
        clear hb
        have HA := Lib.hid ha
        clear ha
        generalize c.toNat = n at *
        obtain ⟨m, hm⟩ : ∃ m, (Lb.lw c).toNat = m := ⟨_, rfl⟩
        have hmn : (n : Int) + 32 = (m : Int) := by rw [HA.out, hm]
        rw [hm] at hl256
        have HMM := Lib.hid hm
        clear hm HA
        go_wp2_with (at_builtin; refine wpList_append_lies _ rfl (.tmp 23) (.tmp 25) _ rfl w.heap.size 5 i0 _ 1 1 Tryz.underlying88 hi hi0 hi1 hi2 rfl (by omega) _ _ _ (by rfl) (HO.out.alloc _) ⟨wr.heap.size, 0, none⟩ 1 1 [.int .u8 (m : Int)] (by rfl) rfl (World.news_of_block (heap_alloc_new _ _)) (one_u8 _) (by omega) (by unfold maxLen; omega) (by omega) (by simp; omega) _ rfl ?_; intro g1 cap1 w2 hown2 hgrow2 hat2 hlt2)
        rw [← HMM.out, HST.out] at hown2
        go_roundw
        case rel => exact ⟨j + 1, by omega, by go_num, ⟨_, _, rfl⟩, hown2, (bbox HB.out _).grown hgrow2 (by simp; omega) (fun k hk => (HO.out.lt k hk).1)⟩
        case measure => simp [intOf]; omega
      | false =>
        have hno := lw_no hb
        rw [hno] at HST
        unfold lup at hb
        have hb1 : ¬ ((65 : Int) ≤ c.toNat ∧ (c.toNat : Int) ≤ 90) := by simp at hb; omega
        clear hb hno
        by_cases h1 : (65 : Int) ≤ c.toNat
        · have h2 : ¬ (c.toNat : Int) ≤ 90 := fun k => hb1 ⟨h1, k⟩
          clear hb1
          obtain ⟨n, hn⟩ : ∃ n, c.toNat = n := ⟨_, rfl⟩
          rw [hn] at hix h256 h1 h2
          have HNN := Lib.hid hn
          clear hn
          go_wp2_with (at_builtin; refine wpList_append_lies _ rfl (.tmp 23) (.tmp 25) _ rfl w.heap.size 5 i0 _ 1 1 Tryz.underlying88 hi hi0 hi1 hi2 rfl (by omega) _ _ _ (by rfl) (HO.out.alloc _) ⟨wr.heap.size, 0, none⟩ 1 1 [.int .u8 (n : Int)] (by rfl) rfl (World.news_of_block (heap_alloc_new _ _)) (one_u8 _) (by omega) (by unfold maxLen; omega) (by omega) (by simp; omega) _ rfl ?_; intro g1 cap1 w2 hown2 hgrow2 hat2 hlt2)
          rw [← HNN.out, HST.out] at hown2
          go_roundw
          case rel => exact ⟨j + 1, by omega, by go_num, ⟨_, _, rfl⟩, hown2, (bbox HB.out _).grown hgrow2 (by simp; omega) (fun k hk => (HO.out.lt k hk).1)⟩
          case measure => simp [intOf]; omega
        · clear hb1
          obtain ⟨n, hn⟩ : ∃ n, c.toNat = n := ⟨_, rfl⟩
          rw [hn] at hix h256 h1
          have HNN := Lib.hid hn
          clear hn
          go_wp2_with (at_builtin; refine wpList_append_lies _ rfl (.tmp 23) (.tmp 25) _ rfl w.heap.size 5 i0 _ 1 1 Tryz.underlying88 hi hi0 hi1 hi2 rfl (by omega) _ _ _ (by rfl) (HO.out.alloc _) ⟨wr.heap.size, 0, none⟩ 1 1 [.int .u8 (n : Int)] (by rfl) rfl (World.news_of_block (heap_alloc_new _ _)) (one_u8 _) (by omega) (by unfold maxLen; omega) (by omega) (by simp; omega) _ rfl ?_; intro g1 cap1 w2 hown2 hgrow2 hat2 hlt2)
          rw [← HNN.out, HST.out] at hown2
          go_roundw
          case rel => exact ⟨j + 1, by omega, by go_num, ⟨_, _, rfl⟩, hown2, (bbox HB.out _).grown hgrow2 (by simp; omega) (fun k hk => (HO.out.lt k hk).1)⟩
          case measure => simp [intOf]; omega
    · obtain rfl : j = z := by omega
      have hjz : ¬ (j : Int) < (j : Int) := by omega
      by_cases h0 : j = 0
      · have hnil : L = [] := by
          rw [← HL.out]
          have := HZ.out
          rw [h0] at this
          rw [List.length_eq_zero_iff.1 this]
          rfl
        subst hnil
        rcases HO.out.2 with ⟨e, _⟩ | ⟨g, c2, cur, e, _⟩
        · injection e with e1 _ e3
          subst e1
          subst e3
          subst h0
          have hb0 : (convert 88 9 (.slice none 0 0)).run Tryz.prog wr = .ok (.string ⟨#[]⟩) wr := by kernel_rfl
          go_wp2
          go_ret
          exact ⟨rfl, HB.out⟩
        · injection e with e1 _ e3
          subst e1
          subst e3
          have hback := run_convert_bytes_back (P := Tryz.prog) wr 88 9 5 ⟨g, 0, none⟩ cap [] Tryz.underlying88 Tryz.underlying5 Tryz.underlying9 (fun i hi => absurd hi (by simp))
          subst h0
          have hb2 : (convert 88 9 (.slice (some ⟨g, 0, none⟩) 0 cap)).run Tryz.prog wr = .ok (.string (Ml.mk [])) wr := hback
          clear hback
          go_wp2
          go_ret
          exact ⟨rfl, HB.out⟩
      · rcases HO.out.2 with ⟨_, e⟩ | ⟨g, c2, cur, e, _⟩
        · exact absurd e h0
        · injection e with e1 _ e3
          subst e1
          subst e3
          have hback := run_convert_bytes_back (P := Tryz.prog) wr 88 9 5 ⟨g, 0, none⟩ cap L Tryz.underlying88 Tryz.underlying5 Tryz.underlying9 (fun i hi => by
            have hi2 : i < l.length := by rw [← HL.out] at hi; simpa using hi
            rw [HO.out.cells (g := g) rfl i (.int .u8 ((L[i]'hi).toNat : Int)) (by
              unfold lowI
              rw [← HZ.out, List.take_length, List.getElem?_map]
              have : l[i]? = some l[i] := List.getElem?_eq_getElem hi2
              rw [this]
              simp [← HL.out])])
          have hlen : L.length = j := by rw [← HL.out, List.length_map]; exact HZ.out
          rw [hlen] at hback
          have hb2 : (convert 88 9 (.slice (some ⟨g, 0, none⟩) j cap)).run Tryz.prog wr = .ok (.string (Ml.mk L)) wr := hback
          clear hback hlen
          go_wp2
          go_ret
          exact ⟨rfl, HB.out⟩
end Go.Proofs.YtbhafhbaldddiaaGreatDoor
namespace Lb
theorem wk1 : parse [84, 104, 117, 114, 115, 100, 97, 121, 44, 32, 49, 45, 74, 97, 110, 117, 97, 114, 121, 45, 55, 48, 32, 48, 48, 58, 48, 49] = some 60 := by decide +kernel
theorem wk2 : parse [74, 97, 110, 32, 50, 44, 32, 49, 57, 55, 48] = some 86400 := by decide +kernel
theorem wk3 : parse [50, 32, 49, 51, 32, 49, 57, 55, 48] = none := by decide +kernel
theorem wk4 : monF [115, 101, 112, 116] = 9 := by decide +kernel
theorem wk5 : wkB [116, 104, 117, 114, 115] = true := by decide +kernel
end Lb
namespace Go.Proofs.YtbhafhbaldddiaaGreatDoor
open Go.RowKit
open Go
open Lb (R Wd)
set_option linter.unusedVariables false
def LawTrue (w : World) (e : Ending) (w' : World) : Prop := e = .returned (.bool true) ∧ Below w.heap.size w w'
theorem lbdn {w a : World} {n : Nat} (h : Below n w a) (k : Nat) : Below n w (a.drewN k) := ⟨h.os, h.tape, h.output, h.size, h.block⟩
theorem OL.row {w : World} {base : Nat} {v : Value} {L : List Wd} (h : OL w base v L) : PRow w w.heap.size v L := by
  obtain ⟨a', cap', hv, ho⟩ := h
  have hlen : L.length ≤ cap' := by
    rcases ho.2 with ⟨e, hn⟩ | ⟨g, c2, cur, e, _, _, hle, _⟩
    · omega
    · rw [hv] at e
      injection e with _ _ e3
      omega
  refine ⟨a', cap', hv, hlen, fun hl => ?_⟩
  have hl2 : 0 < L.length := List.length_pos_iff.2 hl
  rcases ho.2 with ⟨_, hn⟩ | ⟨g, c2, cur, e, _, hg, _⟩
  · exact absurd hn (by show ¬ L.length = 0; omega)
  · have e' := e
    rw [hv] at e
    injection e with e1 _ _
    have hlt : g < w.heap.size := (ho.lt g (by rw [e']; rfl)).2
    refine ⟨g, 0, e1, hlt, fun k s hk => ?_⟩
    have := ho.cells (g := g) (by rw [e']; rfl) k (.string (Ml.mk s)) (by rw [List.getElem?_map, hk]; rfl)
    rw [Go.WideShapes.add_plain] at this
    exact this
set_option maxHeartbeats 2000000 in
theorem texts_eq (w : World) (B1 B2 : Nat) (v1 v2 : Value) (L : List Wd) (hL : L.length ≤ 100000) (hs : ∀ s ∈ L, s.length ≤ 100000) (h1 : PRow w B1 v1 L) (h2 : PRow w B2 v2 L) : Calls Tryz.prog 10 #[v1, v2] w (LawTrue w) := by
  obtain ⟨p1, c1, rfl, hc1, hr1⟩ := h1
  obtain ⟨p2, c2, rfl, hc2, hr2⟩ := h2
  obtain ⟨n, hn⟩ : ∃ n, L.length = n := ⟨_, rfl⟩
  rw [hn] at hc1 hc2 hL ⊢
  have HN := Lib.hid hn
  have HR1 := Lib.hid hr1
  have HR2 := Lib.hid hr2
  have HS := Lib.hid hs
  clear hn hr1 hr2 hs
  unfold LawTrue
  go_enter Tryz.func10, Tryz.ntmps10
  go_wp2
  go_loopw [5] (fun i wr => ∃ j d : Nat, j ≤ n ∧ i = .int .i64 (j : Int) ∧ wr = w.drewN d) (fun i _ => n - (intOf i).toNat)
  case atStart => exact ⟨0, 0, by omega, rfl, by first | rfl | simp⟩
  case round =>
    obtain ⟨j, d, hj, rfl, rfl⟩ := hrel
    by_cases hlt : j < n
    · have hj2 : (j : Int) < (n : Int) := by omega
      have hne : L ≠ [] := fun e => by have := HN.out; rw [e] at this; simp at this; omega
      obtain ⟨g1, i1, rfl, hg1, hx1⟩ := HR1.out hne
      obtain ⟨g2, i2, rfl, hg2, hx2⟩ := HR2.out hne
      have hjl : j < L.length := by rw [HN.out]; exact hlt
      have hk : L[j]? = some L[j] := List.getElem?_eq_getElem hjl
      have y1 := hx1 j _ hk
      have y2 := hx2 j _ hk
      have hsz := HS.out L[j] (List.getElem_mem hjl)
      have hz : (Ml.mk L[j]).size = L[j].length := rfl
      generalize Ml.mk L[j] = T at *
      generalize L[j].length = m at *
      clear hk hjl hx1 hx2 hne
      have z1 : (w.drewN d).cell? ⟨g1, i1 + j, none⟩ = some (.string T) := y1
      have z2 : (w.drewN d).cell? ⟨g2, i2 + j, none⟩ = some (.string T) := y2
      go_wp2_with fail
      go_quiet (fail)
      go_wp2_with fail
      go_roundw
      case rel => exact ⟨j + 1, d + nq, by omega, by go_num, by simp [World.drewN]⟩
      case measure => simp [intOf]; omega
    · have hjn : ¬ (j : Int) < (n : Int) := by omega
      go_wp2
      go_ret
      exact ⟨rfl, lbdn (Below.refl _ _) d⟩
set_option maxHeartbeats 2000000 in
theorem lwakes_any (w : World) : Calls Tryz.prog 5 #[] w (LawTrue w) := by
  have p1 := fun w => lparse_any [84, 104, 117, 114, 115, 100, 97, 121, 44, 32, 49, 45, 74, 97, 110, 117, 97, 114, 121, 45, 55, 48, 32, 48, 48, 58, 48, 49] (by decide) w
  have p2 := fun w => lparse_any [74, 97, 110, 32, 50, 44, 32, 49, 57, 55, 48] (by decide) w
  have p3 := fun w => lparse_any [50, 32, 49, 51, 32, 49, 57, 55, 48] (by decide) w
  have p4 := fun w => lmon_any [115, 101, 112, 116] (by decide) w
  have p5 := fun w => lwk_any [116, 104, 117, 114, 115] (by decide) w
  unfold ParPost at p1 p2 p3
  rw [Lb.wk1] at p1
  rw [Lb.wk2] at p2
  rw [Lb.wk3] at p3
  rw [Lb.wk4] at p4
  rw [Lb.wk5] at p5
  unfold LawTrue
  go_enter Tryz.func5, Tryz.ntmps5
  go_wp2_with fail
  refine (p1 _).mono ?_
  rintro e w1 ⟨rfl, b1⟩
  go_wp2_with fail
  refine (p2 _).mono ?_
  rintro e w2 ⟨rfl, b2⟩
  go_wp2_with fail
  refine (p3 _).mono ?_
  rintro e w3 ⟨rfl, b3⟩
  go_wp2_with fail
  refine (p4 _).mono ?_
  rintro e w4 ⟨rfl, b4⟩
  go_wp2_with fail
  refine (p5 _).mono ?_
  rintro e w5 ⟨rfl, b5⟩
  go_wp2
  go_ret
  exact ⟨rfl, bn (bn (bn (bn b1 b2) b3) b4) b5⟩
end Go.Proofs.YtbhafhbaldddiaaGreatDoor
