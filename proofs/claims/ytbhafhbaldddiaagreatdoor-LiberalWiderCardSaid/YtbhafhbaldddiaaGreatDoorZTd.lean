/- The walks of the document's rest and of its three forms. The walks of the document's three forms. -/
import Derived.Test.YtbhafhbaldddiaaGreatDoorZTc
import Derived.Test.YtbhafhbaldddiaaGreatDoorZLf
import Derived.Lib.QuietBelow
namespace Go.Proofs.YtbhafhbaldddiaaGreatDoor
open Go.RowKit
open Go
open Lb (R Wd)
set_option linter.unusedVariables false
def ResPost (o : Option Int) (w0 : World) (e : Ending) (W' : World) : Prop := e = .returned (.tuple #[.int .i64 (o.getD 0), .bool o.isSome]) ∧ Below w0.heap.size w0 W'
theorem cell_drn {w w5 : World} {n : Nat} {a : Addr} {v : Value} (h : w.drewN n = w5) (k : w.cell? a = some v) : w5.cell? a = some v := by
  subst h
  exact k
theorem clR_no {r : R} (h : Lb.clB r = false) : Lb.clR r = r := by unfold Lb.clR; rw [h]; rfl
theorem rsec_of (r : R) : ∃ v k : Int, ((k == 0) = Cv.secOk r.y r.mo r.d r.h r.mi r.s r.east) ∧ (Cv.secOk r.y r.mo r.d r.h r.mi r.s r.east = true → v = Cv.secV r.y r.mo r.d r.h r.mi r.s r.east) ∧ (Cv.secOk r.y r.mo r.d r.h r.mi r.s r.east = false → v = 0) ∧
    ∀ w, Calls Tryz.prog 50 #[.agg #[.int .i64 r.y, .int .i64 r.mo, .int .i64 r.d, .int .i64 r.h, .int .i64 r.mi, .int .i64 r.s], .int .i64 r.east] w fun e w' => e = .returned (.tuple #[.int .i64 v, .int .i64 k]) ∧ Below w.heap.size w w' := by
  cases hk : Cv.secOk r.y r.mo r.d r.h r.mi r.s r.east with
  | false => exact ⟨0, 2, rfl, fun h => (nomatch h), fun _ => rfl, fun w => rsec_no _ _ _ _ _ _ _ w hk⟩
  | true => exact ⟨_, 0, rfl, fun _ => rfl, fun h => (nomatch h), fun w => rsec_yes _ _ _ _ _ _ _ w hk⟩
section
variable {w0 W : World} {B : Nat} {L : List Wd} {r : R}
set_option maxRecDepth 100000 in
set_option maxHeartbeats 8000000 in
theorem Tk.rest (h : Tk w0 W B L r) : Calls Tryz.prog 70 #[.pointer (some ⟨B, 0, none⟩)] W (ResPost (Lb.resR (Lb.dckz r)) w0) := by
  have H := Lib.hid h
  clear h
  unfold ResPost
  obtain ⟨f, hform⟩ : ∃ f, Lb.dckz r = f := ⟨_, rfl⟩
  rw [hform]
  obtain ⟨res, hres⟩ : ∃ res, Lb.resR f = res := ⟨_, rfl⟩
  rw [hres]
  have HRES := Lib.hid hres
  clear hres
  unfold Lb.dckz at hform
  obtain ⟨b, hb⟩ : ∃ b, Lb.clB r = b := ⟨_, rfl⟩
  rw [hb] at hform
  cases b
  · rw [if_neg (by decide)] at hform
    subst hform
    go_enter Tryz.func70, Tryz.ntmps70
    go_wp2_with fail
    have hm := H.out.clock
    rw [hb, clR_no hb] at hm
    refine hm.mono ?_
    clear hm
    rintro e w1 ⟨rfl, h1⟩
    have H1 := Lib.hid h1
    clear H h1 hb
    obtain ⟨f, hf⟩ : ∃ f, r = f := ⟨_, rfl⟩
    rw [hf] at H1 HRES
    clear hf
    have h1 := H1.out
    obtain ⟨p1, c1, a1, ⟨k0, hc1⟩, ⟨k1, ha1, hd1⟩, ⟨k2, k3, k4, k5, k6, k7, k8, k9⟩, -⟩ := h1.open_
    have hB1 := h1.2.2.2.2.1
    have HB1 := Lib.hid hB1
    have hl1 : L.length ≤ 100000 := h1.2.2.2.2.2.1.1
    have hiff : f.l = [] ↔ a1 = L.length := by
      rw [hd1, List.drop_eq_nil_iff]
      omega
    obtain ⟨n1, hn1⟩ : ∃ n1, L.length = n1 := ⟨_, rfl⟩
    rw [hn1] at k0 hc1 ha1 hl1 hiff
    have HIFF := Lib.hid hiff
    clear h1 hB1 hiff hn1 hd1
    obtain ⟨bd, hbad⟩ : ∃ bd, f.bad = bd := ⟨_, rfl⟩
    rw [hbad] at k2
    cases bd
    · by_cases hal : (a1 : Int) = (n1 : Int)
      · have hl0 : f.l = [] := HIFF.out.2 (by omega)
        have hal2 : ((a1 : Int) == (n1 : Int)) = true := by simpa using hal
        obtain ⟨sv, sk, hsk, hsv, hsn, S⟩ := rsec_of f
        have hv : (sk = 0 ∧ res = some sv) ∨ ((sk == 0) = false ∧ sv = 0 ∧ res = none) := by
          cases hs : Cv.secOk f.y f.mo f.d f.h f.mi f.s f.east with
          | false => exact Or.inr ⟨by rw [hsk, hs], hsn hs, by rw [← HRES.out, res_sec hs]⟩
          | true => exact Or.inl ⟨by rw [hs] at hsk; simpa using hsk, by rw [← HRES.out, res_yes hbad hl0 hs, hsv hs]⟩
        have HV := Lib.hid hv
        clear hv hsk hsv hsn hbad hl0
        go_wp2_with fail
        go_quiet (fail)
        go_wp2_with fail
        obtain ⟨w5, hw5⟩ : ∃ w5, w1.drewN nq = w5 := ⟨_, rfl⟩
        have hB5 : Below w0.heap.size w0 w5 := by rw [← hw5]; exact below_drewN HB1.out _
        replace k3 := cell_drn hw5 k3
        replace k4 := cell_drn hw5 k4
        replace k5 := cell_drn hw5 k5
        replace k6 := cell_drn hw5 k6
        replace k7 := cell_drn hw5 k7
        replace k8 := cell_drn hw5 k8
        replace k9 := cell_drn hw5 k9
        rw [hw5]
        clear hw5 k0 k1 k2 hc1
        replace k3 := cell_regrown k3
        replace k4 := cell_regrown k4
        replace k5 := cell_regrown k5
        replace k6 := cell_regrown k6
        replace k7 := cell_regrown k7
        replace k8 := cell_regrown k8
        replace k9 := cell_regrown k9
        have kS := rg (W := w5) S
        have HB5 := Lib.hid hB5
        clear S hB5
        refine wp_region_quiet_below (by kernel_rfl) (by kernel_rfl) ?_
        repeat (quiet_step (first | (go_at_call 50; exact kS _ _)))
        refine wpQuiet_nil ?_
        intro _ hw'
        obtain ⟨⟨dq, osq⟩, hw''⟩ := hw'
        subst hw''
        have hB6 := HB5.out.trans ((below_regrown w5 dq osq).mono HB5.out.size)
        have HB6 := Lib.hid hB6
        clear k3 k4 k5 k6 k7 k8 k9 kS hB6 HB5
        rcases HV.out with ⟨rfl, rfl⟩ | ⟨hk0, rfl, rfl⟩
        · go_wp2_with fail
          go_ret2
          exact ⟨rfl, HB6.out⟩
        · go_wp2_with fail
          go_ret2
          exact ⟨rfl, HB6.out⟩
      · have hl0 : ¬ f.l = [] := fun e => hal (by have := HIFF.out.1 e; omega)
        have hn : res = none := by rw [← HRES.out, res_left hl0]
        have hal2 : ((a1 : Int) == (n1 : Int)) = false := by simpa using hal
        subst hn
        clear hl0 hbad
        go_wp2_with fail
        go_quiet (fail)
        go_wp2_with fail
        go_ret2
        exact ⟨rfl, below_drewN HB1.out _⟩
    · have hn : res = none := by rw [← HRES.out, res_bad hbad]
      subst hn
      clear hbad
      go_wp2_with fail
      go_quiet (fail)
      go_wp2_with fail
      go_ret2
      exact ⟨rfl, below_drewN HB1.out _⟩
  · rw [if_pos rfl] at hform
    subst hform
    go_enter Tryz.func70, Tryz.ntmps70
    go_wp2_with fail
    have hm := H.out.clock
    rw [hb] at hm
    refine hm.mono ?_
    clear hm
    rintro e w1 ⟨rfl, h1⟩
    have H1 := Lib.hid h1
    clear H h1 hb
    go_wp2_with fail
    refine H1.out.zone.mono ?_
    rintro e w2 ⟨rfl, h1⟩
    have H2 := Lib.hid h1
    clear H1 h1
    obtain ⟨f, hf⟩ : ∃ f, Lb.dzR (Lb.clR r) = f := ⟨_, rfl⟩
    rw [hf] at H2 HRES
    clear hf
    have h1 := H2.out
    obtain ⟨p1, c1, a1, ⟨k0, hc1⟩, ⟨k1, ha1, hd1⟩, ⟨k2, k3, k4, k5, k6, k7, k8, k9⟩, -⟩ := h1.open_
    have hB1 := h1.2.2.2.2.1
    have HB1 := Lib.hid hB1
    have hl1 : L.length ≤ 100000 := h1.2.2.2.2.2.1.1
    have hiff : f.l = [] ↔ a1 = L.length := by
      rw [hd1, List.drop_eq_nil_iff]
      omega
    obtain ⟨n1, hn1⟩ : ∃ n1, L.length = n1 := ⟨_, rfl⟩
    rw [hn1] at k0 hc1 ha1 hl1 hiff
    have HIFF := Lib.hid hiff
    clear h1 hB1 hiff hn1 hd1
    obtain ⟨bd, hbad⟩ : ∃ bd, f.bad = bd := ⟨_, rfl⟩
    rw [hbad] at k2
    cases bd
    · by_cases hal : (a1 : Int) = (n1 : Int)
      · have hl0 : f.l = [] := HIFF.out.2 (by omega)
        have hal2 : ((a1 : Int) == (n1 : Int)) = true := by simpa using hal
        obtain ⟨sv, sk, hsk, hsv, hsn, S⟩ := rsec_of f
        have hv : (sk = 0 ∧ res = some sv) ∨ ((sk == 0) = false ∧ sv = 0 ∧ res = none) := by
          cases hs : Cv.secOk f.y f.mo f.d f.h f.mi f.s f.east with
          | false => exact Or.inr ⟨by rw [hsk, hs], hsn hs, by rw [← HRES.out, res_sec hs]⟩
          | true => exact Or.inl ⟨by rw [hs] at hsk; simpa using hsk, by rw [← HRES.out, res_yes hbad hl0 hs, hsv hs]⟩
        have HV := Lib.hid hv
        clear hv hsk hsv hsn hbad hl0
        go_wp2_with fail
        go_quiet (fail)
        go_wp2_with fail
        obtain ⟨w5, hw5⟩ : ∃ w5, w2.drewN nq = w5 := ⟨_, rfl⟩
        have hB5 : Below w0.heap.size w0 w5 := by rw [← hw5]; exact below_drewN HB1.out _
        replace k3 := cell_drn hw5 k3
        replace k4 := cell_drn hw5 k4
        replace k5 := cell_drn hw5 k5
        replace k6 := cell_drn hw5 k6
        replace k7 := cell_drn hw5 k7
        replace k8 := cell_drn hw5 k8
        replace k9 := cell_drn hw5 k9
        rw [hw5]
        clear hw5 k0 k1 k2 hc1
        replace k3 := cell_regrown k3
        replace k4 := cell_regrown k4
        replace k5 := cell_regrown k5
        replace k6 := cell_regrown k6
        replace k7 := cell_regrown k7
        replace k8 := cell_regrown k8
        replace k9 := cell_regrown k9
        have kS := rg (W := w5) S
        have HB5 := Lib.hid hB5
        clear S hB5
        refine wp_region_quiet_below (by kernel_rfl) (by kernel_rfl) ?_
        repeat (quiet_step (first | (go_at_call 50; exact kS _ _)))
        refine wpQuiet_nil ?_
        intro _ hw'
        obtain ⟨⟨dq, osq⟩, hw''⟩ := hw'
        subst hw''
        have hB6 := HB5.out.trans ((below_regrown w5 dq osq).mono HB5.out.size)
        have HB6 := Lib.hid hB6
        clear k3 k4 k5 k6 k7 k8 k9 kS hB6 HB5
        rcases HV.out with ⟨rfl, rfl⟩ | ⟨hk0, rfl, rfl⟩
        · go_wp2_with fail
          go_ret2
          exact ⟨rfl, HB6.out⟩
        · go_wp2_with fail
          go_ret2
          exact ⟨rfl, HB6.out⟩
      · have hl0 : ¬ f.l = [] := fun e => hal (by have := HIFF.out.1 e; omega)
        have hn : res = none := by rw [← HRES.out, res_left hl0]
        have hal2 : ((a1 : Int) == (n1 : Int)) = false := by simpa using hal
        subst hn
        clear hl0 hbad
        go_wp2_with fail
        go_quiet (fail)
        go_wp2_with fail
        go_ret2
        exact ⟨rfl, below_drewN HB1.out _⟩
    · have hn : res = none := by rw [← HRES.out, res_bad hbad]
      subst hn
      clear hbad
      go_wp2_with fail
      go_quiet (fail)
      go_wp2_with fail
      go_ret2
      exact ⟨rfl, below_drewN HB1.out _⟩
end
end Go.Proofs.YtbhafhbaldddiaaGreatDoor
namespace Go.Proofs.YtbhafhbaldddiaaGreatDoor
open Go.RowKit
open Go
open Lb (R Wd)
set_option linter.unusedVariables false
theorem mo_eq (r : R) : Lb.sMo (Lb.monF (Lb.nx r)) (Lb.moT r) = Lb.moR r := by
  unfold Lb.moT Lb.moR
  by_cases h : Lb.monF (Lb.nx r) = 0
  · rw [if_pos h, if_pos h, h]; rfl
  · rw [if_neg h, if_neg h]; rfl
/-- A taker made anew. -/
theorem Tk.made {w : World} {p : Option Addr} {c : Nat} {L : List Wd} (hO : PRow w w.heap.size (.slice p L.length c) L) (hs : PSz L) (hp : ∀ q ∈ L, Lb.Piece q) (t : Nat) :
    Tk w (w.alloc (.cells #[.slice p L.length c, .int .i64 0, .bool false, .int .i64 0, .int .i64 0, .int .i64 0, .int .i64 0, .int .i64 0, .int .i64 0, .int .i64 0] t)) w.heap.size L (Lb.start L) := by
  have hB := (Below.refl w.heap.size w).alloc (Nat.le_refl _) (.cells #[.slice p L.length c, .int .i64 0, .bool false, .int .i64 0, .int .i64 0, .int .i64 0, .int .i64 0, .int .i64 0, .int .i64 0, .int .i64 0] t)
  refine ⟨⟨p, c, 0, tens ?_ ?_ ?_ ?_ ?_ ?_ ?_ ?_ ?_ ?_, ?_, Nat.zero_le _, rfl⟩, fun k _ => by go_simp, by simp, Nat.le_refl _, hB, hs, hp⟩
  all_goals try (show (w.alloc _).cell? _ = _; simp [tcells, Lb.start]; done)
  exact hO.far fun a ha => hB.cell ha
theorem res_dbad {r : R} (h : r.bad = true) : Lb.resR (Lb.dckz r) = none := res_bad (Lb.bad_dckz h)
set_option maxRecDepth 100000 in
set_option maxHeartbeats 8000000 in
theorem rthird_any {w : World} {p : Option Addr} {c : Nat} {L : List Wd} (hO : PRow w w.heap.size (.slice p L.length c) L) (hs : PSz L) (hp : ∀ q ∈ L, Lb.Piece q) : Calls Tryz.prog 29 #[.slice p L.length c] w (ResPost (Lb.resR (Lb.dform 2 L)) w) := by
  have hm := Tk.made hO hs hp 73
  obtain ⟨n, hn⟩ : ∃ n, L.length = n := ⟨_, rfl⟩
  rw [hn] at hm ⊢
  have HM := Lib.hid hm
  clear hO hm hn
  unfold ResPost
  have hf : Lb.resR (Lb.dform 2 L) = Lb.resR (Lb.dckz (Lb.thd (Lb.start L))) := rfl
  rw [hf]
  clear hf
  obtain ⟨o, ho⟩ : ∃ o, Lb.resR (Lb.dckz (Lb.thd (Lb.start L))) = o := ⟨_, rfl⟩
  rw [ho]
  have HO := Lib.hid ho
  clear ho
  go_enter Tryz.func29, Tryz.ntmps29
  go_wp2_with fail
  have H := HM
  refine H.out.weekday.mono ?_
  rintro e w1 ⟨rfl, h1⟩
  obtain ⟨_, _, _, -, -, ⟨k2, k3, k4, k5, k6, k7, k8, k9⟩, f0, f1, f2, f3, f4, f5, f6, f7, f8, f9⟩ := h1.open_
  have H1 : Hid (Tk w _ w.heap.size L (Lb.wkR (Lb.start L))) := Lib.hid (h1)
  clear H h1
  go_wp2_with fail
  refine H1.out.month.mono ?_
  rintro e w2 ⟨rfl, h1⟩
  clear k2 k3 k4 k5 k6 k7 k8 k9 f0 f1 f2 f3 f4 f5 f6 f7 f8 f9
  obtain ⟨_, _, _, -, -, ⟨k2, k3, k4, k5, k6, k7, k8, k9⟩, f0, f1, f2, f3, f4, f5, f6, f7, f8, f9⟩ := h1.open_
  have h2 := h1.sMo (Lb.monF (Lb.nx (Lb.wkR (Lb.start L))))
  rw [mo_eq] at h2
  have H2 : Hid (Tk w _ w.heap.size L (Lb.moR (Lb.wkR (Lb.start L)))) := Lib.hid h2
  clear H1 h1 h2
  go_wp2_with fail
  refine H2.out.num12.mono ?_
  rintro e w3 ⟨rfl, h1⟩
  clear k2 k3 k4 k5 k6 k7 k8 k9 f0 f1 f2 f3 f4 f5 f6 f7 f8 f9
  obtain ⟨_, _, _, -, -, ⟨k2, k3, k4, k5, k6, k7, k8, k9⟩, f0, f1, f2, f3, f4, f5, f6, f7, f8, f9⟩ := h1.open_
  have H3 : Hid (Tk w _ w.heap.size L (Lb.nmD (Lb.moR (Lb.wkR (Lb.start L))))) := Lib.hid (h1.sD _)
  clear H2 h1
  go_wp2_with fail
  refine H3.out.mb44.mono ?_
  rintro e w4 ⟨rfl, h1⟩
  clear k2 k3 k4 k5 k6 k7 k8 k9 f0 f1 f2 f3 f4 f5 f6 f7 f8 f9
  obtain ⟨_, _, _, -, -, ⟨k2, k3, k4, k5, k6, k7, k8, k9⟩, f0, f1, f2, f3, f4, f5, f6, f7, f8, f9⟩ := h1.open_
  have H4 : Hid (Tk w _ w.heap.size L (Lb.mbR [44] (Lb.nmD (Lb.moR (Lb.wkR (Lb.start L)))))) := Lib.hid (h1)
  clear H3 h1
  go_wp2_with fail
  refine H4.out.year_f.mono ?_
  rintro e w5 ⟨rfl, h1⟩
  clear k2 k3 k4 k5 k6 k7 k8 k9 f0 f1 f2 f3 f4 f5 f6 f7 f8 f9
  obtain ⟨_, _, _, -, -, ⟨k2, k3, k4, k5, k6, k7, k8, k9⟩, f0, f1, f2, f3, f4, f5, f6, f7, f8, f9⟩ := h1.open_
  have H5 : Hid (Tk w _ w.heap.size L (Lb.thd (Lb.start L))) := Lib.hid (h1.sY _)
  clear H4 h1
  go_wp2_with fail
  have hr := H5.out.rest
  unfold ResPost at hr
  rw [HO.out] at hr
  refine hr.mono ?_
  clear hr
  rintro e w9 ⟨rfl, hb9⟩
  have HB9 := Lib.hid hb9
  clear hb9
  skip
  go_wp2_with fail
  go_ret2
  exact ⟨rfl, HB9.out⟩
set_option maxRecDepth 100000 in
set_option maxHeartbeats 8000000 in
theorem rsecond_any {w : World} {p : Option Addr} {c : Nat} {L : List Wd} (hO : PRow w w.heap.size (.slice p L.length c) L) (hs : PSz L) (hp : ∀ q ∈ L, Lb.Piece q) : Calls Tryz.prog 28 #[.slice p L.length c] w (ResPost (Lb.resR (Lb.dform 1 L)) w) := by
  have hm := Tk.made hO hs hp 73
  obtain ⟨n, hn⟩ : ∃ n, L.length = n := ⟨_, rfl⟩
  rw [hn] at hm ⊢
  have HM := Lib.hid hm
  clear hO hm hn
  unfold ResPost
  have hf : Lb.resR (Lb.dform 1 L) = Lb.resR (Lb.dckz (Lb.dsnd (Lb.start L))) := rfl
  rw [hf]
  clear hf
  obtain ⟨o, ho⟩ : ∃ o, Lb.resR (Lb.dckz (Lb.dsnd (Lb.start L))) = o := ⟨_, rfl⟩
  rw [ho]
  have HO := Lib.hid ho
  clear ho
  go_enter Tryz.func28, Tryz.ntmps28
  go_wp2_with fail
  have H := HM
  refine H.out.weekday.mono ?_
  rintro e w1 ⟨rfl, h1⟩
  obtain ⟨_, _, _, -, -, ⟨k2, k3, k4, k5, k6, k7, k8, k9⟩, f0, f1, f2, f3, f4, f5, f6, f7, f8, f9⟩ := h1.open_
  have H1 : Hid (Tk w _ w.heap.size L (Lb.wkR (Lb.start L))) := Lib.hid (h1)
  clear H h1
  go_wp2_with fail
  refine H1.out.num12.mono ?_
  rintro e w2 ⟨rfl, h1⟩
  clear k2 k3 k4 k5 k6 k7 k8 k9 f0 f1 f2 f3 f4 f5 f6 f7 f8 f9
  obtain ⟨_, _, _, -, -, ⟨k2, k3, k4, k5, k6, k7, k8, k9⟩, f0, f1, f2, f3, f4, f5, f6, f7, f8, f9⟩ := h1.open_
  have H2 : Hid (Tk w _ w.heap.size L (Lb.nmD (Lb.wkR (Lb.start L)))) := Lib.hid (h1.sD _)
  clear H1 h1
  go_wp2_with fail
  refine H2.out.mb45.mono ?_
  rintro e w3 ⟨rfl, h1⟩
  clear k2 k3 k4 k5 k6 k7 k8 k9 f0 f1 f2 f3 f4 f5 f6 f7 f8 f9
  obtain ⟨_, _, _, -, -, ⟨k2, k3, k4, k5, k6, k7, k8, k9⟩, f0, f1, f2, f3, f4, f5, f6, f7, f8, f9⟩ := h1.open_
  have H3 : Hid (Tk w _ w.heap.size L (Lb.mbR [45] (Lb.nmD (Lb.wkR (Lb.start L))))) := Lib.hid (h1)
  clear H2 h1
  go_wp2_with fail
  refine H3.out.month.mono ?_
  rintro e w4 ⟨rfl, h1⟩
  clear k2 k3 k4 k5 k6 k7 k8 k9 f0 f1 f2 f3 f4 f5 f6 f7 f8 f9
  obtain ⟨_, _, _, -, -, ⟨k2, k3, k4, k5, k6, k7, k8, k9⟩, f0, f1, f2, f3, f4, f5, f6, f7, f8, f9⟩ := h1.open_
  have h2 := h1.sMo (Lb.monF (Lb.nx (Lb.mbR [45] (Lb.nmD (Lb.wkR (Lb.start L))))))
  rw [mo_eq] at h2
  have H4 : Hid (Tk w _ w.heap.size L (Lb.moR (Lb.mbR [45] (Lb.nmD (Lb.wkR (Lb.start L)))))) := Lib.hid h2
  clear H3 h1 h2
  go_wp2_with fail
  refine H4.out.mb45.mono ?_
  rintro e w5 ⟨rfl, h1⟩
  clear k2 k3 k4 k5 k6 k7 k8 k9 f0 f1 f2 f3 f4 f5 f6 f7 f8 f9
  obtain ⟨_, _, _, -, -, ⟨k2, k3, k4, k5, k6, k7, k8, k9⟩, f0, f1, f2, f3, f4, f5, f6, f7, f8, f9⟩ := h1.open_
  have H5 : Hid (Tk w _ w.heap.size L (Lb.dsnd0 (Lb.start L))) := Lib.hid (h1)
  clear H4 h1
  go_wp2_with fail
  refine H5.out.year_t.mono ?_
  rintro e w6 ⟨rfl, h1⟩
  clear k2 k3 k4 k5 k6 k7 k8 k9 f0 f1 f2 f3 f4 f5 f6 f7 f8 f9
  obtain ⟨_, _, _, -, -, ⟨k2, k3, k4, k5, k6, k7, k8, k9⟩, f0, f1, f2, f3, f4, f5, f6, f7, f8, f9⟩ := h1.open_
  have H6 : Hid (Tk w _ w.heap.size L (Lb.dsnd (Lb.start L))) := Lib.hid (h1.sY _)
  clear H5 h1
  go_wp2_with fail
  have hr := H6.out.rest
  unfold ResPost at hr
  rw [HO.out] at hr
  refine hr.mono ?_
  clear hr
  rintro e w9 ⟨rfl, hb9⟩
  have HB9 := Lib.hid hb9
  clear hb9
  skip
  go_wp2_with fail
  go_ret2
  exact ⟨rfl, HB9.out⟩
set_option maxRecDepth 100000 in
set_option maxHeartbeats 8000000 in
theorem rfirst_any {w : World} {p : Option Addr} {c : Nat} {L : List Wd} (hO : PRow w w.heap.size (.slice p L.length c) L) (hs : PSz L) (hp : ∀ q ∈ L, Lb.Piece q) : Calls Tryz.prog 27 #[.slice p L.length c] w (ResPost (Lb.resR (Lb.dform 0 L)) w) := by
  have hm := Tk.made hO hs hp 73
  obtain ⟨n, hn⟩ : ∃ n, L.length = n := ⟨_, rfl⟩
  rw [hn] at hm ⊢
  have HM := Lib.hid hm
  clear hO hm hn
  unfold ResPost
  have hf : Lb.resR (Lb.dform 0 L) = Lb.resR (Lb.dckz (Lb.fT (Lb.nmD (Lb.f1b (Lb.f1a (Lb.start L)))))) := rfl
  rw [hf]
  clear hf
  obtain ⟨b, hb⟩ : ∃ b, Lb.mbB [116] (Lb.nmD (Lb.f1b (Lb.f1a (Lb.start L)))) = b := ⟨_, rfl⟩
  obtain ⟨o, ho⟩ : ∃ o, Lb.resR (Lb.dckz (Lb.fT (Lb.nmD (Lb.f1b (Lb.f1a (Lb.start L)))))) = o := ⟨_, rfl⟩
  rw [ho]
  unfold Lb.fT at ho
  rw [hb] at ho
  have HO := Lib.hid ho
  clear ho
  cases b
  · skip
    go_enter Tryz.func27, Tryz.ntmps27
    go_wp2_with fail
    have H := HM
    refine H.out.num44.mono ?_
    rintro e w1 ⟨rfl, h1⟩
    obtain ⟨_, _, _, -, -, ⟨k2, k3, k4, k5, k6, k7, k8, k9⟩, f0, f1, f2, f3, f4, f5, f6, f7, f8, f9⟩ := h1.open_
    have H1 : Hid (Tk w _ w.heap.size L (Lb.sY (Lb.nmV 4 4 (Lb.start L)) (Lb.nmR 4 4 (Lb.start L)))) := Lib.hid (h1.sY _)
    clear H h1
    go_wp2_with fail
    refine H1.out.mu45.mono ?_
    rintro e w2 ⟨rfl, h1⟩
    clear k2 k3 k4 k5 k6 k7 k8 k9 f0 f1 f2 f3 f4 f5 f6 f7 f8 f9
    obtain ⟨_, _, _, -, -, ⟨k2, k3, k4, k5, k6, k7, k8, k9⟩, f0, f1, f2, f3, f4, f5, f6, f7, f8, f9⟩ := h1.open_
    have H2 : Hid (Tk w _ w.heap.size L (Lb.f1a (Lb.start L))) := Lib.hid (h1)
    clear H1 h1
    go_wp2_with fail
    refine H2.out.num12.mono ?_
    rintro e w3 ⟨rfl, h1⟩
    clear k2 k3 k4 k5 k6 k7 k8 k9 f0 f1 f2 f3 f4 f5 f6 f7 f8 f9
    obtain ⟨_, _, _, -, -, ⟨k2, k3, k4, k5, k6, k7, k8, k9⟩, f0, f1, f2, f3, f4, f5, f6, f7, f8, f9⟩ := h1.open_
    have H3 : Hid (Tk w _ w.heap.size L (Lb.sMo (Lb.nmV 1 2 (Lb.f1a (Lb.start L))) (Lb.nmR 1 2 (Lb.f1a (Lb.start L))))) := Lib.hid (h1.sMo _)
    clear H2 h1
    go_wp2_with fail
    refine H3.out.mu45.mono ?_
    rintro e w4 ⟨rfl, h1⟩
    clear k2 k3 k4 k5 k6 k7 k8 k9 f0 f1 f2 f3 f4 f5 f6 f7 f8 f9
    obtain ⟨_, _, _, -, -, ⟨k2, k3, k4, k5, k6, k7, k8, k9⟩, f0, f1, f2, f3, f4, f5, f6, f7, f8, f9⟩ := h1.open_
    have H4 : Hid (Tk w _ w.heap.size L (Lb.f1b (Lb.f1a (Lb.start L)))) := Lib.hid (h1)
    clear H3 h1
    go_wp2_with fail
    refine H4.out.num12.mono ?_
    rintro e w5 ⟨rfl, h1⟩
    clear k2 k3 k4 k5 k6 k7 k8 k9 f0 f1 f2 f3 f4 f5 f6 f7 f8 f9
    obtain ⟨_, _, _, -, -, ⟨k2, k3, k4, k5, k6, k7, k8, k9⟩, f0, f1, f2, f3, f4, f5, f6, f7, f8, f9⟩ := h1.open_
    have H5 : Hid (Tk w _ w.heap.size L (Lb.nmD (Lb.f1b (Lb.f1a (Lb.start L))))) := Lib.hid (h1.sD _)
    clear H4 h1
    go_wp2_with fail
    have hm := H5.out.mb116
    rw [hb, mb_no hb] at hm
    refine hm.mono ?_
    clear hm
    rintro e w6 ⟨rfl, h1⟩
    clear k2 k3 k4 k5 k6 k7 k8 k9 f0 f1 f2 f3 f4 f5 f6 f7 f8 f9
    obtain ⟨_, _, _, -, -, ⟨k2, k3, k4, k5, k6, k7, k8, k9⟩, f0, f1, f2, f3, f4, f5, f6, f7, f8, f9⟩ := h1.open_
    have H6 : Hid (Tk w _ w.heap.size L (Lb.nmD (Lb.f1b (Lb.f1a (Lb.start L))))) := Lib.hid (h1)
    clear H5 h1
    go_wp2_with fail
    have ho := HO.out
    rw [if_neg (by decide)] at ho
    have hr := H6.out.rest
    unfold ResPost at hr
    rw [ho] at hr
    refine hr.mono ?_
    clear hr
    rintro e w9 ⟨rfl, hb9⟩
    have HB9 := Lib.hid hb9
    clear hb9
    skip
    go_wp2_with fail
    go_ret2
    exact ⟨rfl, HB9.out⟩
  · skip
    go_enter Tryz.func27, Tryz.ntmps27
    go_wp2_with fail
    have H := HM
    refine H.out.num44.mono ?_
    rintro e w1 ⟨rfl, h1⟩
    obtain ⟨_, _, _, -, -, ⟨k2, k3, k4, k5, k6, k7, k8, k9⟩, f0, f1, f2, f3, f4, f5, f6, f7, f8, f9⟩ := h1.open_
    have H1 : Hid (Tk w _ w.heap.size L (Lb.sY (Lb.nmV 4 4 (Lb.start L)) (Lb.nmR 4 4 (Lb.start L)))) := Lib.hid (h1.sY _)
    clear H h1
    go_wp2_with fail
    refine H1.out.mu45.mono ?_
    rintro e w2 ⟨rfl, h1⟩
    clear k2 k3 k4 k5 k6 k7 k8 k9 f0 f1 f2 f3 f4 f5 f6 f7 f8 f9
    obtain ⟨_, _, _, -, -, ⟨k2, k3, k4, k5, k6, k7, k8, k9⟩, f0, f1, f2, f3, f4, f5, f6, f7, f8, f9⟩ := h1.open_
    have H2 : Hid (Tk w _ w.heap.size L (Lb.f1a (Lb.start L))) := Lib.hid (h1)
    clear H1 h1
    go_wp2_with fail
    refine H2.out.num12.mono ?_
    rintro e w3 ⟨rfl, h1⟩
    clear k2 k3 k4 k5 k6 k7 k8 k9 f0 f1 f2 f3 f4 f5 f6 f7 f8 f9
    obtain ⟨_, _, _, -, -, ⟨k2, k3, k4, k5, k6, k7, k8, k9⟩, f0, f1, f2, f3, f4, f5, f6, f7, f8, f9⟩ := h1.open_
    have H3 : Hid (Tk w _ w.heap.size L (Lb.sMo (Lb.nmV 1 2 (Lb.f1a (Lb.start L))) (Lb.nmR 1 2 (Lb.f1a (Lb.start L))))) := Lib.hid (h1.sMo _)
    clear H2 h1
    go_wp2_with fail
    refine H3.out.mu45.mono ?_
    rintro e w4 ⟨rfl, h1⟩
    clear k2 k3 k4 k5 k6 k7 k8 k9 f0 f1 f2 f3 f4 f5 f6 f7 f8 f9
    obtain ⟨_, _, _, -, -, ⟨k2, k3, k4, k5, k6, k7, k8, k9⟩, f0, f1, f2, f3, f4, f5, f6, f7, f8, f9⟩ := h1.open_
    have H4 : Hid (Tk w _ w.heap.size L (Lb.f1b (Lb.f1a (Lb.start L)))) := Lib.hid (h1)
    clear H3 h1
    go_wp2_with fail
    refine H4.out.num12.mono ?_
    rintro e w5 ⟨rfl, h1⟩
    clear k2 k3 k4 k5 k6 k7 k8 k9 f0 f1 f2 f3 f4 f5 f6 f7 f8 f9
    obtain ⟨_, _, _, -, -, ⟨k2, k3, k4, k5, k6, k7, k8, k9⟩, f0, f1, f2, f3, f4, f5, f6, f7, f8, f9⟩ := h1.open_
    have H5 : Hid (Tk w _ w.heap.size L (Lb.nmD (Lb.f1b (Lb.f1a (Lb.start L))))) := Lib.hid (h1.sD _)
    clear H4 h1
    go_wp2_with fail
    have hm := H5.out.mb116
    rw [hb, mb_yes hb] at hm
    refine hm.mono ?_
    clear hm
    rintro e w6 ⟨rfl, h1⟩
    clear k2 k3 k4 k5 k6 k7 k8 k9 f0 f1 f2 f3 f4 f5 f6 f7 f8 f9
    obtain ⟨_, _, _, -, -, ⟨k2, k3, k4, k5, k6, k7, k8, k9⟩, f0, f1, f2, f3, f4, f5, f6, f7, f8, f9⟩ := h1.open_
    have H6 : Hid (Tk w _ w.heap.size L (Lb.tl (Lb.nmD (Lb.f1b (Lb.f1a (Lb.start L)))))) := Lib.hid (h1)
    clear H5 h1
    go_wp2_with fail
    have ho := HO.out
    first
    | rw [if_pos trivial] at ho
    | rw [if_pos rfl] at ho
    have hs2 := H6.out.psz.nx
    have hb6 := H6.out.2.2.2.2.1
    have HB6 := Lib.hid hb6
    clear HO hb hb6
    generalize Lb.tl (Lb.nmD (Lb.f1b (Lb.f1a (Lb.start L)))) = r2 at *
    rcases dg1m r2 hs2 with ⟨hx, hd⟩ | ⟨c2, q2, hx, hq, hd⟩
    · rw [hd, if_neg (by decide)] at ho
      have ho2 : o = none := by rw [← ho]; exact res_dbad rfl
      subst ho2
      clear hd hs2 ho
      have hm := H6.out.next
      rw [hx, mk_nil] at hm
      refine hm.mono ?_
      clear hm
      rintro e w7 ⟨rfl, h1⟩
      have hb7 := h1.2.2.2.2.1
      have HB7 := Lib.hid hb7
      clear h1 H6 hx hb7
      go_wp2_with fail
      go_ret2
      exact ⟨rfl, HB7.out⟩
    · obtain ⟨b, hb5⟩ : ∃ b, (Lb.srt c2 == 1) = b := ⟨_, rfl⟩
      rw [hd, hb5] at ho
      obtain ⟨T, nT, cn, hqT, hsz, hne, hix, hsr, hrl, hnx⟩ := peek_of w w.heap.size L hx hq hb5
      have hn6 := hnx _ H6.out
      have HNX := Lib.hid hnx
      clear hx hq hd hb5 hnx hs2 hrl
      refine hn6.mono ?_
      clear hn6
      rintro e w7 ⟨rfl, h1⟩
      have hn7 := HNX.out _ h1
      have H7 := Lib.hid h1
      clear h1 H6 HNX
      go_wp2_with fail
      refine hn7.mono ?_
      clear hn7
      rintro e w8 ⟨rfl, h1⟩
      have hb8 := h1.2.2.2.2.1
      have HB8 := Lib.hid hb8
      have H8 := Lib.hid h1
      clear h1 H7 hb8
      cases b
      · rw [if_neg (by decide)] at ho
        have ho2 : o = none := by rw [← ho]; exact res_dbad rfl
        subst ho2
        clear ho
        go_wp2_with (go_at_call 36; refine (hsr _).mono ?_; rintro e wd ⟨rfl, rfl⟩)
        go_ret2
        exact ⟨rfl, HB8.out⟩
      · rw [if_pos rfl] at ho
        have hr := H8.out.rest
        unfold ResPost at hr
        rw [ho] at hr
        clear ho
        go_wp2_with (go_at_call 36; refine (hsr _).mono ?_; rintro e wd ⟨rfl, rfl⟩)
        refine hr.mono ?_
        rintro e w9 ⟨rfl, hb9⟩
        have HB9 := Lib.hid hb9
        clear hb9 hr
        go_wp2_with fail
        go_ret2
        exact ⟨rfl, HB9.out⟩
end Go.Proofs.YtbhafhbaldddiaaGreatDoor
