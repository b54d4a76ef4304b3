/- The walk of symMerge: the halves. -/
import Derived.Test.YtahapmpohaaigaaOsD
import Derived.Deep.CutRange
namespace Go.Proofs.Ytahapmpohaaigaa
open Go.RowKit
open Go
open Stb0
set_option linter.unusedVariables false
def SymIH (fr : Array Value) (g o z c : Nat) (N : Nat) : Prop := ∀ (a m b : Nat) (d : Nat → Int) (W : World), b - a < N → a < m → m < b → b ≤ z → SR fr W g o z d → Srt Tb.classI d a m → Srt Tb.classI d m b →
  Calls Try.prog 43 #[.slice (some ⟨g, o, none⟩) z c, .int .i64 (a : Int), .int .i64 (m : Int), .int .i64 (b : Int), FV] W (SortPost fr g o z W d a b)
set_option maxRecDepth 100000 in
set_option maxHeartbeats 8000000 in
theorem sym_main (fr : Array Value) (g o z c a m b : Nat) (d : Nat → Int) (W : World) (ih : SymIH fr g o z c (b - a)) (h : SR fr W g o z d) (h1 : a + 1 < m) (h2 : m + 1 < b) (hb : b ≤ z) (hz : z ≤ 100000) (hl : Srt Tb.classI d a m) (hr : Srt Tb.classI d m b) :
    Calls Try.prog 43 #[.slice (some ⟨g, o, none⟩) z c, .int .i64 (a : Int), .int .i64 (m : Int), .int .i64 (b : Int), FV] W (SortPost fr g o z W d a b) := by
  have H := Lib.hid h
  have HL := Lib.hid hl
  have HR := Lib.hid hr
  have IH := Lib.hid ih
  clear h hl hr ih
  unfold FV
  have e1 : ((m : Int) - (a : Int) == 1) = false := by simp; omega
  have e2 : ((b : Int) - (m : Int) == 1) = false := by simp; omega
  obtain ⟨mid, hmid⟩ : ∃ mid, mid = (a + b) / 2 := ⟨_, rfl⟩
  have e3 : ((a : Int) + (b : Int)) / 2 = (mid : Int) := by omega
  have mb1 : a + 1 < mid := by omega
  have mb2 : mid + 1 < b := by omega
  have HMID := Lib.hid hmid
  clear hmid
  go_enter Try.func43, Try.ntmps43
  go_upto_if 140 with fail
  go_cut [20, 21] from 138 to 219 (fun vs vr wx => ∃ s0 r0 : Nat, vs = .int .i64 (s0 : Int) ∧ vr = .int .i64 (r0 : Int) ∧ ((mid < m ∧ s0 + b = mid + m ∧ r0 = mid) ∨ (m ≤ mid ∧ s0 = a ∧ r0 = m)) ∧ W = wx)
  case first =>
    by_cases q : mid < m
    · have q1 : (mid : Int) < (m : Int) := by omega
      go_wp2_with fail
      go_meet
      exact ⟨mid + m - b, mid, by have := HMID.out; go_num, rfl, Or.inl ⟨q, by have := HMID.out; omega, rfl⟩, rfl⟩
    · have q1 : ¬ (mid : Int) < (m : Int) := by omega
      go_wp2_with fail
      go_meet
      exact ⟨a, m, rfl, rfl, Or.inr ⟨by omega, rfl, rfl⟩, rfl⟩
  case rest =>
    obtain ⟨s0, r0, rfl, rfl, hsr, rfl⟩ := hcut
    have hs0 : a ≤ s0 := by have := HMID.out; omega
    have hr0 : s0 ≤ r0 := by have := HMID.out; omega
    have hrng : ∀ t, s0 ≤ t → t < r0 → a ≤ t ∧ t < m ∧ m ≤ mid + m - 1 - t ∧ mid + m - 1 - t < b := fun t t1 t2 => by have := HMID.out; omega
    have HSR := Lib.hid hsr
    have HRNG := Lib.hid hrng
    clear hsr hrng
    obtain ⟨p, hp⟩ : ∃ p, p = mid + m - 1 := ⟨_, rfl⟩
    have e4 : (mid : Int) + (m : Int) - 1 = (p : Int) := by omega
    have HP := Lib.hid hp
    clear hp
    go_wp2_with fail
    go_loopw [20, 21] (fun vi vj wr => ∃ (i j : Nat), vi = .int .i64 (i : Int) ∧ vj = .int .i64 (j : Int) ∧ s0 ≤ i ∧ i ≤ j ∧ j ≤ r0 ∧ (i = s0 ∨ Tb.classI (d (i - 1)) ≤ Tb.classI (d (p - (i - 1)))) ∧ (j = r0 ∨ Tb.classI (d (p - j)) < Tb.classI (d j)) ∧ SR fr wr g o z d ∧ W.grownBy wr (some g)) (fun vi vj _ => (intOf vj).toNat - (intOf vi).toNat)
    case atStart => exact ⟨s0, r0, rfl, rfl, Nat.le_refl _, hr0, Nat.le_refl _, Or.inl rfl, Or.inl rfl, H.out, gb_refl _ _⟩
    case round =>
      obtain ⟨i, j, rfl, rfl, hi, hij, hj, hI, hJ, hR0, hG0⟩ := hrel
      have HR0 := Lib.hid hR0
      have HG0 := Lib.hid hG0
      have HI := Lib.hid hI
      have HJ := Lib.hid hJ
      clear hI hJ hR0 hG0
      by_cases hlt : i < j
      · have q1 : (i : Int) < (j : Int) := by omega
        obtain ⟨t, ht⟩ : ∃ t, t = (i + j) / 2 := ⟨_, rfl⟩
        have t1 : i ≤ t := by omega
        have t2 : t < j := by omega
        have q2 : ((i : Int) + (j : Int)) / 2 = (t : Int) := by omega
        obtain ⟨r1, r2, r3, r4⟩ := HRNG.out t (by omega) (by omega)
        obtain ⟨u, hu⟩ : ∃ u, p - t = u := ⟨_, rfl⟩
        have hpp := HP.out
        have q3 : (p : Int) - (t : Int) = (u : Int) := by omega
        have i0 : u < z := by omega
        have i1 : (t : Int) < (z : Int) := by omega
        have i2 : (u : Int) < (z : Int) := by omega
        have HU := Lib.hid hu
        have HT := Lib.hid ht
        clear ht hu r1 r2 r3 r4 hpp
        have k1 := HR0.out.1 t (by omega)
        have k2 := HR0.out.1 u (by omega)
        have hby := bycl_quiet (d u) (d t)
        by_cases hcl : Tb.classI (d u) < Tb.classI (d t)
        · have hc0 : Tb.classI (d u) - Tb.classI (d t) < 0 := by omega
          have HC := Lib.hid hcl
          generalize Tb.classI (d u) - Tb.classI (d t) = cc at *
          generalize hA : d t = A at *
          generalize hB : d u = B at *
          have HA := Lib.hid hA
          have HB := Lib.hid hB
          clear hcl hA hB
          go_wp2_with fail
          go_quiet ((go_at_call 27; with_reducible exact hby _ _))
          go_wp2_with fail
          go_roundw
          case rel => exact ⟨i, t, rfl, rfl, hi, by omega, by omega, HI.out, Or.inr (by rw [HU.out, HA.out, HB.out]; exact HC.out), HR0.out, ogb_drewN HG0.out _⟩
          case measure => simp [intOf]; omega
        · have hc0 : ¬ Tb.classI (d u) - Tb.classI (d t) < 0 := by omega
          have hc1 : decide (Tb.classI (d u) - Tb.classI (d t) < 0) = false := by simp; omega
          have HC := Lib.hid hcl
          generalize Tb.classI (d u) - Tb.classI (d t) = cc at *
          generalize hA : d t = A at *
          generalize hB : d u = B at *
          have HA := Lib.hid hA
          have HB := Lib.hid hB
          clear hcl hA hB
          go_wp2_with fail
          go_quiet ((go_at_call 27; with_reducible exact hby _ _))
          go_wp2_with fail
          go_roundw
          case rel => exact ⟨t + 1, j, by go_num, rfl, by omega, by omega, hj, Or.inr (by rw [Nat.add_sub_cancel, HU.out, HA.out, HB.out]; have := HC.out; omega), HJ.out, HR0.out, ogb_drewN HG0.out _⟩
          case measure => simp [intOf]; omega
      · obtain rfl : i = j := by omega
        have q1 : ¬ (i : Int) < (i : Int) := by omega
        obtain ⟨e, he⟩ : ∃ e, e = mid + m - i := ⟨_, rfl⟩
        have m1 : i ≤ m := by have := HSR.out; omega
        have m2 : m ≤ e := by have := HSR.out; have := HMID.out; omega
        have m3 : e ≤ b := by have := HSR.out; have := HMID.out; omega
        have m4 : a ≤ i := by omega
        have m5 : i ≤ mid := by have := HSR.out; have := HMID.out; omega
        have m6 : mid ≤ e := by omega
        have q2 : (mid : Int) + (m : Int) - (i : Int) = (e : Int) := by omega
        have LO : a < i → e < b → Tb.classI (d (i - 1)) ≤ Tb.classI (d e) := fun x y => by
          rcases HI.out with q | q
          · have := HSR.out; have := HMID.out; omega
          · have hpe : p - (i - 1) = e := by have := HP.out; omega
            rw [hpe] at q; exact q
        have HIh : i < m → m < e → Tb.classI (d (e - 1)) < Tb.classI (d i) := fun x y => by
          rcases HJ.out with q | q
          · have := HSR.out; have := HMID.out; omega
          · have hpe : p - i = e - 1 := by have := HP.out; omega
            rw [hpe] at q; exact q
        have hms := merge_split (cls := Tb.classI) (d := d) (a := a) (b := b) (m := m) (s := i) (e := e) (mid := mid) m4 m1 m2 m3 (by omega) HL.out HR.out LO HIh
        obtain ⟨d1, hd1⟩ : ∃ d1, rotT d i m e = d1 := ⟨_, rfl⟩
        have htriv := rotT_triv (d := d) (a := i) (m := m) (b := e) m1 m2
        rw [hd1] at hms htriv
        have HMS := Lib.hid hms
        have HTR := Lib.hid htriv
        have HD1 := Lib.hid hd1
        have HEE := Lib.hid he
        clear hms hd1 LO HIh HI HJ htriv he HP HRNG HSR
        have hrot : i < m → m < e → Calls Try.prog 47 #[.slice (some ⟨g, o, none⟩) z c, .int .i64 (i : Int), .int .i64 (m : Int), .int .i64 (e : Int), FV] wr (SRPost fr g o z wr d1) := fun x y => by
          rw [← HD1.out]
          exact rot_any fr g o z c i m e d wr HR0.out x y (by omega) hz FV
        have HROT := Lib.hid hrot
        clear hrot
        go_upto_region 39 with fail
        go_cut [185] from 178 to 219 (fun vc wx => ∃ cb : Bool, vc = .bool cb ∧ (cb = true ↔ (i < m ∧ m < e)) ∧ wr = wx)
        case first =>
          by_cases x : i < m
          · have x1 : (i : Int) < (m : Int) := by omega
            by_cases y : m < e
            · have y1 : (m : Int) < (e : Int) := by omega
              go_wp2_with fail
              go_meet
              exact ⟨true, by first | rfl | simp, by simp [x, y], rfl⟩
            · have y1 : ¬ (m : Int) < (e : Int) := by omega
              go_wp2_with fail
              go_meet
              exact ⟨false, by first | rfl | simp, by simp [y], rfl⟩
          · have x1 : ¬ (i : Int) < (m : Int) := by omega
            go_wp2_with fail
            go_meet
            exact ⟨false, by first | rfl | simp, by simp [x], rfl⟩
        case rest =>
          obtain ⟨cb, rfl, hcb, rfl⟩ := hcut
          have HCB := Lib.hid hcb
          clear hcb
          go_upto_if 185 with fail
          go_cut [] from 186 to 219 (fun wx => SR fr wx g o z d1 ∧ wr.grownBy wx (some g))
          case first =>
            cases cb
            case true =>
              obtain ⟨x, y⟩ := HCB.out.1 rfl
              have hc := HROT.out x y
              unfold FV at hc
              go_wp2_with (go_at_call 47; refine hc.mono ?_; rintro e' w' ⟨rfl, hR2, hG2⟩; have HR2 := Lib.hid hR2; have HG2 := Lib.hid hG2; clear hR2 hG2)
              go_meet
              exact ⟨HR2.out, HG2.out⟩
            case false =>
              have hd : d1 = d := HTR.out (by
                have : ¬ (i < m ∧ m < e) := fun k => by cases HCB.out.2 k
                omega)
              go_wp2_with fail
              go_meet
              exact ⟨by rw [hd]; exact HR0.out, gb_refl _ _⟩
          case rest =>
            obtain ⟨hR1, hG1⟩ := hcut
            have HR1 := Lib.hid hR1
            have HG1 := Lib.hid (gb_same HG0.out hG1)
            clear hR1 hG1 HCB HR0 HG0 HROT HTR HD1
            obtain ⟨n1, n2, n3, n4, n5, n6, n7⟩ := HMS.out
            have hih : a < i → i < mid → Calls Try.prog 43 #[.slice (some ⟨g, o, none⟩) z c, .int .i64 (a : Int), .int .i64 (i : Int), .int .i64 (mid : Int), FV] wc (SortPost fr g o z wc d1 a mid) := fun x y =>
              IH.out a i mid d1 wc (by omega) x y (by omega) HR1.out n1 n2
            have htr : ¬ (a < i ∧ i < mid) → Srt Tb.classI d1 a mid := fun x => by
              by_cases q : a < i
              · have : i = mid := by omega
                rw [← this]; exact n1
              · have : i = a := by omega
                rw [← this]; exact n2
            have HIH := Lib.hid hih
            have HTR := Lib.hid htr
            clear hih htr n1 n2 n3 n4 n5 n6 n7
            go_upto_region 41 with fail
            go_cut [199] from 192 to 219 (fun vc wx => ∃ cb : Bool, vc = .bool cb ∧ (cb = true ↔ (a < i ∧ i < mid)) ∧ wc = wx)
            case first =>
              by_cases x : a < i
              · have x1 : (a : Int) < (i : Int) := by omega
                by_cases y : i < mid
                · have y1 : (i : Int) < (mid : Int) := by omega
                  go_wp2_with fail
                  go_meet
                  exact ⟨true, by first | rfl | simp, by simp [x, y], rfl⟩
                · have y1 : ¬ (i : Int) < (mid : Int) := by omega
                  go_wp2_with fail
                  go_meet
                  exact ⟨false, by first | rfl | simp, by simp [y], rfl⟩
              · have x1 : ¬ (a : Int) < (i : Int) := by omega
                go_wp2_with fail
                go_meet
                exact ⟨false, by first | rfl | simp, by simp [x], rfl⟩
            case rest =>
              obtain ⟨cb, rfl, hcb, rfl⟩ := hcut
              have HCB := Lib.hid hcb
              clear hcb
              go_upto_if 199 with fail
              go_cut [] from 200 to 219 (fun wx => ∃ d2, SR fr wx g o z d2 ∧ W.grownBy wx (some g) ∧ Srt Tb.classI d2 a mid ∧ Stb Tb.classI d1 d2 a mid ∧ Stb0.Same d1 d2 a mid)
              case first =>
                cases cb
                case true =>
                  obtain ⟨x, y⟩ := HCB.out.1 rfl
                  have hc := HIH.out x y
                  unfold FV at hc
                  go_wp2_with (go_at_call 43; refine hc.mono ?_; rintro e' w' ⟨rfl, hR2⟩; have HR2 := Lib.hid hR2; clear hR2)
                  go_meet
                  obtain ⟨d2, t1, t2, t3, t4, t5⟩ := HR2.out
                  exact ⟨d2, t1, gb_same HG1.out t2, t3, t4, t5⟩
                case false =>
                  have hd := HTR.out (fun k => by cases HCB.out.2 k)
                  have HD := Lib.hid hd
                  clear hd
                  go_wp2_with fail
                  go_meet
                  exact ⟨d1, HR1.out, HG1.out, HD.out, Stb.refl _ _ _ _, Stb0.Same.refl _ _ _⟩
              case rest =>
                clear HCB HIH HTR HR1 HG1
                obtain ⟨d2, hR2, hG2, hS2, hst2, hsm2⟩ := hcut
                obtain ⟨n1, n2, n3, n4, n5, n6, n7⟩ := HMS.out
                have hih : mid < e → e < b → Calls Try.prog 43 #[.slice (some ⟨g, o, none⟩) z c, .int .i64 (mid : Int), .int .i64 (e : Int), .int .i64 (b : Int), FV] wc (SortPost fr g o z wc d2 mid b) := fun x y =>
                  IH.out mid e b d2 wc (by omega) x y hb hR2 (n3.congr fun k k1 k2 => hsm2 k (by omega)) (n4.congr fun k k1 k2 => hsm2 k (by omega))
                have htr : ¬ (mid < e ∧ e < b) → Srt Tb.classI d2 mid b := fun x => by
                  by_cases q : mid < e
                  · have : e = b := by omega
                    rw [← this]; exact n3.congr fun k k1 k2 => hsm2 k (by omega)
                  · have : e = mid := by omega
                    rw [← this]; exact n4.congr fun k k1 k2 => hsm2 k (by omega)
                have HR2 := Lib.hid hR2
                have HG2 := Lib.hid hG2
                have HS2 := Lib.hid hS2
                have HST2 := Lib.hid hst2
                have HSM2 := Lib.hid hsm2
                have HIH := Lib.hid hih
                have HTR := Lib.hid htr
                clear hih htr n1 n2 n3 n4 n5 n6 n7 hR2 hG2 hS2 hst2 hsm2
                have fin : ∀ d3, Srt Tb.classI d3 mid b → Stb Tb.classI d2 d3 mid b → Stb0.Same d2 d3 mid b → Srt Tb.classI d3 a b ∧ Stb Tb.classI d d3 a b ∧ Stb0.Same d d3 a b := fun d3 s3 t3 m3' => by
                  obtain ⟨n1, n2, n3, n4, n5, n6, n7⟩ := HMS.out
                  have hlo : ∀ k, k < mid → d3 k = d2 k := fun k hk => m3' k (by omega)
                  have hhi : ∀ k, mid ≤ k → d2 k = d1 k := fun k hk => HSM2.out k (by omega)
                  have sl : Stb Tb.classI d1 d3 a mid := HST2.out.trans (Stb.same fun k k1 k2 => hlo k k2)
                  have sr : Stb Tb.classI d1 d3 mid b := (Stb.same fun k k1 k2 => hhi k k1).trans t3
                  refine ⟨merge_join (mid := mid) (by omega) (by omega) n5 (HS2.out.congr fun k k1 k2 => hlo k k2) s3 sl sr, n6.trans (Stb.join (m := mid) (by omega) (by omega) sl sr), n7.trans ((HSM2.out.wide (Nat.le_refl _) (by omega)).trans (m3'.wide (by omega) (Nat.le_refl _)))⟩
                have FIN := Lib.hid fin
                clear fin HST2 HSM2 HS2 HMS
                go_upto_region 43 with fail
                go_cut [213] from 206 to 219 (fun vc wx => ∃ cb : Bool, vc = .bool cb ∧ (cb = true ↔ (mid < e ∧ e < b)) ∧ wc = wx)
                case first =>
                  by_cases x : mid < e
                  · have x1 : (mid : Int) < (e : Int) := by omega
                    by_cases y : e < b
                    · have y1 : (e : Int) < (b : Int) := by omega
                      go_wp2_with fail
                      go_meet
                      exact ⟨true, by first | rfl | simp, by simp [x, y], rfl⟩
                    · have y1 : ¬ (e : Int) < (b : Int) := by omega
                      go_wp2_with fail
                      go_meet
                      exact ⟨false, by first | rfl | simp, by simp [y], rfl⟩
                  · have x1 : ¬ (mid : Int) < (e : Int) := by omega
                    go_wp2_with fail
                    go_meet
                    exact ⟨false, by first | rfl | simp, by simp [x], rfl⟩
                case rest =>
                  obtain ⟨cb, rfl, hcb, rfl⟩ := hcut
                  have HCB := Lib.hid hcb
                  clear hcb
                  cases cb
                  case true =>
                    obtain ⟨x, y⟩ := HCB.out.1 rfl
                    have hc := HIH.out x y
                    unfold FV at hc
                    go_wp2_with (go_at_call 43; refine hc.mono ?_; rintro e' w' ⟨rfl, hR3⟩; have HR3 := Lib.hid hR3; clear hR3)
                    go_end0
                    obtain ⟨d3, t1, t2, t3, t4, t5⟩ := HR3.out
                    obtain ⟨f1, f2, f3⟩ := FIN.out d3 t3 t4 t5
                    exact ⟨rfl, d3, t1, gb_same HG2.out t2, f1, f2, f3⟩
                  case false =>
                    have hd := HTR.out (fun k => by cases HCB.out.2 k)
                    have HD := Lib.hid hd
                    clear hd
                    go_wp2_with fail
                    go_end0
                    obtain ⟨f1, f2, f3⟩ := FIN.out d2 HD.out (Stb.refl _ _ _ _) (Stb0.Same.refl _ _ _)
                    exact ⟨rfl, d2, HR2.out, HG2.out, f1, f2, f3⟩
theorem sym_all (fr : Array Value) (g o z c : Nat) (hz : z ≤ 100000) : ∀ N, SymIH fr g o z c N
  | 0 => fun a m b d W h => by omega
  | N + 1 => fun a m b d W hN h1 h2 hb hR hl hr => by
    have ih : SymIH fr g o z c (b - a) := fun a' m' b' d' W' h' => sym_all fr g o z c hz N a' m' b' d' W' (by omega)
    by_cases p : m = a + 1
    · subst p
      exact sym_left fr g o z c a b d W hR (by omega) hb hz hr
    · by_cases q : b = m + 1
      · subst q
        exact sym_right fr g o z c a m d W hR (by omega) hb hz hl
      · exact sym_main fr g o z c a m b d W ih hR (by omega) (by omega) hb hz hl hr
theorem sym_any (fr : Array Value) (g o z c a m b : Nat) (d : Nat → Int) (W : World) (h : SR fr W g o z d) (h1 : a < m) (h2 : m < b) (hb : b ≤ z) (hz : z ≤ 100000) (hl : Srt Tb.classI d a m) (hr : Srt Tb.classI d m b) :
    Calls Try.prog 43 #[.slice (some ⟨g, o, none⟩) z c, .int .i64 (a : Int), .int .i64 (m : Int), .int .i64 (b : Int), FV] W (SortPost fr g o z W d a b) :=
  sym_all fr g o z c hz (b - a + 1) a m b d W (by omega) h1 h2 hb h hl hr
end Go.Proofs.Ytahapmpohaaigaa
