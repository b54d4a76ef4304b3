/- The walk of the stable sort, by classes. -/
import Derived.Test.YtahapmpohaaigaaOsE
import Derived.Test.YtahapmpohaaigaaOsQ
namespace Go.Proofs.Ytahapmpohaaigaa
open Go.RowKit
open Go
open Stb0
set_option linter.unusedVariables false
def StblPost (fr : Array Value) (g o z : Nat) (W : World) (d : Nat → Int) (e : Ending) (W' : World) : Prop :=
  e = .returned (.tuple #[]) ∧ ∃ d', SR fr W' g o z d' ∧ W.grownBy W' (some g) ∧ Srt Tb.classI d' 0 z ∧ Stb Tb.classI d d' 0 z
set_option maxHeartbeats 8000000 in
theorem stable_any (fr : Array Value) (g o z c : Nat) (d : Nat → Int) (W : World) (h : SR fr W g o z d) (hz : z ≤ 100000) :
    Calls Try.prog 36 #[.slice (some ⟨g, o, none⟩) z c, .int .i64 (z : Int), FV] W (StblPost fr g o z W d) := by
  have H := Lib.hid h
  clear h
  have hins := fun (a b : Nat) (e : Nat → Int) (wr : World) => insort_any fr g o z c a b e wr
  have hsym := fun (a m b : Nat) (e : Nat → Int) (wr : World) => sym_any fr g o z c a m b e wr
  unfold FV at hins hsym ⊢
  have HINS := Lib.hid hins
  have HSYM := Lib.hid hsym
  clear hins hsym
  go_enter Try.func36, Try.ntmps36
  go_wp2_with fail
  go_loopw [7, 8] (fun va vb wr => ∃ (k a b : Nat) (e : Nat → Int), va = .int .i64 (a : Int) ∧ vb = .int .i64 (b : Int) ∧ a = k * 20 ∧ b = a + 20 ∧ a ≤ z ∧ SR fr wr g o z e ∧ W.grownBy wr (some g) ∧ Frs Tb.classI e k ∧ Stb Tb.classI d e 0 z) (fun _ vb _ => z + 20 - (intOf vb).toNat)
  case atStart => exact ⟨0, 0, 20, d, rfl, rfl, rfl, rfl, by omega, H.out, gb_refl _ _, fun t ht => by omega, Stb.refl _ _ _ _⟩
  case round =>
    obtain ⟨k, a, b, e, rfl, rfl, ha, hb, haz, hR, hG, hF, hst⟩ := hrel
    have HA := Lib.hid ha
    have HB := Lib.hid hb
    have HR := Lib.hid hR
    have HG := Lib.hid hG
    have HF := Lib.hid hF
    have HST := Lib.hid hst
    by_cases hle : b ≤ z
    · have hc := HINS.out a b e wr hR (by omega) hle hz
      have q1 : (b : Int) ≤ (z : Int) := by omega
      clear ha hb hR hG hF hst
      go_wp2_with (go_at_call 42; refine hc.mono ?_; rintro e' w' ⟨rfl, hP⟩; have HP := Lib.hid hP; clear hP)
      obtain ⟨e2, t1, t2, t3, t4, t5⟩ := HP.out
      have ha := HA.out
      have hb := HB.out
      go_roundw
      case rel =>
        refine ⟨k + 1, b, b + 20, e2, by go_num, by go_num, by omega, by omega, by omega, t1, gb_same HG.out t2, ?_, HST.out.trans (t4.wide t5 (by omega) hle (by omega))⟩
        rw [hb, ha] at t3 t5
        exact HF.out.step t3 t5
      case measure => simp [intOf]; omega
    · have hc := HINS.out a z e wr hR (by omega) (Nat.le_refl _) hz
      have q1 : ¬ (b : Int) ≤ (z : Int) := by omega
      clear ha hb hR hG hF hst
      go_wp2_with (go_at_call 42; refine hc.mono ?_; rintro e' w' ⟨rfl, hP⟩; have HP := Lib.hid hP; clear hP)
      obtain ⟨e2, t1, t2, t3, t4, t5⟩ := HP.out
      have hBS : BS Tb.classI e2 20 z := by
        have ha := HA.out
        have hb := HB.out
        rw [ha] at t3 t5
        exact HF.out.done (by omega) t3 t5
      have HR2 := Lib.hid t1
      have HG2 := Lib.hid (gb_same HG.out t2)
      have HBS := Lib.hid hBS
      have HST2 := Lib.hid (HST.out.trans (t4.wide t5 (by omega) (Nat.le_refl _) (by omega)))
      clear t1 t2 t3 t4 t5 hBS HP HF HR HG HST
      go_wp2_with fail
      go_loopw [6] (fun vs wx => ∃ (s : Nat) (f : Nat → Int), vs = .int .i64 (s : Int) ∧ 0 < s ∧ s ≤ 400000 ∧ SR fr wx g o z f ∧ W.grownBy wx (some g) ∧ BS Tb.classI f s z ∧ Stb Tb.classI d f 0 z) (fun vs _ => z - (intOf vs).toNat)
      case atStart => exact ⟨20, e2, rfl, by omega, by omega, HR2.out, HG2.out, HBS.out, HST2.out⟩
      case round =>
        clear HR2 HG2 HBS HST2
        obtain ⟨s, f, rfl, hs0, hs1, hR, hG, hB, hst⟩ := hrel
        have HR := Lib.hid hR
        have HG := Lib.hid hG
        have HBS := Lib.hid hB
        have HST := Lib.hid hst
        clear hR hG hB hst
        by_cases hlt : s < z
        · have q2 : (s : Int) < (z : Int) := by omega
          go_wp2_with fail
          go_loopw [7, 8] (fun va vb wy => ∃ (k a b : Nat) (f : Nat → Int), va = .int .i64 (a : Int) ∧ vb = .int .i64 (b : Int) ∧ a = k * (2 * s) ∧ b = a + 2 * s ∧ a ≤ z ∧ SR fr wy g o z f ∧ W.grownBy wy (some g) ∧ Half Tb.classI f s z k ∧ Stb Tb.classI d f 0 z) (fun _ vb _ => z + 2 * s - (intOf vb).toNat)
          case atStart => exact ⟨0, 0, 2 * s, f, rfl, by go_num, by omega, by omega, by omega, HR.out, HG.out, HBS.out.half, HST.out⟩
          case round =>
            clear HR HG HBS HST
            obtain ⟨k, a, b, f, rfl, rfl, ha, hb, haz, hR, hG, hH, hst⟩ := hrel
            have hp := hH.parts
            rw [← ha] at hp
            obtain ⟨hp1, hp2⟩ := hp
            have HA := Lib.hid ha
            have HB := Lib.hid hb
            have HR := Lib.hid hR
            have HG := Lib.hid hG
            have HH := Lib.hid hH
            have HST := Lib.hid hst
            obtain ⟨m, hm⟩ : ∃ m, m = a + s := ⟨_, rfl⟩
            have q3 : (a : Int) + (s : Int) = (m : Int) := by omega
            by_cases hle : b ≤ z
            · rw [Nat.min_eq_left (by omega), ← hm] at hp1
              rw [Nat.min_eq_left (by omega), ← hm, ← hb] at hp2
              have hc := HSYM.out a m b f wr hR (by omega) (by omega) hle hz hp1 hp2
              have q1 : (b : Int) ≤ (z : Int) := by omega
              have HM := Lib.hid hm
              clear ha hb hR hG hH hst hp1 hp2 hm
              go_wp2_with (go_at_call 43; refine hc.mono ?_; rintro e' w' ⟨rfl, hP⟩; have HP := Lib.hid hP; clear hP)
              obtain ⟨f2, t1, t2, t3, t4, t5⟩ := HP.out
              have ha := HA.out
              have hb := HB.out
              go_roundw
              case rel =>
                refine ⟨k + 1, b, b + 2 * s, f2, rfl, by go_num, by rw [Nat.add_mul, Nat.one_mul]; omega, by omega, by omega, t1, gb_same HG.out t2, ?_, HST.out.trans (t4.wide t5 (by omega) hle (by omega))⟩
                rw [hb, ha] at t3 t5
                exact HH.out.step t3 t5
              case measure => simp [intOf]; omega
            · have q1 : ¬ (b : Int) ≤ (z : Int) := by omega
              by_cases hmz : m < z
              · rw [Nat.min_eq_left (by omega), ← hm] at hp1
                rw [Nat.min_eq_right (by omega), ← hm] at hp2
                have hc := HSYM.out a m z f wr hR (by omega) (by omega) (Nat.le_refl _) hz hp1 hp2
                have q4 : (m : Int) < (z : Int) := by omega
                have HM := Lib.hid hm
                clear ha hb hR hG hH hst hp1 hp2 hm
                go_wp2_with (go_at_call 43; refine hc.mono ?_; rintro e' w' ⟨rfl, hP⟩; have HP := Lib.hid hP; clear hP)
                obtain ⟨f2, t1, t2, t3, t4, t5⟩ := HP.out
                have ha := HA.out
                have hb := HB.out
                go_roundw
                case rel =>
                  refine ⟨2 * s, f2, by go_num, by omega, by omega, t1, gb_same HG.out t2, ?_, HST.out.trans (t4.wide t5 (by omega) (Nat.le_refl _) (by omega))⟩
                  rw [ha] at t3 t5
                  exact HH.out.done (by omega) t3 t5
                case measure => simp [intOf]; omega
              · have hso : Srt Tb.classI f a z := by
                  rw [Nat.min_eq_right (by omega)] at hp1
                  exact hp1
                have q4 : ¬ (m : Int) < (z : Int) := by omega
                have HM := Lib.hid hm
                have HSO := Lib.hid hso
                clear ha hb hR hG hH hst hp1 hp2 hm hso
                go_wp2_with fail
                have ha := HA.out
                have hb := HB.out
                go_roundw
                case rel =>
                  refine ⟨2 * s, f, by go_num, by omega, by omega, HR.out, HG.out, ?_, HST.out⟩
                  have hso := HSO.out
                  rw [ha] at hso
                  exact HH.out.done (by omega) hso (Stb0.Same.refl _ _ _)
                case measure => simp [intOf]; omega
        · have q2 : ¬ (s : Int) < (z : Int) := by omega
          go_wp2_with fail
          go_end0
          exact ⟨rfl, f, HR.out, HG.out, HBS.out.all (by omega), HST.out⟩
theorem ssf_any (fr : Array Value) (g o z c : Nat) (d : Nat → Int) (W : World) (h : SR fr W g o z d) (hz : z ≤ 100000) :
    Calls Try.prog 26 #[.slice (some ⟨g, o, none⟩) z c, FV] W (StblPost fr g o z W d) := by
  have hc := stable_any fr g o z c d W h hz
  unfold FV at hc ⊢
  clear h
  go_enter Try.func26, Try.ntmps26
  go_wp2_with (go_at_call 36; refine hc.mono ?_; rintro e' w' ⟨rfl, hP⟩; have HP := Lib.hid hP; clear hP)
  go_end0
  exact ⟨rfl, HP.out⟩
end Go.Proofs.Ytahapmpohaaigaa
