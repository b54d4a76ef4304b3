/- The walk of MailWeek. -/
import Derived.Test.YtfgchphadeogpaaDoorMlL
import Derived.Test.YtfgchphadeogpaaDoorMlPf
namespace Go.Proofs.YtfgchphadeogpaaDoor
open Go.RowKit
open Go
set_option linter.unusedVariables false
def nmCells : Array Value := #[.string ⟨#[77, 111, 110]⟩, .string ⟨#[84, 117, 101]⟩, .string ⟨#[87, 101, 100]⟩, .string ⟨#[84, 104, 117]⟩, .string ⟨#[70, 114, 105]⟩, .string ⟨#[83, 97, 116]⟩, .string ⟨#[83, 117, 110]⟩]
theorem nm_cell (w : World) (t n : Nat) (hn : n ≤ 6) : (w.alloc (.cells #[.string ⟨#[77, 111, 110]⟩, .string ⟨#[84, 117, 101]⟩, .string ⟨#[87, 101, 100]⟩, .string ⟨#[84, 104, 117]⟩, .string ⟨#[70, 114, 105]⟩, .string ⟨#[83, 97, 116]⟩, .string ⟨#[83, 117, 110]⟩] t)).cell? ⟨w.heap.size, n, none⟩ = some (.string (Ml.dyN (n : Int))) := by
  match n, hn with
  | 0, _ => go_simp; rfl
  | 1, _ => go_simp; rfl
  | 2, _ => go_simp; rfl
  | 3, _ => go_simp; rfl
  | 4, _ => go_simp; rfl
  | 5, _ => go_simp; rfl
  | 6, _ => go_simp; rfl
theorem nm_sizes (n : Nat) (hn : n ≤ 6) (s : ByteArray) : (Ml.dyN (n : Int)).size = 3 ∧ (Ml.dyN (n : Int) ++ ⟨#[44, 32]⟩).size = 5 ∧ (Ml.dyN (n : Int) ++ ⟨#[44, 32]⟩ ++ s).size = 5 + s.size := by
  have h := (Ml.dy_is (k := (n : Int)) (by omega) (by omega)).2
  have h2 : (Ml.dyN (n : Int) ++ ⟨#[44, 32]⟩).size = 5 := by rw [size_add, h]; rfl
  exact ⟨h, h2, by rw [size_add, h2]⟩
set_option maxRecDepth 100000 in
set_option maxHeartbeats 4000000 in
theorem week_none (s : ByteArray) (hs : s.size ≤ 60) (k : Int) (hnc : ¬ (3 < s.size ∧ Sm.B s 3 = 44)) (n : Nat) (hn : n ≤ 6) (hk : (k.tmod 7 + 7).tmod 7 = (n : Int)) (hp : Ml.parseF s = none) (w : World) : Calls Tryd.prog 7 #[.string s, .int .i64 k] w (LawTrue w) := by
  have W := wakes_any
  have P0 := parse_none (by omega) hp
  obtain ⟨z1, z2, z3⟩ := nm_sizes n hn s
  have Q := parse_none (by omega) (Ml.week_none hp (k := (n : Int)) (by omega) (by omega))
  have g1 : ((s.size : Int) > 60) = False := by simp; omega
  have t0 : -7 < k.tmod 7 ∧ k.tmod 7 < 7 := by
    have := Int.tmod_lt_of_pos (-k) (show (0 : Int) < 7 by omega)
    have := Int.neg_tmod k 7
    have := Int.tmod_lt_of_pos k (show (0 : Int) < 7 by omega)
    omega
  have w1 : IntKind.i64.wrap (k.tmod 7 + 7) = k.tmod 7 + 7 := by simp [IntKind.wrap, IntKind.bits, IntKind.signed]; omega
  by_cases h3 : 3 < s.size
  · have hb := byte_at s 3 h3
    have e44 : ((Sm.B s 3 : Int) == 44) = false := by simp; omega
    have HC := Lib.hid hnc
    clear hnc
    go_enter Tryd.func7, Tryd.ntmps7
    go_wp2_with fail
    refine (P0 _).mono ?_
    rintro e w2 ⟨rfl, hb2⟩
    have hcell : w2.cell? ⟨w.heap.size, n, none⟩ = some (.string (Ml.dyN (n : Int))) := ((bcell hb2).1 _ _ (by simp)).trans (nm_cell w _ n hn)
    have hB : Below w.heap.size w w2 := ((Below.refl _ _).alloc (Nat.le_refl _) _).trans (hb2.mono (by simp))
    go_wp2_with fail
    refine (Q _).mono ?_
    rintro e w3 ⟨rfl, hb3⟩
    go_wp2_with fail
    refine (W _).mono ?_
    rintro e w4 ⟨rfl, hb4⟩
    go_wp2_with fail
    go_ret
    have q1 := hB.size
    have q2 := hb3.size
    exact ⟨rfl, (hB.trans (hb3.mono q1)).trans (hb4.mono (Nat.le_trans q1 q2))⟩
  · have g3 : ((s.size : Int) > 3) = False := by simp; omega
    have HC := Lib.hid hnc
    clear hnc
    go_enter Tryd.func7, Tryd.ntmps7
    go_wp2_with fail
    refine (P0 _).mono ?_
    rintro e w2 ⟨rfl, hb2⟩
    have hcell : w2.cell? ⟨w.heap.size, n, none⟩ = some (.string (Ml.dyN (n : Int))) := ((bcell hb2).1 _ _ (by simp)).trans (nm_cell w _ n hn)
    have hB : Below w.heap.size w w2 := ((Below.refl _ _).alloc (Nat.le_refl _) _).trans (hb2.mono (by simp))
    go_wp2_with fail
    refine (Q _).mono ?_
    rintro e w3 ⟨rfl, hb3⟩
    go_wp2_with fail
    refine (W _).mono ?_
    rintro e w4 ⟨rfl, hb4⟩
    go_wp2_with fail
    go_ret
    have q1 := hB.size
    have q2 := hb3.size
    exact ⟨rfl, (hB.trans (hb3.mono q1)).trans (hb4.mono (Nat.le_trans q1 q2))⟩
def rightN (wd j : Int) : Int := if wd < j then 1 else 0
theorem rightN_bd (wd j : Int) : 0 ≤ rightN wd j ∧ rightN wd j ≤ 1 := by unfold rightN; split <;> omega
theorem rightN_eq {wd j : Int} (h : j = wd) : rightN wd j + 1 = rightN wd (j + 1) := by unfold rightN; rw [if_neg (by omega), if_pos (by omega)]; rfl
theorem rightN_ne {wd j : Int} (h : ¬ j = wd) : rightN wd j = rightN wd (j + 1) := by unfold rightN; by_cases h2 : wd < j; rw [if_pos h2, if_pos (by omega)]; rw [if_neg h2, if_neg (by omega)]
theorem rightN_0 {wd : Int} (h : 0 ≤ wd) : rightN wd 0 = 0 := by unfold rightN; rw [if_neg (by omega)]
theorem rightN_7 {wd : Int} (h : wd ≤ 6) : rightN wd 7 = 1 := by unfold rightN; rw [if_pos (by omega)]
set_option maxRecDepth 100000 in
set_option maxHeartbeats 4000000 in
theorem week_core (s : ByteArray) (hs : s.size ≤ 60) (k v wd : Int) (w0d : 0 ≤ wd) (w1d : wd ≤ 6) (n : Nat) (hn : n ≤ 6) (hk : (k.tmod 7 + 7).tmod 7 = (n : Int)) (hp : Ml.parseF s = some v) (hwd : ∀ k : Int, 0 ≤ k → k ≤ 6 → Ml.parseF (Ml.dyN k ++ ⟨#[44, 32]⟩ ++ s) = if k = wd then some v else none) (o : Option Int) (ho : o = none ∨ o = some v) (hno : Ml.parseF (Ml.dyN (n : Int) ++ ⟨#[44, 32]⟩ ++ s) = o)
    (hpre : (∃ (h3 : 3 < s.size), ((s[3]'h3).toNat : Int) ≠ 44) ∨ s.size ≤ 3) (w : World) : Calls Tryd.prog 7 #[.string s, .int .i64 k] w (LawTrue w) := by
  have W := wakes_any
  have P0 := parse_some (by omega) hp
  obtain ⟨z1, z2, z3⟩ := nm_sizes n hn s
  have Q := parse_any (Ml.dyN (n : Int) ++ ⟨#[44, 32]⟩ ++ s) (by omega)
  rw [hno] at Q
  have HWD := Lib.hid hwd
  clear hwd hno hp
  have g1 : ((s.size : Int) > 60) = False := by simp; omega
  have t0 : -7 < k.tmod 7 ∧ k.tmod 7 < 7 := by
    have := Int.tmod_lt_of_pos (-k) (show (0 : Int) < 7 by omega)
    have := Int.neg_tmod k 7
    have := Int.tmod_lt_of_pos k (show (0 : Int) < 7 by omega)
    omega
  have w1 : IntKind.i64.wrap (k.tmod 7 + 7) = k.tmod 7 + 7 := by simp [IntKind.wrap, IntKind.bits, IntKind.signed]; omega
  rcases hpre with ⟨h3, hb⟩ | h3
  · have e44 : (((s[3]'h3).toNat : Int) == 44) = false := by simp; omega
    clear hb
    rcases ho with rfl | rfl
    · go_enter Tryd.func7, Tryd.ntmps7
      go_wp2_with fail
      refine (P0 _).mono ?_
      rintro e w2 ⟨rfl, hb2⟩
      have hall : ∀ i : Nat, i ≤ 6 → w2.cell? ⟨w.heap.size, i, none⟩ = some (.string (Ml.dyN (i : Int))) := fun i hi => ((bcell hb2).1 _ _ (by simp)).trans (nm_cell w _ i hi)
      have hcell := hall n hn
      have hB : Below w.heap.size w w2 := ((Below.refl _ _).alloc (Nat.le_refl _) _).trans (hb2.mono (by simp))
      have hx : w.heap.size < w2.heap.size := by have := hb2.size; simp at this; omega
      go_wp2_with fail
      refine (Q _).mono ?_
      rintro e w3 ⟨rfl, hb3⟩
      have hB3 := hB.trans (hb3.mono hB.size)
      have hall3 : ∀ i : Nat, i ≤ 6 → w3.cell? ⟨w.heap.size, i, none⟩ = some (.string (Ml.dyN (i : Int))) := fun i hi => ((bcell hb3).1 _ _ hx).trans (hall i hi)
      have hx3 : w.heap.size < w3.heap.size := Nat.lt_of_lt_of_le hx hb3.size
      have HA3 := Lib.hid hall3
      clear hall hcell hB hb3 hall3 hb2 hx
      go_wp2_with fail
      go_loopw [10, 11] (fun r i wr => ∃ j : Nat, j ≤ 7 ∧ i = .int .i64 j ∧ r = .int .i64 (rightN wd j) ∧ Below w3.heap.size w3 wr) (fun _ i _ => 7 - (intOf i).toNat)
      case atStart => exact ⟨0, by omega, rfl, by rw [show rightN wd ((0 : Nat) : Int) = 0 from rightN_0 w0d], Below.refl _ _⟩
      case round =>
        obtain ⟨j, hj, rfl, rfl, hBr⟩ := hrel
        have hr := rightN_bd wd j
        by_cases hlt : j < 7
        · obtain ⟨y1, y2, y3⟩ := nm_sizes j (by omega) s
          have hcj : wr.cell? ⟨w.heap.size, j, none⟩ = some (.string (Ml.dyN (j : Int))) := ((bcell hBr).1 _ _ hx3).trans (HA3.out j (by omega))
          have QQ := parse_any (Ml.dyN (j : Int) ++ ⟨#[44, 32]⟩ ++ s) (by omega)
          rw [HWD.out j (by omega) (by omega)] at QQ
          have hltI : (j : Int) < 7 := by omega
          by_cases hjw : (j : Int) = wd
          · rw [if_pos hjw] at QQ
            have hstep : rightN wd j + 1 = rightN wd (j + 1) := rightN_eq hjw
            have HS := Lib.hid hstep
            clear hjw hstep hlt
            go_wp2_with fail
            refine (QQ _).mono ?_
            rintro e w4 ⟨rfl, hb4⟩
            go_wp2_with fail
            go_roundw
            case rel => exact ⟨j + 1, by omega, by go_num, by rw [HS.out]; rfl, hBr.trans (hb4.mono hBr.size)⟩
            case measure => simp [intOf]; omega
          · rw [if_neg hjw] at QQ
            have hstep : rightN wd j = rightN wd (j + 1) := rightN_ne hjw
            have HS := Lib.hid hstep
            clear hjw hstep hlt
            go_wp2_with fail
            refine (QQ _).mono ?_
            rintro e w4 ⟨rfl, hb4⟩
            go_wp2_with fail
            go_roundw
            case rel => exact ⟨j + 1, by omega, by go_num, by rw [HS.out]; rfl, hBr.trans (hb4.mono hBr.size)⟩
            case measure => simp [intOf]; omega
        · obtain rfl : j = 7 := by omega
          have h7 : rightN wd ((7 : Nat) : Int) = 1 := rightN_7 w1d
          have h7' : rightN wd 7 = 1 := rightN_7 w1d
          clear hlt
          go_wp2_with fail
          refine (W _).mono ?_
          rintro e w5 ⟨rfl, hb5⟩
          go_wp2_with fail
          go_ret
          exact ⟨rfl, (hB3.trans (hBr.mono hB3.size)).trans (hb5.mono (Nat.le_trans hB3.size hBr.size))⟩
    · go_enter Tryd.func7, Tryd.ntmps7
      go_wp2_with fail
      refine (P0 _).mono ?_
      rintro e w2 ⟨rfl, hb2⟩
      have hall : ∀ i : Nat, i ≤ 6 → w2.cell? ⟨w.heap.size, i, none⟩ = some (.string (Ml.dyN (i : Int))) := fun i hi => ((bcell hb2).1 _ _ (by simp)).trans (nm_cell w _ i hi)
      have hcell := hall n hn
      have hB : Below w.heap.size w w2 := ((Below.refl _ _).alloc (Nat.le_refl _) _).trans (hb2.mono (by simp))
      have hx : w.heap.size < w2.heap.size := by have := hb2.size; simp at this; omega
      go_wp2_with fail
      refine (Q _).mono ?_
      rintro e w3 ⟨rfl, hb3⟩
      have hB3 := hB.trans (hb3.mono hB.size)
      have hall3 : ∀ i : Nat, i ≤ 6 → w3.cell? ⟨w.heap.size, i, none⟩ = some (.string (Ml.dyN (i : Int))) := fun i hi => ((bcell hb3).1 _ _ hx).trans (hall i hi)
      have hx3 : w.heap.size < w3.heap.size := Nat.lt_of_lt_of_le hx hb3.size
      have HA3 := Lib.hid hall3
      clear hall hcell hB hb3 hall3 hb2 hx
      go_wp2_with fail
      go_loopw [10, 11] (fun r i wr => ∃ j : Nat, j ≤ 7 ∧ i = .int .i64 j ∧ r = .int .i64 (rightN wd j) ∧ Below w3.heap.size w3 wr) (fun _ i _ => 7 - (intOf i).toNat)
      case atStart => exact ⟨0, by omega, rfl, by rw [show rightN wd ((0 : Nat) : Int) = 0 from rightN_0 w0d], Below.refl _ _⟩
      case round =>
        obtain ⟨j, hj, rfl, rfl, hBr⟩ := hrel
        have hr := rightN_bd wd j
        by_cases hlt : j < 7
        · obtain ⟨y1, y2, y3⟩ := nm_sizes j (by omega) s
          have hcj : wr.cell? ⟨w.heap.size, j, none⟩ = some (.string (Ml.dyN (j : Int))) := ((bcell hBr).1 _ _ hx3).trans (HA3.out j (by omega))
          have QQ := parse_any (Ml.dyN (j : Int) ++ ⟨#[44, 32]⟩ ++ s) (by omega)
          rw [HWD.out j (by omega) (by omega)] at QQ
          have hltI : (j : Int) < 7 := by omega
          by_cases hjw : (j : Int) = wd
          · rw [if_pos hjw] at QQ
            have hstep : rightN wd j + 1 = rightN wd (j + 1) := rightN_eq hjw
            have HS := Lib.hid hstep
            clear hjw hstep hlt
            go_wp2_with fail
            refine (QQ _).mono ?_
            rintro e w4 ⟨rfl, hb4⟩
            go_wp2_with fail
            go_roundw
            case rel => exact ⟨j + 1, by omega, by go_num, by rw [HS.out]; rfl, hBr.trans (hb4.mono hBr.size)⟩
            case measure => simp [intOf]; omega
          · rw [if_neg hjw] at QQ
            have hstep : rightN wd j = rightN wd (j + 1) := rightN_ne hjw
            have HS := Lib.hid hstep
            clear hjw hstep hlt
            go_wp2_with fail
            refine (QQ _).mono ?_
            rintro e w4 ⟨rfl, hb4⟩
            go_wp2_with fail
            go_roundw
            case rel => exact ⟨j + 1, by omega, by go_num, by rw [HS.out]; rfl, hBr.trans (hb4.mono hBr.size)⟩
            case measure => simp [intOf]; omega
        · obtain rfl : j = 7 := by omega
          have h7 : rightN wd ((7 : Nat) : Int) = 1 := rightN_7 w1d
          have h7' : rightN wd 7 = 1 := rightN_7 w1d
          clear hlt
          go_wp2_with fail
          refine (W _).mono ?_
          rintro e w5 ⟨rfl, hb5⟩
          go_wp2_with fail
          go_ret
          exact ⟨rfl, (hB3.trans (hBr.mono hB3.size)).trans (hb5.mono (Nat.le_trans hB3.size hBr.size))⟩
  · have g3 : ((s.size : Int) > 3) = False := by simp; omega
    rcases ho with rfl | rfl
    · go_enter Tryd.func7, Tryd.ntmps7
      go_wp2_with fail
      refine (P0 _).mono ?_
      rintro e w2 ⟨rfl, hb2⟩
      have hall : ∀ i : Nat, i ≤ 6 → w2.cell? ⟨w.heap.size, i, none⟩ = some (.string (Ml.dyN (i : Int))) := fun i hi => ((bcell hb2).1 _ _ (by simp)).trans (nm_cell w _ i hi)
      have hcell := hall n hn
      have hB : Below w.heap.size w w2 := ((Below.refl _ _).alloc (Nat.le_refl _) _).trans (hb2.mono (by simp))
      have hx : w.heap.size < w2.heap.size := by have := hb2.size; simp at this; omega
      go_wp2_with fail
      refine (Q _).mono ?_
      rintro e w3 ⟨rfl, hb3⟩
      have hB3 := hB.trans (hb3.mono hB.size)
      have hall3 : ∀ i : Nat, i ≤ 6 → w3.cell? ⟨w.heap.size, i, none⟩ = some (.string (Ml.dyN (i : Int))) := fun i hi => ((bcell hb3).1 _ _ hx).trans (hall i hi)
      have hx3 : w.heap.size < w3.heap.size := Nat.lt_of_lt_of_le hx hb3.size
      have HA3 := Lib.hid hall3
      clear hall hcell hB hb3 hall3 hb2 hx
      go_wp2_with fail
      go_loopw [10, 11] (fun r i wr => ∃ j : Nat, j ≤ 7 ∧ i = .int .i64 j ∧ r = .int .i64 (rightN wd j) ∧ Below w3.heap.size w3 wr) (fun _ i _ => 7 - (intOf i).toNat)
      case atStart => exact ⟨0, by omega, rfl, by rw [show rightN wd ((0 : Nat) : Int) = 0 from rightN_0 w0d], Below.refl _ _⟩
      case round =>
        obtain ⟨j, hj, rfl, rfl, hBr⟩ := hrel
        have hr := rightN_bd wd j
        by_cases hlt : j < 7
        · obtain ⟨y1, y2, y3⟩ := nm_sizes j (by omega) s
          have hcj : wr.cell? ⟨w.heap.size, j, none⟩ = some (.string (Ml.dyN (j : Int))) := ((bcell hBr).1 _ _ hx3).trans (HA3.out j (by omega))
          have QQ := parse_any (Ml.dyN (j : Int) ++ ⟨#[44, 32]⟩ ++ s) (by omega)
          rw [HWD.out j (by omega) (by omega)] at QQ
          have hltI : (j : Int) < 7 := by omega
          by_cases hjw : (j : Int) = wd
          · rw [if_pos hjw] at QQ
            have hstep : rightN wd j + 1 = rightN wd (j + 1) := rightN_eq hjw
            have HS := Lib.hid hstep
            clear hjw hstep hlt
            go_wp2_with fail
            refine (QQ _).mono ?_
            rintro e w4 ⟨rfl, hb4⟩
            go_wp2_with fail
            go_roundw
            case rel => exact ⟨j + 1, by omega, by go_num, by rw [HS.out]; rfl, hBr.trans (hb4.mono hBr.size)⟩
            case measure => simp [intOf]; omega
          · rw [if_neg hjw] at QQ
            have hstep : rightN wd j = rightN wd (j + 1) := rightN_ne hjw
            have HS := Lib.hid hstep
            clear hjw hstep hlt
            go_wp2_with fail
            refine (QQ _).mono ?_
            rintro e w4 ⟨rfl, hb4⟩
            go_wp2_with fail
            go_roundw
            case rel => exact ⟨j + 1, by omega, by go_num, by rw [HS.out]; rfl, hBr.trans (hb4.mono hBr.size)⟩
            case measure => simp [intOf]; omega
        · obtain rfl : j = 7 := by omega
          have h7 : rightN wd ((7 : Nat) : Int) = 1 := rightN_7 w1d
          have h7' : rightN wd 7 = 1 := rightN_7 w1d
          clear hlt
          go_wp2_with fail
          refine (W _).mono ?_
          rintro e w5 ⟨rfl, hb5⟩
          go_wp2_with fail
          go_ret
          exact ⟨rfl, (hB3.trans (hBr.mono hB3.size)).trans (hb5.mono (Nat.le_trans hB3.size hBr.size))⟩
    · go_enter Tryd.func7, Tryd.ntmps7
      go_wp2_with fail
      refine (P0 _).mono ?_
      rintro e w2 ⟨rfl, hb2⟩
      have hall : ∀ i : Nat, i ≤ 6 → w2.cell? ⟨w.heap.size, i, none⟩ = some (.string (Ml.dyN (i : Int))) := fun i hi => ((bcell hb2).1 _ _ (by simp)).trans (nm_cell w _ i hi)
      have hcell := hall n hn
      have hB : Below w.heap.size w w2 := ((Below.refl _ _).alloc (Nat.le_refl _) _).trans (hb2.mono (by simp))
      have hx : w.heap.size < w2.heap.size := by have := hb2.size; simp at this; omega
      go_wp2_with fail
      refine (Q _).mono ?_
      rintro e w3 ⟨rfl, hb3⟩
      have hB3 := hB.trans (hb3.mono hB.size)
      have hall3 : ∀ i : Nat, i ≤ 6 → w3.cell? ⟨w.heap.size, i, none⟩ = some (.string (Ml.dyN (i : Int))) := fun i hi => ((bcell hb3).1 _ _ hx).trans (hall i hi)
      have hx3 : w.heap.size < w3.heap.size := Nat.lt_of_lt_of_le hx hb3.size
      have HA3 := Lib.hid hall3
      clear hall hcell hB hb3 hall3 hb2 hx
      go_wp2_with fail
      go_loopw [10, 11] (fun r i wr => ∃ j : Nat, j ≤ 7 ∧ i = .int .i64 j ∧ r = .int .i64 (rightN wd j) ∧ Below w3.heap.size w3 wr) (fun _ i _ => 7 - (intOf i).toNat)
      case atStart => exact ⟨0, by omega, rfl, by rw [show rightN wd ((0 : Nat) : Int) = 0 from rightN_0 w0d], Below.refl _ _⟩
      case round =>
        obtain ⟨j, hj, rfl, rfl, hBr⟩ := hrel
        have hr := rightN_bd wd j
        by_cases hlt : j < 7
        · obtain ⟨y1, y2, y3⟩ := nm_sizes j (by omega) s
          have hcj : wr.cell? ⟨w.heap.size, j, none⟩ = some (.string (Ml.dyN (j : Int))) := ((bcell hBr).1 _ _ hx3).trans (HA3.out j (by omega))
          have QQ := parse_any (Ml.dyN (j : Int) ++ ⟨#[44, 32]⟩ ++ s) (by omega)
          rw [HWD.out j (by omega) (by omega)] at QQ
          have hltI : (j : Int) < 7 := by omega
          by_cases hjw : (j : Int) = wd
          · rw [if_pos hjw] at QQ
            have hstep : rightN wd j + 1 = rightN wd (j + 1) := rightN_eq hjw
            have HS := Lib.hid hstep
            clear hjw hstep hlt
            go_wp2_with fail
            refine (QQ _).mono ?_
            rintro e w4 ⟨rfl, hb4⟩
            go_wp2_with fail
            go_roundw
            case rel => exact ⟨j + 1, by omega, by go_num, by rw [HS.out]; rfl, hBr.trans (hb4.mono hBr.size)⟩
            case measure => simp [intOf]; omega
          · rw [if_neg hjw] at QQ
            have hstep : rightN wd j = rightN wd (j + 1) := rightN_ne hjw
            have HS := Lib.hid hstep
            clear hjw hstep hlt
            go_wp2_with fail
            refine (QQ _).mono ?_
            rintro e w4 ⟨rfl, hb4⟩
            go_wp2_with fail
            go_roundw
            case rel => exact ⟨j + 1, by omega, by go_num, by rw [HS.out]; rfl, hBr.trans (hb4.mono hBr.size)⟩
            case measure => simp [intOf]; omega
        · obtain rfl : j = 7 := by omega
          have h7 : rightN wd ((7 : Nat) : Int) = 1 := rightN_7 w1d
          have h7' : rightN wd 7 = 1 := rightN_7 w1d
          clear hlt
          go_wp2_with fail
          refine (W _).mono ?_
          rintro e w5 ⟨rfl, hb5⟩
          go_wp2_with fail
          go_ret
          exact ⟨rfl, (hB3.trans (hBr.mono hB3.size)).trans (hb5.mono (Nat.le_trans hB3.size hBr.size))⟩
set_option maxHeartbeats 1000000 in
theorem mailWeek_walk {w : World} (s : ByteArray) (_ : s.size ≤ Go.maxLen) (k : Int) (_ : Is64 k) : Calls Tryd.prog 7 #[.string s, .int .i64 k] w (LawTrue w) := by
  by_cases hs : s.size ≤ 60
  · by_cases hc : 3 < s.size ∧ Sm.B s 3 = 44
    · obtain ⟨h3, h44⟩ := hc
      have W := wakes_any
      have hb := byte_at s 3 h3
      have e44 : (((s[3]'h3).toNat : Int) == 44) = true := by rw [hb, h44]; rfl
      clear hb h44
      go_enter Tryd.func7, Tryd.ntmps7
      go_wp2_with fail
      refine (W _).mono ?_
      rintro e w1 ⟨rfl, b1⟩
      go_wp2_with fail
      go_ret
      exact ⟨rfl, b1⟩
    · have t0 : -7 < k.tmod 7 ∧ k.tmod 7 < 7 := by
        have := Int.tmod_lt_of_pos (-k) (show (0 : Int) < 7 by omega)
        have := Int.neg_tmod k 7
        have := Int.tmod_lt_of_pos k (show (0 : Int) < 7 by omega)
        omega
      have t1 : 0 ≤ (k.tmod 7 + 7).tmod 7 ∧ (k.tmod 7 + 7).tmod 7 ≤ 6 := by
        rw [Int.tmod_eq_emod_of_nonneg (by omega)]
        omega
      obtain ⟨n, hk⟩ := Int.eq_ofNat_of_zero_le t1.1
      have hn : n ≤ 6 := by omega
      cases hp : Ml.parseF s with
      | none => exact week_none s hs k hc n hn hk hp w
      | some v =>
        obtain ⟨wd, w0, w1, w2⟩ := Ml.week_some hp hc
        refine week_core s hs k v wd w0 w1 n hn hk hp w2 _ ?_ rfl ?_ w
        · rw [w2 n (by omega) (by omega)]
          split
          · exact Or.inr rfl
          · exact Or.inl rfl
        · by_cases h3 : 3 < s.size
          · refine Or.inl ⟨h3, ?_⟩
            rw [byte_at s 3 h3]
            intro e
            exact hc ⟨h3, by omega⟩
          · exact Or.inr (by omega)
  · have W := wakes_any
    go_enter Tryd.func7, Tryd.ntmps7
    go_wp2_with fail
    refine (W _).mono ?_
    rintro e w1 ⟨rfl, b1⟩
    go_wp2_with fail
    go_ret
    exact ⟨rfl, b1⟩
end Go.Proofs.YtfgchphadeogpaaDoor
