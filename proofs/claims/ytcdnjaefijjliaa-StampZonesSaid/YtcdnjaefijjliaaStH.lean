/- The walk of the stamp's Text. -/
import Derived.Test.YtcdnjaefijjliaaStG
import Derived.Lib.SlBytesConst
import Derived.Deep.Slices
namespace Go.Proofs.Ytcdnjaefijjliaa
open Go.RowKit
open Go
set_option linter.unusedVariables false
theorem conv_const (w : World) (C : Array Value) (n c b : Nat) (hb : b = w.heap.size) : (convert 50 50 (.slice (some ⟨b, 0, none⟩) n c)).run Try.prog (w.alloc (.cells C 5)) = .ok (.slice (some ⟨b, 0, none⟩) n c) (w.alloc (.cells C 5 (C.size, C.size + 1))) := by
  subst hb
  exact Lib.run_convert_bytes_const (P := Try.prog) w 50 5 C n c Try.underlying50 Try.underlying5
/-- Twenty bytes in a block, and the variable that names them. -/
def PT (B V : Nat) (W : World) (f : Nat → Int) : Prop := (∀ i, i < 20 → W.cell? ⟨B, i, none⟩ = some (.int .u8 (f i))) ∧ (∀ i, i < 20 → W.frozen? ⟨B, i, none⟩ = false) ∧ W.cell? ⟨V, 0, none⟩ = some (.slice (some ⟨B, 0, none⟩) 20 20) ∧ B < V ∧ V < W.heap.size
def upd (f : Nat → Int) (n : Int) (to j : Nat) (i : Nat) : Int := if to - j ≤ i ∧ i < to then 48 + n / (10 : Int) ^ (to - 1 - i) % 10 else f i
theorem PT.put {B V : Nat} {W : World} {f : Nat → Int} {n : Int} {to j : Nat} (h : PT B V W (upd f n to j)) (hto : to ≤ 20) (hj : j < to) : PT B V (W.setCell ⟨B, to - 1 - j, none⟩ (.int .u8 (48 + n / (10 : Int) ^ j % 10))) (upd f n to (j + 1)) := by
  obtain ⟨h1, h2, h3, h4, h5⟩ := h
  refine ⟨fun i hi => ?_, fun i hi => ?_, ?_, h4, by simpa using h5⟩
  · by_cases e : i = to - 1 - j
    · subst e
      rw [World.cell?_setCell_same _ _ _ (h1 _ hi)]
      unfold upd
      rw [if_pos (by omega)]
      have : to - 1 - (to - 1 - j) = j := by omega
      rw [this]
    · rw [World.cell?_setCell_other _ _ _ _ (by intro k; injection k with _ k; omega), h1 i hi]
      unfold upd
      by_cases q : to - j ≤ i ∧ i < to
      · rw [if_pos q, if_pos (by omega)]
      · rw [if_neg q, if_neg (by omega)]
  · rw [World.frozen?_setCell]; exact h2 i hi
  · rw [World.cell?_setCell_other _ _ _ _ (by intro k; injection k with k; omega)]; exact h3
set_option maxHeartbeats 1000000 in
theorem put_any (n : Int) (hn : 0 ≤ n) (hn2 : n ≤ 9999) (a to B V : Nat) (hat : a ≤ to) (h4 : to - a ≤ 4) (hto : to ≤ 20) (f : Nat → Int) (w : World) (hp : PT B V w f) :
    Calls Try.prog 31 #[.int .i64 n, .int .i64 a, .int .i64 to, .pointer (some ⟨V, 0, none⟩)] w (fun e w' => e = .returned (.tuple #[]) ∧ PT B V w' (upd f n to (to - a)) ∧ Below B w w') := by
  go_enter Try.func31, Try.ntmps31
  go_wp2_with fail
  go_loopw [0, 2] (fun v k wr => ∃ t : Nat, a ≤ t ∧ t ≤ to ∧ k = .int .i64 (t : Int) ∧ v = .int .i64 (n / (10 : Int) ^ (to - t)) ∧ PT B V wr (upd f n to (to - t)) ∧ Below B w wr) (fun _ k _ => (intOf k).toNat)
  case atStart =>
    refine ⟨to, hat, Nat.le_refl _, rfl, by simp, ?_, Below.refl _ _⟩
    have : upd f n to (to - to) = f := by
      funext i; unfold upd; rw [if_neg (by omega)]
    rw [this]; exact hp
  case round =>
    obtain ⟨t, ha, ht, rfl, rfl, hP, hB⟩ := hrel
    by_cases hlt : a < t
    · obtain ⟨u, rfl⟩ : ∃ u, t = u + 1 := ⟨t - 1, by omega⟩
      have hstep := hP.put hto (j := to - (u + 1)) (by omega)
      obtain ⟨p1, p2, p3, p4, p5⟩ := id hP
      have e1 : to - 1 - (to - (u + 1)) = u := by omega
      rw [e1] at hstep
      have c0 := p1 u (by omega)
      have f0 := p2 u (by omega)
      have key : n / (10 : Int) ^ (to - u) = n / (10 : Int) ^ (to - (u + 1)) / 10 := by
        obtain ⟨j, hj⟩ : ∃ j, to - (u + 1) = j := ⟨_, rfl⟩
        have e2 : to - u = j + 1 := by omega
        rw [hj, e2]
        have : j = 0 ∨ j = 1 ∨ j = 2 ∨ j = 3 := by omega
        rcases this with rfl | rfl | rfl | rfl <;> simp <;> omega
      have hm0 : 0 ≤ n / (10 : Int) ^ (to - (u + 1)) := Int.ediv_nonneg hn (Int.pow_nonneg (by omega))
      have hm1 : n / (10 : Int) ^ (to - (u + 1)) ≤ 9999 := Int.le_trans (Int.ediv_le_self _ hn) hn2
      have KEY := Lib.hid key
      have HST := Lib.hid hstep
      clear hstep key p1 p2 hP
      generalize n / (10 : Int) ^ (to - (u + 1)) = m at *
      have t1 : m.tmod 10 = m % 10 := Int.tmod_eq_emod_of_nonneg hm0
      have t2 : m.tdiv 10 = m / 10 := Int.tdiv_eq_ediv_of_nonneg hm0
      have t3 : IntKind.u8.wrap (48 + m % 10) = 48 + m % 10 := by simp [IntKind.wrap, IntKind.bits, IntKind.signed]; omega
      have t4 : (u : Int) < 20 := by omega
      have t5 : (a : Int) < (u : Int) + 1 := by omega
      go_wp2
      go_roundw
      case rel =>
        refine ⟨u, by omega, by omega, rfl, by rw [KEY.out], ?_, hB.setCell (Nat.le_refl _) _⟩
        have e3 : to - u = to - (u + 1) + 1 := by omega
        rw [e3]; exact HST.out
      case measure => simp [intOf] <;> omega
    · obtain rfl : t = a := by omega
      go_wp2
      go_end0
      exact ⟨rfl, hP, hB⟩
def base (i : Nat) : Int := (([48, 48, 48, 48, 45, 48, 48, 45, 48, 48, 84, 48, 48, 58, 48, 48, 58, 48, 48, 90] : List Int)[i]?).getD 0
theorem base_row (W : World) (t : TypeId) (fr : Nat × Nat) : ∀ i, i < 20 → (W.alloc (.cells #[.int .u8 48, .int .u8 48, .int .u8 48, .int .u8 48, .int .u8 45, .int .u8 48, .int .u8 48, .int .u8 45, .int .u8 48, .int .u8 48, .int .u8 84, .int .u8 48, .int .u8 48, .int .u8 58, .int .u8 48, .int .u8 48, .int .u8 58, .int .u8 48, .int .u8 48, .int .u8 90] t fr)).cell? ⟨W.heap.size, i, none⟩ = some (.int .u8 (base i)) := by
  intro i hi
  rw [World.cell?_alloc_mark]
  match i, hi with
  | 0, _ => rfl
  | 1, _ => rfl
  | 2, _ => rfl
  | 3, _ => rfl
  | 4, _ => rfl
  | 5, _ => rfl
  | 6, _ => rfl
  | 7, _ => rfl
  | 8, _ => rfl
  | 9, _ => rfl
  | 10, _ => rfl
  | 11, _ => rfl
  | 12, _ => rfl
  | 13, _ => rfl
  | 14, _ => rfl
  | 15, _ => rfl
  | 16, _ => rfl
  | 17, _ => rfl
  | 18, _ => rfl
  | 19, _ => rfl
  | k + 20, hk => exact absurd hk (by omega)
theorem base_full (y m d h mi x : Int) : ∀ i (hi : i < (Sm.textL y m d h mi x).length), (upd (upd (upd (upd (upd (upd base y 4 4) m 7 2) d 10 2) h 13 2) mi 16 2) x 19 2) i = (((Sm.textL y m d h mi x)[i]).toNat : Int) := by
  intro i hi
  have hi' : i < 20 := hi
  match i, hi' with
  | 0, _ => simp [upd, base, Sm.textL, Sm.c_nat]
  | 1, _ => simp [upd, base, Sm.textL, Sm.c_nat]
  | 2, _ => simp [upd, base, Sm.textL, Sm.c_nat]
  | 3, _ => simp [upd, base, Sm.textL, Sm.c_nat]
  | 4, _ => simp [upd, base, Sm.textL, Sm.c_nat]
  | 5, _ => simp [upd, base, Sm.textL, Sm.c_nat]
  | 6, _ => simp [upd, base, Sm.textL, Sm.c_nat]
  | 7, _ => simp [upd, base, Sm.textL, Sm.c_nat]
  | 8, _ => simp [upd, base, Sm.textL, Sm.c_nat]
  | 9, _ => simp [upd, base, Sm.textL, Sm.c_nat]
  | 10, _ => simp [upd, base, Sm.textL, Sm.c_nat]
  | 11, _ => simp [upd, base, Sm.textL, Sm.c_nat]
  | 12, _ => simp [upd, base, Sm.textL, Sm.c_nat]
  | 13, _ => simp [upd, base, Sm.textL, Sm.c_nat]
  | 14, _ => simp [upd, base, Sm.textL, Sm.c_nat]
  | 15, _ => simp [upd, base, Sm.textL, Sm.c_nat]
  | 16, _ => simp [upd, base, Sm.textL, Sm.c_nat]
  | 17, _ => simp [upd, base, Sm.textL, Sm.c_nat]
  | 18, _ => simp [upd, base, Sm.textL, Sm.c_nat]
  | 19, _ => simp [upd, base, Sm.textL, Sm.c_nat]
  | k + 20, hk => exact absurd hk (by omega)
set_option maxHeartbeats 4000000 in
theorem text_yes (sec y m d h mi x : Int) (by0 : 0 ≤ y ∧ y ≤ 9999) (bm : 0 ≤ m ∧ m ≤ 99) (bd : 0 ≤ d ∧ d ≤ 99) (bh : 0 ≤ h ∧ h ≤ 99) (bmi : 0 ≤ mi ∧ mi ≤ 99) (bx : 0 ≤ x ∧ x ≤ 99)
    (hC : ∀ w, Calls Try.prog 30 #[.int .i64 sec] w fun e w' => e = .returned (.tuple #[.agg #[.int .i64 y, .int .i64 m, .int .i64 d, .int .i64 h, .int .i64 mi, .int .i64 x], .int .i64 0]) ∧ Below w.heap.size w w') (w : World) :
    Calls Try.prog 18 #[.int .i64 sec] w (fun e w' => e = .returned (.tuple #[.string (Sm.textB y m d h mi x), .bool true]) ∧ Below w.heap.size w w') := by
  have kc := conv_const
  have hmf : ∀ (fn : Fn) (first cap : Array Value) (w : World), (Instr.makeFunc fn first cap).run Try.prog w = .ok (.func fn first cap) w := fun _ _ _ _ => rfl
  go_enter Try.func18, Try.ntmps18
  go_wp2_with fail
  refine (hC _).mono ?_
  rintro e w1 ⟨rfl, hb1⟩
  clear hC
  go_wp2_with fail
  have hp : PT (w1.heap.size + 1) (w1.heap.size + 1 + 1) (((w1.alloc (.cells #[.int .i64 y, .int .i64 m, .int .i64 d, .int .i64 h, .int .i64 mi, .int .i64 x] 26)).alloc (.cells #[.int .u8 48, .int .u8 48, .int .u8 48, .int .u8 48, .int .u8 45, .int .u8 48, .int .u8 48, .int .u8 45, .int .u8 48, .int .u8 48, .int .u8 84, .int .u8 48, .int .u8 48, .int .u8 58, .int .u8 48, .int .u8 48, .int .u8 58, .int .u8 48, .int .u8 48, .int .u8 90] 5 (20, 21))).alloc (.cells #[.slice (some ⟨w1.heap.size + 1, 0, none⟩) 20 20] 50)) base := by
    refine ⟨fun i hi => ?_, fun i hi => ?_, by go_simp, by omega, by simp⟩
    · have e := base_row (w1.alloc (.cells #[.int .i64 y, .int .i64 m, .int .i64 d, .int .i64 h, .int .i64 mi, .int .i64 x] 26)) 5 (20, 21) i hi
      have e2 : (w1.alloc (.cells #[.int .i64 y, .int .i64 m, .int .i64 d, .int .i64 h, .int .i64 mi, .int .i64 x] 26)).heap.size = w1.heap.size + 1 := by simp
      rw [e2] at e
      exact Lib.cell?_alloc_marked _ e
    · have e2 : (w1.alloc (.cells #[.int .i64 y, .int .i64 m, .int .i64 d, .int .i64 h, .int .i64 mi, .int .i64 x] 26)).heap.size = w1.heap.size + 1 := by simp
      refine (((Below.refl _ _).alloc (Nat.le_refl _) _).frozen (p := ⟨w1.heap.size + 1, i, none⟩) (by simp)).trans ?_
      rw [← e2, World.frozen?_alloc_mark]
      simp; omega
  have hs : Six (((w1.alloc (.cells #[.int .i64 y, .int .i64 m, .int .i64 d, .int .i64 h, .int .i64 mi, .int .i64 x] 26)).alloc (.cells #[.int .u8 48, .int .u8 48, .int .u8 48, .int .u8 48, .int .u8 45, .int .u8 48, .int .u8 48, .int .u8 45, .int .u8 48, .int .u8 48, .int .u8 84, .int .u8 48, .int .u8 48, .int .u8 58, .int .u8 48, .int .u8 48, .int .u8 58, .int .u8 48, .int .u8 48, .int .u8 90] 5 (20, 21))).alloc (.cells #[.slice (some ⟨w1.heap.size + 1, 0, none⟩) 20 20] 50)) w1.heap.size (.int .i64 y) (.int .i64 m) (.int .i64 d) (.int .i64 h) (.int .i64 mi) (.int .i64 x) := ⟨by go_simp, by go_simp, by go_simp, by go_simp, by go_simp, by go_simp⟩
  have hB : Below w.heap.size w (((w1.alloc (.cells #[.int .i64 y, .int .i64 m, .int .i64 d, .int .i64 h, .int .i64 mi, .int .i64 x] 26)).alloc (.cells #[.int .u8 48, .int .u8 48, .int .u8 48, .int .u8 48, .int .u8 45, .int .u8 48, .int .u8 48, .int .u8 45, .int .u8 48, .int .u8 48, .int .u8 84, .int .u8 48, .int .u8 48, .int .u8 58, .int .u8 48, .int .u8 48, .int .u8 58, .int .u8 48, .int .u8 48, .int .u8 90] 5 (20, 21))).alloc (.cells #[.slice (some ⟨w1.heap.size + 1, 0, none⟩) 20 20] 50)) := bbox (bbox (bbox hb1 _) _) _
  have hle : w.heap.size ≤ w1.heap.size := hb1.size
  generalize (((w1.alloc (.cells #[.int .i64 y, .int .i64 m, .int .i64 d, .int .i64 h, .int .i64 mi, .int .i64 x] 26)).alloc (.cells #[.int .u8 48, .int .u8 48, .int .u8 48, .int .u8 48, .int .u8 45, .int .u8 48, .int .u8 48, .int .u8 45, .int .u8 48, .int .u8 48, .int .u8 84, .int .u8 48, .int .u8 48, .int .u8 58, .int .u8 48, .int .u8 48, .int .u8 58, .int .u8 48, .int .u8 48, .int .u8 90] 5 (20, 21))).alloc (.cells #[.slice (some ⟨w1.heap.size + 1, 0, none⟩) 20 20] 50)) = W at *
  generalize hX : w1.heap.size = X at *
  clear hb1 kc hmf
  refine (put_any y by0.1 (by omega) 0 4 (X + 1) (X + 1 + 1) (by omega) (by omega) (by omega) _ _ hp).mono ?_
  rintro e w2 ⟨rfl, hp2, hbp⟩
  replace hB : Below w.heap.size w w2 := hB.trans (hbp.mono (by omega))
  replace hs : Six w2 X (.int .i64 y) (.int .i64 m) (.int .i64 d) (.int .i64 h) (.int .i64 mi) (.int .i64 x) := ⟨(hbp.cell (p := ⟨X, 0, none⟩) (Nat.lt_succ_self X)).trans hs.1, (hbp.cell (p := ⟨X, 1, none⟩) (Nat.lt_succ_self X)).trans hs.2.1, (hbp.cell (p := ⟨X, 2, none⟩) (Nat.lt_succ_self X)).trans hs.2.2.1, (hbp.cell (p := ⟨X, 3, none⟩) (Nat.lt_succ_self X)).trans hs.2.2.2.1, (hbp.cell (p := ⟨X, 4, none⟩) (Nat.lt_succ_self X)).trans hs.2.2.2.2.1, (hbp.cell (p := ⟨X, 5, none⟩) (Nat.lt_succ_self X)).trans hs.2.2.2.2.2⟩
  clear hbp hp
  have hp := hp2
  clear hp2
  obtain ⟨q0, q1, q2, q3, q4, q5⟩ := id hs
  go_wp2_with fail
  refine (put_any m bm.1 (by omega) 5 7 (X + 1) (X + 1 + 1) (by omega) (by omega) (by omega) _ _ hp).mono ?_
  rintro e w2 ⟨rfl, hp2, hbp⟩
  replace hB : Below w.heap.size w w2 := hB.trans (hbp.mono (by omega))
  replace hs : Six w2 X (.int .i64 y) (.int .i64 m) (.int .i64 d) (.int .i64 h) (.int .i64 mi) (.int .i64 x) := ⟨(hbp.cell (p := ⟨X, 0, none⟩) (Nat.lt_succ_self X)).trans hs.1, (hbp.cell (p := ⟨X, 1, none⟩) (Nat.lt_succ_self X)).trans hs.2.1, (hbp.cell (p := ⟨X, 2, none⟩) (Nat.lt_succ_self X)).trans hs.2.2.1, (hbp.cell (p := ⟨X, 3, none⟩) (Nat.lt_succ_self X)).trans hs.2.2.2.1, (hbp.cell (p := ⟨X, 4, none⟩) (Nat.lt_succ_self X)).trans hs.2.2.2.2.1, (hbp.cell (p := ⟨X, 5, none⟩) (Nat.lt_succ_self X)).trans hs.2.2.2.2.2⟩
  clear hbp hp
  have hp := hp2
  clear hp2
  obtain ⟨q0, q1, q2, q3, q4, q5⟩ := id hs
  go_wp2_with fail
  refine (put_any d bd.1 (by omega) 8 10 (X + 1) (X + 1 + 1) (by omega) (by omega) (by omega) _ _ hp).mono ?_
  rintro e w2 ⟨rfl, hp2, hbp⟩
  replace hB : Below w.heap.size w w2 := hB.trans (hbp.mono (by omega))
  replace hs : Six w2 X (.int .i64 y) (.int .i64 m) (.int .i64 d) (.int .i64 h) (.int .i64 mi) (.int .i64 x) := ⟨(hbp.cell (p := ⟨X, 0, none⟩) (Nat.lt_succ_self X)).trans hs.1, (hbp.cell (p := ⟨X, 1, none⟩) (Nat.lt_succ_self X)).trans hs.2.1, (hbp.cell (p := ⟨X, 2, none⟩) (Nat.lt_succ_self X)).trans hs.2.2.1, (hbp.cell (p := ⟨X, 3, none⟩) (Nat.lt_succ_self X)).trans hs.2.2.2.1, (hbp.cell (p := ⟨X, 4, none⟩) (Nat.lt_succ_self X)).trans hs.2.2.2.2.1, (hbp.cell (p := ⟨X, 5, none⟩) (Nat.lt_succ_self X)).trans hs.2.2.2.2.2⟩
  clear hbp hp
  have hp := hp2
  clear hp2
  obtain ⟨q0, q1, q2, q3, q4, q5⟩ := id hs
  go_wp2_with fail
  refine (put_any h bh.1 (by omega) 11 13 (X + 1) (X + 1 + 1) (by omega) (by omega) (by omega) _ _ hp).mono ?_
  rintro e w2 ⟨rfl, hp2, hbp⟩
  replace hB : Below w.heap.size w w2 := hB.trans (hbp.mono (by omega))
  replace hs : Six w2 X (.int .i64 y) (.int .i64 m) (.int .i64 d) (.int .i64 h) (.int .i64 mi) (.int .i64 x) := ⟨(hbp.cell (p := ⟨X, 0, none⟩) (Nat.lt_succ_self X)).trans hs.1, (hbp.cell (p := ⟨X, 1, none⟩) (Nat.lt_succ_self X)).trans hs.2.1, (hbp.cell (p := ⟨X, 2, none⟩) (Nat.lt_succ_self X)).trans hs.2.2.1, (hbp.cell (p := ⟨X, 3, none⟩) (Nat.lt_succ_self X)).trans hs.2.2.2.1, (hbp.cell (p := ⟨X, 4, none⟩) (Nat.lt_succ_self X)).trans hs.2.2.2.2.1, (hbp.cell (p := ⟨X, 5, none⟩) (Nat.lt_succ_self X)).trans hs.2.2.2.2.2⟩
  clear hbp hp
  have hp := hp2
  clear hp2
  obtain ⟨q0, q1, q2, q3, q4, q5⟩ := id hs
  go_wp2_with fail
  refine (put_any mi bmi.1 (by omega) 14 16 (X + 1) (X + 1 + 1) (by omega) (by omega) (by omega) _ _ hp).mono ?_
  rintro e w2 ⟨rfl, hp2, hbp⟩
  replace hB : Below w.heap.size w w2 := hB.trans (hbp.mono (by omega))
  replace hs : Six w2 X (.int .i64 y) (.int .i64 m) (.int .i64 d) (.int .i64 h) (.int .i64 mi) (.int .i64 x) := ⟨(hbp.cell (p := ⟨X, 0, none⟩) (Nat.lt_succ_self X)).trans hs.1, (hbp.cell (p := ⟨X, 1, none⟩) (Nat.lt_succ_self X)).trans hs.2.1, (hbp.cell (p := ⟨X, 2, none⟩) (Nat.lt_succ_self X)).trans hs.2.2.1, (hbp.cell (p := ⟨X, 3, none⟩) (Nat.lt_succ_self X)).trans hs.2.2.2.1, (hbp.cell (p := ⟨X, 4, none⟩) (Nat.lt_succ_self X)).trans hs.2.2.2.2.1, (hbp.cell (p := ⟨X, 5, none⟩) (Nat.lt_succ_self X)).trans hs.2.2.2.2.2⟩
  clear hbp hp
  have hp := hp2
  clear hp2
  obtain ⟨q0, q1, q2, q3, q4, q5⟩ := id hs
  go_wp2_with fail
  refine (put_any x bx.1 (by omega) 17 19 (X + 1) (X + 1 + 1) (by omega) (by omega) (by omega) _ _ hp).mono ?_
  rintro e w2 ⟨rfl, hp2, hbp⟩
  replace hB : Below w.heap.size w w2 := hB.trans (hbp.mono (by omega))
  replace hs : Six w2 X (.int .i64 y) (.int .i64 m) (.int .i64 d) (.int .i64 h) (.int .i64 mi) (.int .i64 x) := ⟨(hbp.cell (p := ⟨X, 0, none⟩) (Nat.lt_succ_self X)).trans hs.1, (hbp.cell (p := ⟨X, 1, none⟩) (Nat.lt_succ_self X)).trans hs.2.1, (hbp.cell (p := ⟨X, 2, none⟩) (Nat.lt_succ_self X)).trans hs.2.2.1, (hbp.cell (p := ⟨X, 3, none⟩) (Nat.lt_succ_self X)).trans hs.2.2.2.1, (hbp.cell (p := ⟨X, 4, none⟩) (Nat.lt_succ_self X)).trans hs.2.2.2.2.1, (hbp.cell (p := ⟨X, 5, none⟩) (Nat.lt_succ_self X)).trans hs.2.2.2.2.2⟩
  clear hbp hp
  have hp := hp2
  clear hp2
  obtain ⟨q0, q1, q2, q3, q4, q5⟩ := id hs
  have hv := hp.2.2.1
  have hback := run_convert_bytes_back (P := Try.prog) w2 50 9 5 ⟨X + 1, 0, none⟩ 20 (Sm.textL y m d h mi x) Try.underlying50 Try.underlying5 Try.underlying9 (fun j hj => by
    rw [Go.WideShapes.add_plain, Nat.zero_add, hp.1 j hj, base_full])
  have hlen : (Sm.textL y m d h mi x).length = 20 := rfl
  rw [hlen] at hback
  have htb : (ByteArray.mk (Sm.textL y m d h mi x).toArray) = Sm.textB y m d h mi x := rfl
  rw [htb] at hback
  clear hp htb hlen
  go_wp2_with fail
  go_ret2
  exact ⟨rfl, hB⟩
end Go.Proofs.Ytcdnjaefijjliaa
