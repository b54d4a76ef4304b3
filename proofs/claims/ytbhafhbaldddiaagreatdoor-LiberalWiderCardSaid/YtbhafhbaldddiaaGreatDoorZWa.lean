/- The walk of the stamp document's Text (cardingref19). The walk of the letters' document's Text (cardingref20). -/
import Derived.Test.YtbhafhbaldddiaaGreatDoorZA
import Derived.Test.YtbhafhbaldddiaaGreatDoorZC
import Derived.Laws.IdiomStrings
import Derived.Laws.AppendOwn
import Derived.Deep.RegionHeld3
import Derived.Deep.Slices
import Derived.Test.YtbhafhbaldddiaaGreatDoorZMf
namespace Go.Proofs.YtbhafhbaldddiaaGreatDoor.T19
open Go.RowKit
open Go
open Go.Proofs.YtbhafhbaldddiaaGreatDoor
set_option linter.unusedVariables false
def upd (f : Nat → Int) (n : Int) (tov j : Nat) (i : Nat) : Int := if tov - j ≤ i ∧ i < tov then 48 + n / (10 : Int) ^ (tov - 1 - i) % 10 else f i
theorem info_u8 : (Tryz.prog.info? 5).map (fun i => (i.zero, i.size, i.bytes)) = some (some (.int .u8 0), 1, 1) := by kernel_rfl
/-- So many bytes in a block. -/
def RB (g z : Nat) (W : World) (f : Nat → Int) : Prop := (∀ i, i < z → W.cell? ⟨g, i, none⟩ = some (.int .u8 (f i))) ∧ (∀ i, i < z → W.frozen? ⟨g, i, none⟩ = false) ∧ g < W.heap.size
theorem RB.put {g z : Nat} {W : World} {f : Nat → Int} {n : Int} {j : Nat} (h : RB g z W (upd f n z j)) (hj : j < z) : RB g z (W.setCell ⟨g, z - 1 - j, none⟩ (.int .u8 (48 + n / (10 : Int) ^ j % 10))) (upd f n z (j + 1)) := by
  obtain ⟨h1, h2, h3⟩ := h
  refine ⟨fun i hi => ?_, fun i hi => ?_, by simpa using h3⟩
  · by_cases e : i = z - 1 - j
    · subst e
      rw [World.cell?_setCell_same _ _ _ (h1 _ hi)]
      unfold upd
      rw [if_pos (by omega)]
      have : z - 1 - (z - 1 - j) = j := by omega
      rw [this]
    · rw [World.cell?_setCell_other _ _ _ _ (by intro k; injection k with _ k; omega), h1 i hi]
      unfold upd
      by_cases q : z - j ≤ i ∧ i < z
      · rw [if_pos q, if_pos (by omega)]
      · rw [if_neg q, if_neg (by omega)]
  · rw [World.frozen?_setCell]; exact h2 i hi
theorem own_rows {w : World} {base z cap g : Nat} (h : w.ownsRow base 5 1 (.slice (some ⟨g, 0, none⟩) z cap) z (List.replicate z (.int .u8 48))) : RB g z w (fun _ => 48) ∧ base ≤ g := by
  refine ⟨⟨fun i hi => ?_, fun i hi => ?_, ?_⟩, ?_⟩
  · have := h.cells (g := g) rfl i (.int .u8 48) (by simp [hi])
    rw [Go.WideShapes.add_plain, Nat.zero_add] at this
    exact this
  · rcases h.2 with ⟨e, _⟩ | ⟨g', cap', cur, e, hb, hg, _⟩
    · cases e
    · injection e with e _ _
      injection e with e
      injection e with e _ _
      subst e
      unfold World.frozen?
      simp only [hg]
      simp
  · exact (h.lt g rfl).2
  · exact (h.lt g rfl).1
set_option maxHeartbeats 1000000 in
theorem rput_any (n : Int) (hn : 0 ≤ n) (hn2 : n ≤ 9999) (z : Nat) (hz : z ≤ 4) (hz0 : 0 < z) (w : World) :
    Calls Tryz.prog 54 #[.int .i64 n, .int .i64 z] w (fun e w' => e = .returned (.string ⟨(Sm.putL n z).toArray⟩) ∧ Below w.heap.size w w') := by
  obtain ⟨i0, hi, hi0, hi1, hi2⟩ := info_parts info_u8
  go_enter Tryz.func54, Tryz.ntmps54
  go_wp2_with fail
  go_loopw [5, 6] (fun v i wr => ∃ k : Nat, k ≤ z ∧ i = .int .i64 (k : Int) ∧ wr.ownsRow w.heap.size 5 1 v k (List.replicate k (.int .u8 48)) ∧ Below w.heap.size w wr) (fun _ i _ => z - (intOf i).toNat)
  case atStart => exact ⟨0, Nat.zero_le _, rfl, World.ownsRow_nil _ _ _ _, Below.refl _ _⟩
  case round =>
    obtain ⟨k, hk, rfl, hown, hB⟩ := hrel
    by_cases hlt : k < z
    · go_wp2_with (first
        | (at_builtin; refine wpList_append_own _ rfl _ _ 88 rfl w.heap.size 5 i0 (.int .u8 0) 1 1 Tryz.underlying88 hi hi0 hi1 hi2 rfl (by decide) _ _ _ rfl (hown.alloc _) ⟨wr.heap.size, 0, none⟩ 1 1 [.int .u8 48] rfl rfl ?c1 ?c2 ?c3 ?c4 ?c5 ?_)
        | go_in)
      case c1 =>
        intro j u hj
        match j, hj with
        | 0, hj => simp at hj; subst hj; simp [Addr.add]
      case c2 => intro u hu; simp at hu; subst hu; rfl
      case c3 => unfold maxLen; omega
      case c4 => omega
      case c5 => have := hB.size; simp; omega
      intro v' w1 hown' hgrow _
      have hB1 : Below w.heap.size w w1 := (hB.alloc hB.size _).grown hgrow (by have := hB.size; simp; omega) (fun j hj => (hown.lt j hj).1)
      have hl : List.replicate k (Value.int .u8 48) ++ [.int .u8 48] = List.replicate (k + 1) (.int .u8 48) := by rw [List.replicate_succ']
      rw [hl] at hown'
      clear hgrow hown hl hB
      go_wp2
      go_roundw
      case rel => exact ⟨k + 1, by omega, by push_cast; try go_num, hown', hB1⟩
      case measure => simp [intOf]; omega
    · obtain rfl : k = z := by omega
      obtain ⟨g, cap, hv⟩ : ∃ g cap, u5 = .slice (some ⟨g, 0, none⟩) k cap := by
        rcases hown.2 with ⟨_, e⟩ | ⟨g, cap, _, e, _⟩
        · omega
        · exact ⟨g, cap, e⟩
      subst hv
      obtain ⟨hR, hbg⟩ := own_rows hown
      clear hown
      go_wp2_with fail
      go_loopw [0, 7] (fun v i wq => ∃ t : Nat, t ≤ k ∧ i = .int .i64 ((t : Int) - 1) ∧ v = .int .i64 (n / (10 : Int) ^ (k - t)) ∧ RB g k wq (upd (fun _ => 48) n k (k - t)) ∧ Below w.heap.size w wq) (fun _ i _ => (intOf i + 1).toNat)
      case atStart =>
        refine ⟨k, Nat.le_refl _, rfl, by simp, ?_, hB⟩
        have : upd (fun _ => 48) n k (k - k) = fun _ => 48 := by
          funext i; unfold upd; rw [if_neg (by omega)]
        rw [this]; exact hR
      case round =>
        obtain ⟨t, ht, rfl, rfl, hP, hB2⟩ := hrel
        by_cases hlt2 : 0 < t
        · obtain ⟨u, rfl⟩ : ∃ u, t = u + 1 := ⟨t - 1, by omega⟩
          have hstep := hP.put (j := k - (u + 1)) (by omega)
          obtain ⟨p1, p2, p3⟩ := id hP
          have e1 : k - 1 - (k - (u + 1)) = u := by omega
          rw [e1] at hstep
          have c0 := p1 u (by omega)
          have f0 := p2 u (by omega)
          have key : n / (10 : Int) ^ (k - u) = n / (10 : Int) ^ (k - (u + 1)) / 10 := by
            obtain ⟨j, hj⟩ : ∃ j, k - (u + 1) = j := ⟨_, rfl⟩
            have e2 : k - u = j + 1 := by omega
            rw [hj, e2]
            have : j = 0 ∨ j = 1 ∨ j = 2 ∨ j = 3 := by omega
            rcases this with rfl | rfl | rfl | rfl <;> simp <;> omega
          have hm0 : 0 ≤ n / (10 : Int) ^ (k - (u + 1)) := Int.ediv_nonneg hn (Int.pow_nonneg (by omega))
          have hm1 : n / (10 : Int) ^ (k - (u + 1)) ≤ 9999 := Int.le_trans (Int.ediv_le_self _ hn) hn2
          have KEY := Lib.hid key
          have HST := Lib.hid hstep
          clear hstep key p1 p2 hP hR
          generalize n / (10 : Int) ^ (k - (u + 1)) = m at *
          have t1 : m.tmod 10 = m % 10 := Int.tmod_eq_emod_of_nonneg hm0
          have t2 : m.tdiv 10 = m / 10 := Int.tdiv_eq_ediv_of_nonneg hm0
          have t3 : IntKind.u8.wrap (48 + m % 10) = 48 + m % 10 := by simp [IntKind.wrap, IntKind.bits, IntKind.signed]; omega
          have t4 : (u : Int) < k := by omega
          have t5 : (0 : Int) ≤ u := by omega
          go_wp2
          go_roundw
          case rel =>
            refine ⟨u, by omega, rfl, by rw [KEY.out], ?_, hB2.setCell hbg _⟩
            have e3 : k - u = k - (u + 1) + 1 := by omega
            rw [e3]; exact HST.out
          case measure => simp [intOf] <;> omega
        · obtain rfl : t = 0 := by omega
          have hlen := Sm.putL_len n k
          have hback := run_convert_bytes_back (P := Tryz.prog) wr 88 9 5 ⟨g, 0, none⟩ cap (Sm.putL n k) Tryz.underlying88 Tryz.underlying5 Tryz.underlying9 (fun j hj => by
            rw [Go.WideShapes.add_plain, Nat.zero_add, hP.1 j (by omega), Sm.putL_at]
            unfold upd
            rw [if_pos (by omega)])
          rw [hlen] at hback
          clear hP hR hlen
          go_wp2
          go_ret
          exact ⟨rfl, hB2⟩
theorem put_c (n : Int) (z : Nat) (k : Int) (hk : k = z) (hn : 0 ≤ n) (hn2 : n ≤ 9999) (hz : z ≤ 4) (hz0 : 0 < z) (p : ByteArray) (hp : p = ⟨(Sm.putL n z).toArray⟩) (w : World) :
    Calls Tryz.prog 54 #[.int .i64 n, .int .i64 k] w (fun e w' => e = .returned (.string p) ∧ Below w.heap.size w w') := by
  subst hk; subst hp; exact rput_any n hn hn2 z hz hz0 w
theorem cell_keep {W w1 : World} {a : Addr} {v : Value} (h : W.cell? a = some v) (hb : Below W.heap.size W w1) : w1.cell? a = some v := (hb.cell (World.block_lt_of_cell? W a h)).trans h
set_option maxHeartbeats 2000000 in
theorem rtext_core (sec y m d h mi x : Int) (p0 p1 p2 p3 p4 p5 : ByteArray) (s0 : p0.size = 4) (s1 : p1.size = 2) (s2 : p2.size = 2) (s3 : p3.size = 2) (s4 : p4.size = 2) (s5 : p5.size = 2)
    (hC : ∀ w, Calls Tryz.prog 53 #[.int .i64 sec] w fun e w' => e = .returned (.tuple #[.agg #[.int .i64 y, .int .i64 m, .int .i64 d, .int .i64 h, .int .i64 mi, .int .i64 x], .int .i64 0]) ∧ Below w.heap.size w w')
    (P0 : ∀ w, Calls Tryz.prog 54 #[.int .i64 y, .int .i64 4] w (fun e w' => e = .returned (.string p0) ∧ Below w.heap.size w w'))
    (P1 : ∀ w, Calls Tryz.prog 54 #[.int .i64 m, .int .i64 2] w (fun e w' => e = .returned (.string p1) ∧ Below w.heap.size w w'))
    (P2 : ∀ w, Calls Tryz.prog 54 #[.int .i64 d, .int .i64 2] w (fun e w' => e = .returned (.string p2) ∧ Below w.heap.size w w'))
    (P3 : ∀ w, Calls Tryz.prog 54 #[.int .i64 h, .int .i64 2] w (fun e w' => e = .returned (.string p3) ∧ Below w.heap.size w w'))
    (P4 : ∀ w, Calls Tryz.prog 54 #[.int .i64 mi, .int .i64 2] w (fun e w' => e = .returned (.string p4) ∧ Below w.heap.size w w'))
    (P5 : ∀ w, Calls Tryz.prog 54 #[.int .i64 x, .int .i64 2] w (fun e w' => e = .returned (.string p5) ∧ Below w.heap.size w w')) (w : World) :
    Calls Tryz.prog 19 #[.int .i64 sec] w (fun e w' => e = .returned (.tuple #[.string (p0 ++ ⟨#[45]⟩ ++ p1 ++ ⟨#[45]⟩ ++ p2 ++ ⟨#[84]⟩ ++ p3 ++ ⟨#[58]⟩ ++ p4 ++ ⟨#[58]⟩ ++ p5 ++ ⟨#[90]⟩), .bool true]) ∧ Below w.heap.size w w') := by
  go_enter Tryz.func19, Tryz.ntmps19
  go_wp2_with fail
  refine (hC _).mono ?_
  rintro e w1 ⟨rfl, hb1⟩
  clear hC
  have hB : Below w.heap.size w (w1.alloc (.cells #[.int .i64 y, .int .i64 m, .int .i64 d, .int .i64 h, .int .i64 mi, .int .i64 x] 43)) := bbox hb1 _
  have hs : Six (w1.alloc (.cells #[.int .i64 y, .int .i64 m, .int .i64 d, .int .i64 h, .int .i64 mi, .int .i64 x] 43)) w1.heap.size (.int .i64 y) (.int .i64 m) (.int .i64 d) (.int .i64 h) (.int .i64 mi) (.int .i64 x) := ⟨by simp, by simp, by simp, by simp, by simp, by simp⟩
  clear hb1
  go_wp2_with fail
  generalize (w1.alloc (.cells #[.int .i64 y, .int .i64 m, .int .i64 d, .int .i64 h, .int .i64 mi, .int .i64 x] 43)) = W at *
  obtain ⟨q0, q1, q2, q3, q4, q5⟩ := hs
  go_region_held3 (fun w' => w'.cell? ⟨w1.heap.size, 0, none⟩ = some (.int .i64 y) ∧ w'.cell? ⟨w1.heap.size, 1, none⟩ = some (.int .i64 m) ∧ w'.cell? ⟨w1.heap.size, 2, none⟩ = some (.int .i64 d) ∧ w'.cell? ⟨w1.heap.size, 3, none⟩ = some (.int .i64 h) ∧ w'.cell? ⟨w1.heap.size, 4, none⟩ = some (.int .i64 mi) ∧ w'.cell? ⟨w1.heap.size, 5, none⟩ = some (.int .i64 x)) (simp [*]) (first | (go_at_call 54; (first | (with_reducible refine (P0 _).mono ?_) | (with_reducible refine (P1 _).mono ?_) | (with_reducible refine (P2 _).mono ?_) | (with_reducible refine (P3 _).mono ?_) | (with_reducible refine (P4 _).mono ?_) | (with_reducible refine (P5 _).mono ?_)); rintro e w' ⟨rfl, hb⟩; replace hB : Below w.heap.size w w' := (by first | exact bn hB hb | exact bn hB.drew hb); have k0 := cell_keep (a := ⟨w1.heap.size, 0, none⟩) (v := .int .i64 y) (by simp [*]) hb; have k1 := cell_keep (a := ⟨w1.heap.size, 1, none⟩) (v := .int .i64 m) (by simp [*]) hb; have k2 := cell_keep (a := ⟨w1.heap.size, 2, none⟩) (v := .int .i64 d) (by simp [*]) hb; have k3 := cell_keep (a := ⟨w1.heap.size, 3, none⟩) (v := .int .i64 h) (by simp [*]) hb; have k4 := cell_keep (a := ⟨w1.heap.size, 4, none⟩) (v := .int .i64 mi) (by simp [*]) hb; have k5 := cell_keep (a := ⟨w1.heap.size, 5, none⟩) (v := .int .i64 x) (by simp [*]) hb; clear hb))
  go_wp2_with fail
  go_ret2
  exact ⟨rfl, hB⟩
/-- A second's text, or none. -/
def TextIs (sec : Int) (r : ByteArray × Bool) : Prop := ((sec < -62135596800 ∨ 253402300799 < sec) ∧ r = (⟨#[]⟩, false)) ∨
  ∃ y m d h mi x : Int, Cv.mayB y m d h mi x = true ∧ Cv.secV y m d h mi x 0 = sec ∧ r = (Sm.textB y m d h mi x, true)
theorem text_exists (sec : Int) : ∃ r, TextIs sec r := by
  by_cases h : sec < -62135596800 ∨ 253402300799 < sec
  · exact ⟨_, Or.inl ⟨h, rfl⟩⟩
  · obtain ⟨y, m, d, _, _, h1, h2⟩ := Cv.sec_split sec (by omega) (by omega)
    exact ⟨_, Or.inr ⟨y, m, d, _, _, _, h1, h2, rfl⟩⟩
def TexPost (r : ByteArray × Bool) (w : World) (e : Ending) (w' : World) : Prop := e = .returned (.tuple #[.string r.1, .bool r.2]) ∧ Below w.heap.size w w'
theorem may_bds {y m d h mi x : Int} (hm : Cv.mayB y m d h mi x = true) : (1 ≤ y ∧ y ≤ 9999) ∧ (0 ≤ m ∧ m ≤ 99) ∧ (0 ≤ d ∧ d ≤ 99) ∧ (0 ≤ h ∧ h ≤ 99) ∧ (0 ≤ mi ∧ mi ≤ 99) ∧ (0 ≤ x ∧ x ≤ 99) := by
  obtain ⟨hv, h1⟩ := (Cv.may_iff y m d h mi x).1 hm
  have := Cv.vld_bd hv
  omega
set_option maxHeartbeats 400000 in
theorem rtext_no (sec : Int) (h : sec < -62135596800 ∨ 253402300799 < sec) (w : World) : Calls Tryz.prog 19 #[.int .i64 sec] w (TexPost (⟨#[]⟩, false) w) := by
  have C := fun w => rciv_no sec w h
  go_enter Tryz.func19, Tryz.ntmps19
  go_wp2_with fail
  refine (C _).mono ?_
  rintro e w1 ⟨rfl, hb1⟩
  go_wp2_with fail
  go_ret2
  exact ⟨rfl, bbox hb1 _⟩
theorem puts (y m d h mi x : Int) : (ByteArray.mk (Sm.putL y 4).toArray) ++ ⟨#[45]⟩ ++ ⟨(Sm.putL m 2).toArray⟩ ++ ⟨#[45]⟩ ++ ⟨(Sm.putL d 2).toArray⟩ ++ ⟨#[84]⟩ ++ ⟨(Sm.putL h 2).toArray⟩ ++ ⟨#[58]⟩ ++ ⟨(Sm.putL mi 2).toArray⟩ ++ ⟨#[58]⟩ ++ ⟨(Sm.putL x 2).toArray⟩ ++ ⟨#[90]⟩ = Sm.textB y m d h mi x := by
  have e4 : ∀ n : Int, Sm.putL n 4 = [Sm.c (n / 1000), Sm.c (n / 100), Sm.c (n / 10), Sm.c n] := fun n => by simp [Sm.putL, List.range, List.range.loop]
  have e2 : ∀ n : Int, Sm.putL n 2 = [Sm.c (n / 10), Sm.c n] := fun n => by simp [Sm.putL, List.range, List.range.loop]
  rw [e4, e2, e2, e2, e2, e2]
  apply ByteArray.ext
  simp [Sm.textB, Sm.textL, ByteArray.data_append]
theorem put_sz (n : Int) (z : Nat) : (ByteArray.mk (Sm.putL n z).toArray).size = z := by
  show (Sm.putL n z).toArray.size = z
  rw [List.size_toArray, Sm.putL_len]
theorem rtext_any (sec : Int) (r : ByteArray × Bool) (hr : TextIs sec r) (w : World) : Calls Tryz.prog 19 #[.int .i64 sec] w (TexPost r w) := by
  rcases hr with ⟨h, rfl⟩ | ⟨y, m, d, h, mi, x, hm, rfl, rfl⟩
  · exact rtext_no sec h w
  · obtain ⟨b0, b1, b2, b3, b4, b5⟩ := may_bds hm
    have := rtext_core (Cv.secV y m d h mi x 0) y m d h mi x ⟨(Sm.putL y 4).toArray⟩ ⟨(Sm.putL m 2).toArray⟩ ⟨(Sm.putL d 2).toArray⟩ ⟨(Sm.putL h 2).toArray⟩ ⟨(Sm.putL mi 2).toArray⟩ ⟨(Sm.putL x 2).toArray⟩ (put_sz y 4) (put_sz m 2) (put_sz d 2) (put_sz h 2) (put_sz mi 2) (put_sz x 2) (fun w => rciv_yes y m d h mi x w hm)
      (fun w => put_c y 4 4 rfl (by omega) (by omega) (by omega) (by omega) _ rfl w) (fun w => put_c m 2 2 rfl (by omega) (by omega) (by omega) (by omega) _ rfl w) (fun w => put_c d 2 2 rfl (by omega) (by omega) (by omega) (by omega) _ rfl w)
      (fun w => put_c h 2 2 rfl (by omega) (by omega) (by omega) (by omega) _ rfl w) (fun w => put_c mi 2 2 rfl (by omega) (by omega) (by omega) (by omega) _ rfl w) (fun w => put_c x 2 2 rfl (by omega) (by omega) (by omega) (by omega) _ rfl w) w
    rw [puts] at this
    exact this
end Go.Proofs.YtbhafhbaldddiaaGreatDoor.T19
namespace Go.Proofs.YtbhafhbaldddiaaGreatDoor.T20
open Go.RowKit
open Go
open Go.Proofs.YtbhafhbaldddiaaGreatDoor
set_option linter.unusedVariables false
theorem gb_of_below {w w' : World} (h : Below w.heap.size w w') (row : Option Nat) : w.grownBy w' row := ⟨h.os, h.tape, h.output, h.size, fun k hk _ => h.block k hk⟩
theorem below_undrew {n : Nat} {w w' : World} (h : Below n w.drew w') : Below n w w' := ⟨h.os, h.tape, h.output, h.size, h.block⟩
def TxtPost (t : ByteArray) (k : Int) (w : World) (e : Ending) (w' : World) : Prop := e = .returned (.tuple #[.string t, .int .i64 k]) ∧ Below w.heap.size w w'
theorem six_far {W W' : World} {c : Nat} {v0 v1 v2 v3 v4 v5 : Value} {row : Option Nat} (h : Six W c v0 v1 v2 v3 v4 v5) (hg : W.grownBy W' row) (hc : c < W.heap.size) (hne : some c ≠ row) : Six W' c v0 v1 v2 v3 v4 v5 :=
  ⟨(gb_cell hg hc hne).trans h.1, (gb_cell hg hc hne).trans h.2.1, (gb_cell hg hc hne).trans h.2.2.1, (gb_cell hg hc hne).trans h.2.2.2.1, (gb_cell hg hc hne).trans h.2.2.2.2.1, (gb_cell hg hc hne).trans h.2.2.2.2.2⟩
def StrPost (s : ByteArray) (w : World) (e : Ending) (w' : World) : Prop := e = .returned (.string s) ∧ Below w.heap.size w w'
theorem two_cells (w : World) (n : Int) : (convert 88 9 (.slice (some ⟨w.heap.size, 0, none⟩) 2 2)).run Tryz.prog (w.alloc (.cells #[.int .u8 (48 + n / 10 % 10), .int .u8 (48 + n % 10)] 5)) = .ok (.string ⟨#[Sm.c (n / 10), Sm.c n]⟩) (w.alloc (.cells #[.int .u8 (48 + n / 10 % 10), .int .u8 (48 + n % 10)] 5)) :=
  run_convert_bytes_back (P := Tryz.prog) (w.alloc (.cells #[.int .u8 (48 + n / 10 % 10), .int .u8 (48 + n % 10)] 5)) 88 9 5 ⟨w.heap.size, 0, none⟩ 2 [Sm.c (n / 10), Sm.c n] Tryz.underlying88 Tryz.underlying5 Tryz.underlying9 (fun j hj => by
    rw [Go.WideShapes.add_plain, Nat.zero_add]
    have hj' : j < 2 := hj
    match j, hj' with
    | 0, _ =>
      have := Sm.c_nat (n / 10)
      simp [this]
    | 1, _ =>
      have := Sm.c_nat n
      simp [this])
set_option maxHeartbeats 1000000 in
theorem rtwo_any (n : Int) (h0 : 0 ≤ n) (h1 : n ≤ 99) (w : World) : Calls Tryz.prog 55 #[.int .i64 n] w (StrPost (Ml.two n) w) := by
  have e1 : n.tdiv 10 = n / 10 % 10 := by rw [Int.tdiv_eq_ediv_of_nonneg h0]; omega
  have e3 : n.tmod 10 = n % 10 := Int.tmod_eq_emod_of_nonneg h0
  have hback := two_cells w n
  go_enter Tryz.func55, Tryz.ntmps55
  go_wp2_with fail
  go_ret
  exact ⟨rfl, bbox (Below.refl _ _) _⟩
set_option maxHeartbeats 1000000 in
theorem rtext_no (n : Int) (h : n < -62135596800 ∨ 253402300799 < n) (w : World) : Calls Tryz.prog 20 #[.int .i64 n] w (TxtPost ⟨#[]⟩ 2 w) := by
  have C := fun w => rciv_no n w h
  clear h
  go_enter Tryz.func20, Tryz.ntmps20
  go_wp2_with fail
  refine (C _).mono ?_
  rintro e w1 ⟨rfl, hb⟩
  clear C
  have hz := hb.size
  go_wp2_with fail
  go_ret2
  exact ⟨rfl, by repeat (first | exact hb | (refine Below.setCell ?_ (by simp; omega) _) | (refine Below.alloc ?_ (by omega) _))⟩
set_option maxRecDepth 100000 in
set_option maxHeartbeats 4000000 in
theorem rtext_core (y m d h mi s : Int) (n j : Nat) (hn : n ≤ 6) (hj : j ≤ 11) (hm : Cv.mayB y m d h mi s = true) (hw : Cv.wday (Cv.num y m d) = n) (hmj : m = (j : Int) + 1) (t : ByteArray) (ht : t = Ml.rtx n j y d h mi s) (w : World) : Calls Tryz.prog 20 #[.int .i64 (Cv.secV y m d h mi s 0)] w (TxtPost t 0 w) := by
  subst hmj
  have HT := Lib.hid ht
  clear ht
  have C := fun w => rciv_yes y (j + 1) d h mi s w hm
  obtain ⟨hv, hb⟩ := (Cv.may_iff y (j + 1) d h mi s).1 hm
  have hv2 := Cv.vld_bd hv
  have D := fun w => rdays_yes y (j + 1) d w hv
  have hnn := Cv.num_bd hv
  have WD := fun w => rwday_any (Cv.num y (j + 1) d) w
  rw [hw] at WD
  clear hm hv
  generalize Cv.secV y (j + 1) d h mi s 0 = sec at C
  go_enter Tryz.func20, Tryz.ntmps20
  go_wp2_with fail
  refine (C _).mono ?_
  rintro e w1 ⟨rfl, hb1⟩
  clear C
  have hz := hb1.size
  go_wp2_with (first | (go_at_call 51; (with_reducible refine (D _).mono ?_); rintro e w2 ⟨rfl, rfl⟩; clear D) | (go_at_call 52; (with_reducible refine (WD _).mono ?_); rintro e w2 ⟨rfl, rfl⟩; clear WD))
  have hs6 : Six (w1.alloc (.cells #[.int .i64 y, .int .i64 (j + 1), .int .i64 d, .int .i64 h, .int .i64 mi, .int .i64 s] 43)) w1.heap.size (.int .i64 y) (.int .i64 (j + 1)) (.int .i64 d) (.int .i64 h) (.int .i64 mi) (.int .i64 s) := ⟨by go_simp, by go_simp, by go_simp, by go_simp, by go_simp, by go_simp⟩
  have hx : w1.heap.size < (w1.alloc (.cells #[.int .i64 y, .int .i64 (j + 1), .int .i64 d, .int .i64 h, .int .i64 mi, .int .i64 s] 43)).heap.size := by simp
  have hB : Below w.heap.size w (w1.alloc (.cells #[.int .i64 y, .int .i64 (j + 1), .int .i64 d, .int .i64 h, .int .i64 mi, .int .i64 s] 43)) := hb1.alloc hz _
  generalize (w1.alloc (.cells #[.int .i64 y, .int .i64 (j + 1), .int .i64 d, .int .i64 h, .int .i64 mi, .int .i64 s] 43)) = w2 at hs6 hx hB ⊢
  have k0 := hs6.1
  have k1 := hs6.2.1
  have k2 := hs6.2.2.1
  have k3 := hs6.2.2.2.1
  have k4 := hs6.2.2.2.2.1
  have k5 := hs6.2.2.2.2.2
  have hno : some w1.heap.size ≠ none := by simp
  have T0 := rtwo_any d (by omega) (by omega)
  have T1 := rtwo_any (y / 100) (by omega) (by omega)
  have T2 := rtwo_any (y % 100) (by omega) (by omega)
  have T3 := rtwo_any h (by omega) (by omega)
  have T4 := rtwo_any mi (by omega) (by omega)
  have T5 := rtwo_any s (by omega) (by omega)
  have e100 : y.tdiv 100 = y / 100 := Int.tdiv_eq_ediv_of_nonneg (by omega)
  have f100 : y.tmod 100 = y % 100 := Int.tmod_eq_emod_of_nonneg (by omega)
  have e101 : IntKind.i64.wrap (y / 100) = y / 100 := by simp [IntKind.wrap, IntKind.bits, IntKind.signed]; omega
  have f101 : IntKind.i64.wrap (y % 100) = y % 100 := by simp [IntKind.wrap, IntKind.bits, IntKind.signed]; omega
  have z2 : ∀ x, (Ml.two x).size = 2 := fun _ => rfl
  obtain ⟨a, ha⟩ : ∃ a : Nat, a = 3 * n := ⟨_, rfl⟩
  obtain ⟨b, hbb⟩ : ∃ b : Nat, b = 3 * j := ⟨_, rfl⟩
  have E1 : IntKind.i64.wrap (3 * (n : Int)) = (a : Int) := by simp [IntKind.wrap, IntKind.bits, IntKind.signed]; omega
  have E2 : IntKind.i64.wrap ((a : Int) + 3) = (a : Int) + 3 := by simp [IntKind.wrap, IntKind.bits, IntKind.signed]; omega
  have E3 : IntKind.i64.wrap (3 * ((j : Int) + 1)) = (b : Int) + 3 := by simp [IntKind.wrap, IntKind.bits, IntKind.signed]; omega
  have E4 : IntKind.i64.wrap ((b : Int) + 3 - 3) = (b : Int) := by simp [IntKind.wrap, IntKind.bits, IntKind.signed]; omega
  have l1 : (0 : Int) ≤ (a : Int) := by omega
  have l2 : (a : Int) ≤ (a : Int) + 3 := by omega
  have l3 : (a : Int) + 3 ≤ 21 := by omega
  have l4 : (0 : Int) ≤ (b : Int) := by omega
  have l5 : (b : Int) ≤ (b : Int) + 3 := by omega
  have l6 : (b : Int) + 3 ≤ 36 := by omega
  have E5 : IntKind.i64.wrap (b : Int) = (b : Int) := by simp [IntKind.wrap, IntKind.bits, IntKind.signed]; omega
  have ZA : ((⟨#[77, 111, 110, 84, 117, 101, 87, 101, 100, 84, 104, 117, 70, 114, 105, 83, 97, 116, 83, 117, 110]⟩ : ByteArray).extract a (a + 3)).size = 3 := by rw [Sm.size_extract]; show min _ 21 - _ = 3; omega
  have ZB : ((⟨#[74, 97, 110, 70, 101, 98, 77, 97, 114, 65, 112, 114, 77, 97, 121, 74, 117, 110, 74, 117, 108, 65, 117, 103, 83, 101, 112, 79, 99, 116, 78, 111, 118, 68, 101, 99]⟩ : ByteArray).extract b (b + 3)).size = 3 := by rw [Sm.size_extract]; show min _ 36 - _ = 3; omega
  have F1 : ((a : Int) + 3).toNat = a + 3 := by omega
  have F2 : ((b : Int) + 3).toNat = b + 3 := by omega
  have M1 : min (a + 3) 21 = a + 3 := by omega
  have M2 : min (b + 3) 36 = b + 3 := by omega
  have HA := Lib.hid ha
  have HB := Lib.hid hbb
  clear hw hnn hv2 hb ha hbb
  go_region_held3 (fun w' => w'.cell? ⟨w1.heap.size, 0, none⟩ = some (.int .i64 y) ∧ w'.cell? ⟨w1.heap.size, 1, none⟩ = some (.int .i64 (j + 1)) ∧ w'.cell? ⟨w1.heap.size, 2, none⟩ = some (.int .i64 d) ∧ w'.cell? ⟨w1.heap.size, 3, none⟩ = some (.int .i64 h) ∧ w'.cell? ⟨w1.heap.size, 4, none⟩ = some (.int .i64 mi) ∧ w'.cell? ⟨w1.heap.size, 5, none⟩ = some (.int .i64 s)) (first | exact ⟨by assumption, by assumption, by assumption, by assumption, by assumption, by assumption⟩ | go_keep) ((first | (go_at_call 55; (first | (with_reducible refine (T0 _).mono ?_) | (with_reducible refine (T1 _).mono ?_) | (with_reducible refine (T2 _).mono ?_) | (with_reducible refine (T3 _).mono ?_) | (with_reducible refine (T4 _).mono ?_) | (with_reducible refine (T5 _).mono ?_)); rintro e w' ⟨rfl, hbd⟩; (first | have hbc := below_undrew hbd | have hbc := hbd); clear hbd; have hs6' := six_far hs6 (gb_of_below hbc none) hx hno; have hx' := Nat.lt_of_lt_of_le hx hbc.size; have hB' := hB.trans (hbc.mono (Nat.le_trans hz (Nat.le_of_lt hx))); clear hs6 hx hB hbc k0 k1 k2 k3 k4 k5; have hs6 := hs6'; have hx := hx'; have hB := hB'; clear hs6' hx' hB'; have k0 := hs6.1; have k1 := hs6.2.1; have k2 := hs6.2.2.1; have k3 := hs6.2.2.2.1; have k4 := hs6.2.2.2.2.1; have k5 := hs6.2.2.2.2.2)))
  have hA := HA.out
  have hB2 := HB.out
  have hT := HT.out
  clear HA HB HT
  go_wp2_with fail
  go_ret2
  subst hA
  subst hB2
  rw [hT]
  exact ⟨rfl, hB⟩
theorem rtext_yes (y m d h mi s : Int) (hm : Cv.mayB y m d h mi s = true) (w : World) : Calls Tryz.prog 20 #[.int .i64 (Cv.secV y m d h mi s 0)] w (TxtPost (Ml.txB y m d h mi s) 0 w) := by
  obtain ⟨hv, hb⟩ := (Cv.may_iff y m d h mi s).1 hm
  have hv2 := Cv.vld_bd hv
  obtain ⟨n, hn⟩ := Int.eq_ofNat_of_zero_le (show 0 ≤ Cv.wday (Cv.num y m d) by unfold Cv.wday; omega)
  have hn6 : n ≤ 6 := by
    have : Cv.wday (Cv.num y m d) ≤ 6 := by unfold Cv.wday; omega
    omega
  obtain ⟨j, hj⟩ := Int.eq_ofNat_of_zero_le (show 0 ≤ m - 1 by omega)
  have hm1 : m = (j : Int) + 1 := by omega
  refine rtext_core y m d h mi s n j hn6 (by omega) hm hn hm1 _ ?_ w
  subst hm1
  exact (Ml.rtx_is n j hn6 (by omega) y d h mi s hn).symm
end Go.Proofs.YtbhafhbaldddiaaGreatDoor.T20
