/- The walk of the stamp document's Text (cardingref19). -/
import Derived.Test.YtbhafhbaldddiaaSmF
import Derived.Test.YtbhafhbaldddiaaCivD
import Derived.Test.YtbhafhbaldddiaaMap
import Derived.Laws.IdiomStrings
import Derived.Laws.AppendOwn
import Derived.Deep.RegionHeld3
import Derived.Deep.Slices
namespace Go.Proofs.Ytbhafhbaldddiaa.T19
open Go.RowKit
open Go
open Go.Proofs.Ytbhafhbaldddiaa
set_option linter.unusedVariables false
def upd (f : Nat → Int) (n : Int) (to j : Nat) (i : Nat) : Int := if to - j ≤ i ∧ i < to then 48 + n / (10 : Int) ^ (to - 1 - i) % 10 else f i
theorem info_u8 : (Try.prog.info? 5).map (fun i => (i.zero, i.size, i.bytes)) = some (some (.int .u8 0), 1, 1) := by kernel_rfl
/-- So many bytes in a block. -/
def RB (g z : Nat) (W : World) (f : Nat → Int) : Prop := (∀ i, i < z → W.cell? ⟨g, i, none⟩ = some (.int .u8 (f i))) ∧ (∀ i, i < z → W.frozen? ⟨g, i, none⟩ = false) ∧ g < W.heap.size
theorem RB.put {g z : Nat} {W : World} {f : Nat → Int} {n : Int} {j : Nat} (h : RB g z W (upd f n z j)) (hj : j < z) : RB g z (W.setCell ⟨g, z - 1 - j, none⟩ (.int .u8 (48 + n / (10 : Int) ^ j % 10))) (upd f n z (j + 1)) := by
  obtain ⟨h1, h2, h3⟩ := h
  refine ⟨fun i hi => ?_, fun i hi => ?_, by simpa using h3⟩
  · by_cases e : i = z - 1 - j
    · subst e
      rw [World.cell?_setCell_same _ _ _ (h1 _ hi)]
      unfold upd
      rw [if_pos (by omega)]
      have : z - 1 - (z - 1 - j) = j := by omega
      rw [this]
    · rw [World.cell?_setCell_other _ _ _ _ (by intro k; injection k with _ k; omega), h1 i hi]
      unfold upd
      by_cases q : z - j ≤ i ∧ i < z
      · rw [if_pos q, if_pos (by omega)]
      · rw [if_neg q, if_neg (by omega)]
  · rw [World.frozen?_setCell]; exact h2 i hi
theorem own_rows {w : World} {base z cap g : Nat} (h : w.ownsRow base 5 1 (.slice (some ⟨g, 0, none⟩) z cap) z (List.replicate z (.int .u8 48))) : RB g z w (fun _ => 48) ∧ base ≤ g := by
  refine ⟨⟨fun i hi => ?_, fun i hi => ?_, ?_⟩, ?_⟩
  · have := h.cells (g := g) rfl i (.int .u8 48) (by simp [hi])
    rw [Go.WideShapes.add_plain, Nat.zero_add] at this
    exact this
  · rcases h.2 with ⟨e, _⟩ | ⟨g', cap', cur, e, hb, hg, _⟩
    · cases e
    · injection e with e _ _
      injection e with e
      injection e with e _ _
      subst e
      unfold World.frozen?
      simp only [hg]
      simp
  · exact (h.lt g rfl).2
  · exact (h.lt g rfl).1
set_option maxHeartbeats 1000000 in
theorem rput_any (n : Int) (hn : 0 ≤ n) (hn2 : n ≤ 9999) (z : Nat) (hz : z ≤ 4) (hz0 : 0 < z) (w : World) :
    Calls Try.prog 25 #[.int .i64 n, .int .i64 z] w (fun e w' => e = .returned (.string ⟨(Sm.putL n z).toArray⟩) ∧ Below w.heap.size w w') := by
  obtain ⟨i0, hi, hi0, hi1, hi2⟩ := info_parts info_u8
  go_enter Try.func25, Try.ntmps25
  go_wp2_with fail
  go_loopw [5, 6] (fun v i wr => ∃ k : Nat, k ≤ z ∧ i = .int .i64 (k : Int) ∧ wr.ownsRow w.heap.size 5 1 v k (List.replicate k (.int .u8 48)) ∧ Below w.heap.size w wr) (fun _ i _ => z - (intOf i).toNat)
  case atStart => exact ⟨0, Nat.zero_le _, rfl, World.ownsRow_nil _ _ _ _, Below.refl _ _⟩
  case round =>
    obtain ⟨k, hk, rfl, hown, hB⟩ := hrel
    by_cases hlt : k < z
    · go_wp2_with (first
        | (at_builtin; refine wpList_append_own _ rfl _ _ 39 rfl w.heap.size 5 i0 (.int .u8 0) 1 1 Try.underlying39 hi hi0 hi1 hi2 rfl (by decide) _ _ _ rfl (hown.alloc _) ⟨wr.heap.size, 0, none⟩ 1 1 [.int .u8 48] rfl rfl ?c1 ?c2 ?c3 ?c4 ?c5 ?_)
        | go_in)
      case c1 =>
        intro j u hj
        match j, hj with
        | 0, hj => simp at hj; subst hj; simp [Addr.add]
      case c2 => intro u hu; simp at hu; subst hu; rfl
      case c3 => unfold maxLen; omega
      case c4 => omega
      case c5 => have := hB.size; simp; omega
      intro v' w1 hown' hgrow _
      have hB1 : Below w.heap.size w w1 := (hB.alloc hB.size _).grown hgrow (by have := hB.size; simp; omega) (fun j hj => (hown.lt j hj).1)
      have hl : List.replicate k (Value.int .u8 48) ++ [.int .u8 48] = List.replicate (k + 1) (.int .u8 48) := by rw [List.replicate_succ']
      rw [hl] at hown'
      clear hgrow hown hl hB
      go_wp2
      go_roundw
      case rel => exact ⟨k + 1, by omega, by push_cast; try go_num, hown', hB1⟩
      case measure => simp [intOf]; omega
    · obtain rfl : k = z := by omega
      obtain ⟨g, cap, hv⟩ : ∃ g cap, u5 = .slice (some ⟨g, 0, none⟩) k cap := by
        rcases hown.2 with ⟨_, e⟩ | ⟨g, cap, _, e, _⟩
        · omega
        · exact ⟨g, cap, e⟩
      subst hv
      obtain ⟨hR, hbg⟩ := own_rows hown
      clear hown
      go_wp2_with fail
      go_loopw [0, 7] (fun v i wq => ∃ t : Nat, t ≤ k ∧ i = .int .i64 ((t : Int) - 1) ∧ v = .int .i64 (n / (10 : Int) ^ (k - t)) ∧ RB g k wq (upd (fun _ => 48) n k (k - t)) ∧ Below w.heap.size w wq) (fun _ i _ => (intOf i + 1).toNat)
      case atStart =>
        refine ⟨k, Nat.le_refl _, rfl, by simp, ?_, hB⟩
        have : upd (fun _ => 48) n k (k - k) = fun _ => 48 := by
          funext i; unfold upd; rw [if_neg (by omega)]
        rw [this]; exact hR
      case round =>
        obtain ⟨t, ht, rfl, rfl, hP, hB2⟩ := hrel
        by_cases hlt2 : 0 < t
        · obtain ⟨u, rfl⟩ : ∃ u, t = u + 1 := ⟨t - 1, by omega⟩
          have hstep := hP.put (j := k - (u + 1)) (by omega)
          obtain ⟨p1, p2, p3⟩ := id hP
          have e1 : k - 1 - (k - (u + 1)) = u := by omega
          rw [e1] at hstep
          have c0 := p1 u (by omega)
          have f0 := p2 u (by omega)
          have key : n / (10 : Int) ^ (k - u) = n / (10 : Int) ^ (k - (u + 1)) / 10 := by
            obtain ⟨j, hj⟩ : ∃ j, k - (u + 1) = j := ⟨_, rfl⟩
            have e2 : k - u = j + 1 := by omega
            rw [hj, e2]
            have : j = 0 ∨ j = 1 ∨ j = 2 ∨ j = 3 := by omega
            rcases this with rfl | rfl | rfl | rfl <;> simp <;> omega
          have hm0 : 0 ≤ n / (10 : Int) ^ (k - (u + 1)) := Int.ediv_nonneg hn (Int.pow_nonneg (by omega))
          have hm1 : n / (10 : Int) ^ (k - (u + 1)) ≤ 9999 := Int.le_trans (Int.ediv_le_self _ hn) hn2
          have KEY := Lib.hid key
          have HST := Lib.hid hstep
          clear hstep key p1 p2 hP hR
          generalize n / (10 : Int) ^ (k - (u + 1)) = m at *
          have t1 : m.tmod 10 = m % 10 := Int.tmod_eq_emod_of_nonneg hm0
          have t2 : m.tdiv 10 = m / 10 := Int.tdiv_eq_ediv_of_nonneg hm0
          have t3 : IntKind.u8.wrap (48 + m % 10) = 48 + m % 10 := by simp [IntKind.wrap, IntKind.bits, IntKind.signed]; omega
          have t4 : (u : Int) < k := by omega
          have t5 : (0 : Int) ≤ u := by omega
          go_wp2
          go_roundw
          case rel =>
            refine ⟨u, by omega, rfl, by rw [KEY.out], ?_, hB2.setCell hbg _⟩
            have e3 : k - u = k - (u + 1) + 1 := by omega
            rw [e3]; exact HST.out
          case measure => simp [intOf] <;> omega
        · obtain rfl : t = 0 := by omega
          have hlen := Sm.putL_len n k
          have hback := run_convert_bytes_back (P := Try.prog) wr 39 9 5 ⟨g, 0, none⟩ cap (Sm.putL n k) Try.underlying39 Try.underlying5 Try.underlying9 (fun j hj => by
            rw [Go.WideShapes.add_plain, Nat.zero_add, hP.1 j (by omega), Sm.putL_at]
            unfold upd
            rw [if_pos (by omega)])
          rw [hlen] at hback
          clear hP hR hlen
          go_wp2
          go_ret
          exact ⟨rfl, hB2⟩
theorem put_c (n : Int) (z : Nat) (k : Int) (hk : k = z) (hn : 0 ≤ n) (hn2 : n ≤ 9999) (hz : z ≤ 4) (hz0 : 0 < z) (p : ByteArray) (hp : p = ⟨(Sm.putL n z).toArray⟩) (w : World) :
    Calls Try.prog 25 #[.int .i64 n, .int .i64 k] w (fun e w' => e = .returned (.string p) ∧ Below w.heap.size w w') := by
  subst hk; subst hp; exact rput_any n hn hn2 z hz hz0 w
theorem cell_keep {W w1 : World} {a : Addr} {v : Value} (h : W.cell? a = some v) (hb : Below W.heap.size W w1) : w1.cell? a = some v := (hb.cell (World.block_lt_of_cell? W a h)).trans h
set_option maxHeartbeats 2000000 in
theorem rtext_core (sec y m d h mi x : Int) (p0 p1 p2 p3 p4 p5 : ByteArray) (s0 : p0.size = 4) (s1 : p1.size = 2) (s2 : p2.size = 2) (s3 : p3.size = 2) (s4 : p4.size = 2) (s5 : p5.size = 2)
    (hC : ∀ w, Calls Try.prog 24 #[.int .i64 sec] w fun e w' => e = .returned (.tuple #[.agg #[.int .i64 y, .int .i64 m, .int .i64 d, .int .i64 h, .int .i64 mi, .int .i64 x], .int .i64 0]) ∧ Below w.heap.size w w')
    (P0 : ∀ w, Calls Try.prog 25 #[.int .i64 y, .int .i64 4] w (fun e w' => e = .returned (.string p0) ∧ Below w.heap.size w w'))
    (P1 : ∀ w, Calls Try.prog 25 #[.int .i64 m, .int .i64 2] w (fun e w' => e = .returned (.string p1) ∧ Below w.heap.size w w'))
    (P2 : ∀ w, Calls Try.prog 25 #[.int .i64 d, .int .i64 2] w (fun e w' => e = .returned (.string p2) ∧ Below w.heap.size w w'))
    (P3 : ∀ w, Calls Try.prog 25 #[.int .i64 h, .int .i64 2] w (fun e w' => e = .returned (.string p3) ∧ Below w.heap.size w w'))
    (P4 : ∀ w, Calls Try.prog 25 #[.int .i64 mi, .int .i64 2] w (fun e w' => e = .returned (.string p4) ∧ Below w.heap.size w w'))
    (P5 : ∀ w, Calls Try.prog 25 #[.int .i64 x, .int .i64 2] w (fun e w' => e = .returned (.string p5) ∧ Below w.heap.size w w')) (w : World) :
    Calls Try.prog 11 #[.int .i64 sec] w (fun e w' => e = .returned (.tuple #[.string (p0 ++ ⟨#[45]⟩ ++ p1 ++ ⟨#[45]⟩ ++ p2 ++ ⟨#[84]⟩ ++ p3 ++ ⟨#[58]⟩ ++ p4 ++ ⟨#[58]⟩ ++ p5 ++ ⟨#[90]⟩), .bool true]) ∧ Below w.heap.size w w') := by
  go_enter Try.func11, Try.ntmps11
  go_wp2_with fail
  refine (hC _).mono ?_
  rintro e w1 ⟨rfl, hb1⟩
  clear hC
  have hB : Below w.heap.size w (w1.alloc (.cells #[.int .i64 y, .int .i64 m, .int .i64 d, .int .i64 h, .int .i64 mi, .int .i64 x] 44)) := bbox hb1 _
  have hs : Six (w1.alloc (.cells #[.int .i64 y, .int .i64 m, .int .i64 d, .int .i64 h, .int .i64 mi, .int .i64 x] 44)) w1.heap.size (.int .i64 y) (.int .i64 m) (.int .i64 d) (.int .i64 h) (.int .i64 mi) (.int .i64 x) := ⟨by simp, by simp, by simp, by simp, by simp, by simp⟩
  clear hb1
  go_wp2_with fail
  generalize (w1.alloc (.cells #[.int .i64 y, .int .i64 m, .int .i64 d, .int .i64 h, .int .i64 mi, .int .i64 x] 44)) = W at *
  obtain ⟨q0, q1, q2, q3, q4, q5⟩ := hs
  go_region_held3 (fun w' => w'.cell? ⟨w1.heap.size, 0, none⟩ = some (.int .i64 y) ∧ w'.cell? ⟨w1.heap.size, 1, none⟩ = some (.int .i64 m) ∧ w'.cell? ⟨w1.heap.size, 2, none⟩ = some (.int .i64 d) ∧ w'.cell? ⟨w1.heap.size, 3, none⟩ = some (.int .i64 h) ∧ w'.cell? ⟨w1.heap.size, 4, none⟩ = some (.int .i64 mi) ∧ w'.cell? ⟨w1.heap.size, 5, none⟩ = some (.int .i64 x)) (simp [*]) (first | (go_at_call 25; (first | (with_reducible refine (P0 _).mono ?_) | (with_reducible refine (P1 _).mono ?_) | (with_reducible refine (P2 _).mono ?_) | (with_reducible refine (P3 _).mono ?_) | (with_reducible refine (P4 _).mono ?_) | (with_reducible refine (P5 _).mono ?_)); rintro e w' ⟨rfl, hb⟩; replace hB : Below w.heap.size w w' := (by first | exact bn hB hb | exact bn hB.drew hb); have k0 := cell_keep (a := ⟨w1.heap.size, 0, none⟩) (v := .int .i64 y) (by simp [*]) hb; have k1 := cell_keep (a := ⟨w1.heap.size, 1, none⟩) (v := .int .i64 m) (by simp [*]) hb; have k2 := cell_keep (a := ⟨w1.heap.size, 2, none⟩) (v := .int .i64 d) (by simp [*]) hb; have k3 := cell_keep (a := ⟨w1.heap.size, 3, none⟩) (v := .int .i64 h) (by simp [*]) hb; have k4 := cell_keep (a := ⟨w1.heap.size, 4, none⟩) (v := .int .i64 mi) (by simp [*]) hb; have k5 := cell_keep (a := ⟨w1.heap.size, 5, none⟩) (v := .int .i64 x) (by simp [*]) hb; clear hb))
  go_wp2_with fail
  go_ret2
  exact ⟨rfl, hB⟩
/-- A second's text, or none. -/
def TextIs (sec : Int) (r : ByteArray × Bool) : Prop := ((sec < -62135596800 ∨ 253402300799 < sec) ∧ r = (⟨#[]⟩, false)) ∨
  ∃ y m d h mi x : Int, Cv.mayB y m d h mi x = true ∧ Cv.secV y m d h mi x 0 = sec ∧ r = (Sm.textB y m d h mi x, true)
theorem text_exists (sec : Int) : ∃ r, TextIs sec r := by
  by_cases h : sec < -62135596800 ∨ 253402300799 < sec
  · exact ⟨_, Or.inl ⟨h, rfl⟩⟩
  · obtain ⟨y, m, d, _, _, h1, h2⟩ := Cv.sec_split sec (by omega) (by omega)
    exact ⟨_, Or.inr ⟨y, m, d, _, _, _, h1, h2, rfl⟩⟩
def TexPost (r : ByteArray × Bool) (w : World) (e : Ending) (w' : World) : Prop := e = .returned (.tuple #[.string r.1, .bool r.2]) ∧ Below w.heap.size w w'
theorem may_bds {y m d h mi x : Int} (hm : Cv.mayB y m d h mi x = true) : (1 ≤ y ∧ y ≤ 9999) ∧ (0 ≤ m ∧ m ≤ 99) ∧ (0 ≤ d ∧ d ≤ 99) ∧ (0 ≤ h ∧ h ≤ 99) ∧ (0 ≤ mi ∧ mi ≤ 99) ∧ (0 ≤ x ∧ x ≤ 99) := by
  obtain ⟨hv, h1⟩ := (Cv.may_iff y m d h mi x).1 hm
  have := Cv.vld_bd hv
  omega
set_option maxHeartbeats 400000 in
theorem rtext_no (sec : Int) (h : sec < -62135596800 ∨ 253402300799 < sec) (w : World) : Calls Try.prog 11 #[.int .i64 sec] w (TexPost (⟨#[]⟩, false) w) := by
  have C := fun w => rciv_no sec w h
  go_enter Try.func11, Try.ntmps11
  go_wp2_with fail
  refine (C _).mono ?_
  rintro e w1 ⟨rfl, hb1⟩
  go_wp2_with fail
  go_ret2
  exact ⟨rfl, bbox hb1 _⟩
theorem puts (y m d h mi x : Int) : (ByteArray.mk (Sm.putL y 4).toArray) ++ ⟨#[45]⟩ ++ ⟨(Sm.putL m 2).toArray⟩ ++ ⟨#[45]⟩ ++ ⟨(Sm.putL d 2).toArray⟩ ++ ⟨#[84]⟩ ++ ⟨(Sm.putL h 2).toArray⟩ ++ ⟨#[58]⟩ ++ ⟨(Sm.putL mi 2).toArray⟩ ++ ⟨#[58]⟩ ++ ⟨(Sm.putL x 2).toArray⟩ ++ ⟨#[90]⟩ = Sm.textB y m d h mi x := by
  have e4 : ∀ n : Int, Sm.putL n 4 = [Sm.c (n / 1000), Sm.c (n / 100), Sm.c (n / 10), Sm.c n] := fun n => by simp [Sm.putL, List.range, List.range.loop]
  have e2 : ∀ n : Int, Sm.putL n 2 = [Sm.c (n / 10), Sm.c n] := fun n => by simp [Sm.putL, List.range, List.range.loop]
  rw [e4, e2, e2, e2, e2, e2]
  apply ByteArray.ext
  simp [Sm.textB, Sm.textL, ByteArray.data_append]
theorem put_sz (n : Int) (z : Nat) : (ByteArray.mk (Sm.putL n z).toArray).size = z := by
  show (Sm.putL n z).toArray.size = z
  rw [List.size_toArray, Sm.putL_len]
theorem rtext_any (sec : Int) (r : ByteArray × Bool) (hr : TextIs sec r) (w : World) : Calls Try.prog 11 #[.int .i64 sec] w (TexPost r w) := by
  rcases hr with ⟨h, rfl⟩ | ⟨y, m, d, h, mi, x, hm, rfl, rfl⟩
  · exact rtext_no sec h w
  · obtain ⟨b0, b1, b2, b3, b4, b5⟩ := may_bds hm
    have := rtext_core (Cv.secV y m d h mi x 0) y m d h mi x ⟨(Sm.putL y 4).toArray⟩ ⟨(Sm.putL m 2).toArray⟩ ⟨(Sm.putL d 2).toArray⟩ ⟨(Sm.putL h 2).toArray⟩ ⟨(Sm.putL mi 2).toArray⟩ ⟨(Sm.putL x 2).toArray⟩ (put_sz y 4) (put_sz m 2) (put_sz d 2) (put_sz h 2) (put_sz mi 2) (put_sz x 2) (fun w => rciv_yes y m d h mi x w hm)
      (fun w => put_c y 4 4 rfl (by omega) (by omega) (by omega) (by omega) _ rfl w) (fun w => put_c m 2 2 rfl (by omega) (by omega) (by omega) (by omega) _ rfl w) (fun w => put_c d 2 2 rfl (by omega) (by omega) (by omega) (by omega) _ rfl w)
      (fun w => put_c h 2 2 rfl (by omega) (by omega) (by omega) (by omega) _ rfl w) (fun w => put_c mi 2 2 rfl (by omega) (by omega) (by omega) (by omega) _ rfl w) (fun w => put_c x 2 2 rfl (by omega) (by omega) (by omega) (by omega) _ rfl w) w
    rw [puts] at this
    exact this
end Go.Proofs.Ytbhafhbaldddiaa.T19
