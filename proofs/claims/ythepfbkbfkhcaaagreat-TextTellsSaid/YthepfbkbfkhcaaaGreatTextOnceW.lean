/- The walks of text: Empty, right, Line, Block, IsLine, IsBlock. The walks of text: Empty, right, Line, Block, IsLine, IsBlock. The walk of text.Cut. Laws on lines and blocks as bytes; the walk of the law's wakes. Constants of the law's wakes. The walk of wakes. The walks of the statements TextOnce, TextTurns, TextCut. -/
import Derived.Test.YthepfbkbfkhcaaaGreatTxC
import Derived.Test.YthepfbkbfkhcaaaGreatTxE
namespace Ut
theorem space_u8 {b : Nat} (h : b < 256) : True := trivial
end Ut
namespace Go.Proofs.YthepfbkbfkhcaaaGreat
open Go.RowKit Go.Shelf
open Go
set_option linter.unusedVariables false
set_option maxRecDepth 100000
def oneB (s : ByteArray) : ByteArray := Ut.mk (Tx.oneP Tx.wsN 32 (Ut.bsL s))
def trimB (s : ByteArray) : ByteArray := Ut.mk (Tx.trim Tx.wsN (Ut.bsL s))
theorem one_bytes (s : ByteArray) : Ut.bsL (oneB s) = Tx.oneP Tx.wsN 32 (Ut.bsL s) := by
  unfold oneB
  refine Ut.mk_bytes fun b hb => ?_
  rcases Tx.join_memN _ hb with h | ⟨u, hu, hx⟩
  · omega
  · exact Ut.bsL_lt s b (Tx.wgo_memN hu hx)
theorem trim_bytes (s : ByteArray) : Ut.bsL (trimB s) = Tx.trim Tx.wsN (Ut.bsL s) := by
  unfold trimB
  refine Ut.mk_bytes fun b hb => Ut.bsL_lt s b ?_
  exact Tx.trim_memN hb
theorem one_some {s : ByteArray} {L : List Int} (h : Ut.scal (Ut.bsL s) = some L) : Ut.scal (Ut.bsL (oneB s)) = some (Tx.oneP Tx.wsI 32 L) := by
  obtain ⟨h1, h2⟩ := Ut.scal_some h
  rw [one_bytes, ← h2, Tx.one_text h1]
  exact Ut.scal_text _ (Tx.one_sc h1)
theorem one_none {s : ByteArray} (h : Ut.scal (Ut.bsL s) = none) : Ut.scal (Ut.bsL (oneB s)) = none := by
  have := Tx.V_oneP (Ut.bsL s)
  rw [← one_bytes] at this
  unfold Tx.V at this
  rw [h] at this
  simpa using this
theorem trim_some {s : ByteArray} {L : List Int} (h : Ut.scal (Ut.bsL s) = some L) : Ut.scal (Ut.bsL (trimB s)) = some (Tx.trim Tx.wsI L) := by
  obtain ⟨h1, h2⟩ := Ut.scal_some h
  rw [trim_bytes, ← h2, Tx.trim_text h1]
  exact Ut.scal_text _ (Tx.trim_sc h1)
theorem trim_none {s : ByteArray} (h : Ut.scal (Ut.bsL s) = none) : Ut.scal (Ut.bsL (trimB s)) = none := by
  have := Tx.V_trim (Ut.bsL s)
  rw [← trim_bytes] at this
  unfold Tx.V at this
  rw [h] at this
  simpa using this
/-- A line, a block. -/
def lineB (s : ByteArray) : ByteArray := nnfcB (oneB s)
def blockB (s : ByteArray) : ByteArray := nnfcB (trimB s)
def rightB (s : ByteArray) : Bool := okR (Ut.bsL s)
theorem one_len (L : List Int) : (Tx.oneP Tx.wsI 32 L).length ≤ L.length := by
  have h := Tx.one_le L
  exact h
theorem trim_len (L : List Int) : (Tx.trim Tx.wsI L).length ≤ L.length := by
  unfold Tx.trim Tx.rt Tx.lt
  rw [List.length_reverse]
  have h1 := (List.dropWhile_sublist (p := Tx.wsI) (l := (L.dropWhile Tx.wsI).reverse)).length_le
  have h2 := (List.dropWhile_sublist (p := Tx.wsI) (l := L)).length_le
  rw [List.length_reverse] at h1
  omega
end Go.Proofs.YthepfbkbfkhcaaaGreat
namespace Go.Proofs.YthepfbkbfkhcaaaGreat
open Go.RowKit Go.Shelf
open Go
set_option linter.unusedVariables false
set_option maxRecDepth 100000
theorem tstr_eq (t s : ByteArray) : (t.toList == s.toList) = decide (t = s) := by
  rw [ByteArray.toList_eq, ByteArray.toList_eq]
  by_cases e : t = s
  · rw [e]; simp
  · rw [decide_eq_false e, beq_eq_false_iff_ne]
    intro k
    exact e (ByteArray.ext (Array.toList_inj.1 k))
theorem tline_any (s : ByteArray) (hs : s.size ≤ 100000) (hg : GoodB (oneB s)) (w : World) : Calls Tryz.prog 11 #[.string s] w (StrPost (lineB s) w) := by
  have c1 := fun w => tone_any s hs w
  have c2 := fun w => nfc_any (oneB s) hg w
  have c1' : ∀ w, Calls Tryz.prog 7 #[.string s] w (fun e w' => e = .returned (.string (oneB s)) ∧ Below w.heap.size w w') := c1
  unfold lineB
  clear c1
  generalize nnfcB (oneB s) = t at *
  generalize oneB s = o at *
  go_enter Tryz.func11, Tryz.ntmps11
  go_wp2_with (first | (go_at_call 7; refine (c1' _).mono ?_; rintro e w1 ⟨rfl, hb1⟩) | (go_at_call 28; refine (c2 _).mono ?_; rintro e w2 ⟨rfl, hb2⟩))
  go_ret
  exact ⟨rfl, bl hb1 hb2⟩
theorem tblock_any (s : ByteArray) (hs : s.size ≤ 100000) (hg : GoodB (trimB s)) (w : World) : Calls Tryz.prog 13 #[.string s] w (StrPost (blockB s) w) := by
  have c1 := fun w => ttrim_any s hs w
  have c2 := fun w => nfc_any (trimB s) hg w
  have c1' : ∀ w, Calls Tryz.prog 5 #[.string s] w (fun e w' => e = .returned (.string (trimB s)) ∧ w = w') := c1
  unfold blockB
  clear c1
  generalize nnfcB (trimB s) = t at *
  generalize trimB s = o at *
  go_enter Tryz.func13, Tryz.ntmps13
  go_wp2_with (first | (go_at_call 5; refine (c1' _).mono ?_; rintro e w1 ⟨rfl, rfl⟩) | (go_at_call 28; refine (c2 _).mono ?_; rintro e w2 ⟨rfl, hb2⟩))
  go_ret
  exact ⟨rfl, hb2⟩
def BoolOut (b : Bool) (w : World) (e : Ending) (w' : World) : Prop := e = .returned (.bool b) ∧ Below w.heap.size w w'
theorem tright_any (s : ByteArray) (hs : s.size ≤ 100000) (w : World) : Calls Tryz.prog 30 #[.string s] w (BoolOut (rightB s) w) := by
  have c1 := fun w => valid_any s hs w
  have c2 := fun w => cbad_any s hs w
  unfold rightB
  cases hv : (Ut.scal (Ut.bsL s)).isSome with
  | false =>
    rw [hv] at c1
    have e : okR (Ut.bsL s) = false := by
      unfold okR
      cases h : Ut.scal (Ut.bsL s) with
      | none => rfl
      | some L => rw [h] at hv; cases hv
    rw [e]
    clear e c2 hv
    go_enter Tryz.func30, Tryz.ntmps30
    go_wp2_with (go_at_call 32; refine (c1 _).mono ?_; rintro e w1 ⟨rfl, hb1⟩)
    go_ret
    exact ⟨rfl, hb1⟩
  | true =>
    rw [hv] at c1
    unfold BadPost at c2
    generalize okR (Ut.bsL s) = z at *
    clear hv
    go_enter Tryz.func30, Tryz.ntmps30
    go_wp2_with (first | (go_at_call 32; refine (c1 _).mono ?_; rintro e w1 ⟨rfl, hb1⟩) | (go_at_call 41; refine (c2 _).mono ?_; rintro e w2 ⟨n, rfl, hn, hb2⟩; have HN := Lib.hid hn; clear hn))
    go_ret
    exact ⟨by rw [← HN.out]; rfl, bl hb1 hb2⟩
theorem tisline_any (s : ByteArray) (hs : s.size ≤ 100000) (hg : GoodB (oneB s)) (w : World) : Calls Tryz.prog 15 #[.string s] w (BoolOut (rightB s && decide (lineB s = s)) w) := by
  have c1 := fun w => tright_any s hs w
  have c2 := fun w => tline_any s hs hg w
  cases hv : rightB s with
  | false =>
    rw [hv] at c1
    clear hv c2 hg
    go_enter Tryz.func15, Tryz.ntmps15
    go_wp2_with (go_at_call 30; refine (c1 _).mono ?_; rintro e w1 ⟨rfl, hb1⟩)
    go_ret
    exact ⟨rfl, hb1⟩
  | true =>
    rw [hv] at c1
    have e2 := tstr_eq (lineB s) s
    rw [← e2, Bool.true_and]
    clear e2 hv hg
    generalize lineB s = t at *
    go_enter Tryz.func15, Tryz.ntmps15
    go_wp2_with (first | (go_at_call 30; refine (c1 _).mono ?_; rintro e w1 ⟨rfl, hb1⟩) | (go_at_call 11; refine (c2 _).mono ?_; rintro e w2 ⟨rfl, hb2⟩))
    go_ret
    exact ⟨rfl, bl hb1 hb2⟩
theorem tisblock_any (s : ByteArray) (hs : s.size ≤ 100000) (hg : GoodB (trimB s)) (w : World) : Calls Tryz.prog 17 #[.string s] w (BoolOut (rightB s && decide (blockB s = s)) w) := by
  have c1 := fun w => tright_any s hs w
  have c2 := fun w => tblock_any s hs hg w
  cases hv : rightB s with
  | false =>
    rw [hv] at c1
    clear hv c2 hg
    go_enter Tryz.func17, Tryz.ntmps17
    go_wp2_with (go_at_call 30; refine (c1 _).mono ?_; rintro e w1 ⟨rfl, hb1⟩)
    go_ret
    exact ⟨rfl, hb1⟩
  | true =>
    rw [hv] at c1
    have e2 := tstr_eq (blockB s) s
    rw [← e2, Bool.true_and]
    clear e2 hv hg
    generalize blockB s = t at *
    go_enter Tryz.func17, Tryz.ntmps17
    go_wp2_with (first | (go_at_call 30; refine (c1 _).mono ?_; rintro e w1 ⟨rfl, hb1⟩) | (go_at_call 13; refine (c2 _).mono ?_; rintro e w2 ⟨rfl, hb2⟩))
    go_ret
    exact ⟨rfl, bl hb1 hb2⟩
def emptyF (s : ByteArray) : Bool := (Ut.bsL s).all Tx.wsN
theorem B_mem {s : ByteArray} {i : Nat} (h : i < s.size) : Sm.B s i ∈ Ut.bsL s := List.mem_of_getElem? (Ut.bsL_get s i h)
theorem empty_not {s : ByteArray} {i : Nat} (h : i < s.size) (hw : Tx.wsN (Sm.B s i) = false) : emptyF s = false := by
  unfold emptyF
  rw [List.all_eq_false]
  exact ⟨_, B_mem h, by rw [hw]; simp⟩
theorem empty_yes {s : ByteArray} (h : ∀ i, i < s.size → Tx.wsN (Sm.B s i) = true) : emptyF s = true := by
  unfold emptyF
  rw [List.all_eq_true]
  intro b hb
  obtain ⟨i, hi⟩ := List.getElem?_of_mem hb
  have hl : i < s.size := by
    have := (List.getElem?_eq_some_iff.1 hi).1
    rw [Ut.bsL_len] at this
    exact this
  rw [Ut.bsL_get s i hl] at hi
  cases hi
  exact h i hl
set_option maxHeartbeats 4000000 in
theorem tempty_any (s : ByteArray) (hs : s.size ≤ 100000) (w : World) : Calls Tryz.prog 9 #[.string s] w (BoolOut (emptyF s) w) := by
  have CS := tspace_any
  obtain ⟨z, hz⟩ : ∃ z, emptyF s = z := ⟨_, rfl⟩
  have HZ := Lib.hid hz
  rw [hz]
  clear hz
  go_enter Tryz.func9, Tryz.ntmps9
  go_wp2_with fail
  go_loopw [4] (fun _ wr => ∃ pos : Nat, pos ≤ s.size ∧ wr.heap[w.heap.size]? = some (.stringIter s pos) ∧ Hid (∀ i, i < pos → Tx.wsN (Sm.B s i) = true) ∧ Below w.heap.size w wr) (fun _ wr => s.size - itPos wr w.heap.size)
  case atStart => exact ⟨0, Nat.zero_le _, World.iter_heap _ _ _, Lib.hid (fun i hi => absurd hi (Nat.not_lt_zero _)), (Below.refl _ w).alloc (Nat.le_refl _) _⟩
  case round =>
    obtain ⟨pos, hpos, hit, HA, hB⟩ := hrel
    by_cases hlt : pos < s.size
    · have hbb := Sm.B_at s pos hlt
      have hc := Sm.B_lt s pos
      by_cases hlow : Sm.B s pos < 128
      · have hd := decode_ascii s pos hlt (by rw [hbb]; exact hlow)
        rw [hbb] at hd
        obtain ⟨W1, hW1⟩ : ∃ W, wr.iterAt w.heap.size s (pos + 1) = W := ⟨_, rfl⟩
        have hnx : ∀ ty, (Instr.next (.pointer (some ⟨w.heap.size, 0, none⟩)) true ty).run Tryz.prog wr = .ok (.tuple #[.bool true, .int .i64 (pos : Int), .int .i32 (Sm.B s pos : Int)]) W1 := fun ty => by
          rw [Lib.run_next_any_at wr w.heap.size s pos ty hit hlt, hd, ← hW1]
        have g1 := gb_iterAt wr w.heap.size s (pos + 1)
        have hit1 := Lib.iterAt_heap wr w.heap.size s pos (pos + 1) hit
        rw [hW1] at g1 hit1
        have hB1 : Below w.heap.size w W1 := hB.grown g1 hB.size (fun r e => by cases e; exact Nat.le_refl _)
        have hp0 : itPos wr w.heap.size = pos := by unfold itPos; rw [hit]
        have hp1 : itPos W1 w.heap.size = pos + 1 := by unfold itPos; rw [hit1]
        have HP0 := Lib.hid hp0
        have HP1 := Lib.hid hp1
        by_cases h64 : Sm.B s pos < 64
        · have hq : ¬ (64 : Int) ≤ (Sm.B s pos : Int) := by omega
          have hwr : IntKind.u8.wrap (Sm.B s pos : Int) = (Sm.B s pos : Int) := by rw [IntKind.wrap_u8]; omega
          have c1 := fun w => CS (Sm.B s pos) hc w
          cases hw : Tx.wsN (Sm.B s pos) with
          | true =>
            have HA2 : Hid (∀ i, i < pos + 1 → Tx.wsN (Sm.B s i) = true) := Lib.hid (fun i hi => by
              by_cases e : i = pos
              · rw [e]; exact hw
              · exact HA.out i (by omega))
            rw [hw] at c1
            clear hd hbb hW1 g1 hit hp0 hp1 HA hB hlow hw CS
            generalize Sm.B s pos = q at *
            go_wp2_with (go_at_call 21; refine (c1 _).mono ?_; rintro e w2 ⟨rfl, rfl⟩)
            go_roundw
            case rel => exact ⟨pos + 1, by omega, hit1, HA2, hB1⟩
            case measure => rw [HP0.out, HP1.out]; omega
          | false =>
            have hF : Hid (z = false) := Lib.hid (by rw [← HZ.out]; exact empty_not hlt hw)
            rw [hw] at c1
            clear hd hbb hW1 g1 hit hp0 hp1 HA hB hlow hw CS
            generalize Sm.B s pos = q at *
            go_wp2_with (go_at_call 21; refine (c1 _).mono ?_; rintro e w2 ⟨rfl, rfl⟩)
            go_ret
            exact ⟨by rw [hF.out]; rfl, hB1⟩
        · have hq : (64 : Int) ≤ (Sm.B s pos : Int) := by omega
          have hw : Tx.wsN (Sm.B s pos) = false := by unfold Tx.wsN; simp; omega
          have hF : Hid (z = false) := Lib.hid (by rw [← HZ.out]; exact empty_not hlt hw)
          clear hd hbb hW1 g1 hit hp0 hp1 HA hB hlow hw CS
          generalize Sm.B s pos = q at *
          go_wp2_with fail
          go_ret
          exact ⟨by rw [hF.out]; rfl, hB1⟩
      · have hd := decode_high s pos hlt (by rw [hbb]; omega)
        obtain ⟨W1, hW1⟩ : ∃ W, wr.iterAt w.heap.size s (pos + (Utf8.decode s pos).2) = W := ⟨_, rfl⟩
        have hnx : ∀ ty, (Instr.next (.pointer (some ⟨w.heap.size, 0, none⟩)) true ty).run Tryz.prog wr = .ok (.tuple #[.bool true, .int .i64 (pos : Int), .int .i32 ((Utf8.decode s pos).1 : Int)]) W1 := fun ty => by
          rw [Lib.run_next_any_at wr w.heap.size s pos ty hit hlt, ← hW1]
        have g1 := gb_iterAt wr w.heap.size s (pos + (Utf8.decode s pos).2)
        rw [hW1] at g1
        have hB1 : Below w.heap.size w W1 := hB.grown g1 hB.size (fun r e => by cases e; exact Nat.le_refl _)
        have hq : (64 : Int) ≤ ((Utf8.decode s pos).1 : Int) := by have := hd.1; omega
        have hw : Tx.wsN (Sm.B s pos) = false := by unfold Tx.wsN; simp; omega
        have hF : Hid (z = false) := Lib.hid (by rw [← HZ.out]; exact empty_not hlt hw)
        clear hd hbb hW1 g1 hit HA hB hw CS
        generalize (Utf8.decode s pos).1 = q at *
        go_wp2_with fail
        go_ret
        exact ⟨by rw [hF.out]; rfl, hB1⟩
    · obtain rfl : pos = s.size := by omega
      have hnx : ∀ ty, (Instr.next (.pointer (some ⟨w.heap.size, 0, none⟩)) true ty).run Tryz.prog wr = _ := fun ty => Lib.run_next_end_at wr w.heap.size s s.size ty hit (by omega)
      have hF : Hid (z = true) := Lib.hid (by rw [← HZ.out]; exact empty_yes HA.out)
      clear HA CS
      go_wp2_with fail
      go_ret
      exact ⟨by rw [hF.out]; rfl, hB⟩
end Go.Proofs.YthepfbkbfkhcaaaGreat
namespace Ut
open Go
theorem get_B (s : ByteArray) (i : Nat) (h : i < s.size) : (s.get! i).toNat = Sm.B s i := by
  rw [← Sm.B_at s i h]
  have h' : i < s.data.size := h
  show (s.data[i]!).toNat = _
  rw [getElem!_pos s.data i h']
  rfl
/-- The model's decoder reads a right piece as we do. -/
theorem decode_piece {s : ByteArray} {pos : Nat} (h : pos < s.size) (hp : ¬ (piece ((bsL s).drop pos)).1 < 0) : (Utf8.decode s pos).2 = (piece ((bsL s).drop pos)).2 := by
  obtain ⟨r, e1, e2, e3, e4, e5⟩ := piece_dec (u := (bsL s).drop pos) (x := (piece ((bsL s).drop pos)).1) (m := (piece ((bsL s).drop pos)).2) rfl (by omega)
  generalize (piece ((bsL s).drop pos)).2 = m at *
  rw [List.length_drop, bsL_len] at e5
  have hb : ∀ j, (hj : j < (enc r).length) → Sm.B s (pos + j) = (enc r)[j] := fun j hj => by
    have h1 := bsL_get s (pos + j) (by omega)
    have h2 : ((bsL s).drop pos)[j]? = some (Sm.B s (pos + j)) := by rw [List.getElem?_drop]; exact h1
    have h3 : (((bsL s).drop pos).take m)[j]? = some (Sm.B s (pos + j)) := by rw [List.getElem?_take_of_lt (by omega)]; exact h2
    rw [e3, List.getElem?_eq_getElem hj] at h3
    exact (Option.some.inj h3).symm
  have hg : ∀ j, j < (enc r).length → (s.get! (pos + j)).toNat = Sm.B s (pos + j) := fun j hj => get_B s _ (by omega)
  rw [e4]
  rw [e4] at e5
  obtain ⟨c0, c1, c2⟩ := e2
  by_cases q1 : r < 128
  · have e : enc r = [r] := by unfold enc; rw [if_pos q1]
    have l : (enc r).length = 1 := by rw [e]; rfl
    have b0 := hb 0 (by rw [l]; omega)
    have g0 := hg 0 (by rw [l]; omega)
    simp only [e, List.getElem_cons_zero] at b0
    rw [l]
    unfold Utf8.decode
    simp only [g0, b0]
    rw [if_pos q1]
  · by_cases q2 : r < 2048
    · have e := enc_two q1 q2
      have l : (enc r).length = 2 := by rw [e]; rfl
      have b0 := hb 0 (by rw [l]; omega)
      have b1 := hb 1 (by rw [l]; omega)
      have g0 := hg 0 (by rw [l]; omega)
      have g1 := hg 1 (by rw [l]; omega)
      simp only [e, List.getElem_cons_zero, List.getElem_cons_succ] at b0 b1
      rw [l] at e5 ⊢
      unfold Utf8.decode
      simp only [g0, g1, b0, b1]
      rw [if_neg (by omega), if_pos (by simp; omega), if_pos (by omega)]
    · by_cases q3 : r < 65536
      · have e := enc_three q1 q2 q3
        have l : (enc r).length = 3 := by rw [e]; rfl
        have b0 := hb 0 (by rw [l]; omega)
        have b1 := hb 1 (by rw [l]; omega)
        have b2 := hb 2 (by rw [l]; omega)
        have g0 := hg 0 (by rw [l]; omega)
        have g1 := hg 1 (by rw [l]; omega)
        have g2 := hg 2 (by rw [l]; omega)
        simp only [e, List.getElem_cons_zero, List.getElem_cons_succ] at b0 b1 b2
        rw [l] at e5 ⊢
        unfold Utf8.decode
        simp only [g0, g1, g2, b0, b1, b2]
        rw [if_neg (by omega), if_neg (by simp; omega), if_pos (by simp; omega), if_pos]
        have hc : (224 + r / 4096) % 16 * 4096 + (128 + r / 64 % 64) % 64 * 64 + (128 + r % 64) % 64 = r := by omega
        rw [hc]
        simp [Utf8.valid]
        omega
      · have e := enc_four q1 q2 q3
        have l : (enc r).length = 4 := by rw [e]; rfl
        have b0 := hb 0 (by rw [l]; omega)
        have b1 := hb 1 (by rw [l]; omega)
        have b2 := hb 2 (by rw [l]; omega)
        have b3 := hb 3 (by rw [l]; omega)
        have g0 := hg 0 (by rw [l]; omega)
        have g1 := hg 1 (by rw [l]; omega)
        have g2 := hg 2 (by rw [l]; omega)
        have g3 := hg 3 (by rw [l]; omega)
        simp only [e, List.getElem_cons_zero, List.getElem_cons_succ] at b0 b1 b2 b3
        rw [l] at e5 ⊢
        unfold Utf8.decode
        simp only [g0, g1, g2, g3, b0, b1, b2, b3]
        rw [if_neg (by omega), if_neg (by simp; omega), if_neg (by simp; omega), if_pos (by simp; omega), if_pos]
        have hc : (240 + r / 262144) % 8 * 262144 + (128 + r / 4096 % 64) % 64 * 4096 + (128 + r / 64 % 64) % 64 * 64 + (128 + r % 64) % 64 = r := by omega
        rw [hc]
        simp [Utf8.valid]
        omega
end Ut

namespace Go.Proofs.YthepfbkbfkhcaaaGreat
open Go.RowKit Go.Shelf
open Go
set_option linter.unusedVariables false
set_option maxRecDepth 100000
theorem val_good {u : List Nat} {L : List Int} (h : Ut.scal u = some L) : ∀ k, k < (Ut.pcs u).length → 0 ≤ Ut.rP u k := fun k hk => by
  rw [Ut.scal_pcs u] at h
  split at h
  · rename_i hq
    rw [rp_get hk]
    exact hq _ (List.getElem_mem hk)
  · cases h
theorem val_pcs {u : List Nat} {L : List Int} (h : Ut.scal u = some L) : L = (Ut.pcs u).map Prod.snd := by
  rw [Ut.scal_pcs u] at h
  split at h
  · exact (Option.some.inj h).symm
  · cases h
theorem val_pos {u : List Nat} {L : List Int} (h : Ut.scal u = some L) : ∀ k, k ≤ L.length → Ut.posP u k = (Ut.text (L.take k)).length ∧ u.drop (Ut.posP u k) = Ut.text (L.drop k)
  | 0, _ => by
    rw [Ut.posP_zero]
    exact ⟨rfl, by rw [List.drop_zero, List.drop_zero]; exact (Ut.scal_some h).2.symm⟩
  | k + 1, hk => by
    obtain ⟨h1, h2⟩ := val_pos h k (by omega)
    have hl : (Ut.pcs u).length = L.length := by rw [val_pcs h, List.length_map]
    obtain ⟨p1, -, p3⟩ := Ut.posP_at (u := u) (k := k) (by omega)
    have hsc := (Ut.scal_some h).1 _ (List.getElem_mem (show k < L.length by omega))
    obtain ⟨r, hr⟩ := Ut.sc_nat hsc
    have ed : L.drop k = L[k] :: L.drop (k + 1) := List.drop_eq_getElem_cons (by omega)
    have et : u.drop (Ut.posP u k) = Ut.enc r ++ Ut.text (L.drop (k + 1)) := by rw [h2, ed, Ut.text_cons, hr]; rfl
    have hp : Ut.piece (u.drop (Ut.posP u k)) = ((r : Int), (Ut.enc r).length) := by rw [et]; exact Ut.piece_enc (by rw [← hr]; exact hsc) _
    rw [hp] at p3
    simp only at p3
    constructor
    · rw [p3, h1, List.take_succ_eq_append_getElem (by omega), Ut.text_app, List.length_append, hr]
      congr 1
      show _ = (Ut.text [(r : Int)]).length
      rw [Ut.text_cons, Tx.text_nil, List.append_nil]
      rfl
    · rw [p3, ← List.drop_drop, et, List.drop_left]
def CutAt (s : ByteArray) (most : Int) (j : Nat) : Prop := j < (Ut.pcs (Ut.bsL s)).length ∧ (Ut.posP (Ut.bsL s) j : Int) ≤ most ∧ most < (Ut.posP (Ut.bsL s) (j + 1) : Int)
set_option maxHeartbeats 8000000 in
theorem tcut_any (s : ByteArray) (hs : s.size ≤ 100000) (L : List Int) (hv : Ut.scal (Ut.bsL s) = some L) (most : Int) (h0 : 0 ≤ most) (hm : most < (s.size : Int)) (w : World) :
    Calls Tryz.prog 19 #[.string s, .int .i64 most] w (fun e w' => (∃ j, CutAt s most j ∧ e = .returned (.string (s.extract 0 (Ut.posP (Ut.bsL s) j)))) ∧ Below w.heap.size w w') := by
  have c1 := fun w => valid_any s hs w
  rw [hv] at c1
  have c1' : ∀ w : World, Calls Tryz.prog 32 #[.string s] w (fun e w' => e = .returned (.bool true) ∧ Below w.heap.size w w') := c1
  have HG := Lib.hid (val_good hv)
  have hpos := Ut.posP_zero (Ut.bsL s)
  have hend := Ut.posP_end (Ut.bsL s)
  rw [Ut.bsL_len] at hend
  have HE := Lib.hid hend
  have n0 : ¬ most < 0 := by omega
  have n1 : ¬ (s.size : Int) ≤ most := by omega
  clear c1 hv hend
  go_enter Tryz.func19, Tryz.ntmps19
  go_wp2_with (go_at_call 32; refine (c1' _).mono ?_; rintro e w1 ⟨rfl, hb1⟩)
  go_loopw [5] (fun ev wr => ∃ (k e : Nat), k ≤ (Ut.pcs (Ut.bsL s)).length ∧ wr.heap[w1.heap.size]? = some (.stringIter s (Ut.posP (Ut.bsL s) k)) ∧ ev = .int .i64 (e : Int) ∧ e ≤ s.size ∧ Hid ((k = 0 ∧ e = 0) ∨ ∃ j, j < k ∧ e = Ut.posP (Ut.bsL s) j ∧ (e : Int) ≤ most ∧ (j + 1 = k ∨ most < (Ut.posP (Ut.bsL s) (j + 1) : Int))) ∧ Below w1.heap.size w1 wr) (fun _ wr => s.size - itPos wr w1.heap.size)
  case atStart => exact ⟨0, 0, Nat.zero_le _, by rw [hpos]; exact World.iter_heap _ _ _, rfl, Nat.zero_le _, Lib.hid (Or.inl ⟨rfl, rfl⟩), (Below.refl _ w1).alloc (Nat.le_refl _) _⟩
  case round =>
    obtain ⟨k, e, hk, hit, rfl, hes, HI, hB⟩ := hrel
    by_cases hlt : k < (Ut.pcs (Ut.bsL s)).length
    · obtain ⟨p1, -, p3⟩ := Ut.posP_at hlt
      rw [Ut.bsL_len] at p1
      have hr := HG.out k hlt
      rw [Ut.rP_at hlt] at hr
      have hdec := Ut.decode_piece p1 (by omega)
      have hwid := Ut.piece_wid p1
      obtain ⟨W1, hW1⟩ : ∃ W, wr.iterAt w1.heap.size s (Ut.posP (Ut.bsL s) (k + 1)) = W := ⟨_, rfl⟩
      have hnx : ∀ ty, (Instr.next (.pointer (some ⟨w1.heap.size, 0, none⟩)) true ty).run Tryz.prog wr = .ok (.tuple #[.bool true, .int .i64 (Ut.posP (Ut.bsL s) k : Int), .int .i32 ((Utf8.decode s (Ut.posP (Ut.bsL s) k)).1 : Int)]) W1 := fun ty => by
        rw [Lib.run_next_any_at wr w1.heap.size s _ ty hit p1, hdec, ← p3, hW1]
      have g1 := gb_iterAt wr w1.heap.size s (Ut.posP (Ut.bsL s) (k + 1))
      have hit1 := Lib.iterAt_heap wr w1.heap.size s _ (Ut.posP (Ut.bsL s) (k + 1)) hit
      rw [hW1] at g1 hit1
      have hB1 : Below w1.heap.size w1 W1 := hB.grown g1 hB.size (fun r e => by cases e; exact Nat.le_refl _)
      have hp0 : itPos wr w1.heap.size = Ut.posP (Ut.bsL s) k := by unfold itPos; rw [hit]
      have hp1 : itPos W1 w1.heap.size = Ut.posP (Ut.bsL s) (k + 1) := by unfold itPos; rw [hit1]
      have HP0 := Lib.hid hp0
      have HP1 := Lib.hid hp1
      have HP3 : Hid (Ut.posP (Ut.bsL s) k < Ut.posP (Ut.bsL s) (k + 1) ∧ Ut.posP (Ut.bsL s) (k + 1) ≤ s.size) := Lib.hid (by omega)
      have hyes : (Ut.posP (Ut.bsL s) k : Int) ≤ most → Hid (((k + 1 = 0 ∧ Ut.posP (Ut.bsL s) k = 0) ∨ ∃ j, j < k + 1 ∧ Ut.posP (Ut.bsL s) k = Ut.posP (Ut.bsL s) j ∧ (Ut.posP (Ut.bsL s) k : Int) ≤ most ∧ (j + 1 = k + 1 ∨ most < (Ut.posP (Ut.bsL s) (j + 1) : Int)))) := fun hq => Lib.hid (Or.inr ⟨k, by omega, rfl, hq, Or.inl rfl⟩)
      have hno : ¬ (Ut.posP (Ut.bsL s) k : Int) ≤ most → Hid (((k + 1 = 0 ∧ e = 0) ∨ ∃ j, j < k + 1 ∧ e = Ut.posP (Ut.bsL s) j ∧ (e : Int) ≤ most ∧ (j + 1 = k + 1 ∨ most < (Ut.posP (Ut.bsL s) (j + 1) : Int)))) := fun hq => Lib.hid (by
        rcases HI.out with ⟨rfl, rfl⟩ | ⟨j, j1, j2, j3, j4⟩
        · rw [hpos] at hq; omega
        · refine Or.inr ⟨j, by omega, j2, j3, Or.inr ?_⟩
          rcases j4 with j4 | j4
          · rw [j4]; omega
          · exact j4)
      have HY := Lib.hid hyes
      have HN := Lib.hid hno
      have hpk : Ut.posP (Ut.bsL s) k ≤ s.size := by omega
      clear hyes hno hr hdec hwid hW1 g1 hit hp0 hp1 HI hB p1 p3 hpos
      generalize hq1 : Ut.posP (Ut.bsL s) (k + 1) = q1 at *
      generalize hq0 : Ut.posP (Ut.bsL s) k = q0 at *
      generalize (Utf8.decode s q0).1 = rr at *
      have HQ0 := Lib.hid hq0
      have HQ1 := Lib.hid hq1
      clear hq0 hq1
      by_cases hle : (q0 : Int) ≤ most
      · have hrel := HY.out hle
        go_wp2_with fail
        go_roundw
        case rel => exact ⟨k + 1, q0, by omega, by rw [HQ1.out]; exact hit1, rfl, hpk, hrel, hB1⟩
        case measure => have := HP3.out; rw [HP0.out, HP1.out]; omega
      · have hrel := HN.out hle
        go_wp2_with fail
        go_roundw
        case rel => exact ⟨k + 1, e, by omega, by rw [HQ1.out]; exact hit1, rfl, hes, hrel, hB1⟩
        case measure => have := HP3.out; rw [HP0.out, HP1.out]; omega
    · obtain rfl : k = (Ut.pcs (Ut.bsL s)).length := by omega
      rw [HE.out] at hit
      have hnx : ∀ ty, (Instr.next (.pointer (some ⟨w1.heap.size, 0, none⟩)) true ty).run Tryz.prog wr = _ := fun ty => Lib.run_next_end_at wr w1.heap.size s s.size ty hit (by omega)
      have hfin : ∃ j, CutAt s most j ∧ e = Ut.posP (Ut.bsL s) j := by
        rcases HI.out with ⟨h1, rfl⟩ | ⟨j, j1, j2, j3, j4⟩
        · have h2 := HE.out
          rw [h1, hpos] at h2
          omega
        · refine ⟨j, ⟨j1, by rw [← j2]; exact j3, ?_⟩, j2⟩
          rcases j4 with j4 | j4
          · rw [j4, HE.out]; exact hm
          · exact j4
      obtain ⟨j, hcut, hej⟩ := hfin
      have HC := Lib.hid hcut
      have HEJ := Lib.hid hej
      have e0 : (0 : Int) ≤ (e : Int) := by omega
      have e1 : (e : Int) ≤ (s.size : Int) := by omega
      clear HI hpos hcut hej HG
      go_wp2_with fail
      go_ret
      exact ⟨⟨j, HC.out, by rw [HEJ.out]; rfl⟩, hb1.trans (hB.mono hb1.size)⟩
theorem tcut_all (s : ByteArray) (hs : s.size ≤ 100000) (L : List Int) (hv : Ut.scal (Ut.bsL s) = some L) (most : Int) (hm : (s.size : Int) ≤ most) (w : World) :
    Calls Tryz.prog 19 #[.string s, .int .i64 most] w (fun e w' => e = .returned (.string s) ∧ Below w.heap.size w w') := by
  have c1 := fun w => valid_any s hs w
  rw [hv] at c1
  have c1' : ∀ w : World, Calls Tryz.prog 32 #[.string s] w (fun e w' => e = .returned (.bool true) ∧ Below w.heap.size w w') := c1
  have n0 : ¬ most < 0 := by omega
  clear c1 hv
  go_enter Tryz.func19, Tryz.ntmps19
  go_wp2_with (go_at_call 32; refine (c1' _).mono ?_; rintro e w1 ⟨rfl, hb1⟩)
  go_ret
  exact ⟨rfl, hb1⟩
end Go.Proofs.YthepfbkbfkhcaaaGreat
namespace Go.Proofs.YthepfbkbfkhcaaaGreat
open Go.RowKit Go.Shelf
open Go
set_option linter.unusedVariables false
set_option maxRecDepth 100000
theorem good_620 {l : List Int} (h : Ut.AllSc l) (hl : l.length ≤ 620) : Tb.Good l := ⟨h, by omega, by have := (Tb.dec_len l).2; omega⟩
theorem gb_620 {s : ByteArray} (h : s.size ≤ 620) : GoodB s := ⟨by omega, fun L hL => good_620 (Ut.scal_some hL).1 (by have := Ut.scal_len hL; rw [Ut.bsL_len] at this; omega)⟩
theorem oneB_le (s : ByteArray) : (oneB s).size ≤ s.size + 1 := by
  have := pre_le s (wdsL s).length
  rw [pre_all] at this
  exact this
theorem trimB_le (s : ByteArray) : (trimB s).size ≤ s.size := by
  unfold trimB
  rw [Ut.mk_size]
  unfold Tx.trim Tx.rt Tx.lt
  rw [List.length_reverse]
  have h1 := (List.dropWhile_sublist (p := Tx.wsN) (l := ((Ut.bsL s).dropWhile Tx.wsN).reverse)).length_le
  have h2 := (List.dropWhile_sublist (p := Tx.wsN) (l := Ut.bsL s)).length_le
  rw [List.length_reverse] at h1
  rw [Ut.bsL_len] at h2
  omega
theorem good_one {s : ByteArray} (h : s.size ≤ 620) : GoodB (oneB s) := by
  refine ⟨by have := oneB_le s; omega, fun L hL => ?_⟩
  cases hv : Ut.scal (Ut.bsL s) with
  | none => rw [one_none hv] at hL; cases hL
  | some M =>
    rw [one_some hv] at hL
    cases hL
    refine good_620 (Tx.one_sc (Ut.scal_some hv).1) ?_
    have h1 := one_len M
    have h2 := Ut.scal_len hv
    rw [Ut.bsL_len] at h2
    omega
theorem good_trim {s : ByteArray} (h : s.size ≤ 620) : GoodB (trimB s) := gb_620 (by have := trimB_le s; omega)
theorem mkt_bytes {X : List Int} (h : Ut.AllSc X) : Ut.bsL (Ut.mk (Ut.text X)) = Ut.text X := Ut.mk_bytes (text_bytes h)
theorem oneB_mk {X : List Int} (h : Ut.AllSc X) : oneB (Ut.mk (Ut.text X)) = Ut.mk (Ut.text (Tx.oneP Tx.wsI 32 X)) := by unfold oneB; rw [mkt_bytes h, Tx.one_text h]
theorem trimB_mk {X : List Int} (h : Ut.AllSc X) : trimB (Ut.mk (Ut.text X)) = Ut.mk (Ut.text (Tx.trim Tx.wsI X)) := by unfold trimB; rw [mkt_bytes h, Tx.trim_text h]
theorem nn_idem (s : ByteArray) : nnfcB (nnfcB s) = nnfcB s := by
  cases h : Ut.scal (Ut.bsL s) with
  | none => simp only [nnfc_none h]
  | some L =>
    have h1 := scal_mk (Tb.nfc_sc (Ut.scal_some h).1)
    rw [nnfc_some h, nnfc_some h1, Tb.nfc_idem]
theorem one_nn (s : ByteArray) : oneB (nnfcB s) = lineB s := by
  unfold lineB
  cases h : Ut.scal (Ut.bsL s) with
  | none => rw [nnfc_none h, nnfc_none (one_none h)]
  | some L => rw [nnfc_some h, nnfc_some (one_some h), oneB_mk (Tb.nfc_sc (Ut.scal_some h).1), Tb.nfc_one_ws]
theorem trim_nn (s : ByteArray) : trimB (nnfcB s) = blockB s := by
  unfold blockB
  cases h : Ut.scal (Ut.bsL s) with
  | none => rw [nnfc_none h, nnfc_none (trim_none h)]
  | some L => rw [nnfc_some h, nnfc_some (trim_some h), trimB_mk (Tb.nfc_sc (Ut.scal_some h).1), Tb.nfc_trim]
theorem ws32N : Tx.wsN 32 = true := rfl
theorem one_one (s : ByteArray) : oneB (oneB s) = oneB s := by
  show Ut.mk (Tx.oneP Tx.wsN 32 (Ut.bsL (oneB s))) = _
  rw [one_bytes, Tx.one_idem ws32N]
  rfl
theorem trim_trim (s : ByteArray) : trimB (trimB s) = trimB s := by
  show Ut.mk (Tx.trim Tx.wsN (Ut.bsL (trimB s))) = _
  rw [trim_bytes, Tx.trim_idem]
  rfl
theorem one_trimB (s : ByteArray) : oneB (trimB s) = oneB s := by
  show Ut.mk (Tx.oneP Tx.wsN 32 (Ut.bsL (trimB s))) = _
  rw [trim_bytes, Tx.one_trim]
  rfl
theorem trim_oneB (s : ByteArray) : trimB (oneB s) = oneB s := by
  show Ut.mk (Tx.trim Tx.wsN (Ut.bsL (oneB s))) = _
  rw [one_bytes, Tx.trim_one]
  rfl
theorem one_line (s : ByteArray) : oneB (lineB s) = lineB s := by
  show oneB (nnfcB (oneB s)) = _
  rw [one_nn]
  unfold lineB
  rw [one_one]
theorem line_line (s : ByteArray) : lineB (lineB s) = lineB s := by
  show nnfcB (oneB (lineB s)) = _
  rw [one_line]
  exact nn_idem _
theorem trim_block (s : ByteArray) : trimB (blockB s) = blockB s := by
  show trimB (nnfcB (trimB s)) = _
  rw [trim_nn]
  unfold blockB
  rw [trim_trim]
theorem block_block (s : ByteArray) : blockB (blockB s) = blockB s := by
  show nnfcB (trimB (blockB s)) = _
  rw [trim_block]
  exact nn_idem _
theorem one_block (s : ByteArray) : oneB (blockB s) = lineB s := by
  show oneB (nnfcB (trimB s)) = _
  rw [one_nn]
  unfold lineB
  rw [one_trimB]
theorem line_block (s : ByteArray) : lineB (blockB s) = lineB s := by
  show nnfcB (oneB (blockB s)) = _
  rw [one_block]
  exact nn_idem _
theorem trim_line (s : ByteArray) : trimB (lineB s) = lineB s := by
  show trimB (nnfcB (oneB s)) = _
  rw [trim_nn]
  unfold blockB
  rw [trim_oneB]
  rfl
theorem block_line (s : ByteArray) : blockB (lineB s) = lineB s := by
  show nnfcB (trimB (lineB s)) = _
  rw [trim_line]
  exact nn_idem _
theorem right_nn (s : ByteArray) : rightB (nnfcB s) = rightB s := by
  unfold rightB okR
  cases h : Ut.scal (Ut.bsL s) with
  | none => rw [nnfc_none h, h]
  | some L =>
    rw [nnfc_some h, scal_mk (Tb.nfc_sc (Ut.scal_some h).1)]
    exact Tb.nfc_char L
theorem right_one (s : ByteArray) : rightB (oneB s) = rightB s := by
  unfold rightB okR
  cases h : Ut.scal (Ut.bsL s) with
  | none => rw [one_none h]
  | some L => rw [one_some h]; exact Tb.one_char L
theorem right_trim (s : ByteArray) : rightB (trimB s) = rightB s := by
  unfold rightB okR
  cases h : Ut.scal (Ut.bsL s) with
  | none => rw [trim_none h]
  | some L => rw [trim_some h]; exact Tb.trim_char L
theorem right_line (s : ByteArray) : rightB (lineB s) = rightB s := by unfold lineB; rw [right_nn, right_one]
theorem right_block (s : ByteArray) : rightB (blockB s) = rightB s := by unfold blockB; rw [right_nn, right_trim]
theorem bs_nil {s : ByteArray} : s.size = 0 ↔ Ut.bsL s = [] := by
  rw [← Ut.bsL_len]
  exact List.length_eq_zero_iff
theorem nn_size (t : ByteArray) : (nnfcB t).size = 0 ↔ t.size = 0 := by
  cases h : Ut.scal (Ut.bsL t) with
  | none => rw [nnfc_none h]
  | some L =>
    have h1 := (Ut.scal_some h).2
    rw [nnfc_some h, Ut.mk_size, bs_nil, ← h1, List.length_eq_zero_iff]
    constructor
    · intro e
      have : Tb.nfcL L = [] := by
        apply Classical.byContradiction
        intro hn
        exact Tx.text_ne hn e
      rw [(Tb.nfc_empty L).1 this]
      rfl
    · intro e
      have : L = [] := by
        apply Classical.byContradiction
        intro hn
        exact Tx.text_ne hn e
      rw [this]
      rfl
theorem empty_line (s : ByteArray) : (lineB s).toList.isEmpty = emptyF s := by
  rw [Ut.toList_of]
  unfold emptyF
  rw [Bool.eq_iff_iff, decide_eq_true_iff, List.all_eq_true]
  unfold lineB
  rw [nn_size, bs_nil, one_bytes, Tx.one_empty]
theorem empty_block (s : ByteArray) : (blockB s).toList.isEmpty = emptyF s := by
  rw [Ut.toList_of]
  unfold emptyF
  rw [Bool.eq_iff_iff, decide_eq_true_iff, List.all_eq_true]
  unfold blockB
  rw [nn_size, bs_nil, trim_bytes, Tx.trim_empty]
end Go.Proofs.YthepfbkbfkhcaaaGreat
namespace Go.Proofs.YthepfbkbfkhcaaaGreat
open Go.RowKit Go.Shelf
open Go
set_option linter.unusedVariables false
set_option maxRecDepth 100000
theorem twk1 : lineB ⟨#[32, 97, 10, 10, 98]⟩ = ⟨#[97, 32, 98]⟩ := by kernel_rfl
theorem twk2 : blockB ⟨#[32, 97, 10, 10, 98, 32]⟩ = ⟨#[97, 10, 10, 98]⟩ := by kernel_rfl
theorem twk3 : (rightB ⟨#[97, 32, 98]⟩ && decide (lineB ⟨#[97, 32, 98]⟩ = ⟨#[97, 32, 98]⟩)) = true := by kernel_rfl
theorem twk4 : (rightB ⟨#[97, 32, 32, 98]⟩ && decide (lineB ⟨#[97, 32, 32, 98]⟩ = ⟨#[97, 32, 32, 98]⟩)) = false := by kernel_rfl
theorem twk5 : emptyF ⟨#[32, 9, 13, 10]⟩ = true := by kernel_rfl
theorem twk6 : Ut.scal (Ut.bsL ⟨#[97, 195, 169]⟩) = some [97, 233] := by kernel_rfl
theorem twk7 : (Ut.pcs (Ut.bsL ⟨#[97, 195, 169]⟩)).length = 2 ∧ Ut.posP (Ut.bsL ⟨#[97, 195, 169]⟩) 1 = 1 := ⟨by kernel_rfl, by kernel_rfl⟩
theorem twk8 : (⟨#[97, 195, 169]⟩ : ByteArray).extract 0 1 = ⟨#[97]⟩ := by kernel_rfl
theorem cut_wk (w : World) : Calls Tryz.prog 19 #[.string ⟨#[97, 195, 169]⟩, .int .i64 2] w (fun e w' => e = .returned (.string ⟨#[97]⟩) ∧ Below w.heap.size w w') := by
  refine (tcut_any ⟨#[97, 195, 169]⟩ (by decide) _ twk6 2 (by omega) (by decide) w).mono ?_
  rintro e w' ⟨⟨j, ⟨h1, h2, h3⟩, rfl⟩, hb⟩
  obtain ⟨k1, k2⟩ := twk7
  rw [k1] at h1
  have hj : j = 1 := by
    rcases Nat.lt_or_ge j 1 with h | h
    · obtain rfl : j = 0 := by omega
      rw [k2] at h3
      exact absurd h3 (by decide)
    · omega
  subst hj
  rw [k2, twk8]
  exact ⟨rfl, hb⟩
end Go.Proofs.YthepfbkbfkhcaaaGreat
namespace Go.Proofs.YthepfbkbfkhcaaaGreat
open Go.RowKit Go.Shelf
open Go
set_option linter.unusedVariables false
set_option maxRecDepth 100000
def LawT (w : World) (e : Ending) (w' : World) : Prop := e = .returned (.bool true) ∧ Below w.heap.size w w'
set_option maxHeartbeats 4000000 in
theorem twakes_any (w : World) : Calls Tryz.prog 4 #[] w (LawT w) := by
  have c1 := fun w => tline_any ⟨#[32, 97, 10, 10, 98]⟩ (by decide) (good_one (by decide)) w
  have c2 := fun w => tblock_any ⟨#[32, 97, 10, 10, 98, 32]⟩ (by decide) (good_trim (by decide)) w
  have c3 := fun w => tisline_any ⟨#[97, 32, 98]⟩ (by decide) (good_one (by decide)) w
  have c4 := fun w => tisline_any ⟨#[97, 32, 32, 98]⟩ (by decide) (good_one (by decide)) w
  have c5 := fun w => tempty_any ⟨#[32, 9, 13, 10]⟩ (by decide) w
  have c6 := cut_wk
  rw [twk1] at c1
  rw [twk2] at c2
  rw [twk3] at c3
  rw [twk4] at c4
  rw [twk5] at c5
  have hb0 : Below w.heap.size w w := Below.refl _ _
  go_enter Tryz.func4, Tryz.ntmps4
  go_wp2_with (first | (go_at_call 11; refine (c1 _).mono ?_; rintro e w2 ⟨rfl, hb2⟩; replace hb0 := bl hb0 hb2; clear hb2) | (go_at_call 13; refine (c2 _).mono ?_; rintro e w2 ⟨rfl, hb2⟩; replace hb0 := bl hb0 hb2; clear hb2) | (go_at_call 15; (first | (with_reducible refine (c3 _).mono ?_) | (with_reducible refine (c4 _).mono ?_)); rintro e w2 ⟨rfl, hb2⟩; replace hb0 := bl hb0 hb2; clear hb2) | (go_at_call 9; refine (c5 _).mono ?_; rintro e w2 ⟨rfl, hb2⟩; replace hb0 := bl hb0 hb2; clear hb2) | (go_at_call 19; refine (c6 _).mono ?_; rintro e w2 ⟨rfl, hb2⟩; replace hb0 := bl hb0 hb2; clear hb2))
  go_ret
  exact ⟨rfl, hb0⟩
end Go.Proofs.YthepfbkbfkhcaaaGreat
namespace Go.Proofs.YthepfbkbfkhcaaaGreat
open Go.RowKit Go.Shelf
open Go
set_option linter.unusedVariables false
set_option maxRecDepth 100000
theorem right_val {s : ByteArray} : rightB s = ((Ut.scal (Ut.bsL s)).isSome && rightB s) := by
  unfold rightB okR
  cases Ut.scal (Ut.bsL s) with
  | none => rfl
  | some L => simp
theorem cut_facts {s : ByteArray} {L : List Int} (hv : Ut.scal (Ut.bsL s) = some L) {most : Int} {j : Nat} (h : CutAt s most j) :
    Ut.posP (Ut.bsL s) j < s.size ∧ (Ut.scal (Ut.bsL (s.extract 0 (Ut.posP (Ut.bsL s) j)))).isSome = true ∧ ∃ r n : Nat, Ut.piece ((Ut.bsL s).drop (Ut.posP (Ut.bsL s) j)) = ((r : Int), n) ∧ most < (Ut.posP (Ut.bsL s) j : Int) + (n : Int) ∧ Ut.posP (Ut.bsL s) j + n ≤ s.size := by
  obtain ⟨h1, h2, h3⟩ := h
  obtain ⟨p1, -, p3⟩ := Ut.posP_at h1
  have hsz := Ut.bsL_len s
  have hl : (Ut.pcs (Ut.bsL s)).length = L.length := by rw [val_pcs hv, List.length_map]
  obtain ⟨v1, v2⟩ := val_pos hv j (by omega)
  have hr := val_good hv j h1
  rw [Ut.rP_at h1] at hr
  have hw := Ut.piece_wid (s := s) (a := Ut.posP (Ut.bsL s) j) (by omega)
  refine ⟨by omega, ?_, (Ut.piece ((Ut.bsL s).drop (Ut.posP (Ut.bsL s) j))).1.toNat, (Ut.piece ((Ut.bsL s).drop (Ut.posP (Ut.bsL s) j))).2, ?_, by omega, ?_⟩
  · have e : Ut.bsL (s.extract 0 (Ut.posP (Ut.bsL s) j)) = Ut.text (L.take j) := by
      rw [Ut.bsL_extract, List.drop_zero, Nat.sub_zero, v1]
      have h4 := (Ut.scal_some hv).2
      have e5 : Ut.text L = Ut.text (L.take j) ++ Ut.text (L.drop j) := by rw [← Ut.text_app, List.take_append_drop]
      rw [← h4, e5]
      exact List.take_left
    rw [e, Ut.scal_text _ (fun x hx => (Ut.scal_some hv).1 x (List.mem_of_mem_take hx))]
    rfl
  · rw [Int.toNat_of_nonneg hr]
  · exact hw.2
theorem ext_all (s : ByteArray) : s.extract 0 s.size = s := by
  apply Ut.bsL_inj
  rw [Ut.bsL_extract, List.drop_zero, Nat.sub_zero, List.take_of_length_le (by rw [Ut.bsL_len]; exact Nat.le_refl _)]
end Go.Proofs.YthepfbkbfkhcaaaGreat
