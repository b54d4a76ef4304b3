/- The walk of cardingref12.compose: scalars composed. The walks of cardingref12: Decomposed, Composed, Nfc. The walks of cardingref12: Is, Quick. -/
import Derived.Test.YthepfbkbfkhcaaaGreatNfE
import Derived.Test.YthepfbkbfkhcaaaGreatNfH
import Derived.Test.YthepfbkbfkhcaaaGreatR2C
namespace Go.Proofs.YthepfbkbfkhcaaaGreat
open Go.RowKit Go.Shelf
open Go
set_option linter.unusedVariables false
set_option maxRecDepth 100000
theorem bl {A B C : World} (h : Below A.heap.size A B) (k : Below B.heap.size B C) : Below A.heap.size A C := h.trans (k.mono h.size)
/-- The row that grows, owned by the call, in the world W. -/
def RcW (w : World) (v : Value) (F : List Int) (W : World) : Prop := OwnL W w.heap.size v F ∧ Below w.heap.size w W
theorem RcW.below {w W W' : World} {v : Value} {F : List Int} (h : RcW w v F W) (hb : Below W.heap.size W W') : RcW w v F W' :=
  ⟨h.1.of_below hb (Nat.le_refl _), h.2.trans (hb.mono h.2.size)⟩
theorem RcW.app {w W W2 : World} {v v' : Value} {F : List Int} {r : Int} (h : RcW w v F W) (hg : (W.alloc (.cells #[.int .i64 r] 3)).grownBy W2 v.ownBlock) (ho : W2.ownsRow w.heap.size 3 1 v' (F.length + 1) (F.map encI ++ [.int .i64 r])) : RcW w v' (F ++ [r]) W2 := by
  have h1 := own_ge h.1
  refine ⟨?_, (h.2.grown (World.grownBy_alloc W _ none) h.2.size (fun r e => by cases e)).grown hg (by simp; have := h.2.size; omega) (fun q e => (h1 q e).1)⟩
  unfold OwnL
  rw [List.length_append, List.map_append]
  exact ho
theorem RcW.put {w W : World} {g1 n cv i : Nat} {F F' : List Int} {x : Int} (hF : F.set i x = F') (h : RcW w (.slice (some ⟨g1, 0, none⟩) n cv) F W) : RcW w (.slice (some ⟨g1, 0, none⟩) n cv) F' (W.setCell ⟨g1, i, none⟩ (.int .i64 x)) := by
  have h1 := h.1.set i x
  rw [hF] at h1
  exact ⟨h1, h.2.setCell (p := ⟨g1, i, none⟩) (own_ge h.1 g1 rfl).1 _⟩
/-- The starter's place. -/
def StS (st : Tb.CSt) (s : Int) : Prop := match st with | (pre, none) => s = -1 | (pre, some (a, ms)) => s = (pre.length : Int)
theorem StS.push {st : Tb.CSt} {s : Int} (hs : StS st s) (r : Int) : StS (Tb.pushC st r) (if Tb.classI r = 0 then ((Tb.flat st).length : Int) else s) := by
  obtain ⟨pre, _ | ⟨a, ms⟩⟩ := st
  · unfold Tb.pushC
    by_cases hc : Tb.classI r = 0
    · simp only [hc, if_true]; exact rfl
    · simp only [hc, if_false]; exact hs
  · unfold Tb.pushC
    by_cases hc : Tb.classI r = 0
    · simp only [hc, if_true]; exact rfl
    · simp only [hc, if_false]; exact hs
theorem stK_inv (L : List Int) : ∀ j, j ≤ L.length → Tb.InvC (stK L j)
  | 0, _ => trivial
  | j + 1, h => by
    rw [stK_succ (by omega)]
    exact Tb.inv_step (stK_inv L j (by omega)) _
/-- Something between keeps a scalar of class c from the starter. -/
def blkB (c : Int) (ms : List Int) : Bool := ms.any fun m => decide (Tb.classI m = 0) || decide (c ≤ Tb.classI m)
theorem blk_take {c : Int} {ms : List Int} {t : Nat} (h : t < ms.length) : blkB c (ms.take (t + 1)) = (blkB c (ms.take t) || (decide (Tb.classI ms[t] = 0) || decide (c ≤ Tb.classI ms[t]))) := by
  unfold blkB
  rw [List.take_succ_eq_append_getElem h, List.any_append]
  simp
theorem blk_hi {r : Int} {ms : List Int} (h : ∀ m ∈ ms, 0 < Tb.classI m) : blkB (Tb.classI r) ms = decide (Tb.classI r ≤ Tb.hiOf ms) := by
  have hnl : Tb.classI r ≤ Tb.hiOf ms ↔ ¬ ∀ m ∈ ms, Tb.classI m < Tb.classI r := by rw [← Tb.hi_lt]; omega
  rw [Bool.eq_iff_iff, decide_eq_true_iff, hnl]
  unfold blkB
  rw [List.any_eq_true]
  constructor
  · rintro ⟨m, hm, hc⟩ k
    have h1 := h m hm
    have h2 := k m hm
    simp at hc
    omega
  · intro k
    have : ∃ m, m ∈ ms ∧ ¬ Tb.classI m < Tb.classI r := by
      apply Classical.byContradiction
      intro hn
      exact k fun m hm => Classical.byContradiction fun hc => hn ⟨m, hm, hc⟩
    obtain ⟨m, hm, hc⟩ := this
    exact ⟨m, hm, by simp; omega⟩
theorem try_no {a : Int} {ms : List Int} {r : Int} (h : Tb.tryC a ms r = none) (pre : List Int) : Tb.stepC (pre, some (a, ms)) r = Tb.pushC (pre, some (a, ms)) r := by
  show (match Tb.tryC a ms r with | some w => (pre, some (w, ms)) | none => Tb.pushC (pre, some (a, ms)) r) = _
  rw [h]
theorem try_yes {a x : Int} {ms : List Int} {r : Int} (h : Tb.tryC a ms r = some x) (pre : List Int) : Tb.stepC (pre, some (a, ms)) r = (pre, some (x, ms)) := by
  show (match Tb.tryC a ms r with | some w => (pre, some (w, ms)) | none => Tb.pushC (pre, some (a, ms)) r) = _
  rw [h]
set_option maxHeartbeats 16000000 in
theorem rcompose_any (p : Option Addr) (c : Nat) (L : List Int) (w : World) (hL : L.length ≤ 100000) (hrp : RowP w p c L) :
    Calls Tryz.prog 53 #[.slice p L.length c] w (OutPost (Tb.compL L) w) := by
  have hlc := hrp.1
  obtain ⟨g, o, hgo⟩ := rowP_at hrp 0
  have hcell : ∀ j (h : j < L.length), p = some ⟨g, o, none⟩ ∧ w.cell? ⟨g, o + j, none⟩ = some (.int .i64 L[j]) ∧ g < w.heap.size := fun j h => by
    rcases hgo with ⟨e, _⟩ | ⟨e, hI, hl⟩
    · subst e; exact absurd h (Nat.not_lt_zero _)
    · exact ⟨e, hI.2 j _ (List.getElem?_eq_getElem h), hl⟩
  have HC := Lib.hid hcell
  obtain ⟨N, hn⟩ : ∃ N, L.length = N := ⟨_, rfl⟩
  have hend := stK_end L
  rw [hn] at hlc hL hend ⊢
  have HEND := Lib.hid hend
  have HN := Lib.hid hn
  obtain ⟨i0, hi, hz0, hz1, hz2⟩ := info_parts infoI
  clear hcell hgo hrp hn hend
  go_enter Tryz.func53, Tryz.ntmps53
  go_wp2_with fail
  go_loopw [3, 4, 5] (fun ov sv k wr => ∃ (j : Nat) (s : Int), j ≤ N ∧ k = .int .i64 (j : Int) ∧ sv = .int .i64 s ∧ StS (stK L j) s ∧ Hid (RcW w ov (Tb.flat (stK L j)) wr)) (fun _ _ k _ => N - (intOf k).toNat)
  case atStart => exact ⟨0, -1, Nat.zero_le _, rfl, rfl, rfl, Lib.hid ⟨⟨rfl, Or.inl ⟨rfl, rfl⟩⟩, Below.refl _ _⟩⟩
  case round =>
    obtain ⟨j, s, hj, rfl, rfl, hst, HW⟩ := hrel
    by_cases hlt : j < N
    · have hjl : j < L.length := by rw [HN.out]; exact hlt
      obtain ⟨hp, hcj, hg⟩ := HC.out j hjl
      have hc2 := (HW.out.2.cell (p := ⟨g, o + j, none⟩) hg).trans hcj
      have hsucc := stK_succ hjl
      have hlen := stK_len L j (by omega)
      have hinv := stK_inv L j (by omega)
      have ji : (j : Int) < (N : Int) := by omega
      have j0 : (0 : Int) ≤ (j : Int) := by omega
      have HS := Lib.hid hsucc
      have HP := Lib.hid hp
      subst hp
      clear hcj hsucc
      generalize L[j] = r at *
      generalize stK L j = st at *
      have hcb := Tb.class_bd r
      have c1 := fun w => rclass_any r w
      obtain ⟨⟨pv, cv, rfl⟩, -⟩ := row_shape HW.out.1
      obtain ⟨pre, _ | ⟨a, ms⟩⟩ := st
      · obtain rfl : s = -1 := hst
        have HPU : Hid (Tb.stepC (pre, none) r = Tb.pushC (pre, none) r) := Lib.hid rfl
        have HPW := Lib.hid (StS.push (st := (pre, none)) (s := -1) rfl r)
        have HFL := Lib.hid (Tb.flat_push (pre, none) r)
        have hsz := HW.out.2.size
        clear hinv
        by_cases hc0 : Tb.classI r = 0
        · rw [if_pos hc0] at HPW
          rw [hc0] at c1
          clear hc0
          go_wp2_with (first | (go_at_call 73; refine (c1 _).mono ?_; rintro e' w' ⟨rfl, rfl⟩) | (at_builtin; refine wpList_append_own _ rfl _ _ 49 rfl w.heap.size 3 i0 (.int .i64 0) 1 8 Tryz.underlying49 hi hz0 hz1 hz2 rfl (by decide) (.slice pv (Tb.flat (pre, none)).length cv) (Tb.flat (pre, none)).length ((Tb.flat (pre, none)).map encI) rfl (row_kept HW.out.1 (World.grownBy_alloc _ _ none) (fun r e => by cases e)) ⟨wr.heap.size, 0, none⟩ 1 1 [.int .i64 r] rfl rfl (cell_one_new _ _ _) (by simp [Value.oneCell']) (by unfold maxLen; omega) (by omega) (by simp; omega) ?_; intro v' w2 hown' hgrow hnil; clear hnil; obtain ⟨⟨pv2, cv2, rfl⟩, -⟩ := row_shape hown'; have HW2 := Lib.hid (RcW.app HW.out hgrow hown'); clear hown' hgrow))
          go_roundw
          case rel => exact ⟨j + 1, ((Tb.flat (pre, none)).length : Int), by omega, by go_num, by go_num, by rw [HS.out, HPU.out]; exact HPW.out, by rw [HS.out, HPU.out, HFL.out]; exact HW2⟩
          case measure => simp [intOf]; omega
        · have hc1 : (Tb.classI r == 0) = false := by simpa using hc0
          rw [if_neg hc0] at HPW
          generalize Tb.classI r = cc at *
          go_wp2_with (first | (go_at_call 73; refine (c1 _).mono ?_; rintro e' w' ⟨rfl, rfl⟩) | (at_builtin; refine wpList_append_own _ rfl _ _ 49 rfl w.heap.size 3 i0 (.int .i64 0) 1 8 Tryz.underlying49 hi hz0 hz1 hz2 rfl (by decide) (.slice pv (Tb.flat (pre, none)).length cv) (Tb.flat (pre, none)).length ((Tb.flat (pre, none)).map encI) rfl (row_kept HW.out.1 (World.grownBy_alloc _ _ none) (fun r e => by cases e)) ⟨wr.heap.size, 0, none⟩ 1 1 [.int .i64 r] rfl rfl (cell_one_new _ _ _) (by simp [Value.oneCell']) (by unfold maxLen; omega) (by omega) (by simp; omega) ?_; intro v' w2 hown' hgrow hnil; clear hnil; obtain ⟨⟨pv2, cv2, rfl⟩, -⟩ := row_shape hown'; have HW2 := Lib.hid (RcW.app HW.out hgrow hown'); clear hown' hgrow))
          go_roundw
          case rel => exact ⟨j + 1, -1, by omega, by go_num, by go_num, by rw [HS.out, HPU.out]; exact HPW.out, by rw [HS.out, HPU.out, HFL.out]; exact HW2⟩
          case measure => simp [intOf]; omega
      · obtain rfl : s = (pre.length : Int) := hst
        have hfe : Tb.flat (pre, some (a, ms)) = pre ++ a :: ms := rfl
        have hfl1 : (Tb.flat (pre, some (a, ms))).length = pre.length + (ms.length + 1) := by rw [hfe]; simp
        obtain ⟨g1, cp1, hv1⟩ := HW.out.1.slice_of (by rw [hfl1]; omega)
        have hpv : pv = some ⟨g1, 0, none⟩ := by injection hv1
        subst hpv
        clear hv1
        obtain ⟨hsp, hgl, hgb, -⟩ := HW.out.1.spot
        have hat0 : (Tb.flat (pre, some (a, ms)))[pre.length]? = some a := by rw [hfe, List.getElem?_append_right (Nat.le_refl _), Nat.sub_self]; rfl
        have hca := (hsp _ _ hat0).1
        have hms : Hid (∀ t (h : t < ms.length), wr.cell? ⟨g1, pre.length + 1 + t, none⟩ = some (.int .i64 ms[t])) := Lib.hid fun t h => (hsp (pre.length + 1 + t) ms[t] (by rw [hfe, List.getElem?_append_right (by omega), show pre.length + 1 + t - pre.length = t + 1 by omega, List.getElem?_cons_succ]; exact List.getElem?_eq_getElem h)).1
        have hbd : (pre.length : Int) < ((Tb.flat (pre, some (a, ms))).length : Int) := by omega
        have hbd0 : (0 : Int) ≤ (pre.length : Int) := by omega
        have hnz : ¬ (pre.length : Int) < 0 := by omega
        have hblk := blk_hi (r := r) hinv.2
        have HBLK := Lib.hid hblk
        have HAT := Lib.hid hat0
        have hsz := HW.out.2.size
        have HFLN := Lib.hid hfl1
        have hwp : IntKind.i64.wrap ((pre.length : Int) + 1) = (pre.length : Int) + 1 := by rw [IntKind.wrap_i64]; omega
        clear hsp hfe hinv hblk hat0 hgl
        obtain ⟨n1, hn1⟩ : ∃ n1, (Tb.flat (pre, some (a, ms))).length = n1 := ⟨_, rfl⟩
        have HN1 := Lib.hid hn1
        have hn1' : Hid (n1 = pre.length + (ms.length + 1)) := Lib.hid (by rw [← hn1]; exact hfl1)
        rw [hn1] at hbd hlen ⊢
        clear hn1 hfl1
        go_wp2_with (go_at_call 73; (first | (with_reducible refine (c1 _).mono ?_)); rintro e' w' ⟨rfl, rfl⟩)
        go_loop [8, 9] (fun bv k => ∃ t m : Nat, t ≤ ms.length ∧ Hid (m = pre.length + 1 + t) ∧ m ≤ n1 ∧ k = .int .i64 (m : Int) ∧ bv = .bool (blkB (Tb.classI r) (ms.take t))) (fun _ k => n1 - (intOf k).toNat)
        case atStart => exact ⟨0, pre.length + 1, Nat.zero_le _, Lib.hid rfl, by have := hn1'.out; omega, by go_num, rfl⟩
        case round =>
          obtain ⟨t, m, ht, hm, hmn, rfl, rfl⟩ := hrel
          by_cases htl : t < ms.length
          · have hcm := hms.out t htl
            rw [← hm.out] at hcm
            have HBT := Lib.hid (blk_take (c := Tb.classI r) htl)
            have c5 := fun w => rclass_any ms[t] w
            have mi : (m : Int) < (n1 : Int) := by have h1 := hm.out; have h2 := hn1'.out; omega
            have m0 : (0 : Int) ≤ (m : Int) := by omega
            have mw : IntKind.i64.wrap ((m : Int) + 1) = (m : Int) + 1 := by rw [IntKind.wrap_i64]; omega
            generalize ms[t] = y at *
            generalize hbb : blkB (Tb.classI r) (ms.take t) = bb at *
            clear hbb
            by_cases hx0 : Tb.classI y = 0
            · have HN2 : Hid (blkB (Tb.classI r) (ms.take (t + 1)) = true) := Lib.hid (by rw [HBT.out, hx0]; simp)
              rw [hx0] at c5
              clear hx0
              go_wp2_with (go_at_call 73; (with_reducible refine (c5 _).mono ?_); rintro e' w' ⟨rfl, rfl⟩)
              go_round
              case rel => exact ⟨t + 1, m + 1, by omega, Lib.hid (by rw [hm.out]; omega), by omega, by go_num, by rw [HN2.out]⟩
              case measure => simp [intOf]; omega
            · have hx1 : (Tb.classI y == 0) = false := by simpa using hx0
              by_cases hle : Tb.classI r ≤ Tb.classI y
              · have HN2 : Hid (blkB (Tb.classI r) (ms.take (t + 1)) = true) := Lib.hid (by rw [HBT.out, decide_eq_true hle]; simp)
                generalize Tb.classI y = cy at *
                generalize Tb.classI r = cc at *
                go_wp2_with (go_at_call 73; (with_reducible refine (c5 _).mono ?_); rintro e' w' ⟨rfl, rfl⟩)
                go_round
                case rel => exact ⟨t + 1, m + 1, by omega, Lib.hid (by rw [hm.out]; omega), by omega, by go_num, by rw [HN2.out]⟩
                case measure => simp [intOf]; omega
              · have HN2 : Hid (blkB (Tb.classI r) (ms.take (t + 1)) = bb) := Lib.hid (by rw [HBT.out, decide_eq_false hle, decide_eq_false hx0]; simp)
                generalize Tb.classI y = cy at *
                generalize Tb.classI r = cc at *
                go_wp2_with (go_at_call 73; (with_reducible refine (c5 _).mono ?_); rintro e' w' ⟨rfl, rfl⟩)
                go_round
                case rel => exact ⟨t + 1, m + 1, by omega, Lib.hid (by rw [hm.out]; omega), by omega, by go_num, by rw [HN2.out]⟩
                case measure => simp [intOf]; omega
          · obtain rfl : t = ms.length := by omega
            obtain rfl : m = n1 := by have h1 := hm.out; have h2 := hn1'.out; omega
            have htk : ms.take ms.length = ms := List.take_length
            rw [htk, HBLK.out]
            have mm : ¬ (m : Int) < (m : Int) := by omega
            clear htk hms HBLK
            by_cases hlow : Tb.hiOf ms < Tb.classI r
            · have hdd : decide (Tb.classI r ≤ Tb.hiOf ms) = false := decide_eq_false (by omega)
              have htry : Tb.tryC a ms r = Tb.wholeF a r := by unfold Tb.tryC; rw [if_pos hlow]
              rw [hdd]
              have c3 := rwhole_any a r wr
              unfold WholePost at c3
              clear hdd
              cases ho : Tb.wholeF a r with
              | some x =>
                rw [ho] at c3 htry
                unfold wholeV at c3
                have HPU := Lib.hid (try_yes htry pre)
                have HSE : Hid ((Tb.flat (pre, some (a, ms))).set pre.length x = Tb.flat (pre, some (x, ms))) := Lib.hid (by show (pre ++ a :: ms).set pre.length x = pre ++ x :: ms; rw [List.set_append_right _ _ (Nat.le_refl _), Nat.sub_self]; rfl)
                clear htry ho hlow
                generalize Tb.classI r = cc at *
                go_wp2_with (go_at_call 74; refine c3.mono ?_; rintro e w1 ⟨rfl, hb1⟩; have HW1 := Lib.hid (HW.out.below hb1); have hcf := HW1.out.1.spot.1 _ _ HAT.out; have hca1 := hcf.1; have hfa1 := hcf.2; clear hb1 hcf)
                go_roundw
                case rel => exact ⟨j + 1, (pre.length : Int), by omega, by go_num, by go_num, by rw [HS.out, HPU.out]; exact rfl, by rw [HS.out, HPU.out]; exact Lib.hid (by have hq := HW1.out; rw [HN1.out] at hq; exact hq.put HSE.out)⟩
                case measure => simp [intOf]; omega
              | none =>
                rw [ho] at c3 htry
                unfold wholeV at c3
                have HPU := Lib.hid (try_no htry pre)
                clear htry ho hlow
                have HPW := Lib.hid (StS.push (st := (pre, some (a, ms))) (s := (pre.length : Int)) rfl r)
                have HFL := Lib.hid (Tb.flat_push (pre, some (a, ms)) r)
                by_cases hc0 : Tb.classI r = 0
                · have hc1 : (Tb.classI r == 0) = true := by simpa using hc0
                  rw [if_pos hc0, HN1.out] at HPW
                  generalize Tb.classI r = cc at *
                  go_wp2_with (first | (go_at_call 74; refine c3.mono ?_; rintro e w1 ⟨rfl, hb1⟩; have HW1 := Lib.hid (HW.out.below hb1); have hsz1 := HW1.out.2.size; clear hb1) | (at_builtin; refine wpList_append_own _ rfl _ _ 49 rfl w.heap.size 3 i0 (.int .i64 0) 1 8 Tryz.underlying49 hi hz0 hz1 hz2 rfl (by decide) (.slice (some ⟨g1, 0, none⟩) m cv) m ((Tb.flat (pre, some (a, ms))).map encI) rfl (by have hq := row_kept HW1.out.1 (World.grownBy_alloc _ (.cells #[.int .i64 r] 3) none) (fun r e => by cases e); rw [HN1.out] at hq; exact hq) ⟨w1.heap.size, 0, none⟩ 1 1 [.int .i64 r] rfl rfl (cell_one_new _ _ _) (by simp [Value.oneCell']) (by unfold maxLen; omega) (by omega) (by simp; omega) ?_; intro v' w2 hown' hgrow hnil; clear hnil; obtain ⟨⟨pv2, cv2, rfl⟩, -⟩ := row_shape hown'; have HW2 := Lib.hid (RcW.app HW1.out hgrow (by rw [HN1.out]; exact hown')); clear hown' hgrow))
                  go_roundw
                  case rel => exact ⟨j + 1, (m : Int), by omega, by go_num, by go_num, by rw [HS.out, HPU.out]; exact HPW.out, by rw [HS.out, HPU.out, HFL.out]; exact HW2⟩
                  case measure => simp [intOf]; omega
                · have hc1 : (Tb.classI r == 0) = false := by simpa using hc0
                  rw [if_neg hc0] at HPW
                  generalize Tb.classI r = cc at *
                  go_wp2_with (first | (go_at_call 74; refine c3.mono ?_; rintro e w1 ⟨rfl, hb1⟩; have HW1 := Lib.hid (HW.out.below hb1); have hsz1 := HW1.out.2.size; clear hb1) | (at_builtin; refine wpList_append_own _ rfl _ _ 49 rfl w.heap.size 3 i0 (.int .i64 0) 1 8 Tryz.underlying49 hi hz0 hz1 hz2 rfl (by decide) (.slice (some ⟨g1, 0, none⟩) m cv) m ((Tb.flat (pre, some (a, ms))).map encI) rfl (by have hq := row_kept HW1.out.1 (World.grownBy_alloc _ (.cells #[.int .i64 r] 3) none) (fun r e => by cases e); rw [HN1.out] at hq; exact hq) ⟨w1.heap.size, 0, none⟩ 1 1 [.int .i64 r] rfl rfl (cell_one_new _ _ _) (by simp [Value.oneCell']) (by unfold maxLen; omega) (by omega) (by simp; omega) ?_; intro v' w2 hown' hgrow hnil; clear hnil; obtain ⟨⟨pv2, cv2, rfl⟩, -⟩ := row_shape hown'; have HW2 := Lib.hid (RcW.app HW1.out hgrow (by rw [HN1.out]; exact hown')); clear hown' hgrow))
                  go_roundw
                  case rel => exact ⟨j + 1, (pre.length : Int), by omega, by go_num, by go_num, by rw [HS.out, HPU.out]; exact HPW.out, by rw [HS.out, HPU.out, HFL.out]; exact HW2⟩
                  case measure => simp [intOf]; omega
            · have hdd : decide (Tb.classI r ≤ Tb.hiOf ms) = true := decide_eq_true (by omega)
              have htry : Tb.tryC a ms r = none := by unfold Tb.tryC; rw [if_neg hlow]
              rw [hdd]
              have HPU := Lib.hid (try_no htry pre)
              clear hdd htry hlow
              have HPW := Lib.hid (StS.push (st := (pre, some (a, ms))) (s := (pre.length : Int)) rfl r)
              have HFL := Lib.hid (Tb.flat_push (pre, some (a, ms)) r)
              by_cases hc0 : Tb.classI r = 0
              · have hc1 : (Tb.classI r == 0) = true := by simpa using hc0
                rw [if_pos hc0, HN1.out] at HPW
                generalize Tb.classI r = cc at *
                go_wp2_with (first | (at_builtin; refine wpList_append_own _ rfl _ _ 49 rfl w.heap.size 3 i0 (.int .i64 0) 1 8 Tryz.underlying49 hi hz0 hz1 hz2 rfl (by decide) (.slice (some ⟨g1, 0, none⟩) m cv) m ((Tb.flat (pre, some (a, ms))).map encI) rfl (by have hq := row_kept HW.out.1 (World.grownBy_alloc _ (.cells #[.int .i64 r] 3) none) (fun r e => by cases e); rw [HN1.out] at hq; exact hq) ⟨wr.heap.size, 0, none⟩ 1 1 [.int .i64 r] rfl rfl (cell_one_new _ _ _) (by simp [Value.oneCell']) (by unfold maxLen; omega) (by omega) (by simp; omega) ?_; intro v' w2 hown' hgrow hnil; clear hnil; obtain ⟨⟨pv2, cv2, rfl⟩, -⟩ := row_shape hown'; have HW2 := Lib.hid (RcW.app HW.out hgrow (by rw [HN1.out]; exact hown')); clear hown' hgrow))
                go_roundw
                case rel => exact ⟨j + 1, (m : Int), by omega, by go_num, by go_num, by rw [HS.out, HPU.out]; exact HPW.out, by rw [HS.out, HPU.out, HFL.out]; exact HW2⟩
                case measure => simp [intOf]; omega
              · have hc1 : (Tb.classI r == 0) = false := by simpa using hc0
                rw [if_neg hc0] at HPW
                generalize Tb.classI r = cc at *
                go_wp2_with (first | (at_builtin; refine wpList_append_own _ rfl _ _ 49 rfl w.heap.size 3 i0 (.int .i64 0) 1 8 Tryz.underlying49 hi hz0 hz1 hz2 rfl (by decide) (.slice (some ⟨g1, 0, none⟩) m cv) m ((Tb.flat (pre, some (a, ms))).map encI) rfl (by have hq := row_kept HW.out.1 (World.grownBy_alloc _ (.cells #[.int .i64 r] 3) none) (fun r e => by cases e); rw [HN1.out] at hq; exact hq) ⟨wr.heap.size, 0, none⟩ 1 1 [.int .i64 r] rfl rfl (cell_one_new _ _ _) (by simp [Value.oneCell']) (by unfold maxLen; omega) (by omega) (by simp; omega) ?_; intro v' w2 hown' hgrow hnil; clear hnil; obtain ⟨⟨pv2, cv2, rfl⟩, -⟩ := row_shape hown'; have HW2 := Lib.hid (RcW.app HW.out hgrow (by rw [HN1.out]; exact hown')); clear hown' hgrow))
                go_roundw
                case rel => exact ⟨j + 1, (pre.length : Int), by omega, by go_num, by go_num, by rw [HS.out, HPU.out]; exact HPW.out, by rw [HS.out, HPU.out, HFL.out]; exact HW2⟩
                case measure => simp [intOf]; omega
    · obtain rfl : j = N := by omega
      obtain ⟨⟨pv, cv, rfl⟩, -⟩ := row_shape HW.out.1
      clear HC
      rw [HEND.out] at HW
      have hb := HW.out.2
      have ho := HW.out.1
      rw [HEND.out]
      go_wp2_with fail
      go_ret
      exact ⟨_, rfl, ho, hb⟩
end Go.Proofs.YthepfbkbfkhcaaaGreat
namespace Go.Proofs.YthepfbkbfkhcaaaGreat
open Go.RowKit Go.Shelf
open Go
set_option linter.unusedVariables false
set_option maxRecDepth 100000
set_option maxHeartbeats 4000000 in
theorem rdecomposed_any (s : ByteArray) (hg : GoodB s) (w : World) : Calls Tryz.prog 40 #[.string s] w (StrPost (ndecB s) w) := by
  have C := fun w => rscalars_any s hg.1 w
  have hD := good_dec hg
  have hs := hg.1
  unfold ScPost at C
  cases hv : Ut.scal (Ut.bsL s) with
  | none =>
    rw [ndec_none hv]
    rw [hv] at C
    clear hv hD hg
    go_enter Tryz.func40, Tryz.ntmps40
    go_wp2_with (go_at_call 44; refine (C _).mono ?_; rintro e w1 ⟨rfl, hb1⟩)
    go_ret
    exact ⟨rfl, hb1⟩
  | some L =>
    rw [ndec_some hv]
    rw [hv] at C
    have hlen := Ut.scal_len hv
    rw [Ut.bsL_len] at hlen
    obtain ⟨hdd, hda, hdl⟩ := hD L hv
    have HDA := Lib.hid hda
    have HDD := Lib.hid hdd
    have HDL := Lib.hid hdl
    have HLEN : Hid (L.length ≤ 100000) := Lib.hid (by omega)
    clear hv hD hg hda hdd hdl hlen
    go_enter Tryz.func40, Tryz.ntmps40
    go_wp2_with (first | (go_at_call 44; refine (C _).mono ?_; rintro e w1 ⟨⟨v1, rfl, ho1⟩, hb1⟩; obtain ⟨p1, cc1, rfl, hr1⟩ := nown_rowp ho1; have HR1 := Lib.hid hr1; have HB1 := Lib.hid hb1; clear ho1 hr1 hb1) | (go_at_call 55; refine (rdec_any p1 cc1 L w1 (by have := HLEN.out; omega) HR1.out).mono ?_; rintro e w2 ⟨v2, rfl, ho2, hb2⟩; obtain ⟨p2, cc2, rfl, hr2⟩ := nown_rowp ho2; have HR2 := Lib.hid hr2; have HB2 := Lib.hid hb2; clear ho2 hr2 hb2) | (go_at_call 54; refine (rsort_any p2 cc2 (Tb.dec L) w2 HDD.out HR2.out).mono ?_; rintro e w3 ⟨v3, rfl, ho3, hb3⟩; obtain ⟨p3, cc3, rfl, hr3⟩ := nown_rowp ho3; have HR3 := Lib.hid hr3; have HB3 := Lib.hid hb3; clear ho3 hr3 hb3) | (go_at_call 52; refine (rtext_any p3 cc3 (Tb.dcmp L) w3 HR3.out HDL.out HDA.out).mono ?_; rintro e w4 ⟨rfl, hb4⟩; have HB4 := Lib.hid hb4; clear hb4))
    go_ret
    exact ⟨rfl, bl (bl (bl HB1.out HB2.out) HB3.out) HB4.out⟩
set_option maxHeartbeats 4000000 in
theorem rcomposed_any (s : ByteArray) (hg : GoodB s) (w : World) : Calls Tryz.prog 39 #[.string s] w (StrPost (ncompB s) w) := by
  have C := fun w => rscalars_any s hg.1 w
  have hD := good_comp hg
  have hs := hg.1
  unfold ScPost at C
  cases hv : Ut.scal (Ut.bsL s) with
  | none =>
    rw [ncomp_none hv]
    rw [hv] at C
    clear hv hD hg
    go_enter Tryz.func39, Tryz.ntmps39
    go_wp2_with (go_at_call 44; refine (C _).mono ?_; rintro e w1 ⟨rfl, hb1⟩)
    go_ret
    exact ⟨rfl, hb1⟩
  | some L =>
    rw [ncomp_some hv]
    rw [hv] at C
    have hlen := Ut.scal_len hv
    rw [Ut.bsL_len] at hlen
    obtain ⟨hda, hdl⟩ := hD L hv
    have HDA := Lib.hid hda
    have HDL := Lib.hid hdl
    have HLEN : Hid (L.length ≤ 100000) := Lib.hid (by omega)
    clear hv hD hg hda hdl hlen
    go_enter Tryz.func39, Tryz.ntmps39
    go_wp2_with (first | (go_at_call 44; refine (C _).mono ?_; rintro e w1 ⟨⟨v1, rfl, ho1⟩, hb1⟩; obtain ⟨p1, cc1, rfl, hr1⟩ := nown_rowp ho1; have HR1 := Lib.hid hr1; have HB1 := Lib.hid hb1; clear ho1 hr1 hb1) | (go_at_call 53; refine (rcompose_any p1 cc1 L w1 HLEN.out HR1.out).mono ?_; rintro e w2 ⟨v2, rfl, ho2, hb2⟩; obtain ⟨p2, cc2, rfl, hr2⟩ := nown_rowp ho2; have HR2 := Lib.hid hr2; have HB2 := Lib.hid hb2; clear ho2 hr2 hb2) | (go_at_call 52; refine (rtext_any p2 cc2 (Tb.compL L) w2 HR2.out HDL.out HDA.out).mono ?_; rintro e w4 ⟨rfl, hb4⟩; have HB4 := Lib.hid hb4; clear hb4))
    go_ret
    exact ⟨rfl, bl (bl HB1.out HB2.out) HB4.out⟩
theorem rnfc_any (s : ByteArray) (hg : GoodB s) (w : World) : Calls Tryz.prog 29 #[.string s] w (StrPost (nnfcB s) w) := by
  have c1 := fun w => rdecomposed_any s hg w
  have c2 := fun w => rcomposed_any (ndecB s) (good_ndec hg) w
  have e : ncompB (ndecB s) = nnfcB s := rfl
  rw [e] at c2
  generalize ndecB s = d at *
  generalize nnfcB s = n at *
  clear e hg
  go_enter Tryz.func29, Tryz.ntmps29
  go_wp2_with (first | (go_at_call 40; refine (c1 _).mono ?_; rintro e w1 ⟨rfl, hb1⟩) | (go_at_call 39; refine (c2 _).mono ?_; rintro e w2 ⟨rfl, hb2⟩))
  go_ret
  exact ⟨rfl, bl hb1 hb2⟩
end Go.Proofs.YthepfbkbfkhcaaaGreat
