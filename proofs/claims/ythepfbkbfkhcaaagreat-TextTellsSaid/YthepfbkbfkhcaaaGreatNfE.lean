/- The walk of compose: scalars composed. -/
import Derived.Test.YthepfbkbfkhcaaaGreatNfD
namespace Go.Proofs.YthepfbkbfkhcaaaGreat
open Go.RowKit Go.Shelf
open Go
set_option linter.unusedVariables false
set_option maxRecDepth 100000
def CmW (w : World) (v : Value) (F : List Int) (j : Nat) (W : World) : Prop := OwnL W (w.heap.size + 2) v F ∧ (∃ f, MapF Tryz.prog 71 okI W w.heap.size j f ∧ KnownF f) ∧ W.cell? ⟨w.heap.size + 1, 0, none⟩ = some (.map (some w.heap.size)) ∧ Below w.heap.size w W ∧ w.heap.size + 2 ≤ W.heap.size
theorem own_ge {W : World} {base : Nat} {v : Value} {L : List Int} (h : OwnL W base v L) : ∀ q, v.ownBlock = some q → base ≤ q ∧ q < W.heap.size := by
  intro q e
  rcases h.2 with ⟨hv, _⟩ | ⟨g', cap', cur, hv, hb, hg, _⟩
  · rw [hv] at e; cases e
  · rw [hv] at e; injection e with e; subst e; exact ⟨hb, (Array.getElem?_eq_some_iff.1 hg).1⟩
theorem CmW.of {w W W' : World} {v : Value} {F : List Int} {j : Nat} {f' : Value → Option Value} (h : CmW w v F j W) (hg : W.grownBy W' (some w.heap.size)) (hm : MapF Tryz.prog 71 okI W' w.heap.size (j + 1) f') (hk : KnownF f') : CmW w v F (j + 1) W' := by
  obtain ⟨h1, h2, h3, h4, h5⟩ := h
  refine ⟨h1.kept hg (fun r e => Or.inl (by cases e; omega)), ⟨f', hm, hk⟩, (gb_cell hg (a := ⟨w.heap.size + 1, 0, none⟩) (by show w.heap.size + 1 < W.heap.size; omega) (fun e => by injection e with e; simp only at e; omega)).trans h3, h4.grown hg (by omega) (fun r e => by cases e; exact Nat.le_refl _), Nat.le_trans h5 hg.size⟩
theorem CmW.more {w W : World} {v : Value} {F : List Int} {j : Nat} (h : CmW w v F j W) : CmW w v F (j + 1) W := by
  obtain ⟨h1, ⟨f, h2, h2'⟩, h3, h4, h5⟩ := h
  exact ⟨h1, ⟨f, h2.mono (by omega), h2'⟩, h3, h4, h5⟩
theorem CmW.row {w W W' : World} {v v' : Value} {F F' : List Int} {j : Nat} {row : Option Nat} (h : CmW w v F j W) (hg : W.grownBy W' row) (hr : ∀ q, row = some q → w.heap.size + 2 ≤ q) (ho : OwnL W' (w.heap.size + 2) v' F') : CmW w v' F' j W' := by
  obtain ⟨h1, ⟨f, h2, h2'⟩, h3, h4, h5⟩ := h
  refine ⟨ho, ⟨f, h2.kept hg (fun e => by have := hr _ e.symm; omega), h2'⟩, (gb_cell hg (a := ⟨w.heap.size + 1, 0, none⟩) (by show w.heap.size + 1 < W.heap.size; omega) (fun e => by have := hr _ e.symm; simp only at this; omega)).trans h3, h4.grown hg (by omega) (fun r e => by have := hr _ e; omega), Nat.le_trans h5 hg.size⟩
theorem CmW.app {w W W2 : World} {v v' : Value} {F : List Int} {j : Nat} {r : Int} (h : CmW w v F j W) (hg : (W.alloc (.cells #[.int .i64 r] 3)).grownBy W2 v.ownBlock) (ho : W2.ownsRow (w.heap.size + 2) 3 1 v' (F.length + 1) (F.map encI ++ [.int .i64 r])) : CmW w v' (F ++ [r]) j W2 := by
  have h1 := own_ge h.1
  have e1 : CmW w v F j (W.alloc (.cells #[.int .i64 r] 3)) := h.row (World.grownBy_alloc W _ none) (fun q e => by cases e) (h.1.kept (World.grownBy_alloc W _ none) (fun q e => by cases e))
  refine e1.row hg (fun q e => (h1 q e).1) ?_
  unfold OwnL
  rw [List.length_append, List.map_append]
  exact ho
/-- The starter's place and the highest class behind it. -/
def StR (st : Tb.CSt) (s h : Int) : Prop := match st with | (pre, none) => s = -1 ∧ -1 ≤ h ∧ h ≤ 1000 | (pre, some (a, ms)) => s = (pre.length : Int) ∧ h = Tb.hiOf ms
theorem StR.push {st : Tb.CSt} {s h : Int} (hs : StR st s h) (r : Int) : StR (Tb.pushC st r) (if Tb.classI r = 0 then ((Tb.flat st).length : Int) else s) (if Tb.classI r = 0 then -1 else max h (Tb.classI r)) := by
  have hb := Tb.class_bd r
  obtain ⟨pre, _ | ⟨a, ms⟩⟩ := st
  · obtain ⟨h1, h2, h3⟩ := hs
    unfold Tb.pushC
    by_cases hc : Tb.classI r = 0
    · simp only [hc, if_true]
      exact ⟨rfl, rfl⟩
    · simp only [hc, if_false]
      exact ⟨h1, by omega, by omega⟩
  · obtain ⟨h1, h2⟩ := hs
    unfold Tb.pushC
    by_cases hc : Tb.classI r = 0
    · simp only [hc, if_true]
      exact ⟨rfl, rfl⟩
    · simp only [hc, if_false]
      refine ⟨h1, ?_⟩
      rw [h2, Tb.hi_snoc]
def stK (L : List Int) (j : Nat) : Tb.CSt := (L.take j).foldl Tb.stepC ([], none)
theorem stK_succ {L : List Int} {j : Nat} (h : j < L.length) : stK L (j + 1) = Tb.stepC (stK L j) L[j] := by
  unfold stK
  rw [List.take_succ_eq_append_getElem h, List.foldl_append]
  rfl
theorem stK_end (L : List Int) : Tb.flat (stK L L.length) = Tb.compL L := by unfold stK Tb.compL; rw [List.take_length]
theorem cflat_len {st : Tb.CSt} {r : Int} : (Tb.flat (Tb.stepC st r)).length ≤ (Tb.flat st).length + 1 := by
  obtain ⟨pre, _ | ⟨a, ms⟩⟩ := st
  · show (Tb.flat (Tb.pushC (pre, none) r)).length ≤ _
    rw [Tb.flat_push]; simp
  · show (Tb.flat (match Tb.tryC a ms r with | some w => (pre, some (w, ms)) | none => Tb.pushC (pre, some (a, ms)) r)).length ≤ _
    cases Tb.tryC a ms r with
    | some x => simp [Tb.flat]
    | none => rw [Tb.flat_push]; simp
theorem stK_len (L : List Int) : ∀ j, j ≤ L.length → (Tb.flat (stK L j)).length ≤ j
  | 0, _ => by simp [stK, Tb.flat]
  | j + 1, h => by
    rw [stK_succ (by omega)]
    have := stK_len L j (by omega)
    have := cflat_len (st := stK L j) (r := L[j])
    omega
theorem step_64 {st : Tb.CSt} {r : Int} (h : All64 (Tb.flat st)) (hr : Is64 r) : All64 (Tb.flat (Tb.stepC st r)) := by
  have push : ∀ st : Tb.CSt, All64 (Tb.flat st) → All64 (Tb.flat (Tb.pushC st r)) := fun st h x hx => by
    rw [Tb.flat_push] at hx
    rcases List.mem_append.1 hx with hx | hx
    · exact h x hx
    · rw [List.mem_singleton.1 hx]; exact hr
  obtain ⟨pre, _ | ⟨a, ms⟩⟩ := st
  · exact push _ h
  · show All64 (Tb.flat (match Tb.tryC a ms r with | some w => (pre, some (w, ms)) | none => Tb.pushC (pre, some (a, ms)) r))
    cases ht : Tb.tryC a ms r with
    | none => exact push _ h
    | some x =>
      intro y hy
      have hw : Tb.wholeF a r = some x := by
        unfold Tb.tryC at ht
        split at ht
        · exact ht
        · cases ht
      have := whole_small hw
      rcases List.mem_append.1 hy with hy | hy
      · exact h y (List.mem_append_left _ hy)
      · rcases List.mem_cons.1 hy with hy | hy
        · rw [hy]; exact ⟨by omega, by omega⟩
        · exact h y (List.mem_append_right _ (List.mem_cons_of_mem _ hy))
theorem stK_64 {L : List Int} (h : All64 L) : ∀ j, j ≤ L.length → All64 (Tb.flat (stK L j))
  | 0, _ => fun x hx => by simp [stK, Tb.flat] at hx
  | j + 1, hj => by
    rw [stK_succ (by omega)]
    exact step_64 (stK_64 h j (by omega)) (h _ (List.getElem_mem _))
theorem set_row {w W : World} {g1 n cv j i : Nat} {F F' : List Int} {x : Int} (hF : F.set i x = F') (h : CmW w (.slice (some ⟨g1, 0, none⟩) n cv) F j W) : CmW w (.slice (some ⟨g1, 0, none⟩) n cv) F' j (W.setCell ⟨g1, i, none⟩ (.int .i64 x)) := by
  have h1 := h.1.set i x
  rw [hF] at h1
  exact h.row (ogb_set W ⟨g1, i, none⟩ (.int .i64 x)) (fun q e => by cases e; exact (own_ge h.1 g1 rfl).1) h1
set_option maxHeartbeats 16000000 in
theorem compose_any (p : Option Addr) (c : Nat) (L : List Int) (w : World) (hL : L.length ≤ 100000) (h64 : All64 L) (hrp : RowP w p c L) :
    Calls Tryz.prog 48 #[.slice p L.length c] w (OutPost (Tb.compL L) w) := by
  have hmm := @run_makeMap Tryz.prog
  have hlc := hrp.1
  obtain ⟨g, o, hgo⟩ := rowP_at hrp 0
  have hcell : ∀ j (h : j < L.length), p = some ⟨g, o, none⟩ ∧ w.cell? ⟨g, o + j, none⟩ = some (.int .i64 L[j]) ∧ g < w.heap.size := fun j h => by
    rcases hgo with ⟨e, _⟩ | ⟨e, hI, hl⟩
    · subst e; exact absurd h (Nat.not_lt_zero _)
    · exact ⟨e, hI.2 j _ (List.getElem?_eq_getElem h), hl⟩
  have HC := Lib.hid hcell
  have H64 := Lib.hid h64
  obtain ⟨N, hn⟩ : ∃ N, L.length = N := ⟨_, rfl⟩
  have hend := stK_end L
  rw [hn] at hlc hL hend ⊢
  have HEND := Lib.hid hend
  have HN := Lib.hid hn
  obtain ⟨i0, hi, hz0, hz1, hz2⟩ := info_parts infoI
  have hmade := MapF.made Tryz.prog 71 okI w
  clear hcell hgo hrp h64 hn hend
  go_enter Tryz.func48, Tryz.ntmps48
  go_wp2_with fail
  have hC0 : CmW w (.slice none 0 0) [] 0 ((w.alloc (.map #[] 0)).alloc (.cells #[.map (some w.heap.size)] 69)) := by
    refine ⟨⟨rfl, Or.inl ⟨rfl, rfl⟩⟩, ⟨_, hmade.kept (World.grownBy_alloc _ _ none) (fun e => by cases e), known_none⟩, ?_, ((Below.refl _ w).alloc (Nat.le_refl _) _).alloc (by simp) _, by simp⟩
    simp
  have HC0 := Lib.hid hC0
  clear hC0 hmade
  go_loopw [2, 5, 6, 16] (fun ov sv hv k wr => ∃ (j : Nat) (s h : Int), j ≤ N ∧ k = .int .i64 (j : Int) ∧ sv = .int .i64 s ∧ hv = .int .i64 h ∧ StR (stK L j) s h ∧ Hid (CmW w ov (Tb.flat (stK L j)) j wr)) (fun _ _ _ k _ => N - (intOf k).toNat)
  case atStart => exact ⟨0, -1, -1, Nat.zero_le _, rfl, rfl, rfl, ⟨rfl, by omega, by omega⟩, HC0⟩
  case round =>
    obtain ⟨j, s, h, hj, rfl, rfl, rfl, hst, HW⟩ := hrel
    by_cases hlt : j < N
    · have hjl : j < L.length := by rw [HN.out]; exact hlt
      obtain ⟨hp, hcj, hg⟩ := HC.out j hjl
      have hc2 := (HW.out.2.2.2.1.cell (p := ⟨g, o + j, none⟩) hg).trans hcj
      have hr64 := H64.out _ (List.getElem_mem hjl)
      have hf64 := stK_64 H64.out j (by omega)
      have hsucc := stK_succ hjl
      have hlen := stK_len L j (by omega)
      have HP := Lib.hid hp
      have ji : (j : Int) < (N : Int) := by omega
      have HS := Lib.hid hsucc
      have HF64 := Lib.hid hf64
      subst hp
      clear hcj hsucc hf64 HC0
      generalize L[j] = r at *
      generalize stK L j = st at *
      have hcb := Tb.class_bd r
      have c1 := fun w => class_any r w
      obtain ⟨⟨pv, cv, rfl⟩, -⟩ := row_shape HW.out.1
      have hsz := HW.out.2.2.2.2
      obtain ⟨pre, _ | ⟨a, ms⟩⟩ := st
      · obtain ⟨rfl, hh1, hh2⟩ := id hst
        have HPU : Hid (Tb.stepC (pre, none) r = Tb.pushC (pre, none) r) := Lib.hid rfl
        have hsn : decide ((0 : Int) ≤ -1) = false := rfl
        have hpw := hst.push r
        have hfl := Tb.flat_push (pre, none) r
        have HPW : Hid (StR (Tb.pushC (pre, none) r) (if Tb.classI r = 0 then ((Tb.flat (pre, none)).length : Int) else -1) (if Tb.classI r = 0 then -1 else max h (Tb.classI r))) := Lib.hid hpw
        have HFL := Lib.hid hfl
        clear hpw hfl
        by_cases hc0 : Tb.classI r = 0
        · rw [if_pos hc0, if_pos hc0] at HPW
          have HCZ := Lib.hid hc0
          rw [hc0] at c1
          clear hc0
          go_wp2_with (first | (go_at_call 66; refine (c1 _).mono ?_; rintro e' w' ⟨rfl, rfl⟩) | (at_builtin; refine wpList_append_own_at _ rfl _ _ 49 rfl (w.heap.size + 2) 3 i0 (.int .i64 0) 1 8 Tryz.underlying49 hi hz0 hz1 hz2 rfl (by decide) (.slice pv (Tb.flat (pre, none)).length cv) (Tb.flat (pre, none)).length ((Tb.flat (pre, none)).map encI) rfl (row_kept HW.out.1 (World.grownBy_alloc _ _ none) (fun r e => by cases e)) ⟨wr.heap.size, 0, none⟩ 1 1 [.int .i64 r] rfl rfl (cell_one_new _ _ _) (by simp [Value.oneCell']) (by unfold maxLen; omega) (by omega) (by simp; have := HW.out.2.2.2.2; omega) ?_; intro v' w2 hown' hgrow hnil hat; clear hnil hat; obtain ⟨⟨pv2, cv2, rfl⟩, -⟩ := row_shape hown'; have HW2 := Lib.hid (CmW.app HW.out hgrow hown'); clear hown' hgrow))
          go_roundw
          case rel => exact ⟨j + 1, ((Tb.flat (pre, none)).length : Int), -1, by omega, by go_num, by go_num, by go_num, by rw [HS.out, HPU.out]; exact HPW.out, by rw [HS.out, HPU.out, HFL.out]; exact Lib.hid (CmW.more HW2.out)⟩
          case measure => simp [intOf]; omega
        · rw [if_neg hc0, if_neg hc0] at HPW
          have HCZ := Lib.hid hc0
          generalize Tb.classI r = cc at *
          go_wp2_with (first | (go_at_call 66; refine (c1 _).mono ?_; rintro e' w' ⟨rfl, rfl⟩) | (at_builtin; refine wpList_append_own_at _ rfl _ _ 49 rfl (w.heap.size + 2) 3 i0 (.int .i64 0) 1 8 Tryz.underlying49 hi hz0 hz1 hz2 rfl (by decide) (.slice pv (Tb.flat (pre, none)).length cv) (Tb.flat (pre, none)).length ((Tb.flat (pre, none)).map encI) rfl (row_kept HW.out.1 (World.grownBy_alloc _ _ none) (fun r e => by cases e)) ⟨wr.heap.size, 0, none⟩ 1 1 [.int .i64 r] rfl rfl (cell_one_new _ _ _) (by simp [Value.oneCell']) (by unfold maxLen; omega) (by omega) (by simp; have := HW.out.2.2.2.2; omega) ?_; intro v' w2 hown' hgrow hnil hat; clear hnil hat; obtain ⟨⟨pv2, cv2, rfl⟩, -⟩ := row_shape hown'; have HW2 := Lib.hid (CmW.app HW.out hgrow hown'); clear hown' hgrow))
          go_roundw
          case rel => exact ⟨j + 1, -1, (max h cc), by omega, by go_num, by go_num, by go_num, by rw [HS.out, HPU.out]; exact HPW.out, by rw [HS.out, HPU.out, HFL.out]; exact Lib.hid (CmW.more HW2.out)⟩
          case measure => simp [intOf]; omega
      · obtain ⟨rfl, rfl⟩ := id hst
        have hfe : Tb.flat (pre, some (a, ms)) = pre ++ a :: ms := rfl
        have hfl1 : (Tb.flat (pre, some (a, ms))).length = pre.length + (ms.length + 1) := by rw [hfe]; simp
        obtain ⟨g1, cp1, hv1⟩ := HW.out.1.slice_of (by rw [hfl1]; omega)
        have hpv : pv = some ⟨g1, 0, none⟩ := by injection hv1
        subst hpv
        clear hv1
        obtain ⟨hsp, hgl, hgb, -⟩ := HW.out.1.spot
        have hat0 : (Tb.flat (pre, some (a, ms)))[pre.length]? = some a := by rw [hfe, List.getElem?_append_right (Nat.le_refl _), Nat.sub_self]; rfl
        have hca := (hsp _ _ hat0).1
        have hbd : (pre.length : Int) < ((Tb.flat (pre, some (a, ms))).length : Int) := by omega
        have hbd0 : (0 : Int) ≤ (pre.length : Int) := by omega
        have ha64 : Is64 a := HF64.out a (by rw [hfe]; simp)
        clear hsp hfe hfl1
        by_cases hlow : Tb.hiOf ms < Tb.classI r
        · obtain ⟨f, hmf, hkf⟩ := HW.out.2.1
          have c3 := of_any a r ha64 hr64 (w.heap.size + 1) w.heap.size j f wr HW.out.2.2.1 hmf (by omega) hkf
          have htry : Tb.tryC a ms r = Tb.wholeF a r := by unfold Tb.tryC; rw [if_pos hlow]
          clear hmf hkf
          cases ho : Tb.wholeF a r with
          | some x =>
            rw [ho] at c3 htry
            unfold OfPost wholeV at c3
            have HPU : Hid (Tb.stepC (pre, some (a, ms)) r = (pre, some (x, ms))) := Lib.hid (by show (match Tb.tryC a ms r with | some w => (pre, some (w, ms)) | none => Tb.pushC (pre, some (a, ms)) r) = _; rw [htry])
            have HST : Hid (StR (pre, some (x, ms)) (pre.length : Int) (Tb.hiOf ms)) := Lib.hid ⟨rfl, rfl⟩
            have hset : (Tb.flat (pre, some (a, ms))).set pre.length x = Tb.flat (pre, some (x, ms)) := by show (pre ++ a :: ms).set pre.length x = pre ++ x :: ms; rw [List.set_append_right _ _ (Nat.le_refl _), Nat.sub_self]; rfl
            have HSE := Lib.hid hset
            clear htry ho hset
            generalize Tb.classI r = cc at *
            go_wp2_with (first | (go_at_call 66; refine (c1 _).mono ?_; rintro e' w' ⟨rfl, rfl⟩) | (go_at_call 64; refine c3.mono ?_; rintro e w1 ⟨rfl, hg1, f', hm', hk'⟩; have HW1 := Lib.hid (HW.out.of hg1 hm' hk'); have hcf := HW1.out.1.spot.1 _ _ hat0; have hca1 := hcf.1; have hfa1 := hcf.2; clear hg1 hm' hk' hcf))
            go_roundw
            case rel => exact ⟨j + 1, (pre.length : Int), Tb.hiOf ms, by omega, by go_num, by go_num, by go_num, by rw [HS.out, HPU.out]; exact HST.out, by rw [HS.out, HPU.out]; exact Lib.hid (set_row HSE.out HW1.out)⟩
            case measure => simp [intOf]; omega
          | none =>
            rw [ho] at c3 htry
            unfold OfPost wholeV at c3
            have HPU : Hid (Tb.stepC (pre, some (a, ms)) r = Tb.pushC (pre, some (a, ms)) r) := Lib.hid (by show (match Tb.tryC a ms r with | some w => (pre, some (w, ms)) | none => Tb.pushC (pre, some (a, ms)) r) = _; rw [htry])
            clear htry ho
            have hpw := hst.push r
            have hfl := Tb.flat_push (pre, some (a, ms)) r
            have HPW : Hid (StR (Tb.pushC (pre, some (a, ms)) r) (if Tb.classI r = 0 then ((Tb.flat (pre, some (a, ms))).length : Int) else (pre.length : Int)) (if Tb.classI r = 0 then -1 else max (Tb.hiOf ms) (Tb.classI r))) := Lib.hid hpw
            have HFL := Lib.hid hfl
            clear hpw hfl
            by_cases hc0 : Tb.classI r = 0
            · rw [if_pos hc0, if_pos hc0] at HPW
              have HCZ := Lib.hid hc0
              have hlow2 := hlow
              rw [hc0] at c1
              rw [hc0] at hlow hlow2
              clear hc0
              go_wp2_with (first | (go_at_call 66; refine (c1 _).mono ?_; rintro e' w' ⟨rfl, rfl⟩) | (go_at_call 64; refine c3.mono ?_; rintro e w1 ⟨rfl, hg1, f', hm', hk'⟩; have HW1 := Lib.hid (HW.out.of hg1 hm' hk'); have hcf := HW1.out.1.spot.1 _ _ hat0; have hca1 := hcf.1; have hfa1 := hcf.2; clear hg1 hm' hk' hcf) | (at_builtin; refine wpList_append_own_at _ rfl _ _ 49 rfl (w.heap.size + 2) 3 i0 (.int .i64 0) 1 8 Tryz.underlying49 hi hz0 hz1 hz2 rfl (by decide) (.slice (some ⟨g1, 0, none⟩) (Tb.flat (pre, some (a, ms))).length cv) (Tb.flat (pre, some (a, ms))).length ((Tb.flat (pre, some (a, ms))).map encI) rfl (row_kept HW1.out.1 (World.grownBy_alloc _ _ none) (fun r e => by cases e)) ⟨w1.heap.size, 0, none⟩ 1 1 [.int .i64 r] rfl rfl (cell_one_new _ _ _) (by simp [Value.oneCell']) (by unfold maxLen; omega) (by omega) (by simp; have := HW1.out.2.2.2.2; omega) ?_; intro v' w2 hown' hgrow hnil hat; clear hnil hat; obtain ⟨⟨pv2, cv2, rfl⟩, -⟩ := row_shape hown'; have HW2 := Lib.hid (CmW.app HW1.out hgrow hown'); clear hown' hgrow))
              go_roundw
              case rel => exact ⟨j + 1, ((Tb.flat (pre, some (a, ms))).length : Int), -1, by omega, by go_num, by go_num, by go_num, by rw [HS.out, HPU.out]; exact HPW.out, by rw [HS.out, HPU.out, HFL.out]; exact HW2⟩
              case measure => simp [intOf]; omega
            · rw [if_neg hc0, if_neg hc0] at HPW
              have HCZ := Lib.hid hc0
              have hlow2 := hlow
              generalize Tb.classI r = cc at *
              go_wp2_with (first | (go_at_call 66; refine (c1 _).mono ?_; rintro e' w' ⟨rfl, rfl⟩) | (go_at_call 64; refine c3.mono ?_; rintro e w1 ⟨rfl, hg1, f', hm', hk'⟩; have HW1 := Lib.hid (HW.out.of hg1 hm' hk'); have hcf := HW1.out.1.spot.1 _ _ hat0; have hca1 := hcf.1; have hfa1 := hcf.2; clear hg1 hm' hk' hcf) | (at_builtin; refine wpList_append_own_at _ rfl _ _ 49 rfl (w.heap.size + 2) 3 i0 (.int .i64 0) 1 8 Tryz.underlying49 hi hz0 hz1 hz2 rfl (by decide) (.slice (some ⟨g1, 0, none⟩) (Tb.flat (pre, some (a, ms))).length cv) (Tb.flat (pre, some (a, ms))).length ((Tb.flat (pre, some (a, ms))).map encI) rfl (row_kept HW1.out.1 (World.grownBy_alloc _ _ none) (fun r e => by cases e)) ⟨w1.heap.size, 0, none⟩ 1 1 [.int .i64 r] rfl rfl (cell_one_new _ _ _) (by simp [Value.oneCell']) (by unfold maxLen; omega) (by omega) (by simp; have := HW1.out.2.2.2.2; omega) ?_; intro v' w2 hown' hgrow hnil hat; clear hnil hat; obtain ⟨⟨pv2, cv2, rfl⟩, -⟩ := row_shape hown'; have HW2 := Lib.hid (CmW.app HW1.out hgrow hown'); clear hown' hgrow))
              go_roundw
              case rel => exact ⟨j + 1, (pre.length : Int), (max (Tb.hiOf ms) cc), by omega, by go_num, by go_num, by go_num, by rw [HS.out, HPU.out]; exact HPW.out, by rw [HS.out, HPU.out, HFL.out]; exact HW2⟩
              case measure => simp [intOf]; omega
        · have htry : Tb.tryC a ms r = none := by unfold Tb.tryC; rw [if_neg hlow]
          have HPU : Hid (Tb.stepC (pre, some (a, ms)) r = Tb.pushC (pre, some (a, ms)) r) := Lib.hid (by show (match Tb.tryC a ms r with | some w => (pre, some (w, ms)) | none => Tb.pushC (pre, some (a, ms)) r) = _; rw [htry])
          clear htry
          have hpw := hst.push r
          have hfl := Tb.flat_push (pre, some (a, ms)) r
          have HPW : Hid (StR (Tb.pushC (pre, some (a, ms)) r) (if Tb.classI r = 0 then ((Tb.flat (pre, some (a, ms))).length : Int) else (pre.length : Int)) (if Tb.classI r = 0 then -1 else max (Tb.hiOf ms) (Tb.classI r))) := Lib.hid hpw
          have HFL := Lib.hid hfl
          clear hpw hfl
          by_cases hc0 : Tb.classI r = 0
          · rw [if_pos hc0, if_pos hc0] at HPW
            have HCZ := Lib.hid hc0
            have hlowd : decide (Tb.hiOf ms < Tb.classI r) = false := decide_eq_false hlow
            rw [hc0] at c1
            rw [hc0] at hlow hlowd
            clear hc0
            go_wp2_with (first | (go_at_call 66; refine (c1 _).mono ?_; rintro e' w' ⟨rfl, rfl⟩) | (at_builtin; refine wpList_append_own_at _ rfl _ _ 49 rfl (w.heap.size + 2) 3 i0 (.int .i64 0) 1 8 Tryz.underlying49 hi hz0 hz1 hz2 rfl (by decide) (.slice (some ⟨g1, 0, none⟩) (Tb.flat (pre, some (a, ms))).length cv) (Tb.flat (pre, some (a, ms))).length ((Tb.flat (pre, some (a, ms))).map encI) rfl (row_kept HW.out.1 (World.grownBy_alloc _ _ none) (fun r e => by cases e)) ⟨wr.heap.size, 0, none⟩ 1 1 [.int .i64 r] rfl rfl (cell_one_new _ _ _) (by simp [Value.oneCell']) (by unfold maxLen; omega) (by omega) (by simp; have := HW.out.2.2.2.2; omega) ?_; intro v' w2 hown' hgrow hnil hat; clear hnil hat; obtain ⟨⟨pv2, cv2, rfl⟩, -⟩ := row_shape hown'; have HW2 := Lib.hid (CmW.app HW.out hgrow hown'); clear hown' hgrow))
            go_roundw
            case rel => exact ⟨j + 1, ((Tb.flat (pre, some (a, ms))).length : Int), -1, by omega, by go_num, by go_num, by go_num, by rw [HS.out, HPU.out]; exact HPW.out, by rw [HS.out, HPU.out, HFL.out]; exact Lib.hid (CmW.more HW2.out)⟩
            case measure => simp [intOf]; omega
          · rw [if_neg hc0, if_neg hc0] at HPW
            have HCZ := Lib.hid hc0
            have hlowd : decide (Tb.hiOf ms < Tb.classI r) = false := decide_eq_false hlow
            generalize Tb.classI r = cc at *
            go_wp2_with (first | (go_at_call 66; refine (c1 _).mono ?_; rintro e' w' ⟨rfl, rfl⟩) | (at_builtin; refine wpList_append_own_at _ rfl _ _ 49 rfl (w.heap.size + 2) 3 i0 (.int .i64 0) 1 8 Tryz.underlying49 hi hz0 hz1 hz2 rfl (by decide) (.slice (some ⟨g1, 0, none⟩) (Tb.flat (pre, some (a, ms))).length cv) (Tb.flat (pre, some (a, ms))).length ((Tb.flat (pre, some (a, ms))).map encI) rfl (row_kept HW.out.1 (World.grownBy_alloc _ _ none) (fun r e => by cases e)) ⟨wr.heap.size, 0, none⟩ 1 1 [.int .i64 r] rfl rfl (cell_one_new _ _ _) (by simp [Value.oneCell']) (by unfold maxLen; omega) (by omega) (by simp; have := HW.out.2.2.2.2; omega) ?_; intro v' w2 hown' hgrow hnil hat; clear hnil hat; obtain ⟨⟨pv2, cv2, rfl⟩, -⟩ := row_shape hown'; have HW2 := Lib.hid (CmW.app HW.out hgrow hown'); clear hown' hgrow))
            go_roundw
            case rel => exact ⟨j + 1, (pre.length : Int), (max (Tb.hiOf ms) cc), by omega, by go_num, by go_num, by go_num, by rw [HS.out, HPU.out]; exact HPW.out, by rw [HS.out, HPU.out, HFL.out]; exact Lib.hid (CmW.more HW2.out)⟩
            case measure => simp [intOf]; omega
    · obtain rfl : j = N := by omega
      obtain ⟨⟨pv, cv, rfl⟩, -⟩ := row_shape HW.out.1
      clear HC HC0 H64
      rw [HEND.out] at HW
      have hb := HW.out.2.2.2.1
      have ho := own_base HW.out.1 (b' := w.heap.size) (by omega)
      rw [HEND.out]
      go_wp2_with fail
      go_ret
      exact ⟨_, rfl, ho, hb⟩
end Go.Proofs.YthepfbkbfkhcaaaGreat
