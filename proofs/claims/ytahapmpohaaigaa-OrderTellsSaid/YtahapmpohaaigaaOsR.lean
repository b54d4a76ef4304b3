/- The laws' own helpers: count, of; what wakes. -/
import Derived.Test.YtahapmpohaaigaaOsN
namespace Go.Proofs.Ytahapmpohaaigaa
open Go.RowKit Go.Shelf
open Go
set_option linter.unusedVariables false
def LawTrue (w : World) (e : Ending) (w' : World) : Prop := e = .returned (.bool true) ∧ Below w.heap.size w w'
theorem small64 {a : Int} (h0 : -100000000 ≤ a) (h1 : a ≤ 100000000) : Is64 a := by unfold Is64; omega
def IntPost (x : Int) (w : World) (e : Ending) (w' : World) : Prop := e = .returned (.int .i64 x) ∧ w = w'
theorem count_step {L : List Int} {i : Nat} {x : Int} (r : Int) (h : L[i]? = some x) : (L.take (i + 1)).count r = (L.take i).count r + if x = r then 1 else 0 := by
  obtain ⟨h1, h2⟩ := List.getElem?_eq_some_iff.1 h
  rw [List.take_succ_eq_append_getElem h1, List.count_append, h2, List.count_singleton]
  by_cases e : x = r
  · simp [e]
  · simp [e]
set_option maxHeartbeats 4000000 in
theorem count_any (p : Option Addr) (c : Nat) (L : List Int) (r : Int) (W : World) (hL : L.length ≤ 10000000) (h1 : RowP W p c L) :
    Calls Try.prog 12 #[.slice p L.length c, .int .i64 r] W (IntPost ((L.count r : Nat) : Int) W) := by
  have H1 := Lib.hid h1.2
  clear h1
  obtain ⟨n, hn⟩ : ∃ n, L.length = n := ⟨_, rfl⟩
  rw [hn]
  rw [hn] at hL
  have HN := Lib.hid hn
  clear hn
  go_enter Try.func12, Try.ntmps12
  go_wp2_with fail
  go_loopw [5, 7, 10] (fun v5 _ vi wr => ∃ (i k : Nat), vi = .int .i64 (i : Int) ∧ v5 = .int .i64 (k : Int) ∧ k = (L.take i).count r ∧ i ≤ n ∧ k ≤ i ∧ W = wr) (fun _ _ vi _ => n - (intOf vi).toNat)
  case atStart => exact ⟨0, 0, rfl, rfl, by simp, Nat.zero_le _, Nat.le_refl _, rfl⟩
  case round =>
    obtain ⟨i, k, rfl, rfl, hk, hi, hki, rfl⟩ := hrel
    have HK := Lib.hid hk
    clear hk
    by_cases hlt : i < n
    · have hl1 : i < L.length := by have := HN.out; omega
      obtain ⟨g, o, rfl, hI⟩ := H1.out.resolve_left (fun e => by rw [e] at hl1; exact absurd hl1 (Nat.not_lt_zero _))
      obtain ⟨x, hx⟩ : ∃ x, L[i]? = some x := ⟨_, List.getElem?_eq_getElem hl1⟩
      have k1 := hI.2 i x hx
      have q1 : (i : Int) < (n : Int) := by omega
      have hst := count_step r hx
      have HST := Lib.hid hst
      clear hst hx hl1 hI
      by_cases hxr : x = r
      · subst hxr
        go_wp2_with fail
        go_roundw
        case rel => exact ⟨i + 1, k + 1, by go_num, by go_num, by rw [HST.out, if_pos rfl, HK.out], by omega, by omega, by first | rfl | trivial⟩
        case measure => simp [intOf]; omega
      · have hne : (x == r) = false := by simpa using hxr
        have HXR := Lib.hid hxr
        clear hxr
        go_wp2_with fail
        go_roundw
        case rel => exact ⟨i + 1, k, by go_num, rfl, by rw [HST.out, if_neg HXR.out, HK.out]; rfl, by omega, by omega, by first | rfl | trivial⟩
        case measure => simp [intOf]; omega
    · obtain rfl : i = n := by omega
      have q1 : ¬ (i : Int) < (i : Int) := by omega
      have htk : L.take i = L := List.take_of_length_le (by have := HN.out; omega)
      have hkk : k = L.count r := by rw [HK.out, htk]
      have HKK := Lib.hid hkk
      clear htk hkk
      go_wp2_with fail
      go_ret
      exact ⟨by rw [← HKK.out]; rfl, rfl⟩
def clsL (c : Int) (L : List Int) : List Int := L.filter fun z => Tb.classI z == c
theorem clsL_step {L : List Int} {i : Nat} {x : Int} (c : Int) (h : L[i]? = some x) : clsL c (L.take (i + 1)) = clsL c (L.take i) ++ if Tb.classI x = c then [x] else [] := by
  obtain ⟨h1, h2⟩ := List.getElem?_eq_some_iff.1 h
  unfold clsL
  rw [List.take_succ_eq_append_getElem h1, List.filter_append, h2]
  by_cases e : Tb.classI x = c
  · simp [e]
  · simp [e]
set_option maxHeartbeats 4000000 in
theorem of_any (p : Option Addr) (c : Nat) (L : List Int) (r : Int) (w : World) (hL : L.length ≤ 10000000) (h1 : RowP w p c L) :
    Calls Try.prog 14 #[.slice p L.length c, .int .i64 r] w (OutPost (clsL r L) w) := by
  have H1 := Lib.hid h1.2
  clear h1
  obtain ⟨i0, hi0, hz0, hz1, hz2⟩ := info_parts infoI
  obtain ⟨n, hn⟩ : ∃ n, L.length = n := ⟨_, rfl⟩
  rw [hn]
  rw [hn] at hL
  have HN := Lib.hid hn
  clear hn
  have e0 : OwnL w w.heap.size (.slice none 0 0) (clsL r (L.take 0)) := ⟨rfl, Or.inl ⟨rfl, rfl⟩⟩
  have HE := Lib.hid e0
  clear e0
  go_enter Try.func14, Try.ntmps14
  go_wp2_with fail
  go_loopw [5, 7, 10] (fun v3 _ vi wr => ∃ (i : Nat) (pv : Option Addr) (m cv : Nat), vi = .int .i64 (i : Int) ∧ v3 = .slice pv m cv ∧ m = (clsL r (L.take i)).length ∧ i ≤ n ∧ OwnL wr w.heap.size (.slice pv m cv) (clsL r (L.take i)) ∧ Below w.heap.size w wr) (fun _ _ vi _ => n - (intOf vi).toNat)
  case atStart => exact ⟨0, none, 0, 0, rfl, rfl, rfl, Nat.zero_le _, HE.out, Below.refl _ _⟩
  case round =>
    clear HE
    obtain ⟨i, pv, m, cv, rfl, rfl, hm, hi, ho, hb⟩ := hrel
    have HO := Lib.hid ho
    have HB := Lib.hid hb
    have HM := Lib.hid hm
    clear ho hb hm
    by_cases hlt : i < n
    · have hl1 : i < L.length := by have := HN.out; omega
      obtain ⟨g, o, rfl, hI⟩ := H1.out.resolve_left (fun e => by rw [e] at hl1; exact absurd hl1 (Nat.not_lt_zero _))
      obtain ⟨x, hx⟩ : ∃ x, L[i]? = some x := ⟨_, List.getElem?_eq_getElem hl1⟩
      have k1 := (HB.out.cell (p := ⟨g, o + i, none⟩) hI.1).trans (hI.2 i x hx)
      have q1 : (i : Int) < (n : Int) := by omega
      have hsn := clsL_step r hx
      have hml : m ≤ n := by
        rw [HM.out]
        refine Nat.le_trans (List.length_filter_le _ _) ?_
        rw [List.length_take]
        have := HN.out
        omega
      have c1 := rclass_any x wr
      have HSN := Lib.hid hsn
      clear hsn hx hI hl1
      by_cases hcl : Tb.classI x = r
      · have hc1 : (Tb.classI x == r) = true := by simpa using hcl
        have HC := Lib.hid hcl
        clear hcl
        have b1 : m + 1 ≤ maxLen := by unfold maxLen; omega
        have b2 : (m + 1) * 8 ≤ 140737488355328 := by omega
        have hws : w.heap.size ≤ wr.heap.size := HB.out.size
        generalize Tb.classI x = cx at *
        go_wp2_with fail
        refine c1.mono ?_
        rintro e w1 ⟨rfl, rfl⟩
        have ho2 : wr.ownsRow w.heap.size 3 1 (.slice pv m cv) m ((clsL r (L.take i)).map encI) := by
          have := HO.out
          unfold OwnL at this
          rw [← HM.out] at this
          exact this
        have hob : ∀ q, (Value.slice pv m cv).ownBlock = some q → w.heap.size ≤ q := fun q e => ((row_shape ho2).2 q e).1
        have HOB := Lib.hid hob
        have HO2 := Lib.hid ho2
        clear hob ho2
        generalize hDD : clsL r (L.take i) = D at *
        go_wp2_with (at_builtin; refine wpList_append_own _ rfl _ _ 22 rfl w.heap.size 3 i0 (.int .i64 0) 1 8 Try.underlying22 hi0 hz0 hz1 hz2 rfl (by decide) (.slice pv m cv) m (D.map encI) rfl (row_kept HO2.out (World.grownBy_alloc _ _ none) (fun r e => by cases e)) ⟨wr.heap.size, 0, none⟩ 1 1 [.int .i64 x] rfl rfl (cell_one_new _ _ _) (by simp [Value.oneCell']) b1 b2 (by simp; omega) ?_; intro v' w4 hown' hgrow hnil; clear hnil; obtain ⟨g', cap', rfl, hgb', hcp', hsh⟩ := row_pos hown' (Nat.succ_pos _); have HOW := Lib.hid hown'; have HG := Lib.hid hgrow; clear hown' hgrow hsh)
        go_roundw
        case rel =>
          refine ⟨i + 1, _, _, _, by go_num, rfl, ?_, by omega, ?_, (HB.out.grown (World.grownBy_alloc wr (.cells #[.int .i64 x] 3) none) hws (fun r e => by cases e)).grown HG.out (by simp; omega) (fun r e => by have := HOB.out r e; omega)⟩
          · rw [HSN.out, if_pos HC.out, List.length_append, HM.out]; rfl
          · unfold OwnL
            rw [HSN.out, if_pos HC.out, List.length_append, List.map_append, ← HM.out]
            exact HOW.out
        case measure => simp [intOf]; omega
      · have hc1 : (Tb.classI x == r) = false := by simpa using hcl
        have HC := Lib.hid hcl
        clear hcl
        generalize Tb.classI x = cx at *
        go_wp2_with fail
        refine c1.mono ?_
        rintro e w1 ⟨rfl, rfl⟩
        go_wp2_with fail
        go_roundw
        case rel =>
          refine ⟨i + 1, pv, m, cv, by go_num, rfl, ?_, by omega, ?_, HB.out⟩
          · rw [HSN.out, if_neg HC.out, List.append_nil]; exact HM.out
          · rw [HSN.out, if_neg HC.out, List.append_nil]; exact HO.out
        case measure => simp [intOf]; omega
    · obtain rfl : i = n := by omega
      have q1 : ¬ (i : Int) < (i : Int) := by omega
      have htk : L.take i = L := List.take_of_length_le (by have := HN.out; omega)
      have ho := HO.out
      rw [htk] at ho
      have HO2 := Lib.hid ho
      clear ho htk
      go_wp2_with fail
      go_ret
      exact ⟨_, rfl, HO2.out, HB.out⟩
theorem ints3 (w : World) (a b c : Int) : RowP (w.alloc (.cells #[.int .i64 a, .int .i64 b, .int .i64 c] 3)) (some ⟨w.heap.size, 0, none⟩) 3 [a, b, c] :=
  ⟨Nat.le_refl _, Or.inr ⟨w.heap.size, 0, rfl, by simp, fun j x hj => by
    rcases j with _ | _ | _ | j
    · simp at hj; subst hj; simp
    · simp at hj; subst hj; simp
    · simp at hj; subst hj; simp
    · simp at hj⟩⟩
theorem wk_sort : Ordl.sortL Tb.classI [97, 769, 807] = [97, 807, 769] := by kernel_rfl
theorem wk_parts : Tb.parts 44033 = [4352, 4449, 4520] := by kernel_rfl
theorem wk_o1 : Ordl.ordB Tb.classI [97, 807, 769] = true := by kernel_rfl
theorem wk_o2 : Ordl.ordB Tb.classI [97, 769, 807] = false := by kernel_rfl
theorem wk_runs : (rnL [97, 769, 98]).length = 2 := by kernel_rfl
set_option maxHeartbeats 4000000 in
theorem wakes_any (w : World) : Calls Try.prog 8 #[] w (LawTrue w) := by
  go_enter Try.func8, Try.ntmps8
  go_wp2_with fail
  have c1 := sort_any (some ⟨w.heap.size, 0, none⟩) 3 [97, 769, 807] _ (by simp) (ints3 w 97 769 807)
  rw [wk_sort] at c1
  refine c1.mono ?_
  rintro e w1 ⟨v1, rfl, h1, b1⟩
  obtain ⟨g1, cap1, rfl, -, hcp1, -⟩ := row_pos h1 (by simp)
  have B1 := Lib.hid ((((Below.refl _ w).alloc (Nat.le_refl _) (.cells #[.int .i64 97, .int .i64 769, .int .i64 807] 3))).trans (b1.mono (by simp)))
  have H1 := Lib.hid h1
  clear h1 b1 c1
  go_wp2_with fail
  have c2 := pparts_any 44033 w1 (small64 (by omega) (by omega))
  rw [wk_parts] at c2
  refine c2.mono ?_
  rintro e w2 ⟨v2, rfl, h2, b2⟩
  obtain ⟨g2, cap2, rfl, -, hcp2, -⟩ := row_pos h2 (by simp)
  have h1 := H1.out.of_below b2 (Nat.le_refl _)
  have r1 := OwnL.row h1
  obtain ⟨t1, _⟩ := OwnL.spot h1
  obtain ⟨t2, _⟩ := OwnL.spot (show OwnL w2 w1.heap.size (.slice (some ⟨g2, 0, none⟩) ([4352, 4449, 4520] : List Int).length cap2) [4352, 4449, 4520] from h2)
  have z1 := (t1 1 807 rfl).1
  have z2 := (t1 2 769 rfl).1
  have z3 := (t2 0 4352 rfl).1
  have z4 := (t2 2 4520 rfl).1
  have B2 := Lib.hid (bn B1.out b2)
  clear h1 h2 b2 c2 t1 t2 H1 B1
  have c3 := ordered_any (some ⟨g1, 0, none⟩) cap1 [97, 807, 769] w2 (by simp) r1
  rw [wk_o1] at c3
  clear r1
  go_wp2_with fail
  refine c3.mono ?_
  rintro e w3 ⟨rfl, b3⟩
  have hb3 := bcell b3
  have z3b := (b3.cell (p := ⟨g2, 0, none⟩) (World.block_lt_of_cell? _ _ z3)).trans z3
  have z4b := (b3.cell (p := ⟨g2, 2, none⟩) (World.block_lt_of_cell? _ _ z4)).trans z4
  have B3 := Lib.hid (bn B2.out b3)
  clear c3 hb3 b3 z1 z2 z3 z4 B2
  go_wp2_with fail
  have c4 := ordered_any (some ⟨w3.heap.size, 0, none⟩) 3 [97, 769, 807] _ (by simp) (ints3 w3 97 769 807)
  rw [wk_o2] at c4
  refine c4.mono ?_
  rintro e w4 ⟨rfl, b4⟩
  have bb4 : Below w3.heap.size w3 w4 := (((Below.refl _ w3).alloc (Nat.le_refl _) (.cells #[.int .i64 97, .int .i64 769, .int .i64 807] 3))).trans (b4.mono (by simp))
  have z3c := (bb4.cell (p := ⟨g2, 0, none⟩) (World.block_lt_of_cell? _ _ z3b)).trans z3b
  have z4c := (bb4.cell (p := ⟨g2, 2, none⟩) (World.block_lt_of_cell? _ _ z4b)).trans z4b
  have B4 := Lib.hid (bn B3.out bb4)
  clear c4 b4 bb4 z3b z4b B3
  go_wp2_with fail
  have c5 := pruns_any (some ⟨w4.heap.size, 0, none⟩) w4.heap.size 0 3 [97, 769, 98] _ (by simp) (by simp) (Or.inr ⟨rfl, by
    obtain ⟨_, h⟩ := ints3 w4 97 769 98
    obtain ⟨g, o, h1, h2⟩ := h.resolve_left (by simp)
    injection h1 with h1
    injection h1 with h1 h3
    subst h1 h3
    exact h2⟩)
  unfold RnsPost at c5
  rw [wk_runs] at c5
  refine c5.mono ?_
  rintro e w5 ⟨v5, rfl, h5, b5⟩
  obtain ⟨g5, cap5, rfl, -, hcp5, -⟩ := row_pos h5 (by omega)
  have B5 := Lib.hid (bn B4.out ((((Below.refl _ w4).alloc (Nat.le_refl _) (.cells #[.int .i64 97, .int .i64 769, .int .i64 98] 3))).trans (b5.mono (by simp))))
  clear c5 h5 b5 B4
  go_wp2_with fail
  go_ret
  exact ⟨rfl, B5.out⟩
end Go.Proofs.Ytahapmpohaaigaa
