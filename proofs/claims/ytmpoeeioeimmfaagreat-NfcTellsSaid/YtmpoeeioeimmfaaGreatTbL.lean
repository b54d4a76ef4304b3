/- The walk of the program's Pairs. -/
import Derived.Test.YtmpoeeioeimmfaaGreatTbK
namespace Go.Proofs.YtmpoeeioeimmfaaGreat
open Go.RowKit
open Go
set_option linter.unusedVariables false
def K1 : List Int := (Tb.prs.take 68).map fun p => p.1
def K2 : List Int := dblT3.map fun p => p.1
theorem k1_len : K1.length = 68 := by kernel_rfl
theorem k2_len : K2.length = 5 := rfl
def ordB : List Int → Bool
  | a :: b :: l => decide (a < b) && ordB (b :: l)
  | _ => true
theorem ord_pw : ∀ l : List Int, ordB l = true → l.Pairwise (fun a b => a < b)
  | [], _ => List.Pairwise.nil
  | [a], _ => List.pairwise_singleton _ _
  | a :: b :: l, h => by
    have h' : (decide (a < b) && ordB (b :: l)) = true := h
    rw [Bool.and_eq_true, decide_eq_true_eq] at h'
    have ih := ord_pw (b :: l) h'.2
    refine List.pairwise_cons.2 ⟨fun c hc => ?_, ih⟩
    rcases List.mem_cons.1 hc with e | e
    · rw [e]; exact h'.1
    · have := (List.pairwise_cons.1 ih).1 c e
      omega
theorem k1_ord : ordB K1 = true := by kernel_rfl
theorem k2_ord : ordB K2 = true := by kernel_rfl
theorem ord_nodup {l : List Int} (h : ordB l = true) : l.Nodup := (ord_pw l h).imp fun h => by omega
theorem ord_sort {l : List Int} (h : ordB l = true) : l.mergeSort leI = l :=
  List.mergeSort_of_pairwise ((ord_pw l h).imp fun h => by simp only [leI, decide_eq_true_eq]; omega)
theorem k1_small : K1.all (fun x => decide (0 ≤ x ∧ x ≤ 100000)) = true := by kernel_rfl
theorem k2_small : K2.all (fun x => decide (0 ≤ x ∧ x ≤ 100000)) = true := by kernel_rfl
theorem wf_of {l : List Int} (h : l.all (fun x => decide (0 ≤ x ∧ x ≤ 100000)) = true) : ∀ x ∈ l, (Lit.int .i64 x).wf = true := fun x hx => by
  have := of_decide_eq_true (List.all_eq_true.1 h x hx)
  exact wf_small (by omega) (by omega)
theorem k1_made : K1.all (fun x => (Tb.madeT x).isSome) = true := by kernel_rfl
theorem k2_made : K2.all (fun x => (Tb.dblT x).isSome) = true := by kernel_rfl
theorem tbl_k1 : Tb.tbl.all (fun p => K1.contains p.2.2) = true := by kernel_rfl
theorem dbl_k2 : Tb.dbl.all (fun p => K2.contains p.1) = true := by kernel_rfl
theorem made_in (x : Int) (h : (Tb.madeT x).isSome = true) : x ∈ K1 := by
  unfold Tb.madeT at h
  rw [Option.isSome_map] at h
  obtain ⟨p, hp⟩ := Option.isSome_iff_exists.1 h
  have h1 := List.mem_of_find?_eq_some hp
  have h2 := List.find?_some hp
  have h3 := List.all_eq_true.1 tbl_k1 p h1
  have h4 : p.2.2 = x := by simpa using h2
  rw [h4] at h3
  simpa using h3
theorem dbl_in (x : Int) (h : (Tb.dblT x).isSome = true) : x ∈ K2 := by
  unfold Tb.dblT at h
  rw [Option.isSome_map] at h
  obtain ⟨p, hp⟩ := Option.isSome_iff_exists.1 h
  have h1 := List.mem_of_find?_eq_some hp
  have h2 := List.find?_some hp
  have h3 := List.all_eq_true.1 dbl_k2 p h1
  have h4 : p.1 = x := by simpa using h2
  rw [h4] at h3
  simpa using h3
theorem prs_ok : (List.range 68).all (fun j => match Tb.prs[j]? with | some p => (K1[j]? == some p.1) && (Tb.madeT p.1 == some p.2) | none => false) = true := by kernel_rfl
theorem prs_ok2 : (List.range 5).all (fun j => match Tb.prs[68 + j]? with | some p => (K2[j]? == some p.1) && (Tb.dblT p.1 == some p.2.1) && (p.2.2 == 0) | none => false) = true := by kernel_rfl
theorem prs_len73 : Tb.prs.length = 73 := by kernel_rfl
theorem prs_at (j : Nat) (h : j < 68) : ∃ x0 x1 x2 : Int, Tb.prs[j]? = some (x0, x1, x2) ∧ K1[j]? = some x0 ∧ Tb.madeT x0 = some (x1, x2) ∧ (Lit.int .i64 x0).wf = true := by
  have h1 := List.all_eq_true.1 prs_ok j (List.mem_range.2 h)
  split at h1
  · rename_i p e
    rw [Bool.and_eq_true, beq_iff_eq, beq_iff_eq] at h1
    exact ⟨p.1, p.2.1, p.2.2, e, h1.1, h1.2, wf_of k1_small _ (List.mem_of_getElem? h1.1)⟩
  · cases h1
theorem prs_at2 (j : Nat) (h : j < 5) : ∃ x0 x1 : Int, Tb.prs[68 + j]? = some (x0, x1, 0) ∧ K2[j]? = some x0 ∧ Tb.dblT x0 = some x1 ∧ (Lit.int .i64 x0).wf = true := by
  have h1 := List.all_eq_true.1 prs_ok2 j (List.mem_range.2 h)
  split at h1
  · rename_i p e
    rw [Bool.and_eq_true, Bool.and_eq_true, beq_iff_eq, beq_iff_eq, beq_iff_eq] at h1
    obtain ⟨⟨a, b⟩, c⟩ := h1
    exact ⟨p.1, p.2.1, by rw [e, ← c], a, b, wf_of k2_small _ (List.mem_of_getElem? a)⟩
  · cases h1
theorem take_at {j : Nat} {p : T3} (h : Tb.prs[j]? = some p) : Tb.prs.take (j + 1) = Tb.prs.take j ++ [p] := by
  obtain ⟨h1, h2⟩ := List.getElem?_eq_some_iff.1 h
  rw [List.take_succ_eq_append_getElem h1, h2]
theorem pix0 (a b : Int) : ∀ w, (Instr.index 67 (.agg #[.int .i64 a, .int .i64 b]) (.int .i64 0)).run Tryz.prog w = .ok (.int .i64 a) w := fun _ => by kernel_rfl
theorem pix1 (a b : Int) : ∀ w, (Instr.index 67 (.agg #[.int .i64 a, .int .i64 b]) (.int .i64 1)).run Tryz.prog w = .ok (.int .i64 b) w := fun _ => by kernel_rfl
theorem key_i (x : Int) (h : (Lit.int .i64 x).wf = true) : keyOf Tryz.prog 3 (.int .i64 x) = some (.int .i64 x) := by
  simp [keyOf, Tryz.underlying3, mapKey, h]
/-- A row of ints in a block. -/
def IntRow (W : World) (g : Nat) (K : List Int) : Prop := g < W.heap.size ∧ ∀ (j : Nat) (x : Int), K[j]? = some x → W.cell? ⟨g, j, none⟩ = some (.int .i64 x)
theorem IntRow.below {W W' : World} {g n : Nat} {K : List Int} (h : IntRow W g K) (hb : Below n W W') (hg : g < n) : IntRow W' g K :=
  ⟨Nat.lt_of_lt_of_le h.1 hb.size, fun j x hj => (World.cell?_of_block (hb.block g hg)).trans (h.2 j x hj)⟩
theorem IntRow.grown {W W' : World} {g : Nat} {K : List Int} {r : Option Nat} (h : IntRow W g K) (hb : W.grownBy W' r) (hg : some g ≠ r) : IntRow W' g K :=
  ⟨Nat.lt_of_lt_of_le h.1 hb.size, fun j x hj => (gb_cell hb (a := ⟨g, j, none⟩) h.1 hg).trans (h.2 j x hj)⟩
theorem srt_row {K : List Int} (hK : 0 < K.length) {w W : World} {v : Value} (h : W.ownsRow w.heap.size 3 1 v K.length (K.map encZ)) : ∃ g cap, v = .slice (some ⟨g, 0, none⟩) K.length cap ∧ w.heap.size ≤ g ∧ K.length ≤ cap ∧ IntRow W g K := by
  rcases h.2 with ⟨_, e⟩ | ⟨g, cap, cur, e, hb, hg, hle, _⟩
  · omega
  · refine ⟨g, cap, e, hb, hle, (Array.getElem?_eq_some_iff.1 hg).1, fun j x hj => ?_⟩
    have := h.cells (g := g) (by rw [e]; rfl) j (.int .i64 x) (by rw [List.getElem?_map, hj]; rfl)
    rw [Go.WideShapes.add_plain, Nat.zero_add] at this
    exact this
set_option maxRecDepth 100000 in
set_option maxHeartbeats 4000000 in
theorem pairs_any (w : World) : Calls Tryz.prog 51 #[] w (RpairsPost w) := by
  obtain ⟨i0, hi, hi0, hi1, hi2⟩ := info_parts info_pair
  go_enter Tryz.func51, Tryz.ntmps51
  go_wp2_with fail
  refine (table_any _).mono ?_
  rintro e w1 ⟨b1, b2, f, g, rfl, hb1, hb2, -, hg, -, hgv, hB1⟩
  have HG := Lib.hid hg
  have HGV := Lib.hid hgv
  have HB1 := Lib.hid hB1
  clear hg hgv hB1
  go_wp2_with fail
  refine (dbl_any _).mono ?_
  rintro e w2 ⟨b3, g3, rfl, hb3, hg3, hgv3, hB2⟩
  have HG3 := Lib.hid hg3
  have HGV3 := Lib.hid hgv3
  have hg2 : MapF Tryz.prog 3 okP w2 b2 100 g := HG.out.below hB2 HG.out.lt
  have HG2 := Lib.hid hg2
  have HB2 := Lib.hid (bn HB1.out hB2)
  clear hg2 hg3 hgv3 hB2 HG HB1
  go_wp2_with fail
  have hTc : (w2.alloc (.cells #[.map (some b1), .map (some b2)] 72)).cell? ⟨w2.heap.size, 1, none⟩ = some (.map (some b2)) := by simp
  have hTl : w2.heap.size < (w2.alloc (.cells #[.map (some b1), .map (some b2)] 72)).heap.size := by simp
  have hT2 := HG2.out.alloc (.cells #[.map (some b1), .map (some b2)] 72)
  have hT3 := HG3.out.alloc (.cells #[.map (some b1), .map (some b2)] 72)
  have hTB := bbox HB2.out (.cells #[.map (some b1), .map (some b2)] 72)
  generalize (w2.alloc (.cells #[.map (some b1), .map (some b2)] 72)) = wT at *
  generalize w2.heap.size = bt at *
  have HTC := Lib.hid hTc
  have HT2 := Lib.hid hT2
  have HT3 := Lib.hid hT3
  have HTB := Lib.hid hTB
  have HTL := Lib.hid hTl
  clear hTc hT2 hT3 hTB hTl HG2 HG3 HB2 hb1 hb2 hb3
  refine (keysA_any _ _).mono ?_
  rintro e w3 ⟨rfl, rfl⟩
  go_wp2_with fail
  refine (sortedA_any HT2.out K1 (by rw [k1_len]; omega) (ord_sort k1_ord) (ord_nodup k1_ord) (wf_of k1_small) (fun x hx => by
    rw [HGV.out]
    obtain ⟨p, hp⟩ := Option.isSome_iff_exists.1 (List.all_eq_true.1 k1_made x hx)
    exact ⟨pairV p.1 p.2, by rw [hp]; rfl⟩) (fun x hx => made_in x (by rw [HGV.out, Option.isSome_map] at hx; exact hx))).mono ?_
  rintro e w4 ⟨v, rfl, hrow, hB4⟩
  obtain ⟨g1, cap1, rfl, hg1, hcap1, hI1⟩ := srt_row (by rw [k1_len]; omega) hrow
  clear hrow
  rw [k1_len] at hcap1 ⊢
  have hTc4 : w4.cell? ⟨bt, 1, none⟩ = some (.map (some b2)) := (hB4.cell (p := ⟨bt, 1, none⟩) HTL.out).trans HTC.out
  have hT24 := HT2.out.below hB4 HT2.out.lt
  have hT34 := HT3.out.below hB4 HT3.out.lt
  have hbt4 : bt < w4.heap.size := Nat.lt_of_lt_of_le HTL.out hB4.size
  have HTC4 := Lib.hid hTc4
  have HT24 := Lib.hid hT24
  have HT34 := Lib.hid hT34
  have HBT4 := Lib.hid hbt4
  have HB4 := Lib.hid (bn HTB.out hB4)
  have HI1 := Lib.hid hI1
  clear hTc4 hT24 hT34 hbt4 hI1 hB4 HTC HT2 HT3 HTB HTL hg1
  obtain ⟨bs, hbs⟩ : ∃ bs, w4.heap.size = bs := ⟨_, rfl⟩
  have HBS := Lib.hid hbs
  clear hbs
  go_wp2_with fail
  go_loopw [0, 14] (fun v i wr => ∃ j : Nat, j ≤ 68 ∧ i = .int .i64 (j : Int) ∧ (∃ a c, v = .slice a j c) ∧ wr.ownsRow bs 66 3 v j (cells3 (Tb.prs.take j)) ∧ Below bs w4 wr) (fun _ i _ => 68 - (intOf i).toNat)
  case atStart => exact ⟨0, by omega, rfl, ⟨none, 0, rfl⟩, World.ownsRow_nil _ _ _ _, Below.refl _ _⟩
  case round =>
    obtain ⟨j, hj, rfl, ⟨a, c, rfl⟩, hown, hBr⟩ := hrel
    have HO := Lib.hid hown
    have HBR := Lib.hid hBr
    have hsz := hBr.size
    rw [HBS.out] at hsz
    have hc : wr.cell? ⟨bt, 1, none⟩ = some (.map (some b2)) := (World.cell?_of_block (hBr.block bt (by have := HBT4.out; rw [HBS.out] at this; exact this))).trans HTC4.out
    have hm2 := HT24.out.below hBr (by have := HT24.out.lt; rw [HBS.out] at this; exact this)
    have hir := HI1.out.below hBr (by have := HI1.out.1; rw [HBS.out] at this; exact this)
    clear hown hBr
    by_cases hlt : j < 68
    · obtain ⟨x0, x1, x2, e1, e2, e3, e4⟩ := prs_at j hlt
      have k0 := hir.2 j x0 e2
      have L := hm2.look1 ki Tryz.underlying70 (zero_pair wr) (by decide) (key_i x0 e4)
      rw [HGV.out, e3] at L
      have L2 : (Instr.lookup 70 (.map (some b2)) (.int .i64 x0) false).run Tryz.prog wr = .ok (.agg #[.int .i64 x1, .int .i64 x2]) wr := L
      have hst := take_at e1
      have HST := Lib.hid hst
      have ix0 := pix0 x1 x2
      have ix1 := pix1 x1 x2
      have i2 : (j : Int) < 68 := by omega
      clear L hst e1 e2 e3 e4 hm2 hir
      go_wp2_with (at_builtin; refine wpList_append_lies _ rfl (.tmp 18) (.tmp 31) _ rfl bs 66 i0 _ 3 24 Tryz.underlying63 hi hi0 hi1 hi2 rfl (by omega) _ _ _ (by rfl) (HO.out.alloc _) ⟨wr.heap.size, 0, none⟩ 1 1 (c3 (x0, x1, x2)) (by rfl) (by rfl) (World.news_of_block (heap_alloc_new _ _)) (c3_one _) (by omega) (by unfold maxLen; omega) (by omega) (by simp; omega) _ rfl ?_; intro g2 cap2 w5 hown2 hgrow2 hat2 hlt2)
      go_roundw
      case rel => exact ⟨j + 1, by omega, by go_num, ⟨_, _, rfl⟩, by rw [HST.out, cells3_app]; exact hown2, (HBR.out.alloc hsz _).grown hgrow2 (by simp; omega) (fun k hk => (HO.out.lt k hk).1)⟩
      case measure => simp [intOf]; omega
    · obtain rfl : j = 68 := by omega
      have hm3 := HT34.out.below HBR.out (by have := HT34.out.lt; rw [HBS.out] at this; exact this)
      have HM3 := Lib.hid hm3
      have HSZ := Lib.hid hsz
      clear hc hm2 hir hsz hm3
      go_wp2_with fail
      refine (keysB_any _ _).mono ?_
      rintro e w5 ⟨rfl, rfl⟩
      go_wp2_with fail
      refine (sortedB_any HM3.out K2 (by rw [k2_len]; omega) (ord_sort k2_ord) (ord_nodup k2_ord) (wf_of k2_small) (fun x hx => by
        rw [HGV3.out]
        obtain ⟨p, hp⟩ := Option.isSome_iff_exists.1 (List.all_eq_true.1 k2_made x hx)
        exact ⟨.int .i64 p, by rw [hp]; rfl⟩) (fun x hx => dbl_in x (by rw [HGV3.out, Option.isSome_map] at hx; exact hx))).mono ?_
      rintro e w6 ⟨v, rfl, hrow, hB6⟩
      obtain ⟨g2, cap2, rfl, hg2, hcap2, hI2⟩ := srt_row (by rw [k2_len]; omega) hrow
      clear hrow
      rw [k2_len] at hcap2 ⊢
      have hown6 : w6.ownsRow bs 66 3 (.slice a 68 c) 68 (cells3 (Tb.prs.take 68)) := HO.out.kept ⟨hB6.os, hB6.tape, hB6.output, hB6.size, fun k hk _ => hB6.block k hk⟩ (row := none) (by cases (Value.slice a 68 c).ownBlock <;> simp)
      have hBr6 : Below bs w4 w6 := HBR.out.trans (hB6.mono HSZ.out)
      have hne6 : (Value.slice a 68 c).ownBlock ≠ some g2 := fun e => by have := (HO.out.lt _ e).2; omega
      have HO6 := Lib.hid hown6
      have HB6 := Lib.hid hBr6
      have HN6 := Lib.hid hne6
      have HI6 := Lib.hid hI2
      clear hown6 hBr6 hne6 hI2 hB6 hg2
      go_wp2_with fail
      go_loopw [0, 38] (fun v i wr => ∃ j : Nat, j ≤ 5 ∧ i = .int .i64 (j : Int) ∧ (∃ a c, v = .slice a (68 + j) c) ∧ wr.ownsRow bs 66 3 v (68 + j) (cells3 (Tb.prs.take (68 + j))) ∧ IntRow wr g2 K2 ∧ v.ownBlock ≠ some g2 ∧ Below bs w4 wr) (fun _ i _ => 5 - (intOf i).toNat)
      case atStart => exact ⟨0, by omega, rfl, ⟨_, _, rfl⟩, HO6.out, HI6.out, HN6.out, HB6.out⟩
      case round =>
        clear HO HBR HSZ HM3 HO6 HB6 HN6 HI6
        obtain ⟨j, hj, rfl, ⟨a, c, rfl⟩, hown, hI, hne, hBr⟩ := hrel
        have HO := Lib.hid hown
        have HBR := Lib.hid hBr
        have HIR := Lib.hid hI
        have HNE := Lib.hid hne
        have hsz := hBr.size
        rw [HBS.out] at hsz
        have hm3 := HT34.out.below hBr (by have := HT34.out.lt; rw [HBS.out] at this; exact this)
        clear hown hI hne hBr
        by_cases hlt : j < 5
        · obtain ⟨x0, x1, e1, e2, e3, e4⟩ := prs_at2 j hlt
          have k0 := HIR.out.2 j x0 e2
          have L := hm3.look1 ki Tryz.underlying74 (zero_int wr) (by decide) (key_i x0 e4)
          rw [HGV3.out, e3] at L
          have L2 : (Instr.lookup 74 (.map (some b3)) (.int .i64 x0) false).run Tryz.prog wr = .ok (.int .i64 x1) wr := L
          have hst := take_at e1
          have HST := Lib.hid hst
          have i2 : (j : Int) < 5 := by omega
          clear L hst e1 e2 e3 e4 hm3
          go_wp2_with (at_builtin; refine wpList_append_lies _ rfl (.tmp 42) (.tmp 48) _ rfl bs 66 i0 _ 3 24 Tryz.underlying63 hi hi0 hi1 hi2 rfl (by omega) _ _ _ (by rfl) (HO.out.alloc _) ⟨wr.heap.size, 0, none⟩ 1 1 (c3 (x0, x1, 0)) (by rfl) (by rfl) (World.news_of_block (heap_alloc_new _ _)) (c3_one _) (by omega) (by unfold maxLen; omega) (by omega) (by simp; omega) _ rfl ?_; intro g5 cap5 w7 hown2 hgrow2 hat2 hlt2)
          go_roundw
          case rel =>
            refine ⟨j + 1, by omega, by go_num, ⟨_, _, rfl⟩, ?_, ?_, ?_, (HBR.out.alloc hsz _).grown hgrow2 (by simp; omega) (fun k hk => (HO.out.lt k hk).1)⟩
            · have e5 : 68 + (j + 1) = 68 + j + 1 := by omega
              rw [e5, HST.out, cells3_app]
              exact hown2
            · exact (HIR.out.grown (World.grownBy_alloc wr _ none) (by simp)).grown hgrow2 (fun e => HNE.out e.symm)
            · intro e
              have e6 : g5 = g2 := Option.some.inj e
              rcases hat2 with h | h
              · exact HNE.out (by rw [h, e6])
              · have := HIR.out.1
                rw [e6] at h
                simp at h
                omega
          case measure => simp [intOf]; omega
        · obtain rfl : j = 5 := by omega
          have e1 : Tb.prs.take (68 + 5) = Tb.prs := by kernel_rfl
          have hown := HO.out
          rw [e1] at hown
          have hown2 : wr.ownsRow bs 66 3 (.slice a (68 + 5) c) Tb.prs.length (cells3 Tb.prs) := by rw [prs_len73]; exact hown
          obtain ⟨g, cap, hv, h1, h2, h3, h4⟩ := Row3.own hown2 (by rw [prs_len73]; omega)
          have HV := Lib.hid hv
          have HR3 := Lib.hid h4
          have hh2 := Lib.hid h2
          have hh3 := Lib.hid h3
          clear hown hown2 e1 hv h4 h2 h3 h1 hm3
          go_wp2_with fail
          go_ret
          exact ⟨g, cap, by rw [← HV.out]; rfl, hh2.out, hh3.out, HR3.out, HB4.out.trans (HBR.out.mono (by have := HB4.out.size; rw [HBS.out] at this; omega))⟩
end Go.Proofs.YtmpoeeioeimmfaaGreat
