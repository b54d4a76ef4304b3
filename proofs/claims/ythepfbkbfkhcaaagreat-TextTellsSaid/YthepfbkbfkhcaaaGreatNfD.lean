/- The walk of Decomposed's closure: parts, in order. A map of pairs: keys that are arrays of two; the walk of compose's closure. -/
import Derived.Test.YthepfbkbfkhcaaaGreatNfB
import Derived.Maps.OwnIn
import Derived.Maps.AppendAt
import Derived.Test.YthepfbkbfkhcaaaGreatTbD
import Derived.Test.YthepfbkbfkhcaaaGreatTbJ
namespace Go.Proofs.YthepfbkbfkhcaaaGreat
open Go.RowKit Go.Shelf
open Go
set_option linter.unusedVariables false
set_option maxRecDepth 100000
attribute [local go_sem] Oper.semAt_some
theorem keeps_below2 {W W' : World} (h : Below W.heap.size W W') : KeepsOthers W W' := ⟨h.size, fun k o hk _ => (h.block k (Array.getElem?_eq_some_iff.1 hk).1).trans hk⟩
theorem nown_rowp {W : World} {base : Nat} {v : Value} {L : List Int} (h : OwnL W base v L) : ∃ p c, v = .slice p L.length c ∧ RowP W p c L := by
  rcases h.2 with ⟨rfl, hn⟩ | ⟨g', cap', cur, rfl, hb, hg, hle, _⟩
  · have : L = [] := List.length_eq_zero_iff.1 hn
    subst this
    exact ⟨none, 0, rfl, Nat.le_refl _, Or.inl rfl⟩
  · exact ⟨some ⟨g', 0, none⟩, cap', rfl, OwnL.row (n := L.length) h⟩
def dcV (L : List Int) (k : Nat) : List Value := ((Tb.dec L).take k).map encI
theorem dcV_succ {L : List Int} {k : Nat} (h : k < (Tb.dec L).length) : dcV L (k + 1) = dcV L k ++ [encI (dR L k)] := by
  unfold dcV dR
  rw [List.take_succ_eq_append_getElem h, List.map_append, List.getD_eq_getElem?_getD, List.getElem?_eq_getElem h]
  rfl
def DcI (w : World) (L : List Int) (k : Nat) (W : World) : Prop := (∃ v, W.cell? ⟨w.heap.size, 0, none⟩ = some v ∧ W.frozen? ⟨w.heap.size, 0, none⟩ = false ∧ W.ownsRow (w.heap.size + 2) 3 1 v k (dcV L k)) ∧ Below w.heap.size w W ∧ w.heap.size + 2 ≤ W.heap.size
theorem DcI.own {w : World} {L : List Int} {B : Nat} (hB : w.heap.size + 2 ≤ B) : OwN B none (DcI w L) := by
  rintro k W W' row ⟨⟨v, hc, hf, ho⟩, hb, hs⟩ hg hr
  have hne : ∀ q, q < w.heap.size + 2 → some q ≠ row := fun q hq e => by
    rcases hr _ e.symm with h | ⟨h, _⟩
    · rw [← e] at h; cases h
    · omega
  refine ⟨⟨v, (gb_cell hg (a := ⟨w.heap.size, 0, none⟩) (by show w.heap.size < W.heap.size; omega) (hne w.heap.size (by omega))).trans hc, (gb_frozen hg (a := ⟨w.heap.size, 0, none⟩) (by show w.heap.size < W.heap.size; omega) (hne w.heap.size (by omega))).trans hf, row_kept ho hg (fun r e => ?_)⟩, hb.grown hg (by omega) (fun r e => ?_), Nat.le_trans hs hg.size⟩
  · rcases hr r e with h | ⟨_, h⟩
    · rw [e] at h; cases h
    · exact Or.inr h
  · rcases hr r e with h | ⟨h, _⟩
    · rw [e] at h; cases h
    · omega
set_option maxHeartbeats 8000000 in
theorem dcmp1_any (p : Option Addr) (c : Nat) (L : List Int) (w : World) (hL : L.length ≤ 100000) (hD : (Tb.dec L).length ≤ 100000) (h64 : All64 L) (hrp : RowP w p c L) :
    Calls Tryz.prog 49 #[.slice p L.length c] w (OutPost (Tb.dcmp L) w) := by
  have hlc := hrp.1
  obtain ⟨g, o, hgo⟩ : ∃ g o, g ≠ w.heap.size ∧ g < w.heap.size + 2 ∧ ∀ i (h : i < L.length), p = some ⟨g, o, none⟩ ∧ w.cell? ⟨g, o + i, none⟩ = some (.int .i64 L[i]) ∧ g < w.heap.size := by
    rcases hrp.2 with h | ⟨g, o, h1, h2⟩
    · exact ⟨w.heap.size + 1, 0, by omega, by omega, fun i hi => by rw [h] at hi; exact absurd hi (Nat.not_lt_zero _)⟩
    · have := h2.1
      exact ⟨g, o, by omega, by omega, fun i hi => ⟨h1, h2.2 i _ (List.getElem?_eq_getElem hi), h2.1⟩⟩
  obtain ⟨i0, hi, hz0, hz1, hz2⟩ := info_parts infoI
  have HGO := Lib.hid hgo
  have H64 := Lib.hid h64
  clear hgo hrp h64
  refine (callsIn_wide (n := 6)).1 ?_
  refine callsIn_of_wp_marks Tryz.func49 rfl trivial ?_ rfl
  simp only [Tryz.ntmps49, List.size_toArray, List.length_cons, List.length_nil, Nat.reduceAdd, Nat.reduceSub, Array.replicate_succ, Array.replicate_zero, List.push_toArray, List.append_toArray, List.nil_append, List.cons_append]
  gi_wp2_with (refine ⟨trivial, ?_⟩; gi_at_call 50; refine (callsIn_wide.2 (parts_any _ _ _ _)).mono ?_; rintro e w' ⟨rfl, rfl⟩)
  have hB0 : Below w.heap.size w ((w.alloc (.cells #[.slice none 0 0] 49)).alloc (.cells #[.slice p L.length c] 49)) := ((Below.refl _ w).alloc (Nat.le_refl _) _).alloc (by simp) _
  have hb0 : ((w.alloc (.cells #[.slice none 0 0] 49)).alloc (.cells #[.slice p L.length c] 49)).cell? ⟨w.heap.size + 1, 0, none⟩ = some (.slice p L.length c) := by simp [go_sem]
  have hb2 : ((w.alloc (.cells #[.slice none 0 0] 49)).alloc (.cells #[.slice p L.length c] 49)).cell? ⟨w.heap.size, 0, none⟩ = some (.slice none 0 0) := by simp [go_sem]
  have hb3 : ((w.alloc (.cells #[.slice none 0 0] 49)).alloc (.cells #[.slice p L.length c] 49)).frozen? ⟨w.heap.size, 0, none⟩ = false := by simp [go_sem]
  have hs0 : ((w.alloc (.cells #[.slice none 0 0] 49)).alloc (.cells #[.slice p L.length c] 49)).heap.size = w.heap.size + 2 := by simp
  generalize (w.alloc (.cells #[.slice none 0 0] 49)).alloc (.cells #[.slice p L.length c] 49) = W0 at *
  refine wpIn_rangeFunc_N rfl (by omega) (gf := 67) (lb := #[.pointer (some ⟨w.heap.size + 1, 0, none⟩)]) rfl trivial (enters_of Tryz.func67 (by kernel_rfl) rfl)
    (parts1_in w.heap.size (w.heap.size + 1) g o c p L hL H64.out W0 (by omega) hb2 (by omega) HGO.out.1 (by have := HGO.out.2.1; omega) hlc hb0 (fun i hi => ⟨(HGO.out.2.2 i hi).1, (hB0.cell (p := ⟨g, o + i, none⟩) (HGO.out.2.2 i hi).2.2).trans (HGO.out.2.2 i hi).2.1⟩)) (fun b e => by cases e)
    (fun h k => h.trans k) (fun W l o o' hl h1 h2 _ => KpQ.put (by omega) h1 h2) (Below.refl _ _) (fun _ => rfl)
    (DcI w L) (fun _ _ _ => False) (DcI.own (by omega)) (fun _ _ _ _ _ h _ _ => h) ⟨⟨_, hb2, hb3, ⟨rfl, Or.inl ⟨rfl, rfl⟩⟩⟩, hB0, by omega⟩
    (fun k => { tmps := #[.slice p L.length c, undef, .pointer (some ⟨w.heap.size, 0, none⟩), .int .i64 (dR L k), .slice p L.length c, .func (.func 67) #[] #[.pointer (some ⟨w.heap.size + 1, 0, none⟩)], .int .i64 (dR L k), undef, undef, undef, undef, undef, undef], defers := [] }) ?assign ?body ?done ?stop
  case assign =>
    intro l k W K _ hK
    unfold encD
    gi_wp2
    exact hK
  case body =>
    rintro l k W ⟨⟨v, hcc, hf, ho⟩, hb, hs⟩ hk
    obtain ⟨⟨pv, cv, rfl⟩, hrow⟩ := row_shape ho
    have hnb : some w.heap.size ≠ (Value.slice pv k cv).ownBlock := fun e => by
      have := (hrow _ e.symm).1
      omega
    have b1 : k + 1 ≤ maxLen := by unfold maxLen; omega
    have b2 : (k + 1) * 8 ≤ 140737488355328 := by omega
    have HB := Lib.hid hb
    have HROW := Lib.hid hrow
    have HNB := Lib.hid hnb
    have HO := Lib.hid ho
    have HSV := Lib.hid (dcV_succ hk)
    have hA : ∀ ob : Obj, (W.alloc ob).cell? ⟨w.heap.size, 0, none⟩ = some (.slice pv k cv) ∧ (W.alloc ob).frozen? ⟨w.heap.size, 0, none⟩ = false := fun ob =>
      have hA0 := (Below.refl W.heap.size W).alloc (Nat.le_refl _) ob
      ⟨(hA0.cell (p := ⟨w.heap.size, 0, none⟩) (by show w.heap.size < W.heap.size; omega)).trans hcc, (hA0.frozen (p := ⟨w.heap.size, 0, none⟩) (by show w.heap.size < W.heap.size; omega)).trans hf⟩
    have HA := Lib.hid hA
    have HCC := Lib.hid hcc
    clear hb hrow hnb ho hA
    generalize hrr : dR L k = r at *
    gi_wp2_with (gi_at_builtin; refine wpListIn_append_own_at _ rfl _ _ 49 rfl (w.heap.size + 2) 3 i0 (.int .i64 0) 1 8 Tryz.underlying49 hi hz0 hz1 hz2 rfl (by decide) (.slice pv k cv) k (dcV L k) rfl (row_kept HO.out (World.grownBy_alloc W _ none) (fun r e => by cases e)) ⟨W.heap.size, 0, none⟩ 1 1 [.int .i64 r] rfl rfl (cell_one_new _ _ _) (by simp [Value.oneCell']) b1 b2 (by simp; omega) ?_; intro v' w1 hown' hgrow hnil hblk; clear hnil; obtain ⟨g', cap', rfl, hgb', hcp', hsh⟩ := row_pos hown' (Nat.succ_pos _); have HBK := Lib.hid hblk; clear hblk; have hcw := (gb_cell hgrow (a := ⟨w.heap.size, 0, none⟩) (by simp; omega) HNB.out).trans (HA.out _).1; have hfw := (gb_frozen hgrow (a := ⟨w.heap.size, 0, none⟩) (by simp; omega) HNB.out).trans (HA.out _).2; have HOW := Lib.hid hown'; have HG := Lib.hid hgrow; have HSH := Lib.hid hsh; clear hown' hgrow hsh)
    have g0 := World.grownBy_alloc W (.cells #[.int .i64 r] 3) none
    have g1 := HG.out
    have g2 := ogb_set w1 ⟨w.heap.size, 0, none⟩ (.slice (some ⟨g', 0, none⟩) (k + 1) cap')
    have hz1 : (W.alloc (.cells #[.int .i64 r] 3)).heap.size ≤ w1.heap.size := g1.size
    rw [World.size_alloc] at hz1
    have hcl : (w1.setCell ⟨w.heap.size, 0, none⟩ (.slice (some ⟨g', 0, none⟩) (k + 1) cap')).cell? ⟨w.heap.size, 0, none⟩ = some (.slice (some ⟨g', 0, none⟩) (k + 1) cap') := World.cell?_setCell_same _ _ _ hcw
    have hoq : ∀ q, ownQ w.heap.size (w1.setCell ⟨w.heap.size, 0, none⟩ (.slice (some ⟨g', 0, none⟩) (k + 1) cap')) q → q = g' := fun q ⟨v, h1, h2⟩ => by
      rw [hcl] at h1
      cases h1
      injection h2 with h2
      exact h2.symm
    refine ⟨((KeepsOthers.of_grownBy g0 (fun j ob e _ => by cases e)).trans ((KeepsOthers.of_grownBy g1 (fun j ob e ho2 => ?_)).trans (KeepsOthers.setCell _ _ _))).from _, ⟨by simp; omega, fun a v ha hx hn => ?_, fun q hq => ?_, fun _ q hq => ?_⟩, ⟨.slice (some ⟨g', 0, none⟩) (k + 1) cap', hcl, (World.frozen?_setCell _ _ _ _).trans hfw, ?_⟩, ?_, by simp; omega⟩
    · obtain ⟨_, cur, fz, h3⟩ := HROW.out j e
      have h4 := (g0.block j (Array.getElem?_eq_some_iff.1 h3).1 (fun e => by cases e)).trans h3
      rw [h4] at ho2; cases ho2; rfl
    · have hl := World.block_lt_of_cell? _ _ ha
      refine (g2.block _ (by omega) (fun e => ?_)).trans ((g1.block _ (by simp; omega) (fun e => ?_)).trans (g0.block _ hl (fun e => by cases e)))
      · injection e with e; exact hx e
      · exact hn ⟨_, HCC.out, e.symm⟩
    · rw [hoq q hq]
      rcases HBK.out with h | h
      · exact Or.inl ⟨_, HCC.out, h.symm ▸ rfl⟩
      · injection h with h
        simp at h
        right; omega
    · rw [hoq q hq]
      obtain ⟨cur, fz, h3⟩ := HSH.out
      have := (Array.getElem?_eq_some_iff.1 h3).1
      simpa using this
    · rw [HSV.out]
      exact row_kept HOW.out g2 (fun r e => Or.inl (by cases e; show w.heap.size < w.heap.size + 2; omega))
    · refine ((HB.out.grown g0 (by omega) (fun r e => by cases e)).grown g1 (by simp; omega) (fun r e => ?_)).grown g2 (by omega) (fun r e => ?_)
      · have := (HROW.out r e).1; omega
      · cases e; exact Nat.le_refl _
  case done =>
    rintro D W hDD ⟨⟨v, hcc, hf, ho⟩, hb, hs⟩ hK
    have hown : OwnL W (w.heap.size + 2) v (Tb.dec L) := by
      unfold OwnL
      have : dcV L (Tb.dec L).length = (Tb.dec L).map encI := by unfold dcV; rw [List.take_length]
      rw [this] at ho
      exact ho
    obtain ⟨pv, cv, rfl, hrp⟩ := nown_rowp hown
    have c2 := sort_any pv cv (Tb.dec L) W hD hrp
    have HB := Lib.hid hb
    have HK := Lib.hid hK
    have HCC := Lib.hid hcc
    clear hown ho hrp hb hK
    gi_wp2_with (refine ⟨trivial, ?_⟩; gi_at_call 51; refine (callsIn_wide.2 c2).mono ?_; rintro e' w2 ⟨v2, rfl, hO2, hb2⟩; obtain ⟨⟨pv2, cv2, rfl⟩, -⟩ := row_shape hO2; have hc3 := (hb2.cell (p := ⟨w.heap.size, 0, none⟩) (by show w.heap.size < W.heap.size; omega)).trans hcc; have hf3 := (hb2.frozen (p := ⟨w.heap.size, 0, none⟩) (by show w.heap.size < W.heap.size; omega)).trans hf; have HO2 := Lib.hid hO2; have HB2 := Lib.hid hb2; clear hO2 hb2)
    have hK2 : (w2.setCell ⟨w.heap.size, 0, none⟩ (.slice pv2 (Ordl.sortL Tb.classI (Tb.dec L)).length cv2)).heap[D]? = some (.deferred (some [])) := (KeepsOthers.setCell w2 ⟨w.heap.size, 0, none⟩ _).same D _ ((keeps_below2 HB2.out).same D _ HK.out rfl) rfl
    refine ⟨by simp, .inl ⟨_, _, rfl, run_takeDeferred hK2, ?_⟩⟩
    have hc5 := cell_kept (World.cell?_setCell_same w2 ⟨w.heap.size, 0, none⟩ (.slice pv2 (Ordl.sortL Tb.classI (Tb.dec L)).length cv2) hc3) (grownBy_putObj' _ D (.deferred none)) (fun r e => by cases e; exact ⟨_, hK2, rfl⟩)
    refine ⟨.slice pv2 (Ordl.sortL Tb.classI (Tb.dec L)).length cv2, ?_, ⟨_, rfl, ?_, ((HB.out.trans (HB2.out.mono (by omega))).setCell (p := ⟨w.heap.size, 0, none⟩) (Nat.le_refl _) _).trans (belowK_b (w := W0) (by omega) _ D _ _ hDD hK2 rfl rfl)⟩⟩
    · simp [results, Tryz.f49, go_sem, hc5]
    · have h1 := HO2.out.kept (ogb_set w2 ⟨w.heap.size, 0, none⟩ (.slice pv2 (Ordl.sortL Tb.classI (Tb.dec L)).length cv2)) (fun r e => Or.inl (by cases e; show w.heap.size < W.heap.size; omega))
      have h2 := h1.kept (grownBy_putObj' _ D (.deferred none)) (fun r e => by cases e; exact Or.inr ⟨_, hK2, rfl⟩)
      exact own_base h2 (by omega)
  case stop =>
    rintro D c k W _ _ h _
    exact h.elim
end Go.Proofs.YthepfbkbfkhcaaaGreat
namespace Go.Proofs.YthepfbkbfkhcaaaGreat
open Go.RowKit Go.Shelf
open Go.Maps (Keyed int_keyed keyOf_int_mk)
open Go
set_option linter.unusedVariables false
set_option maxRecDepth 100000
theorem ka : Keyed Tryz.prog 71 := Keyed.of_law (deep_law_laid laidOut (m := 2) (by omega) (of_decide_eq_true (by kernel_rfl)) (by kernel_rfl) (by rw [Tryz.underlying71]))
theorem cells_arr : Tryz.prog.cellsOf 71 = 2 := by kernel_rfl
theorem lits_arr (n : Nat) (x y : Value) : Tryz.prog.keyLits (n + 2) 71 [x, y] = (Tryz.prog.keyLits (n + 1) 3 [x]).bind fun p => (Tryz.prog.keyLits (n + 1) 3 [y]).map fun q => p ++ q := by
  conv => lhs; unfold Program.keyLits
  rw [Tryz.underlying71]
  simp only [cells_arr, cells_int, List.length_cons, List.length_nil, if_true]
  simp only [List.range, List.range.loop, List.mapM_cons, List.mapM_nil]
  simp only [Nat.zero_mul, List.drop_zero, List.take_succ_cons, List.take_zero, Nat.one_mul, List.drop_succ_cons]
  cases Tryz.prog.keyLits (n + 1) 3 [x] <;> cases Tryz.prog.keyLits (n + 1) 3 [y] <;> simp
theorem keyOf_arr (v : Value) : keyOf Tryz.prog 71 v = if v.formed Tryz.prog 71 = true then (Tryz.prog.keyLits (Tryz.prog.types.size + 1) 71 v.cells.toList).map fun ls => .string (keyBytes ls) else none := by
  have h1 : Tryz.prog.keyType 71 = true := by kernel_rfl
  unfold keyOf
  rw [Tryz.underlying71]
  simp only [h1, Bool.true_and]
theorem key_arr (a b : Int) (ha : Is64 a) (hb : Is64 b) : ∃ kl, keyOf Tryz.prog 71 (.agg #[.int .i64 a, .int .i64 b]) = some kl := by
  rw [keyOf_arr]
  have h1 : (Value.agg #[.int .i64 a, .int .i64 b]).formed Tryz.prog 71 = true := by
    unfold Value.formed
    rw [Tryz.underlying71]
    simp [cells_arr]
  rw [if_pos h1]
  obtain ⟨n, hn⟩ := two_more
  rw [hn]
  have h2 : (Value.agg #[.int .i64 a, .int .i64 b]).cells.toList = [.int .i64 a, .int .i64 b] := rfl
  have wa := is_wf ha
  have wb := is_wf hb
  rw [h2, lits_arr, lits_int, lits_int]
  simp [wa, wb]
/-- What the map of wholes that are known holds: wholes. -/
def KnownF (f : Value → Option Value) : Prop := ∀ a b v, f (.agg #[.int .i64 a, .int .i64 b]) = some v → ∃ x : Int, v = .int .i64 x ∧ Tb.wholeF a b = some x
theorem known_none : KnownF fun _ => none := fun _ _ _ h => by cases h
theorem known_upd {f : Value → Option Value} (h : KnownF f) {a b x : Int} (hw : Tb.wholeF a b = some x) : KnownF (updF f (.agg #[.int .i64 a, .int .i64 b]) (.int .i64 x)) := by
  intro a' b' v hv
  by_cases e : (Value.agg #[.int .i64 a', .int .i64 b']) = .agg #[.int .i64 a, .int .i64 b]
  · rw [e, updF_same] at hv
    cases hv
    injection e with e
    injection e with e
    injection e with e1 e2
    injection e1 with _ e1
    injection e2 with e2 _
    injection e2 with _ e2
    rw [e1, e2]
    exact ⟨x, rfl, hw⟩
  · rw [updF_other e] at hv
    exact h a' b' v hv
theorem gb_row {A B C : World} {r : Option Nat} (h : A.grownBy B r) (k : B.grownBy C r) : A.grownBy C r := ⟨k.os.trans h.os, k.tape.trans h.tape, k.output.trans h.output, Nat.le_trans h.size k.size, fun q hq hr => (k.block q (Nat.lt_of_lt_of_le hq h.size) hr).trans (h.block q hq hr)⟩
def OfPost (mb n : Nat) (o : Option Int) (W : World) (e : Ending) (W' : World) : Prop := e = .returned (wholeV o) ∧ W.grownBy W' (some mb) ∧ ∃ f', MapF Tryz.prog 71 okI W' mb (n + 1) f' ∧ KnownF f'
theorem gb_any {W W' : World} (h : W.grownBy W' none) (r : Option Nat) : W.grownBy W' r := ⟨h.os, h.tape, h.output, h.size, fun k hk _ => h.block k hk (fun e => by cases e)⟩
set_option maxHeartbeats 4000000 in
theorem of_any (a b : Int) (ha : Is64 a) (hb : Is64 b) (bx mb n : Nat) (f : Value → Option Value) (W : World) (hbx : W.cell? ⟨bx, 0, none⟩ = some (.map (some mb))) (hm : MapF Tryz.prog 71 okI W mb n f) (hn : n ≤ 1000000) (hk : KnownF f) :
    Calls Tryz.prog 64 #[.int .i64 a, .int .i64 b, .pointer (some ⟨bx, 0, none⟩)] W (OfPost mb n (Tb.wholeF a b) W) := by
  obtain ⟨kl, hkl⟩ := key_arr a b ha hb
  have C := whole_any a b ha hb
  cases hf : f (.agg #[.int .i64 a, .int .i64 b]) with
  | some v =>
    obtain ⟨x, rfl, hx⟩ := hk a b v hf
    rw [hx]
    have HF := Lib.hid hf
    have HK := Lib.hid hk
    have HM := Lib.hid hm
    clear hk hf hx C hm
    go_enter Tryz.func64, Tryz.ntmps64
    go_wp2_with (at_lookup; refine wpList_look_f _ rfl _ _ 69 rfl 71 3 ka Tryz.underlying69 okI mb n f rfl HM.out (zero_int _) (by decide) _ _ rfl hkl _ HF.out ?_)
    exact bodyPost_ret (v := wholeV (some x)) (by simp [results, wholeV, Tryz.f64, go_sem]) rfl ⟨rfl, gb_refl _ _, f, HM.out.mono (by omega), HK.out⟩
  | none =>
    cases ho : Tb.wholeF a b with
    | none =>
      rw [ho] at C
      have HF := Lib.hid hf
      have HK := Lib.hid hk
      have HM := Lib.hid hm
      clear hk hf ho hm
      unfold WholePost wholeV at C
      go_enter Tryz.func64, Tryz.ntmps64
      go_wp2_with (first | (at_lookup; refine wpList_look_f _ rfl _ _ 69 rfl 71 3 ka Tryz.underlying69 okI mb n f rfl HM.out (zero_int _) (by decide) _ _ rfl hkl _ HF.out ?_) | (go_at_call 65; refine (C _).mono ?_; rintro e w1 ⟨rfl, hb1⟩))
      exact bodyPost_ret (v := wholeV none) (by simp [results, wholeV, Tryz.f64, go_sem]) rfl ⟨rfl, gb_any (below_grown hb1) _, f, (HM.out.kept (below_grown hb1) (fun e => by cases e)).mono (by omega), HK.out⟩
    | some x =>
      rw [ho] at C
      have hxs := whole_small ho
      have HF := Lib.hid hf
      have HK := Lib.hid hk
      have HM := Lib.hid hm
      have HO := Lib.hid ho
      have hbl : bx < W.heap.size := World.block_lt_of_cell? _ _ hbx
      have hox : okI (.int .i64 x) = true := okI_small (by omega) (by omega)
      clear hk hf ho hm
      unfold WholePost wholeV at C
      go_enter Tryz.func64, Tryz.ntmps64
      go_wp2_with (first | (at_lookup; refine wpList_look_f _ rfl _ _ 69 rfl 71 3 ka Tryz.underlying69 okI mb n f rfl HM.out (zero_int _) (by decide) _ _ rfl hkl _ HF.out ?_) | (go_at_call 65; refine (C _).mono ?_; rintro e w1 ⟨rfl, hb1⟩; have hbx1 := (hb1.cell (p := ⟨bx, 0, none⟩) hbl).trans hbx; have HM1 := Lib.hid (HM.out.kept (below_grown hb1) (fun e => by cases e)); have HB1 := Lib.hid hb1; clear hb1) | (at_mapUpdate; refine wpList_store_f _ rfl _ _ _ 69 rfl 71 3 ka Tryz.underlying69 okI mb n f rfl HM1.out (by unfold maxLen; omega) _ _ _ rfl rfl hkl hox ?_; intro w2 hm2 hturn2; have HM2 := Lib.hid hm2; have HT2 := Lib.hid hturn2; clear hm2 hturn2))
      exact bodyPost_ret (v := wholeV (some x)) (by simp [results, wholeV, Tryz.f64, go_sem]) rfl ⟨rfl, gb_row (gb_any (below_grown HB1.out) _) HT2.out.grown, _, HM2.out, known_upd HK.out HO.out⟩
end Go.Proofs.YthepfbkbfkhcaaaGreat
