/- The walks of utf8.Loose and utf8.Valid: whether a text is right. -/
import Derived.Test.YthepfbkbfkhcaaaGreatUtG
import Derived.RegionIn
import Derived.BigRegionIn
namespace Go.Proofs.YthepfbkbfkhcaaaGreat
open Go.RowKit Go.Shelf
open Go
set_option linter.unusedVariables false
set_option maxRecDepth 100000
attribute [local go_sem] Oper.semAt_some
def LsI (w : World) (u : List Nat) (k : Nat) (W : World) : Prop := (∃ v sb, W.cell? ⟨w.heap.size, 0, none⟩ = some v ∧ W.frozen? ⟨w.heap.size, 0, none⟩ = false ∧ W.ownsRowF (w.heap.size + 3) 5 1 v sb.size (Lib.strCells sb) ∧ sb.size ≤ 4 * k) ∧ (∃ f : Int, W.cell? ⟨w.heap.size + 1, 0, none⟩ = some (.int .i64 f) ∧ W.frozen? ⟨w.heap.size + 1, 0, none⟩ = false ∧ (f < 0 ↔ ∀ j, j < k → 0 ≤ Ut.rP u j)) ∧ Below w.heap.size w W ∧ w.heap.size + 3 ≤ W.heap.size
theorem rowF_kept {W W' : World} {base : Nat} {e : TypeId} {v : Value} {n : Nat} {xs : List Value} {row : Option Nat} (h : W.ownsRowF base e 1 v n xs) (hg : W.grownBy W' row) (hne : ∀ r, row = some r → r < base ∨ ∃ o : Obj, W.heap[r]? = some o ∧ o.isCells = false) : W'.ownsRowF base e 1 v n xs := by
  obtain ⟨h1, h2⟩ := h
  refine ⟨h1, ?_⟩
  rcases h2 with h2 | ⟨g', cap', cur, fz, hv, hb, hgg, h3⟩
  · exact Or.inl h2
  · refine Or.inr ⟨g', cap', cur, fz, hv, hb, (hg.block g' (Array.getElem?_eq_some_iff.1 hgg).1 ?_).trans hgg, h3⟩
    intro e
    rcases hne g' e.symm with h | ⟨o, ho, hc⟩
    · omega
    · rw [hgg] at ho
      cases ho
      cases hc
theorem rowF_below {W W' : World} {base : Nat} {e : TypeId} {v : Value} {n : Nat} {xs : List Value} (h : W.ownsRowF base e 1 v n xs) (hb : Below W.heap.size W W') : W'.ownsRowF base e 1 v n xs := by
  refine ⟨h.1, ?_⟩
  rcases h.2 with h2 | ⟨g', cap', cur, fz, hv, hB, hgg, h3⟩
  · exact Or.inl h2
  · exact Or.inr ⟨g', cap', cur, fz, hv, hB, (hb.block g' (Array.getElem?_eq_some_iff.1 hgg).1).trans hgg, h3⟩
theorem rowF_shape {W : World} {base : Nat} {e : TypeId} {v : Value} {n : Nat} {xs : List Value} (h : W.ownsRowF base e 1 v n xs) : (∃ pv cv, v = .slice pv n cv) ∧ (∀ q, v.ownBlock = some q → base ≤ q ∧ ∃ cur fz, W.heap[q]? = some (.cells cur e fz)) := by
  rcases h.2 with ⟨rfl, hn⟩ | ⟨g', cap', cur, fz, rfl, hb, hg, _⟩
  · exact ⟨⟨none, 0, by rw [hn]⟩, fun q e => by cases e⟩
  · exact ⟨⟨_, _, rfl⟩, fun q e => by cases e; exact ⟨hb, cur, fz, hg⟩⟩
theorem LsI.own {w : World} {u : List Nat} {B : Nat} (hB : w.heap.size + 3 ≤ B) : OwN B none (LsI w u) := by
  rintro k W W' row ⟨⟨v, sb, hc, hf, ho, hz⟩, ⟨f, hc2, hf2, ha⟩, hb, hs⟩ hg hr
  have hne : ∀ q, q < w.heap.size + 3 → some q ≠ row := fun q hq e => by
    rcases hr _ e.symm with h | ⟨h, _⟩
    · rw [← e] at h; cases h
    · omega
  refine ⟨⟨v, sb, (gb_cell hg (a := ⟨w.heap.size, 0, none⟩) (by show w.heap.size < W.heap.size; omega) (hne w.heap.size (by omega))).trans hc, (gb_frozen hg (a := ⟨w.heap.size, 0, none⟩) (by show w.heap.size < W.heap.size; omega) (hne w.heap.size (by omega))).trans hf, rowF_kept ho hg (fun r e => ?_), hz⟩, ⟨f, (gb_cell hg (a := ⟨w.heap.size + 1, 0, none⟩) (by show w.heap.size + 1 < W.heap.size; omega) (hne (w.heap.size + 1) (by omega))).trans hc2, (gb_frozen hg (a := ⟨w.heap.size + 1, 0, none⟩) (by show w.heap.size + 1 < W.heap.size; omega) (hne (w.heap.size + 1) (by omega))).trans hf2, ha⟩, hb.grown hg (by omega) (fun r e => ?_), Nat.le_trans hs hg.size⟩
  · rcases hr r e with h | ⟨_, h⟩
    · rw [e] at h; cases h
    · exact Or.inr h
  · rcases hr r e with h | ⟨h, _⟩
    · rw [e] at h; cases h
    · omega
theorem keeps_below {W W' : World} (h : Below W.heap.size W W') : KeepsOthers W W' := ⟨h.size, fun k o hk _ => (h.block k (Array.getElem?_eq_some_iff.1 hk).1).trans hk⟩
theorem ls_fin {w W Wa w2 : World} {u : List Nat} {k B : Nat} {v v' : Value} {sb t : ByteArray} {f : Int} {tm : Array Value} {df : List Deferred} (hko : KeepsOthers W Wa) (hbx : Wa.heap[w.heap.size + 2]? = W.heap[w.heap.size + 2]?) (hb : Below w.heap.size w Wa) (hs : w.heap.size + 3 ≤ Wa.heap.size)
    (h0 : Wa.cell? ⟨w.heap.size, 0, none⟩ = some v) (f0 : Wa.frozen? ⟨w.heap.size, 0, none⟩ = false) (h1 : Wa.cell? ⟨w.heap.size + 1, 0, none⟩ = some (.int .i64 f)) (f1 : Wa.frozen? ⟨w.heap.size + 1, 0, none⟩ = false) (hf : f < 0 ↔ ∀ j, j < k + 1 → 0 ≤ Ut.rP u j)
    (how : Wa.ownsRowF (w.heap.size + 3) 5 1 v sb.size (Lib.strCells sb)) (hg : Wa.grownBy w2 v.ownBlock) (hown : w2.ownsRowF (w.heap.size + 3) 5 1 v' (sb.size + t.size) (Lib.strCells sb ++ Lib.strCells t)) (hz : sb.size + t.size ≤ 4 * (k + 1)) :
    ownPostN B (KpB (w.heap.size + 2)) (LsI w u) (fun _ _ _ => False) (k + 1) W .normal { tmps := tm, defers := df } (w2.setCell ⟨w.heap.size, 0, none⟩ v') := by
  have hsh := (rowF_shape how).2
  have hz2 := hg.size
  have g2 := ogb_set w2 ⟨w.heap.size, 0, none⟩ v'
  have hnb : ∀ q, q < w.heap.size + 3 → some q ≠ v.ownBlock := fun q hq e => by
    have := (hsh q e.symm).1
    omega
  refine ⟨(hko.trans ((KeepsOthers.of_grownBy hg (fun j ob e ho2 => ?_)).trans (KeepsOthers.setCell _ _ _))).from _, ?_, ⟨v', sb ++ t, World.cell?_setCell_same _ _ _ ((gb_cell hg (a := ⟨w.heap.size, 0, none⟩) (by show w.heap.size < Wa.heap.size; omega) (hnb w.heap.size (by omega))).trans h0), (World.frozen?_setCell _ _ _ _).trans ((gb_frozen hg (a := ⟨w.heap.size, 0, none⟩) (by show w.heap.size < Wa.heap.size; omega) (hnb w.heap.size (by omega))).trans f0), ?_, by rw [ByteArray.size_append]; exact hz⟩, ⟨f, ?_, (World.frozen?_setCell _ _ _ _).trans ((gb_frozen hg (a := ⟨w.heap.size + 1, 0, none⟩) (by show w.heap.size + 1 < Wa.heap.size; omega) (hnb (w.heap.size + 1) (by omega))).trans f1), hf⟩, ?_, by simp; omega⟩
  · obtain ⟨_, cur, fz, h3⟩ := hsh j e
    rw [h3] at ho2; cases ho2; rfl
  · show (w2.setCell ⟨w.heap.size, 0, none⟩ v').heap[w.heap.size + 2]? = W.heap[w.heap.size + 2]?
    refine (g2.block _ (by omega) (fun e => ?_)).trans ((hg.block _ (by omega) (hnb _ (by omega))).trans hbx)
    injection e with e; simp only at e; omega
  · rw [str_app, ByteArray.size_append]
    exact rowF_kept hown g2 (fun r e => Or.inl (by cases e; show w.heap.size < w.heap.size + 3; omega))
  · rw [World.cell?_setCell_other _ _ _ _ (by intro e; injection e with e _ _; omega)]
    exact (gb_cell hg (a := ⟨w.heap.size + 1, 0, none⟩) (by show w.heap.size + 1 < Wa.heap.size; omega) (hnb (w.heap.size + 1) (by omega))).trans h1
  · refine (hb.grown hg (by omega) (fun r e => ?_)).grown g2 (by omega) (fun r e => ?_)
    · have := (hsh r e).1; omega
    · cases e; exact Nat.le_refl _
theorem rp_sc {u : List Nat} {k : Nat} (h : k < (Ut.pcs u).length) (h0 : 0 ≤ Ut.rP u k) : Ut.isSc (Ut.rP u k) := by
  rw [Ut.rP_at h] at h0 ⊢
  obtain ⟨r, e, hs, _⟩ := Ut.piece_dec (u := u.drop (Ut.posP u k)) (x := (Ut.piece (u.drop (Ut.posP u k))).1) (m := (Ut.piece (u.drop (Ut.posP u k))).2) rfl h0
  rw [e]
  exact hs
def LsPost (u : List Nat) (w : World) (e : Ending) (W' : World) : Prop := ∃ (t : ByteArray) (f : Int), e = .returned (.tuple #[.string t, .int .i64 f]) ∧ (f < 0 ↔ (Ut.scal u).isSome = true) ∧ Below w.heap.size w W'
set_option maxHeartbeats 8000000 in
theorem loose_any (s : ByteArray) (hs : s.size ≤ 100000) (w : World) : Calls Tryz.prog 43 #[.string s] w (LsPost (Ut.bsL s) w) := by
  have hsp := Ut.scal_pcs (Ut.bsL s)
  have hpl := Ut.pcs_len (Ut.bsL s).length 0 (Ut.bsL s)
  rw [Ut.bsL_len] at hpl
  have hpl2 : (Ut.pcs (Ut.bsL s)).length ≤ s.size := by unfold Ut.pcs; rw [Ut.bsL_len]; exact hpl
  obtain ⟨i0, hi, hz0, hz1, hz2⟩ := info_parts infoU
  have HSP := Lib.hid hsp
  clear hsp hpl
  refine (callsIn_wide (n := 6)).1 ?_
  refine callsIn_of_wp_marks Tryz.func43 rfl trivial ?_ rfl
  simp only [Tryz.ntmps43, List.size_toArray, List.length_cons, List.length_nil, Nat.reduceAdd, Nat.reduceSub, Array.replicate_succ, Array.replicate_zero, List.push_toArray, List.append_toArray, List.nil_append, List.cons_append]
  gi_wp2_with (refine ⟨trivial, ?_⟩; gi_at_call 59; refine (callsIn_wide.2 (pieces_any _ _)).mono ?_; rintro e w' ⟨rfl, rfl⟩)
  have hB0 : Below w.heap.size w (((w.alloc (.cells #[.slice none 0 0] 29)).alloc (.cells #[.int .i64 (-1)] 3)).alloc (.cells #[.string s] 9)) := (((Below.refl _ w).alloc (Nat.le_refl _) _).alloc (by simp) _).alloc (by simp; omega) _
  have hb0 : (((w.alloc (.cells #[.slice none 0 0] 29)).alloc (.cells #[.int .i64 (-1)] 3)).alloc (.cells #[.string s] 9)).cell? ⟨w.heap.size + 2, 0, none⟩ = some (.string s) := by simp [go_sem]
  have hb1 : (((w.alloc (.cells #[.slice none 0 0] 29)).alloc (.cells #[.int .i64 (-1)] 3)).alloc (.cells #[.string s] 9)).cell? ⟨w.heap.size + 1, 0, none⟩ = some (.int .i64 (-1)) := by simp [go_sem]
  have hb2 : (((w.alloc (.cells #[.slice none 0 0] 29)).alloc (.cells #[.int .i64 (-1)] 3)).alloc (.cells #[.string s] 9)).cell? ⟨w.heap.size, 0, none⟩ = some (.slice none 0 0) := by simp [go_sem]
  have hb3 : (((w.alloc (.cells #[.slice none 0 0] 29)).alloc (.cells #[.int .i64 (-1)] 3)).alloc (.cells #[.string s] 9)).frozen? ⟨w.heap.size, 0, none⟩ = false := by simp [go_sem]
  have hb4 : (((w.alloc (.cells #[.slice none 0 0] 29)).alloc (.cells #[.int .i64 (-1)] 3)).alloc (.cells #[.string s] 9)).frozen? ⟨w.heap.size + 1, 0, none⟩ = false := by simp [go_sem]
  have hs0 : (((w.alloc (.cells #[.slice none 0 0] 29)).alloc (.cells #[.int .i64 (-1)] 3)).alloc (.cells #[.string s] 9)).heap.size = w.heap.size + 3 := by simp
  generalize (((w.alloc (.cells #[.slice none 0 0] 29)).alloc (.cells #[.int .i64 (-1)] 3)).alloc (.cells #[.string s] 9)) = W0 at *
  refine wpIn_rangeFunc_N rfl (by omega) (gf := 80) (lb := #[.pointer (some ⟨w.heap.size + 2, 0, none⟩)]) rfl trivial (enters_of Tryz.func80 (by kernel_rfl) rfl)
    (pieces1_in (w.heap.size + 2) s (by omega) W0 hb0) (fun b e => by cases e)
    (fun h k => k.trans h) (fun W l o o' hl _ _ _ => World.putObj_heap_other (by omega)) (Below.refl _ _) (fun _ => rfl)
    (LsI w (Ut.bsL s)) (fun _ _ _ => False) (LsI.own (by omega)) (fun _ _ _ _ _ h _ _ => h) ⟨⟨_, ⟨#[]⟩, hb2, hb3, World.ownsRowF_nil .., Nat.le_refl _⟩, ⟨-1, hb1, hb4, ⟨fun _ j hj => absurd hj (Nat.not_lt_zero _), fun _ => by decide⟩⟩, hB0, by omega⟩
    (fun k => { tmps := #[.string s, undef, .string ⟨#[]⟩, .int .i64 0, .pointer (some ⟨w.heap.size, 0, none⟩), .pointer (some ⟨w.heap.size + 1, 0, none⟩), .int .i64 (Ut.posP (Ut.bsL s) k : Int), .int .i64 (Ut.rP (Ut.bsL s) k), undef, undef, .string s, .func (.func 80) #[] #[.pointer (some ⟨w.heap.size + 2, 0, none⟩)], .int .i64 (Ut.posP (Ut.bsL s) k : Int), .int .i64 (Ut.rP (Ut.bsL s) k), undef, undef, undef, undef, undef, undef, undef, undef, undef, undef, undef, undef, undef, undef, undef, undef], defers := [] }) ?assign ?body ?done ?stop
  case assign =>
    intro l k W K _ hK
    unfold encP
    gi_wp2
    exact hK
  case body =>
    rintro l k W ⟨⟨v, sb, hcc, hf, ho, hz⟩, ⟨f, hc2, hf2, ha⟩, hb, hs3⟩ hk
    have HB := Lib.hid hb
    have HA0 := Lib.hid ha
    obtain ⟨⟨pv, cv, rfl⟩, hrow⟩ := rowF_shape ho
    have hnb : ∀ q, q < w.heap.size + 3 → some q ≠ (Value.slice pv sb.size cv).ownBlock := fun q hq e => by
      have := (hrow q e.symm).1
      omega
    have HNB := Lib.hid hnb
    have HO := Lib.hid ho
    have hX : ∀ w1, Below W.heap.size W w1 → w1.cell? ⟨w.heap.size, 0, none⟩ = some (.slice pv sb.size cv) ∧ w1.frozen? ⟨w.heap.size, 0, none⟩ = false ∧ w1.cell? ⟨w.heap.size + 1, 0, none⟩ = some (.int .i64 f) ∧ w1.frozen? ⟨w.heap.size + 1, 0, none⟩ = false ∧ w.heap.size + 3 ≤ w1.heap.size := fun w1 h => by
      have := h.size
      exact ⟨(h.cell (p := ⟨w.heap.size, 0, none⟩) (by show w.heap.size < W.heap.size; omega)).trans hcc, (h.frozen (p := ⟨w.heap.size, 0, none⟩) (by show w.heap.size < W.heap.size; omega)).trans hf, (h.cell (p := ⟨w.heap.size + 1, 0, none⟩) (by show w.heap.size + 1 < W.heap.size; omega)).trans hc2, (h.frozen (p := ⟨w.heap.size + 1, 0, none⟩) (by show w.heap.size + 1 < W.heap.size; omega)).trans hf2, by omega⟩
    have HX := Lib.hid hX
    have HF := Lib.hid hf
    have hp0 : (0 : Int) ≤ (Ut.posP (Ut.bsL s) k : Int) := by omega
    have hsb : sb.size ≤ 400000 := by omega
    by_cases hneg : Ut.rP (Ut.bsL s) k < 0
    · have hns : ¬ Ut.isSc (Ut.rP (Ut.bsL s) k) := fun h => by have := h.1; omega
      have hv : putV (Ut.rP (Ut.bsL s) k) = .tuple #[.string ⟨#[]⟩, .bool false] := by unfold putV; rw [if_neg hns]
      have c1 := put_any (Ut.rP (Ut.bsL s) k) W
      unfold UPutPost at c1
      rw [hv] at c1
      have hno : ∀ {f : Int}, 0 ≤ f → (f < 0 ↔ ∀ j, j < k + 1 → 0 ≤ Ut.rP (Ut.bsL s) j) := fun {f} h0 => ⟨fun h => by omega, fun h => by have := h k (Nat.lt_succ_self k); omega⟩
      have HNO : Hid (∀ f : Int, 0 ≤ f → (f < 0 ↔ ∀ j, j < k + 1 → 0 ≤ Ut.rP (Ut.bsL s) j)) := Lib.hid (fun f => hno)
      clear hno hns hv hb ha hrow hnb ho hX hcc hf hc2 hf2
      generalize Ut.rP (Ut.bsL s) k = r at *
      generalize Ut.posP (Ut.bsL s) k = q at *
      have hq3 : (ByteArray.mk #[239, 191, 189]).size = 3 := rfl
      by_cases hf0 : f < 0
      · gi_wp2_with (first | (refine ⟨trivial, ?_⟩; gi_at_call 60; refine (CallsIn.inRound l (callsIn_wide.2 c1)).mono ?_; rintro e' w1 ⟨rfl, hb1⟩; obtain ⟨x1, x2, x3, x4, x5⟩ := HX.out w1 hb1; have how := rowF_kept (rowF_below HO.out hb1) (ogb_set w1 ⟨w.heap.size + 1, 0, none⟩ (.int .i64 (q : Int))) (fun r e => Or.inl (by cases e; show w.heap.size + 1 < w.heap.size + 3; omega)); have HOW := Lib.hid how; have HB1 := Lib.hid hb1; clear how hb1) | (gi_at_builtin; refine Lib.wpListIn_append_own_stringF _ rfl _ _ 29 9 rfl (w.heap.size + 3) 5 i0 Tryz.underlying29 Tryz.underlying9 hi hz0 hz1 hz2 (.slice pv sb.size cv) sb.size (Lib.strCells sb) rfl HOW.out ⟨#[239, 191, 189]⟩ rfl (by rw [hq3]; unfold maxLen; omega) (by rw [hq3]; omega) (by simp; omega) ?_; intro v' w2 hown' hgrow hnil; clear hnil; obtain ⟨⟨pv2, cv2, rfl⟩, -⟩ := rowF_shape hown'; have hcw := (gb_cell hgrow (a := ⟨w.heap.size, 0, none⟩) (by show w.heap.size < _; simp; omega) (HNB.out w.heap.size (by omega))).trans ((World.cell?_setCell_other _ _ _ _ (by intro e; injection e with e _ _; omega)).trans x1); have hfw := (gb_frozen hgrow (a := ⟨w.heap.size, 0, none⟩) (by show w.heap.size < _; simp; omega) (HNB.out w.heap.size (by omega))).trans ((World.frozen?_setCell _ _ _ _).trans x2); have HG := Lib.hid hgrow; have HQW := Lib.hid hown'; clear hgrow hown'))
        exact ls_fin (Wa := w1.setCell ⟨w.heap.size + 1, 0, none⟩ (.int .i64 (q : Int))) ((keeps_below HB1.out).trans (KeepsOthers.setCell _ _ _)) ((Below.heap_setCell _ _ _ _ (by show w.heap.size + 2 ≠ w.heap.size + 1; omega)).trans (HB1.out.block _ (by omega))) ((HB.out.trans (HB1.out.mono (by omega))).setCell (p := ⟨w.heap.size + 1, 0, none⟩) (by show w.heap.size ≤ w.heap.size + 1; omega) _) (by simp; omega) ((World.cell?_setCell_other _ _ _ _ (by intro e; injection e with e _ _; omega)).trans x1) ((World.frozen?_setCell _ _ _ _).trans x2) (World.cell?_setCell_same _ _ _ x3) ((World.frozen?_setCell _ _ _ _).trans x4) (HNO.out _ hp0) HOW.out HG.out HQW.out (by rw [hq3]; omega)
      · gi_wp2_with (first | (refine ⟨trivial, ?_⟩; gi_at_call 60; refine (CallsIn.inRound l (callsIn_wide.2 c1)).mono ?_; rintro e' w1 ⟨rfl, hb1⟩; obtain ⟨x1, x2, x3, x4, x5⟩ := HX.out w1 hb1; have how := rowF_below HO.out hb1; have HOW := Lib.hid how; have HB1 := Lib.hid hb1; clear how hb1) | (gi_at_builtin; refine Lib.wpListIn_append_own_stringF _ rfl _ _ 29 9 rfl (w.heap.size + 3) 5 i0 Tryz.underlying29 Tryz.underlying9 hi hz0 hz1 hz2 (.slice pv sb.size cv) sb.size (Lib.strCells sb) rfl HOW.out ⟨#[239, 191, 189]⟩ rfl (by rw [hq3]; unfold maxLen; omega) (by rw [hq3]; omega) (by omega) ?_; intro v' w2 hown' hgrow hnil; clear hnil; obtain ⟨⟨pv2, cv2, rfl⟩, -⟩ := rowF_shape hown'; have hcw := (gb_cell hgrow (a := ⟨w.heap.size, 0, none⟩) (by show w.heap.size < _; omega) (HNB.out w.heap.size (by omega))).trans x1; have hfw := (gb_frozen hgrow (a := ⟨w.heap.size, 0, none⟩) (by show w.heap.size < _; omega) (HNB.out w.heap.size (by omega))).trans x2; have HG := Lib.hid hgrow; have HQW := Lib.hid hown'; clear hgrow hown'))
        exact ls_fin (Wa := w1) (keeps_below HB1.out) (HB1.out.block _ (by omega)) (HB.out.trans (HB1.out.mono (by omega))) (by omega) x1 x2 x3 x4 (HNO.out _ (by omega)) HOW.out HG.out HQW.out (by rw [hq3]; omega)
    · have hsc := rp_sc hk (by omega)
      have hv : putV (Ut.rP (Ut.bsL s) k) = .tuple #[.string (Ut.mk (Ut.encI (Ut.rP (Ut.bsL s) k))), .bool true] := by unfold putV; rw [if_pos hsc]
      have c1 := put_any (Ut.rP (Ut.bsL s) k) W
      unfold UPutPost at c1
      rw [hv] at c1
      have hyes : f < 0 ↔ ∀ j, j < k + 1 → 0 ≤ Ut.rP (Ut.bsL s) j := by
        rw [ha]
        constructor
        · intro h j hj
          by_cases e : j = k
          · rw [e]; omega
          · exact h j (by omega)
        · intro h j hj
          exact h j (by omega)
      have HY := Lib.hid hyes
      have hsz : (Ut.mk (Ut.encI (Ut.rP (Ut.bsL s) k))).size ≤ 4 := by rw [Ut.mk_size]; exact (Ut.enc_len _).2
      clear hyes hsc hv hb ha hrow hnb ho hX hcc hf hc2 hf2
      generalize Ut.mk (Ut.encI (Ut.rP (Ut.bsL s) k)) = t at *
      generalize Ut.rP (Ut.bsL s) k = r at *
      gi_wp2_with (first | (refine ⟨trivial, ?_⟩; gi_at_call 60; refine (CallsIn.inRound l (callsIn_wide.2 c1)).mono ?_; rintro e' w1 ⟨rfl, hb1⟩; obtain ⟨x1, x2, x3, x4, x5⟩ := HX.out w1 hb1; have how := rowF_below HO.out hb1; have HOW := Lib.hid how; have HB1 := Lib.hid hb1; clear how hb1) | (gi_at_builtin; refine Lib.wpListIn_append_own_stringF _ rfl _ _ 29 9 rfl (w.heap.size + 3) 5 i0 Tryz.underlying29 Tryz.underlying9 hi hz0 hz1 hz2 (.slice pv sb.size cv) sb.size (Lib.strCells sb) rfl HOW.out t rfl (by unfold maxLen; omega) (by omega) (by omega) ?_; intro v' w2 hown' hgrow hnil; clear hnil; obtain ⟨⟨pv2, cv2, rfl⟩, -⟩ := rowF_shape hown'; have hcw := (gb_cell hgrow (a := ⟨w.heap.size, 0, none⟩) (by show w.heap.size < _; omega) (HNB.out w.heap.size (by omega))).trans x1; have hfw := (gb_frozen hgrow (a := ⟨w.heap.size, 0, none⟩) (by show w.heap.size < _; omega) (HNB.out w.heap.size (by omega))).trans x2; have HG := Lib.hid hgrow; have HQW := Lib.hid hown'; clear hgrow hown'))
      exact ls_fin (Wa := w1) (keeps_below HB1.out) (HB1.out.block _ (by omega)) (HB.out.trans (HB1.out.mono (by omega))) (by omega) x1 x2 x3 x4 HY.out HOW.out HG.out HQW.out (by omega)
  case done =>
    rintro D W hD ⟨⟨v, sb, hcc, hf, ho, hz⟩, ⟨f, hc2, hf2, ha⟩, hb, hs3⟩ hK
    have hyes : f < 0 ↔ (Ut.scal (Ut.bsL s)).isSome = true := by
      rw [ha, HSP.out]
      constructor
      · intro h
        rw [if_pos]
        · rfl
        · intro q hq
          obtain ⟨j, hj, e⟩ := List.getElem_of_mem hq
          have h3 := h j hj
          unfold Ut.rP at h3
          rw [List.getElem?_eq_getElem hj, e] at h3
          exact h3
      · intro h j hj
        by_cases q : ∀ q ∈ Ut.pcs (Ut.bsL s), 0 ≤ q.2
        · have := q _ (List.mem_of_getElem? (Ut.posP_at hj).2.1)
          rw [← Ut.rP_at hj] at this
          exact this
        · rw [if_neg q] at h
          cases h
    have HY := Lib.hid hyes
    have hob : ∀ W' : World, W'.heap = W.heap → OB (w.heap.size + 3) v sb W' W' := fun W' e => ⟨by
      refine ⟨ho.1, ?_⟩
      rw [e]
      exact ho.2, Below.refl _ _, by rw [e]; exact hs3⟩
    have hv0 := (hob W rfl).conv
    have hv1 := (hob W.drew rfl).conv
    obtain ⟨⟨pv, cv, rfl⟩, -⟩ := rowF_shape ho
    clear ha hyes ho hob
    gi_wp2
    gi_region
    gi_wp2
    have hKd : (W.drew).heap[D]? = some (.deferred (some [])) := hK
    refine ⟨by simp, .inl ⟨_, _, rfl, run_takeDeferred hKd, ?_⟩⟩
    refine ⟨.tuple #[.string sb, .int .i64 f], ?_, ⟨sb, f, rfl, HY.out, hb.drew.trans (belowK_b (w := W0) (by omega) W.drew D _ _ hD hKd rfl rfl)⟩⟩
    simp [results, Tryz.f43, go_sem]
  case stop =>
    rintro D c k W _ _ h _
    exact h.elim
set_option maxHeartbeats 4000000 in
theorem valid_any (s : ByteArray) (hs : s.size ≤ 100000) (w : World) : Calls Tryz.prog 32 #[.string s] w (BoolPost (Ut.scal (Ut.bsL s)).isSome w) := by
  have C := fun w => loose_any s hs w
  cases hv : (Ut.scal (Ut.bsL s)).isSome
  · have HV := Lib.hid hv
    clear hv
    go_enter Tryz.func32, Tryz.ntmps32
    go_wp2_with (go_at_call 43; refine (C _).mono ?_; rintro e w1 ⟨t, f, rfl, hf, hb⟩; rw [HV.out] at hf; have hf0 : decide (f < 0) = false := decide_eq_false (fun h => by have := hf.1 h; cases this); clear hf)
    go_ret
    first | exact ⟨rfl, hb⟩ | exact ⟨by rw [hf0]; rfl, hb⟩ | exact ⟨by simp [hf0], hb⟩
  · have HV := Lib.hid hv
    clear hv
    go_enter Tryz.func32, Tryz.ntmps32
    go_wp2_with (go_at_call 43; refine (C _).mono ?_; rintro e w1 ⟨t, f, rfl, hf, hb⟩; rw [HV.out] at hf; have hf0 : decide (f < 0) = true := decide_eq_true (hf.2 rfl); clear hf)
    go_ret
    first | exact ⟨rfl, hb⟩ | exact ⟨by rw [hf0]; rfl, hb⟩ | exact ⟨by simp [hf0], hb⟩
end Go.Proofs.YthepfbkbfkhcaaaGreat
