/- The walk of utf8.Text: scalars to bytes. The walk of utf8.Scalars: a text's scalars, or not. -/
import Derived.Test.YthepfbkbfkhcaaaGreatUtE
import Derived.Test.YthepfbkbfkhcaaaGreatOsG
import Derived.Lib.BufSteps
import Derived.Lib.BufStepsIn
import Derived.Test.YthepfbkbfkhcaaaGreatUtC
import Derived.Test.YthepfbkbfkhcaaaGreatOsK
namespace Go.Proofs.YthepfbkbfkhcaaaGreat
open Go.RowKit
open Go
set_option linter.unusedVariables false
set_option maxRecDepth 100000
/-- A row of bytes that the call owns, with these bytes. -/
def OB (B : Nat) (v : Value) (s : ByteArray) (W0 w : World) : Prop := Lib.OwnBuf B 5 v s.size (Lib.strCells s) W0 w
theorem str_app (a b : ByteArray) : Lib.strCells (a ++ b) = Lib.strCells a ++ Lib.strCells b := by
  unfold Lib.strCells
  rw [ByteArray.data_append]
  simp
theorem OB.app {B : Nat} {v : Value} {s t : ByteArray} {W0 w : World} (h : Lib.OwnBuf B 5 v (s.size + t.size) (Lib.strCells s ++ Lib.strCells t) W0 w) : OB B v (s ++ t) W0 w := by
  unfold OB
  rw [str_app, ByteArray.size_append]
  exact h
theorem OB.below {B : Nat} {v : Value} {s : ByteArray} {W0 w w' : World} (h : OB B v s W0 w) (hb : Below w.heap.size w w') : OB B v s W0 w' := by
  obtain ⟨h1, h2, h3⟩ := h
  refine ⟨⟨h1.1, ?_⟩, h2.trans (hb.mono h3), Nat.le_trans h3 hb.size⟩
  rcases h1.2 with h | ⟨g, cap, cur, fz, hv, hB, hg, h⟩
  · exact .inl h
  · exact .inr ⟨g, cap, cur, fz, hv, hB, (hb.block g (Array.getElem?_eq_some_iff.1 hg).1).trans hg, h⟩
theorem OB.nil {w : World} : OB w.heap.size (.slice none 0 0) ⟨#[]⟩ w w := ⟨World.ownsRowF_nil .., Below.refl _ _, Nat.le_refl _⟩
theorem OB.shape {B : Nat} {v : Value} {s : ByteArray} {W0 w : World} (h : OB B v s W0 w) : ∃ pv cv, v = .slice pv s.size cv := by
  rcases h.1.2 with ⟨h, e⟩ | ⟨g, cap, cur, fz, hv, _⟩
  · exact ⟨none, 0, by rw [h, e]⟩
  · exact ⟨_, _, hv⟩
theorem conv_nil (w : World) : (convert 29 9 (.slice none 0 0)).run Tryz.prog w = .ok (.string ⟨#[]⟩) w := by kernel_rfl
theorem OB.conv {B : Nat} {v : Value} {s : ByteArray} {W0 w : World} (h : OB B v s W0 w) : (convert 29 9 v).run Tryz.prog w = .ok (.string s) w := by
  have h0 := h.1
  rcases h.1.2 with ⟨hv, e⟩ | ⟨g, cap, cur, fz, hv, _⟩
  · have : s = ⟨#[]⟩ := by
      apply ByteArray.ext
      exact Array.eq_empty_of_size_eq_zero e
    rw [hv, this]
    exact conv_nil w
  · have hc := h0.cells (g := g) (by rw [hv]; rfl)
    rw [hv]
    have hl : s.data.toList.length = s.size := by rw [Array.length_toList]; rfl
    have := run_convert_bytes_back (P := Tryz.prog) w 29 9 5 ⟨g, 0, none⟩ cap s.data.toList Tryz.underlying29 Tryz.underlying5 Tryz.underlying9 (fun j hj => by
      refine hc j _ ?_
      unfold Lib.strCells
      rw [List.getElem?_map, List.getElem?_eq_getElem hj]
      rfl)
    rw [hl] at this
    exact this
theorem infoU : (Tryz.prog.info? 5).map (fun i => (i.zero, i.size, i.bytes)) = some (some (.int .u8 0), 1, 1) := by kernel_rfl
theorem text_take {L : List Int} {j : Nat} (h : j < L.length) : Ut.mk (Ut.text (L.take (j + 1))) = Ut.mk (Ut.text (L.take j)) ++ Ut.mk (Ut.encI L[j]) := by
  rw [List.take_succ_eq_append_getElem h, Ut.text_app, Ut.mk_app]
  congr 2
  simp [Ut.text]
set_option maxHeartbeats 4000000 in
theorem text_any (p : Option Addr) (c : Nat) (L : List Int) (w : World) (hrp : RowP w p c L) (hL : L.length ≤ 100000) (hA : Ut.AllSc L) :
    Calls Tryz.prog 63 #[.slice p L.length c] w fun e w' => e = .returned (.tuple #[.string (Ut.mk (Ut.text L)), .bool true]) ∧ Below w.heap.size w w' := by
  have C := put_any
  obtain ⟨g, o, hgo⟩ := rowP_at hrp 0
  have hcell : ∀ j (h : j < L.length), p = some ⟨g, o, none⟩ ∧ w.cell? ⟨g, o + j, none⟩ = some (.int .i64 L[j]) ∧ g < w.heap.size := fun j h => by
    rcases hgo with ⟨e, _⟩ | ⟨e, hI, hl⟩
    · subst e; exact absurd h (Nat.not_lt_zero _)
    · exact ⟨e, hI.2 j _ (List.getElem?_eq_getElem h), hl⟩
  have hlc := hrp.1
  have HC := Lib.hid hcell
  have HA := Lib.hid hA
  obtain ⟨n, hn⟩ : ∃ n, L.length = n := ⟨_, rfl⟩
  rw [hn] at hlc hL ⊢
  have HN := Lib.hid hn
  obtain ⟨i0, hi, hz0, hz1, hz2⟩ := info_parts infoU
  clear hcell hgo hrp hA hn
  go_enter Tryz.func63, Tryz.ntmps63
  go_wp2_with fail
  go_loopw [4, 11] (fun v k wr => ∃ j : Nat, j ≤ n ∧ k = .int .i64 (j : Int) ∧ Hid (OB w.heap.size v (Ut.mk (Ut.text (L.take j))) w wr)) (fun _ k _ => n - (intOf k).toNat)
  case atStart => exact ⟨0, Nat.zero_le _, rfl, Lib.hid OB.nil⟩
  case round =>
    obtain ⟨j, hj, rfl, HO⟩ := hrel
    by_cases hlt : j < n
    · have hjl : j < L.length := by rw [HN.out]; exact hlt
      obtain ⟨hp, hc, hg⟩ := HC.out j hjl
      have hc2 := (HO.out.2.1.cell (p := ⟨g, o + j, none⟩) hg).trans hc
      have htk := text_take hjl
      have hsc := HA.out _ (List.getElem_mem hjl)
      have hlen := (Ut.text_len (L.take j)).2
      rw [List.length_take, HN.out] at hlen
      have hv : putV L[j] = .tuple #[.string (Ut.mk (Ut.encI L[j])), .bool true] := by unfold putV; rw [if_pos hsc]
      have c1 := C L[j] wr
      unfold UPutPost at c1
      rw [hv] at c1
      have hsz : (Ut.mk (Ut.encI L[j])).size ≤ 4 := by rw [Ut.mk_size]; exact (Ut.enc_len _).2
      have hsz2 : (Ut.mk (Ut.text (L.take j))).size ≤ 400000 := by rw [Ut.mk_size]; omega
      have HT := Lib.hid htk
      have ji : (j : Int) < (n : Int) := by omega
      clear hc hv htk hsc hlen C
      subst hp
      generalize L[j] = x at *
      generalize Ut.mk (Ut.encI x) = t at *
      generalize hs : Ut.mk (Ut.text (L.take j)) = s at *
      obtain ⟨pv, cv, rfl⟩ := HO.out.shape
      go_wp2_with (first | (go_at_call 60; refine c1.mono ?_; rintro e w1 ⟨rfl, hb1⟩; have hO1 := HO.out.below hb1; have HO1 := Lib.hid hO1; clear hO1 hb1 c1 hc2) | (at_builtin; refine Lib.wpList_append_text rfl _ _ 29 9 rfl w.heap.size 5 i0 Tryz.underlying29 Tryz.underlying9 hi hz0 hz1 hz2 (.slice pv s.size cv) s.size (Lib.strCells s) rfl w HO1.out t rfl (by omega) ?_; intro v' w2 hown; have HO2 := Lib.hid (OB.app hown); clear hown))
      go_roundw
      case rel => exact ⟨j + 1, by omega, by go_num, by rw [HT.out]; exact HO2⟩
      case measure => simp [intOf]; omega
    · obtain rfl : j = n := by omega
      have hv := HO.out.conv
      have hb := HO.out.2.1
      rw [← HN.out, List.take_length] at hv
      clear HO HC HA
      go_wp2_with fail
      go_ret2
      exact ⟨rfl, hb⟩
end Go.Proofs.YthepfbkbfkhcaaaGreat
namespace Go.Proofs.YthepfbkbfkhcaaaGreat
open Go.RowKit Go.Shelf
open Go
set_option linter.unusedVariables false
set_option maxRecDepth 100000
attribute [local go_sem] Oper.semAt_some
def scV (u : List Nat) (k : Nat) : List Value := (List.range k).map fun j => encI (Ut.rP u j)
theorem scV_succ (u : List Nat) (k : Nat) : scV u (k + 1) = scV u k ++ [encI (Ut.rP u k)] := by
  unfold scV
  rw [List.range_succ, List.map_append]
  rfl
theorem scV_all (u : List Nat) : scV u (Ut.pcs u).length = ((Ut.pcs u).map Prod.snd).map encI := by
  unfold scV
  apply List.ext_getElem
  · simp
  · intro i h1 h2
    have h3 : i < (Ut.pcs u).length := by simpa using h1
    simp only [List.getElem_map, List.getElem_range]
    unfold Ut.rP
    rw [List.getElem?_eq_getElem h3]
    rfl
def ScI (w : World) (u : List Nat) (k : Nat) (W : World) : Prop := (∃ v, W.cell? ⟨w.heap.size, 0, none⟩ = some v ∧ W.frozen? ⟨w.heap.size, 0, none⟩ = false ∧ W.ownsRow (w.heap.size + 3) 3 1 v k (scV u k)) ∧ (W.cell? ⟨w.heap.size + 1, 0, none⟩ = some (.bool false) ∧ W.frozen? ⟨w.heap.size + 1, 0, none⟩ = false) ∧ (∀ j, j < k → 0 ≤ Ut.rP u j) ∧ Below w.heap.size w W ∧ w.heap.size + 3 ≤ W.heap.size
def ScX (w : World) (u : List Nat) (c : Code) (k : Nat) (W : World) : Prop := c = .ret ∧ Ut.scal u = none ∧ W.cell? ⟨w.heap.size, 0, none⟩ = some (.slice none 0 0) ∧ W.cell? ⟨w.heap.size + 1, 0, none⟩ = some (.bool false) ∧ Below w.heap.size w W ∧ w.heap.size + 3 ≤ W.heap.size
theorem ScI.own {w : World} {u : List Nat} {B : Nat} (hB : w.heap.size + 3 ≤ B) : OwN B none (ScI w u) := by
  rintro k W W' row ⟨⟨v, hc, hf, ho⟩, ⟨hc2, hf2⟩, ha, hb, hs⟩ hg hr
  have hne : ∀ q, q < w.heap.size + 3 → some q ≠ row := fun q hq e => by
    rcases hr _ e.symm with h | ⟨h, _⟩
    · rw [← e] at h; cases h
    · omega
  refine ⟨⟨v, (gb_cell hg (a := ⟨w.heap.size, 0, none⟩) (by show w.heap.size < W.heap.size; omega) (hne w.heap.size (by omega))).trans hc, (gb_frozen hg (a := ⟨w.heap.size, 0, none⟩) (by show w.heap.size < W.heap.size; omega) (hne w.heap.size (by omega))).trans hf, row_kept ho hg (fun r e => ?_)⟩, ⟨(gb_cell hg (a := ⟨w.heap.size + 1, 0, none⟩) (by show w.heap.size + 1 < W.heap.size; omega) (hne (w.heap.size + 1) (by omega))).trans hc2, (gb_frozen hg (a := ⟨w.heap.size + 1, 0, none⟩) (by show w.heap.size + 1 < W.heap.size; omega) (hne (w.heap.size + 1) (by omega))).trans hf2⟩, ha, hb.grown hg (by omega) (fun r e => ?_), Nat.le_trans hs hg.size⟩
  · rcases hr r e with h | ⟨_, h⟩
    · rw [e] at h; cases h
    · exact Or.inr h
  · rcases hr r e with h | ⟨h, _⟩
    · rw [e] at h; cases h
    · omega
theorem ScX.own {w : World} {u : List Nat} {B : Nat} (hB : w.heap.size + 3 ≤ B) (c : Code) : OwN B none (ScX w u c) := by
  rintro k W W' row ⟨hc0, ha, hc, hc2, hb, hs⟩ hg hr
  have hne : ∀ q, q < w.heap.size + 3 → some q ≠ row := fun q hq e => by
    rcases hr _ e.symm with h | ⟨h, _⟩
    · rw [← e] at h; cases h
    · omega
  refine ⟨hc0, ha, (gb_cell hg (a := ⟨w.heap.size, 0, none⟩) (by show w.heap.size < W.heap.size; omega) (hne w.heap.size (by omega))).trans hc, (gb_cell hg (a := ⟨w.heap.size + 1, 0, none⟩) (by show w.heap.size + 1 < W.heap.size; omega) (hne (w.heap.size + 1) (by omega))).trans hc2, hb.grown hg (by omega) (fun r e => ?_), Nat.le_trans hs hg.size⟩
  rcases hr r e with h | ⟨h, _⟩
  · rw [e] at h; cases h
  · omega
def ScPost (u : List Nat) (w : World) (e : Ending) (W' : World) : Prop := (match Ut.scal u with | some L => ∃ v, e = .returned (.tuple #[v, .bool true]) ∧ OwnL W' w.heap.size v L | none => e = .returned (.tuple #[.slice none 0 0, .bool false])) ∧ Below w.heap.size w W'
set_option maxHeartbeats 8000000 in
theorem scalars_any (s : ByteArray) (hs : s.size ≤ 100000) (w : World) : Calls Tryz.prog 62 #[.string s] w (ScPost (Ut.bsL s) w) := by
  have hsp := Ut.scal_pcs (Ut.bsL s)
  have hpl := Ut.pcs_len (Ut.bsL s).length 0 (Ut.bsL s)
  rw [Ut.bsL_len] at hpl
  have hpl2 : (Ut.pcs (Ut.bsL s)).length ≤ s.size := by unfold Ut.pcs; rw [Ut.bsL_len]; exact hpl
  obtain ⟨i0, hi, hz0, hz1, hz2⟩ := info_parts infoI
  have HSP := Lib.hid hsp
  clear hsp hpl
  refine (callsIn_wide (n := 6)).1 ?_
  refine callsIn_of_wp_marks Tryz.func62 rfl trivial ?_ rfl
  simp only [Tryz.ntmps62, List.size_toArray, List.length_cons, List.length_nil, Nat.reduceAdd, Nat.reduceSub, Array.replicate_succ, Array.replicate_zero, List.push_toArray, List.append_toArray, List.nil_append, List.cons_append]
  gi_wp2_with (refine ⟨trivial, ?_⟩; gi_at_call 59; refine (callsIn_wide.2 (pieces_any _ _)).mono ?_; rintro e w' ⟨rfl, rfl⟩)
  have hB0 : Below w.heap.size w (((w.alloc (.cells #[.slice none 0 0] 49)).alloc (.cells #[.bool false] 4)).alloc (.cells #[.string s] 9)) := (((Below.refl _ w).alloc (Nat.le_refl _) _).alloc (by simp) _).alloc (by simp; omega) _
  have hb0 : (((w.alloc (.cells #[.slice none 0 0] 49)).alloc (.cells #[.bool false] 4)).alloc (.cells #[.string s] 9)).cell? ⟨w.heap.size + 2, 0, none⟩ = some (.string s) := by simp [go_sem]
  have hb1 : (((w.alloc (.cells #[.slice none 0 0] 49)).alloc (.cells #[.bool false] 4)).alloc (.cells #[.string s] 9)).cell? ⟨w.heap.size + 1, 0, none⟩ = some (.bool false) := by simp [go_sem]
  have hb2 : (((w.alloc (.cells #[.slice none 0 0] 49)).alloc (.cells #[.bool false] 4)).alloc (.cells #[.string s] 9)).cell? ⟨w.heap.size, 0, none⟩ = some (.slice none 0 0) := by simp [go_sem]
  have hb3 : (((w.alloc (.cells #[.slice none 0 0] 49)).alloc (.cells #[.bool false] 4)).alloc (.cells #[.string s] 9)).frozen? ⟨w.heap.size, 0, none⟩ = false := by simp [go_sem]
  have hb4 : (((w.alloc (.cells #[.slice none 0 0] 49)).alloc (.cells #[.bool false] 4)).alloc (.cells #[.string s] 9)).frozen? ⟨w.heap.size + 1, 0, none⟩ = false := by simp [go_sem]
  have hs0 : (((w.alloc (.cells #[.slice none 0 0] 49)).alloc (.cells #[.bool false] 4)).alloc (.cells #[.string s] 9)).heap.size = w.heap.size + 3 := by simp
  generalize ((w.alloc (.cells #[.slice none 0 0] 49)).alloc (.cells #[.bool false] 4)).alloc (.cells #[.string s] 9) = W0 at *
  refine wpIn_rangeFunc_N rfl (by omega) (gf := 80) (lb := #[.pointer (some ⟨w.heap.size + 2, 0, none⟩)]) rfl trivial (enters_of Tryz.func80 (by kernel_rfl) rfl)
    (pieces1_in (w.heap.size + 2) s (by omega) W0 hb0) (fun b e => by cases e)
    (fun h k => k.trans h) (fun W l o o' hl _ _ _ => World.putObj_heap_other (by omega)) (Below.refl _ _) (fun _ => rfl)
    (ScI w (Ut.bsL s)) (ScX w (Ut.bsL s)) (ScI.own (by omega)) (fun c => ScX.own (by omega) c) ⟨⟨_, hb2, hb3, ⟨rfl, Or.inl ⟨rfl, rfl⟩⟩⟩, ⟨hb1, hb4⟩, (fun j hj => absurd hj (Nat.not_lt_zero _)), hB0, by omega⟩
    (fun k => { tmps := #[.string s, undef, .pointer (some ⟨w.heap.size, 0, none⟩), .pointer (some ⟨w.heap.size + 1, 0, none⟩), undef, .int .i64 (Ut.rP (Ut.bsL s) k), .string s, .func (.func 80) #[] #[.pointer (some ⟨w.heap.size + 2, 0, none⟩)], .int .i64 (Ut.posP (Ut.bsL s) k : Int), .int .i64 (Ut.rP (Ut.bsL s) k), undef, undef, undef, undef, undef, undef, undef], defers := [] }) ?assign ?body ?done ?stop
  case assign =>
    intro l k W K _ hK
    unfold encP
    gi_wp2
    exact hK
  case body =>
    rintro l k W ⟨⟨v, hcc, hf, ho⟩, ⟨hc2, hf2⟩, ha, hb, hs3⟩ hk
    have HB := Lib.hid hb
    have HA0 := Lib.hid ha
    obtain ⟨⟨pv, cv, rfl⟩, hrow⟩ := row_shape ho
    have hnb : some w.heap.size ≠ (Value.slice pv k cv).ownBlock := fun e => by
      have := (hrow _ e.symm).1
      omega
    have hnb1 : some (w.heap.size + 1) ≠ (Value.slice pv k cv).ownBlock := fun e => by
      have := (hrow _ e.symm).1
      omega
    have b1 : k + 1 ≤ maxLen := by unfold maxLen; omega
    have b2 : (k + 1) * 8 ≤ 140737488355328 := by omega
    have HROW := Lib.hid hrow
    have HNB := Lib.hid hnb
    have HNB1 := Lib.hid hnb1
    have HO := Lib.hid ho
    by_cases hneg : Ut.rP (Ut.bsL s) k < 0
    · have hno : Ut.scal (Ut.bsL s) = none := by
        rw [HSP.out, if_neg]
        intro h
        have := h _ (List.mem_of_getElem? (Ut.posP_at hk).2.1)
        rw [← Ut.rP_at hk] at this
        simp only at this
        omega
      have HNO := Lib.hid hno
      clear hno hb ha hrow hnb hnb1 ho
      generalize Ut.rP (Ut.bsL s) k = r at *
      gi_wp2_with fail
      refine ⟨((KeepsOthers.setCell _ _ _).trans (KeepsOthers.setCell _ _ _)).from _, rfl, HNO.out, ?_, ?_, ((HB.out.setCell (p := ⟨w.heap.size, 0, none⟩) (Nat.le_refl _) _).setCell (p := ⟨w.heap.size + 1, 0, none⟩) (by show w.heap.size ≤ w.heap.size + 1; omega) _), by simp; omega⟩
      · rw [World.cell?_setCell_other _ _ _ _ (by intro e; injection e with e _ _; omega)]
        exact World.cell?_setCell_same _ _ _ hcc
      · refine World.cell?_setCell_same _ _ _ (?_ : _ = some (.bool false))
        rw [World.cell?_setCell_other _ _ _ _ (by intro e; injection e with e _ _; omega)]
        exact hc2
    · have hpos : 0 ≤ Ut.rP (Ut.bsL s) k := by omega
      have HPOS := Lib.hid hpos
      have hsv := scV_succ (Ut.bsL s) k
      have HSV := Lib.hid hsv
      have hA : ∀ ob : Obj, (W.alloc ob).cell? ⟨w.heap.size, 0, none⟩ = some (.slice pv k cv) ∧ (W.alloc ob).frozen? ⟨w.heap.size, 0, none⟩ = false ∧ (W.alloc ob).cell? ⟨w.heap.size + 1, 0, none⟩ = some (.bool false) ∧ (W.alloc ob).frozen? ⟨w.heap.size + 1, 0, none⟩ = false := fun ob =>
        have hA0 := (Below.refl W.heap.size W).alloc (Nat.le_refl _) ob
        ⟨(hA0.cell (p := ⟨w.heap.size, 0, none⟩) (by show w.heap.size < W.heap.size; omega)).trans hcc, (hA0.frozen (p := ⟨w.heap.size, 0, none⟩) (by show w.heap.size < W.heap.size; omega)).trans hf, (hA0.cell (p := ⟨w.heap.size + 1, 0, none⟩) (by show w.heap.size + 1 < W.heap.size; omega)).trans hc2, (hA0.frozen (p := ⟨w.heap.size + 1, 0, none⟩) (by show w.heap.size + 1 < W.heap.size; omega)).trans hf2⟩
      have HA := Lib.hid hA
      clear hb ha hrow hnb hnb1 ho hpos hsv hA
      generalize hrr : Ut.rP (Ut.bsL s) k = r at *
      have HRR := Lib.hid hrr
      clear hrr
      gi_wp2_with (gi_at_builtin; refine wpListIn_append_own_at _ rfl _ _ 49 rfl (w.heap.size + 3) 3 i0 (.int .i64 0) 1 8 Tryz.underlying49 hi hz0 hz1 hz2 rfl (by decide) (.slice pv k cv) k (scV (Ut.bsL s) k) rfl (row_kept HO.out (World.grownBy_alloc W _ none) (fun r e => by cases e)) ⟨W.heap.size, 0, none⟩ 1 1 [.int .i64 r] rfl rfl (cell_one_new _ _ _) (by simp [Value.oneCell']) b1 b2 (by simp; omega) ?_; intro v' w1 hown' hgrow hnil hblk; clear hnil hblk; obtain ⟨g', cap', rfl, hgb', hcp', hsh⟩ := row_pos hown' (Nat.succ_pos _); have hcw := (gb_cell hgrow (a := ⟨w.heap.size, 0, none⟩) (by simp; omega) HNB.out).trans (HA.out _).1; have hfw := (gb_frozen hgrow (a := ⟨w.heap.size, 0, none⟩) (by simp; omega) HNB.out).trans (HA.out _).2.1; have hcw1 := (gb_cell hgrow (a := ⟨w.heap.size + 1, 0, none⟩) (by simp; omega) HNB1.out).trans (HA.out _).2.2.1; have hfw1 := (gb_frozen hgrow (a := ⟨w.heap.size + 1, 0, none⟩) (by simp; omega) HNB1.out).trans (HA.out _).2.2.2; have HOW := Lib.hid hown'; have HG := Lib.hid hgrow; have HSH := Lib.hid hsh; clear hown' hgrow hsh)
      have g0 := World.grownBy_alloc W (.cells #[.int .i64 r] 3) none
      have g1 := HG.out
      have g2 := ogb_set w1 ⟨w.heap.size, 0, none⟩ (.slice (some ⟨g', 0, none⟩) (k + 1) cap')
      have hz1 : (W.alloc (.cells #[.int .i64 r] 3)).heap.size ≤ w1.heap.size := g1.size
      rw [World.size_alloc] at hz1
      have hq : (w1.setCell ⟨w.heap.size, 0, none⟩ (.slice (some ⟨g', 0, none⟩) (k + 1) cap')).heap[w.heap.size + 2]? = W.heap[w.heap.size + 2]? := by
        refine (g2.block _ (by omega) (fun e => ?_)).trans ((g1.block _ (by simp; omega) (fun e => ?_)).trans (g0.block _ (by omega) (fun e => by cases e)))
        · injection e with e; simp only at e; omega
        · have := (HROW.out _ e.symm).1; omega
      refine ⟨((KeepsOthers.of_grownBy g0 (fun j ob e _ => by cases e)).trans ((KeepsOthers.of_grownBy g1 (fun j ob e ho2 => ?_)).trans (KeepsOthers.setCell _ _ _))).from _, hq, ⟨.slice (some ⟨g', 0, none⟩) (k + 1) cap', World.cell?_setCell_same _ _ _ hcw, (World.frozen?_setCell _ _ _ _).trans hfw, ?_⟩, ⟨?_, (World.frozen?_setCell _ _ _ _).trans hfw1⟩, (fun j hj => ?_), ?_, by simp; omega⟩
      · obtain ⟨_, cur, fz, h3⟩ := HROW.out j e
        have h4 := (g0.block j (Array.getElem?_eq_some_iff.1 h3).1 (fun e => by cases e)).trans h3
        rw [h4] at ho2; cases ho2; rfl
      · rw [HSV.out]
        exact row_kept HOW.out g2 (fun r e => Or.inl (by cases e; show w.heap.size < w.heap.size + 3; omega))
      · rw [World.cell?_setCell_other _ _ _ _ (by intro e; injection e with e _ _; omega)]
        exact hcw1
      · by_cases e : j = k
        · rw [e, HRR.out]; exact HPOS.out
        · exact HA0.out j (by omega)
      · refine ((HB.out.grown g0 (by omega) (fun r e => by cases e)).grown g1 (by simp; omega) (fun r e => ?_)).grown g2 (by omega) (fun r e => ?_)
        · have := (HROW.out r e).1; omega
        · cases e; exact Nat.le_refl _
  case done =>
    rintro D W hD ⟨⟨v, hcc, hf, ho⟩, ⟨hc2, hf2⟩, ha, hb, hs3⟩ hK
    obtain ⟨⟨pv, cv, rfl⟩, hrow⟩ := row_shape ho
    have hyes : Ut.scal (Ut.bsL s) = some ((Ut.pcs (Ut.bsL s)).map Prod.snd) := by
      rw [HSP.out, if_pos]
      intro q hq
      obtain ⟨j, hj, e⟩ := List.getElem_of_mem hq
      have h3 := ha j hj
      unfold Ut.rP at h3
      rw [List.getElem?_eq_getElem hj, e] at h3
      exact h3
    rw [scV_all] at ho
    have HY := Lib.hid hyes
    have HO := Lib.hid ho
    clear hrow ha hyes ho
    gi_wp2
    have hK' : (((W.setCell ⟨w.heap.size, 0, none⟩ (.slice pv (Ut.pcs (Ut.bsL s)).length cv)).setCell ⟨w.heap.size + 1, 0, none⟩ (.bool true))).heap[D]? = some (.deferred (some [])) := ((KeepsOthers.setCell W ⟨w.heap.size, 0, none⟩ _).trans (KeepsOthers.setCell _ ⟨w.heap.size + 1, 0, none⟩ (.bool true))).same D _ hK rfl
    refine ⟨by simp, .inl ⟨_, _, rfl, run_takeDeferred hK', ?_⟩⟩
    have hc5 := cell_kept (show ((W.setCell ⟨w.heap.size, 0, none⟩ (.slice pv (Ut.pcs (Ut.bsL s)).length cv)).setCell ⟨w.heap.size + 1, 0, none⟩ (.bool true)).cell? ⟨w.heap.size, 0, none⟩ = some (.slice pv (Ut.pcs (Ut.bsL s)).length cv) by
      rw [World.cell?_setCell_other _ _ _ _ (by intro e; injection e with e _ _; omega)]
      exact World.cell?_setCell_same _ _ _ hcc) (grownBy_putObj' _ D (.deferred none)) (fun r e => by cases e; exact ⟨_, hK', rfl⟩)
    have hc6 := cell_kept (show ((W.setCell ⟨w.heap.size, 0, none⟩ (.slice pv (Ut.pcs (Ut.bsL s)).length cv)).setCell ⟨w.heap.size + 1, 0, none⟩ (.bool true)).cell? ⟨w.heap.size + 1, 0, none⟩ = some (.bool true) from
      World.cell?_setCell_same _ _ _ (show _ = some (.bool false) by
        rw [World.cell?_setCell_other _ _ _ _ (by intro e; injection e with e _ _; omega)]
        exact hc2)) (grownBy_putObj' _ D (.deferred none)) (fun r e => by cases e; exact ⟨_, hK', rfl⟩)
    refine ⟨.tuple #[.slice pv (Ut.pcs (Ut.bsL s)).length cv, .bool true], ?_, ?_, ((hb.setCell (p := ⟨w.heap.size, 0, none⟩) (Nat.le_refl _) _).setCell (p := ⟨w.heap.size + 1, 0, none⟩) (by show w.heap.size ≤ w.heap.size + 1; omega) _).trans (belowK_b (w := W0) (by omega) _ D _ _ hD hK' rfl rfl)⟩
    · simp [results, Tryz.f62, go_sem, hc5, hc6]
    · rw [HY.out]
      refine ⟨_, rfl, ?_⟩
      have h1 := row_kept HO.out (ogb_set W ⟨w.heap.size, 0, none⟩ (.slice pv (Ut.pcs (Ut.bsL s)).length cv)) (fun r e => Or.inl (by cases e; show w.heap.size < w.heap.size + 3; omega))
      have h2 := row_kept h1 (ogb_set _ ⟨w.heap.size + 1, 0, none⟩ (.bool true)) (fun r e => Or.inl (by cases e; show w.heap.size + 1 < w.heap.size + 3; omega))
      have h3 := own_base (row_kept h2 (grownBy_putObj' _ D (.deferred none)) (fun r e => by cases e; exact Or.inr ⟨_, hK', rfl⟩)) (b' := w.heap.size) (by omega)
      unfold OwnL
      rw [List.length_map]
      exact h3
  case stop =>
    rintro D c k W hD _ ⟨rfl, hx, hcc, hc2, hb, hs3⟩ hK
    have HX := Lib.hid hx
    clear hx
    gi_wp2
    refine ⟨by simp, .inl ⟨_, _, rfl, run_takeDeferred hK, ?_⟩⟩
    have hc5 := cell_kept hcc (grownBy_putObj' _ D (.deferred none)) (fun r e => by cases e; exact ⟨_, hK, rfl⟩)
    have hc6 := cell_kept hc2 (grownBy_putObj' _ D (.deferred none)) (fun r e => by cases e; exact ⟨_, hK, rfl⟩)
    refine ⟨.tuple #[.slice none 0 0, .bool false], ?_, ?_, hb.trans (belowK_b (w := W0) (by omega) W D _ _ hD hK rfl rfl)⟩
    · simp [results, Tryz.f62, go_sem, hc5, hc6]
    · rw [HX.out]
end Go.Proofs.YthepfbkbfkhcaaaGreat
