/- The walk of Runs: what is collected. -/
import Derived.Test.YtahapmpohaaigaaOsJ
import Derived.Maps.AppendAt
namespace Go.Proofs.Ytahapmpohaaigaa
open Go.RowKit Go.Shelf
open Go
set_option linter.unusedVariables false
set_option maxRecDepth 100000
attribute [local go_sem] Oper.semAt_some
theorem infoSI : (Try.prog.info? 22).map (fun i => (i.zero, i.size, i.bytes)) = some (some (.slice none 0 0), 1, 24) := by kernel_rfl
def encRun (g o : Nat) (L : List Int) (k : Nat) : Value := .slice (some ⟨g, o + posR L k, none⟩) (runR L k).length (runR L k).length
def runVals (g o : Nat) (L : List Int) (k : Nat) : List Value := (List.range k).map (encRun g o L)
theorem runVals_succ (g o : Nat) (L : List Int) (k : Nat) : runVals g o L (k + 1) = runVals g o L k ++ [encRun g o L k] := by
  unfold runVals
  rw [List.range_succ, List.map_append]
  rfl
theorem runVals_len (g o : Nat) (L : List Int) (k : Nat) : (runVals g o L k).length = k := by simp [runVals]
theorem row_shape {W : World} {base : Nat} {e : TypeId} {v : Value} {n : Nat} {xs : List Value} (h : W.ownsRow base e 1 v n xs) : (∃ pv cv, v = .slice pv n cv) ∧ (∀ q, v.ownBlock = some q → base ≤ q ∧ ∃ cur fz, W.heap[q]? = some (.cells cur e fz)) := by
  rcases h.2 with ⟨rfl, hn⟩ | ⟨g', cap', cur, rfl, hb, hg, _⟩
  · exact ⟨⟨none, 0, by rw [hn]⟩, fun q e => by cases e⟩
  · exact ⟨⟨_, _, rfl⟩, fun q e => by cases e; exact ⟨hb, cur, (0, 0), hg⟩⟩
theorem row_kept {W W' : World} {base : Nat} {e : TypeId} {v : Value} {n : Nat} {xs : List Value} {row : Option Nat} (h : W.ownsRow base e 1 v n xs) (hg : W.grownBy W' row) (hne : ∀ r, row = some r → r < base ∨ ∃ o : Obj, W.heap[r]? = some o ∧ o.isCells = false) : W'.ownsRow base e 1 v n xs := by
  obtain ⟨h1, h2⟩ := h
  refine ⟨h1, ?_⟩
  rcases h2 with h2 | ⟨g', cap', cur, hv, hb, hgg, h3⟩
  · exact Or.inl h2
  · refine Or.inr ⟨g', cap', cur, hv, hb, (hg.block g' (Array.getElem?_eq_some_iff.1 hgg).1 ?_).trans hgg, h3⟩
    intro e
    rcases hne g' e.symm with h | ⟨o, ho, hc⟩
    · omega
    · rw [hgg] at ho
      cases ho
      cases hc
theorem row_pos {W : World} {base : Nat} {e : TypeId} {v : Value} {n : Nat} {xs : List Value} (h : W.ownsRow base e 1 v n xs) (hn : 0 < n) : ∃ g cap, v = .slice (some ⟨g, 0, none⟩) n cap ∧ base ≤ g ∧ n ≤ cap ∧ ∃ cur fz, W.heap[g]? = some (.cells cur e fz) := by
  rcases h.2 with ⟨_, h0⟩ | ⟨g', cap', cur, hv, hb, hg, hle, _⟩
  · omega
  · exact ⟨g', cap', hv, hb, hle, cur, (0, 0), hg⟩
def RnI (w : World) (bx g o : Nat) (L : List Int) (k : Nat) (W : World) : Prop := (∃ v, W.cell? ⟨w.heap.size, 0, none⟩ = some v ∧ W.frozen? ⟨w.heap.size, 0, none⟩ = false ∧ W.ownsRow (w.heap.size + 1) 22 1 v k (runVals g o L k)) ∧ Below bx w W ∧ w.heap.size + 1 ≤ W.heap.size
theorem RnI.own {w : World} {bx g o : Nat} {L : List Int} {B : Nat} (hB : w.heap.size + 1 ≤ B) (hbx : bx < w.heap.size) : OwN B (some bx) (RnI w bx g o L) := by
  rintro k W W' row ⟨⟨v, hc, hf, ho⟩, hb, hs⟩ hg hr
  have hne : some w.heap.size ≠ row := fun e => by
    rcases hr _ e.symm with h | ⟨h, _⟩
    · rw [← e] at h; injection h with h; omega
    · omega
  have h1 : w.heap.size < W.heap.size := by omega
  refine ⟨⟨v, (gb_cell hg (a := ⟨w.heap.size, 0, none⟩) h1 hne).trans hc, (gb_frozen hg (a := ⟨w.heap.size, 0, none⟩) h1 hne).trans hf, row_kept ho hg (fun r e => ?_)⟩, hb.grown hg (by omega) (fun r e => ?_), Nat.le_trans hs hg.size⟩
  · rcases hr r e with h | ⟨_, h⟩
    · rw [e] at h; injection h with h; exact Or.inl (by omega)
    · exact Or.inr h
  · rcases hr r e with h | ⟨h, _⟩
    · rw [e] at h; injection h with h; omega
    · omega
def RunsPost (g o : Nat) (L : List Int) (bx : Nat) (w : World) (e : Ending) (W' : World) : Prop := ∃ v, e = .returned v ∧ W'.ownsRow w.heap.size 22 1 v (rnL L).length (runVals g o L (rnL L).length) ∧ Below bx w W'
set_option maxHeartbeats 8000000 in
theorem aseq_any (bx : Nat) (p : Option Addr) (g o c : Nat) (L : List Int) (w : World) (hL : L.length ≤ 100000) (hc : L.length ≤ c) (hbx : w.cell? ⟨bx, 0, none⟩ = some (.slice p L.length c)) (hfx : w.frozen? ⟨bx, 0, none⟩ = false) (h : L = [] ∨ (p = some ⟨g, o, none⟩ ∧ Ints w g o L ∧ bx ≠ g)) (hgb : g < w.heap.size) :
    Calls Try.prog 37 #[.slice none 0 0, .func (.func 35) #[] #[.pointer (some ⟨bx, 0, none⟩)]] w (RunsPost g o L bx w) := by
  have hbl : bx < w.heap.size := World.block_lt_of_cell? _ _ hbx
  obtain ⟨i0, hi, hz0, hz1, hz2⟩ := info_parts infoSI
  have HH := Lib.hid h
  clear h
  refine (callsIn_wide (n := 6)).1 ?_
  refine callsIn_of_wp_marks Try.func37 rfl trivial ?_ rfl
  simp only [Try.ntmps37, List.size_toArray, List.length_cons, List.length_nil, Nat.reduceAdd, Nat.reduceSub, Array.replicate_succ, Array.replicate_zero, List.push_toArray, List.append_toArray, List.nil_append, List.cons_append]
  gi_wp2_with fail
  have hB0 : Below w.heap.size w (w.alloc (.cells #[.slice none 0 0] 30)) := (Below.refl _ w).alloc (Nat.le_refl _) _
  have hb0 := (hB0.cell (p := ⟨bx, 0, none⟩) hbl).trans hbx
  have hb1 := (hB0.frozen (p := ⟨bx, 0, none⟩) hbl).trans hfx
  have hb2 : (w.alloc (.cells #[.slice none 0 0] 30)).cell? ⟨w.heap.size, 0, none⟩ = some (.slice none 0 0) := by simp [go_sem]
  have hb3 : (w.alloc (.cells #[.slice none 0 0] 30)).frozen? ⟨w.heap.size, 0, none⟩ = false := by simp [go_sem]
  have hs0 : (w.alloc (.cells #[.slice none 0 0] 30)).heap.size = w.heap.size + 1 := by simp
  have hgo2 : L = [] ∨ (p = some ⟨g, o, none⟩ ∧ Ints (w.alloc (.cells #[.slice none 0 0] 30)) g o L ∧ bx ≠ g) := by
    rcases HH.out with h | ⟨h1, h2, h3⟩
    · exact Or.inl h
    · exact Or.inr ⟨h1, h2.kept (hB0.block g hgb), h3⟩
  generalize w.alloc (.cells #[.slice none 0 0] 30) = W0 at *
  have hnl : (rnL L).length ≤ L.length := by
    have h1 := Ordl.runs_join cls0 L
    have h2 := (Ordl.runs_are cls0 L).1
    have : ∀ rs : List (List Int), (∀ r ∈ rs, Ordl.Run Tb.classI r) → rs.length ≤ rs.flatten.length := fun rs => by
      induction rs with
      | nil => intro _; exact Nat.le_refl _
      | cons r rs ih =>
        intro hr
        have h3 := ih (fun u hu => hr u (List.mem_cons_of_mem _ hu))
        obtain ⟨x, t, e, _⟩ := hr r (List.mem_cons_self ..)
        rw [List.flatten_cons, List.length_append, List.length_cons, e, List.length_cons]
        omega
    have := this _ h2
    rw [h1] at this
    exact this
  refine wpIn_rangeFunc_N rfl (by omega) (gf := 35) (lb := #[.pointer (some ⟨bx, 0, none⟩)]) rfl trivial (enters_of Try.func35 (by kernel_rfl) rfl)
    (runs1_all bx p g o c L hL hc W0 hb0 hb1 hgo2) (fun b e => by cases e; omega)
    (fun h k => ⟨k.1.trans h.1, k.2.trans h.2⟩) (fun W l o o' hl _ _ _ => ⟨World.putObj_heap_other (by omega), World.putObj_heap_other (by omega)⟩) (Below.refl _ _) (fun _ => rfl)
    (RnI w bx g o L) (fun _ _ _ => False) (RnI.own (by omega) hbl) (fun _ _ _ _ _ h _ _ => h) ⟨⟨_, hb2, hb3, ⟨rfl, Or.inl ⟨rfl, rfl⟩⟩⟩, hB0.mono (by omega), by omega⟩
    (fun k => { tmps := #[.slice none 0 0, .func (.func 35) #[] #[.pointer (some ⟨bx, 0, none⟩)], .pointer (some ⟨w.heap.size, 0, none⟩), undef, .slice none 0 0, encRun g o L k, .func (.func 35) #[] #[.pointer (some ⟨bx, 0, none⟩)], encRun g o L k, undef, undef, undef, undef, undef], defers := [] }) ?assign ?body ?done ?stop
  case assign =>
    intro l k W K _ hK
    unfold encR
    unfold encRun at hK
    gi_wp2
    exact hK
  case body =>
    rintro l k W ⟨⟨v, hcc, hf, ho⟩, hb, hs⟩ hk
    obtain ⟨⟨pv, cv, rfl⟩, hrow⟩ := row_shape ho
    have hnb : some w.heap.size ≠ (Value.slice pv k cv).ownBlock := fun e => by
      have := (hrow _ e.symm).1
      omega
    have b1 : k + 1 ≤ maxLen := by unfold maxLen; omega
    have b2 : (k + 1) * 24 ≤ 140737488355328 := by omega
    have HB := Lib.hid hb
    have HROW := Lib.hid hrow
    have HNB := Lib.hid hnb
    have HO := Lib.hid ho
    have hne : encRun g o L k = .slice (some ⟨g, o + posR L k, none⟩) (runR L k).length (runR L k).length := rfl
    have HNE := Lib.hid hne
    clear hb hrow hnb hne
    obtain ⟨pe, ne, hpe⟩ : ∃ pe ne, encRun g o L k = .slice (some pe) ne ne := ⟨_, _, HNE.out⟩
    have HPE := Lib.hid hpe
    rw [hpe]
    clear hpe
    have hA : ∀ ob : Obj, (W.alloc ob).cell? ⟨w.heap.size, 0, none⟩ = some (.slice pv k cv) ∧ (W.alloc ob).frozen? ⟨w.heap.size, 0, none⟩ = false := fun ob =>
      have hA0 := (Below.refl W.heap.size W).alloc (Nat.le_refl _) ob
      ⟨(hA0.cell (p := ⟨w.heap.size, 0, none⟩) (by show w.heap.size < W.heap.size; omega)).trans hcc, (hA0.frozen (p := ⟨w.heap.size, 0, none⟩) (by show w.heap.size < W.heap.size; omega)).trans hf⟩
    have HA := Lib.hid hA
    clear hA
    gi_wp2_with (gi_at_builtin; refine wpListIn_append_own_at _ rfl _ _ 30 rfl (w.heap.size + 1) 22 i0 (.slice none 0 0) 1 24 Try.underlying30 hi hz0 hz1 hz2 rfl (by decide) (.slice pv k cv) k (runVals g o L k) rfl (row_kept HO.out (World.grownBy_alloc W _ none) (fun r e => by cases e)) ⟨W.heap.size, 0, none⟩ 1 1 [.slice (some pe) ne ne] rfl rfl (cell_one_new _ _ _) (by simp [Value.oneCell']) b1 b2 (by simp; omega) ?_; intro v' w1 hown' hgrow hnil hblk; clear hnil hblk; obtain ⟨g', cap', rfl, hgb', hcp', hsh⟩ := row_pos hown' (Nat.succ_pos _); have hcw := (gb_cell hgrow (a := ⟨w.heap.size, 0, none⟩) (by simp; omega) HNB.out).trans (HA.out _).1; have hfw := (gb_frozen hgrow (a := ⟨w.heap.size, 0, none⟩) (by simp; omega) HNB.out).trans (HA.out _).2; have HOW := Lib.hid hown'; have HG := Lib.hid hgrow; have HSH := Lib.hid hsh; clear hown' hgrow hsh)
    have g0 := World.grownBy_alloc W (.cells #[.slice (some pe) ne ne] 22) none
    have g1 := HG.out
    have g2 := ogb_set w1 ⟨w.heap.size, 0, none⟩ (.slice (some ⟨g', 0, none⟩) (k + 1) cap')
    have hz1 : (W.alloc (.cells #[.slice (some pe) ne ne] 22)).heap.size ≤ w1.heap.size := g1.size
    rw [World.size_alloc] at hz1
    have hq : ∀ q, q < w.heap.size → (w1.setCell ⟨w.heap.size, 0, none⟩ (.slice (some ⟨g', 0, none⟩) (k + 1) cap')).heap[q]? = W.heap[q]? := fun q h1 => by
      refine (g2.block q (by omega) (fun e => ?_)).trans ((g1.block q (by simp; omega) (fun e => ?_)).trans (g0.block q (by omega) (fun e => by cases e)))
      · injection e with e; simp only at e; omega
      · have := (HROW.out q e.symm).1; omega
    refine ⟨((KeepsOthers.of_grownBy g0 (fun j ob e _ => by cases e)).trans ((KeepsOthers.of_grownBy g1 (fun j ob e ho2 => ?_)).trans (KeepsOthers.setCell _ _ _))).from _, ⟨hq _ hbl, hq _ hgb⟩, ⟨.slice (some ⟨g', 0, none⟩) (k + 1) cap', World.cell?_setCell_same _ _ _ hcw, (World.frozen?_setCell _ _ _ _).trans hfw, ?_⟩, ?_, by simp; omega⟩
    · obtain ⟨_, cur, fz, h3⟩ := HROW.out j e
      have h4 := (g0.block j (Array.getElem?_eq_some_iff.1 h3).1 (fun e => by cases e)).trans h3
      rw [h4] at ho2; cases ho2; rfl
    · rw [runVals_succ, HPE.out]
      exact row_kept HOW.out g2 (fun r e => Or.inl (by cases e; exact Nat.lt_succ_self _))
    · refine ((HB.out.grown g0 (by omega) (fun r e => by cases e)).grown g1 (by simp; omega) (fun r e => ?_)).grown g2 (by omega) (fun r e => ?_)
      · have := (HROW.out r e).1; omega
      · cases e; show bx ≤ w.heap.size; omega
  case done =>
    rintro D W hD ⟨⟨v, hcc, hf, ho⟩, hb, hs⟩ hK
    obtain ⟨⟨pv, cv, rfl⟩, hrow⟩ := row_shape ho
    clear hrow
    gi_wp2
    refine ⟨by simp, .inl ⟨_, _, rfl, run_takeDeferred hK, ?_⟩⟩
    refine ⟨_, results_tmp rfl _ _ _, _, rfl, ?_, hb.trans (belowK_b (w := W0) (by omega) W D _ _ hD hK rfl rfl)⟩
    exact own_base (row_kept ho (grownBy_putObj' _ D (.deferred none)) (fun r e => by cases e; exact Or.inr ⟨_, hK, rfl⟩)) (by omega)
  case stop =>
    rintro D c k W _ _ h _
    exact h.elim
theorem collect_any (bx : Nat) (p : Option Addr) (g o c : Nat) (L : List Int) (w : World) (hL : L.length ≤ 100000) (hc : L.length ≤ c) (hbx : w.cell? ⟨bx, 0, none⟩ = some (.slice p L.length c)) (hfx : w.frozen? ⟨bx, 0, none⟩ = false) (h : L = [] ∨ (p = some ⟨g, o, none⟩ ∧ Ints w g o L ∧ bx ≠ g)) (hgb : g < w.heap.size) :
    Calls Try.prog 30 #[.func (.func 35) #[] #[.pointer (some ⟨bx, 0, none⟩)]] w (RunsPost g o L bx w) := by
  have hcl := aseq_any bx p g o c L w hL hc hbx hfx h hgb
  clear hbx hfx h
  go_enter Try.func30, Try.ntmps30
  go_wp2_with fail
  refine hcl.mono ?_
  rintro e W ⟨v, rfl, hr, hb⟩
  obtain ⟨⟨pv, cv, rfl⟩, _⟩ := row_shape hr
  have HR := Lib.hid hr
  clear hr
  go_wp2_with fail
  go_ret
  exact ⟨_, rfl, HR.out, hb⟩
/-- What Runs hands over: the runs' places. -/
def RnsPost (g o : Nat) (L : List Int) (w : World) (e : Ending) (W' : World) : Prop := ∃ v, e = .returned v ∧ W'.ownsRow w.heap.size 22 1 v (rnL L).length (runVals g o L (rnL L).length) ∧ Below w.heap.size w W'
theorem pruns_any (p : Option Addr) (g o c : Nat) (L : List Int) (w : World) (hL : L.length ≤ 100000) (hc : L.length ≤ c) (h : L = [] ∨ (p = some ⟨g, o, none⟩ ∧ Ints w g o L)) :
    Calls Try.prog 15 #[.slice p L.length c] w (RnsPost g o L w) := by
  have hB0 : Below w.heap.size w (w.alloc (.cells #[.slice p L.length c] 22)) := (Below.refl _ w).alloc (Nat.le_refl _) _
  have hcl : Calls Try.prog 30 #[.func (.func 35) #[] #[.pointer (some ⟨w.heap.size, 0, none⟩)]] (w.alloc (.cells #[.slice p L.length c] 22)) (RunsPost g o L w.heap.size (w.alloc (.cells #[.slice p L.length c] 22))) := by
    by_cases hn : L = []
    · subst hn
      refine (collect_any w.heap.size p w.heap.size 0 c [] _ hL hc (by simp) (by simp [go_sem]) (Or.inl rfl) (by simp)).mono ?_
      rintro e W ⟨v, rfl, hr, hb⟩
      exact ⟨v, rfl, hr, hb⟩
    · obtain ⟨rfl, hI⟩ := h.resolve_left hn
      exact collect_any w.heap.size (some ⟨g, o, none⟩) g o c L _ hL hc (by simp) (by simp [go_sem]) (Or.inr ⟨rfl, hI.kept (hB0.block g hI.1), by have := hI.1; omega⟩) (by have := hI.1; simp; omega)
  clear h
  go_enter Try.func15, Try.ntmps15
  go_wp2_with fail
  refine (runs_any _ _ _ _).mono ?_
  rintro e w1 ⟨rfl, rfl⟩
  go_wp2_with fail
  refine hcl.mono ?_
  rintro e W ⟨v, rfl, hr, hb⟩
  obtain ⟨⟨pv, cv, rfl⟩, _⟩ := row_shape hr
  have HR := Lib.hid hr
  clear hr
  go_wp2_with fail
  go_ret
  exact ⟨_, rfl, own_base HR.out (by simp), hB0.trans hb⟩
end Go.Proofs.Ytahapmpohaaigaa
