/- The walk of Ordered. -/
import Derived.Test.YtahapmpohaaigaaOsI
namespace Go.Proofs.Ytahapmpohaaigaa
open Go.RowKit Go.Shelf
open Go
set_option linter.unusedVariables false
set_option maxRecDepth 100000
attribute [local go_sem] Oper.semAt_some
def OrdI (w : World) (L : List Int) (k : Nat) (W : World) : Prop := (∀ j, j < k → Ordl.ordB Tb.classI (runR L j) = true) ∧ W.cell? ⟨w.heap.size, 0, none⟩ = some (.bool false) ∧ W.frozen? ⟨w.heap.size, 0, none⟩ = false ∧ Below w.heap.size w W ∧ w.heap.size + 2 ≤ W.heap.size
def OrdX (w : World) (L : List Int) (c : Code) (k : Nat) (W : World) : Prop := c = .ret ∧ Ordl.ordB Tb.classI L = false ∧ W.cell? ⟨w.heap.size, 0, none⟩ = some (.bool false) ∧ Below w.heap.size w W ∧ w.heap.size + 2 ≤ W.heap.size
theorem OrdI.own {w : World} {L : List Int} {B : Nat} (hB : w.heap.size + 2 ≤ B) : OwN B (some (w.heap.size + 1)) (OrdI w L) := by
  rintro k W W' row ⟨ha, hc, hf, hb, hs⟩ hg hr
  have hne : some w.heap.size ≠ row := fun e => by
    rcases hr _ e.symm with h | ⟨h, _⟩
    · rw [← e] at h; injection h with h; omega
    · omega
  have h1 : w.heap.size < W.heap.size := by omega
  refine ⟨ha, (gb_cell hg (a := ⟨w.heap.size, 0, none⟩) h1 hne).trans hc, (gb_frozen hg (a := ⟨w.heap.size, 0, none⟩) h1 hne).trans hf, hb.grown hg (by omega) (fun r e => ?_), Nat.le_trans hs hg.size⟩
  · rcases hr r e with h | ⟨h, _⟩
    · rw [e] at h; injection h with h; omega
    · omega
theorem OrdX.own {w : World} {L : List Int} {B : Nat} (hB : w.heap.size + 2 ≤ B) (c : Code) : OwN B (some (w.heap.size + 1)) (OrdX w L c) := by
  rintro k W W' row ⟨hc0, ha, hc, hb, hs⟩ hg hr
  have hne : some w.heap.size ≠ row := fun e => by
    rcases hr _ e.symm with h | ⟨h, _⟩
    · rw [← e] at h; injection h with h; omega
    · omega
  have h1 : w.heap.size < W.heap.size := by omega
  refine ⟨hc0, ha, (gb_cell hg (a := ⟨w.heap.size, 0, none⟩) h1 hne).trans hc, hb.grown hg (by omega) (fun r e => ?_), Nat.le_trans hs hg.size⟩
  · rcases hr r e with h | ⟨h, _⟩
    · rw [e] at h; injection h with h; omega
    · omega
theorem ord_runs (L : List Int) : Ordl.ordB Tb.classI L = true ↔ ∀ j, j < (rnL L).length → Ordl.ordB Tb.classI (runR L j) = true := by
  rw [← Ordl.runs_ord cls0 L, List.all_eq_true]
  constructor
  · intro h j hj
    exact h _ (List.mem_of_getElem? (run_is L j hj).2)
  · intro h r hr
    obtain ⟨j, hj, e⟩ := List.getElem_of_mem hr
    have h2 := (run_is L j hj).2
    have h3 : (rnL L)[j]? = some (rnL L)[j] := List.getElem?_eq_getElem hj
    rw [h3] at h2
    have h4 := h j hj
    rw [← Option.some.inj h2] at h4
    rw [← e]
    exact h4
theorem ord_tail {x : Int} {t : List Int} (hx : Tb.classI x = 0) : Ordl.ordB Tb.classI t = Ordl.ordB Tb.classI (x :: t) := by
  cases t with
  | nil => rfl
  | cons y t =>
    show Ordl.ordB Tb.classI (y :: t) = (!(decide (0 < Tb.classI y) && decide (Tb.classI y < Tb.classI x)) && Ordl.ordB Tb.classI (y :: t))
    have : ¬ (0 < Tb.classI y ∧ Tb.classI y < Tb.classI x) := by omega
    by_cases p : 0 < Tb.classI y
    · have q : ¬ Tb.classI y < Tb.classI x := fun q => this ⟨p, q⟩
      simp [q]
    · simp [p]
theorem ogb_drewN0 (w : World) (n : Nat) (row : Option Nat) : w.grownBy (w.drewN n) row := ogb_drewN (gb_refl _ _) n
def BoolPost (b : Bool) (w : World) (e : Ending) (w' : World) : Prop := e = .returned (.bool b) ∧ Below w.heap.size w w'
set_option maxHeartbeats 8000000 in
theorem ordered_any (p : Option Addr) (c : Nat) (L : List Int) (w : World) (hL : L.length ≤ 100000) (hrp : RowP w p c L) :
    Calls Try.prog 10 #[.slice p L.length c] w (BoolPost (Ordl.ordB Tb.classI L) w) := by
  have hc := hrp.1
  obtain ⟨g, o, hgo⟩ := rowP_at hrp (w.heap.size + 1)
  have HGO := Lib.hid hgo
  clear hgo hrp
  refine (callsIn_wide (n := 6)).1 ?_
  refine callsIn_of_wp_marks Try.func10 rfl trivial ?_ rfl
  simp only [Try.ntmps10, List.size_toArray, List.length_cons, List.length_nil, Nat.reduceAdd, Nat.reduceSub, Array.replicate_succ, Array.replicate_zero, List.push_toArray, List.append_toArray, List.nil_append, List.cons_append]
  gi_wp2_with (refine ⟨trivial, ?_⟩; gi_at_call 25; refine (callsIn_wide.2 (runs_any _ _ _ _)).mono ?_; rintro e w' ⟨rfl, rfl⟩)
  have hB0 : Below w.heap.size w ((w.alloc (.cells #[.bool false] 4)).alloc (.cells #[.slice p L.length c] 22)) := ((Below.refl _ w).alloc (Nat.le_refl _) _).alloc (by simp) _
  have hb0 : ((w.alloc (.cells #[.bool false] 4)).alloc (.cells #[.slice p L.length c] 22)).cell? ⟨w.heap.size + 1, 0, none⟩ = some (.slice p L.length c) := by simp [go_sem]
  have hb1 : ((w.alloc (.cells #[.bool false] 4)).alloc (.cells #[.slice p L.length c] 22)).frozen? ⟨w.heap.size + 1, 0, none⟩ = false := by simp [go_sem]
  have hb2 : ((w.alloc (.cells #[.bool false] 4)).alloc (.cells #[.slice p L.length c] 22)).cell? ⟨w.heap.size, 0, none⟩ = some (.bool false) := by simp [go_sem]
  have hb3 : ((w.alloc (.cells #[.bool false] 4)).alloc (.cells #[.slice p L.length c] 22)).frozen? ⟨w.heap.size, 0, none⟩ = false := by simp [go_sem]
  have hs0 : ((w.alloc (.cells #[.bool false] 4)).alloc (.cells #[.slice p L.length c] 22)).heap.size = w.heap.size + 2 := by simp
  generalize (w.alloc (.cells #[.bool false] 4)).alloc (.cells #[.slice p L.length c] 22) = W0 at *
  have hgl : g < w.heap.size + 2 := by rcases HGO.out with h | h <;> omega
  have hgo2 : L = [] ∨ (p = some ⟨g, o, none⟩ ∧ Ints W0 g o L ∧ w.heap.size + 1 ≠ g) := by
    rcases HGO.out with h | ⟨h1, h2, h3⟩
    · exact Or.inl h.1
    · exact Or.inr ⟨h1, h2.kept (hB0.block g h3), by omega⟩
  refine wpIn_rangeFunc_N rfl (by omega) (gf := 35) (lb := #[.pointer (some ⟨w.heap.size + 1, 0, none⟩)]) rfl trivial (enters_of Try.func35 (by kernel_rfl) rfl)
    (runs1_all (w.heap.size + 1) p g o c L hL hc W0 hb0 hb1 hgo2) (fun b e => by cases e; omega)
    (fun h k => ⟨k.1.trans h.1, k.2.trans h.2⟩) (fun W l o o' hl _ _ _ => ⟨World.putObj_heap_other (by omega), World.putObj_heap_other (by omega)⟩) (Below.refl _ _) (fun _ => rfl)
    (OrdI w L) (OrdX w L) (OrdI.own (by omega)) (fun c => OrdX.own (by omega) c) ⟨fun j hj => absurd hj (Nat.not_lt_zero _), hb2, hb3, hB0, by omega⟩
    (fun k => { tmps := #[.slice p L.length c, undef, .pointer (some ⟨w.heap.size, 0, none⟩), .slice (some ⟨g, o + posR L k, none⟩) (runR L k).length (runR L k).length, .slice p L.length c, .func (.func 35) #[] #[.pointer (some ⟨w.heap.size + 1, 0, none⟩)], .slice (some ⟨g, o + posR L k, none⟩) (runR L k).length (runR L k).length, undef, undef, undef, undef, undef, undef, undef, undef, undef, undef], defers := [] }) ?assign ?body ?done ?stop
  case assign =>
    intro l k W K _ hK
    unfold encR
    gi_wp2
    exact hK
  case body =>
    rintro l k W ⟨ha, hcc, hf, hb, hs⟩ hk
    obtain ⟨⟨x, t, hr, ht⟩, hrk⟩ := run_is L k hk
    have hgo3 : p = some ⟨g, o, none⟩ ∧ Ints w g o L ∧ g < w.heap.size := HGO.out.resolve_left (fun h => by
      rw [h.1] at hk
      exact absurd hk (Nat.not_lt_zero _))
    obtain ⟨hpp, hI, hgl3⟩ := hgo3
    obtain ⟨x0, T0, -, -, hp1, hple⟩ := rn_at hk
    have hIW : Ints W g o L := hI.kept (hb.block g hI.1)
    have hIr := hIW.part (posR L k) (runR L k).length
    have hrp : (L.drop (posR L k)).take (runR L k).length = runR L k := by
      obtain ⟨x1, T1, e1, e2, -, -⟩ := rn_at hk
      rw [e1, e2, List.length_cons, List.take_succ_cons]
      congr 1
      exact List.prefix_iff_eq_take.1 (List.takeWhile_prefix _) ▸ rfl
    rw [hrp] at hIr
    have hrl : 0 < (runR L k).length := by rw [hr]; simp
    have hx : W.cell? ⟨g, o + posR L k, none⟩ = some (.int .i64 x) := hIr.2 0 x (by rw [hr]; rfl)
    have hord : Ordl.ordB Tb.classI (runR L k) = Ordl.ordB Tb.classI (if Tb.classI x = 0 then t else x :: t) := by
      rw [hr]
      split
      · exact (ord_tail (by assumption)).symm
      · rfl
    have hno : Ordl.ordB Tb.classI (runR L k) = false → Ordl.ordB Tb.classI L = false := fun h => by
      rw [Bool.eq_false_iff]
      intro h2
      rw [(ord_runs L).1 h2 k hk] at h
      cases h
    have hyes : Ordl.ordB Tb.classI (runR L k) = true → ∀ j, j < k + 1 → Ordl.ordB Tb.classI (runR L j) = true := fun h j hj => by
      by_cases e : j = k
      · rw [e]; exact h
      · exact ha j (by omega)
    have HORD := Lib.hid hord
    have HNO := Lib.hid hno
    have HYES := Lib.hid hyes
    have HB := Lib.hid hb
    have hb0 : (runR L k).length ≤ 100000 := by omega
    have hN1 : (1 : Int) ≤ ((runR L k).length : Int) := by omega
    have hN0 : (0 : Int) < ((runR L k).length : Int) := by omega
    have hlt : t.length + 1 = (runR L k).length := by rw [hr]; rfl
    have hIx : Ints W g (o + posR L k) (x :: t) := by rw [← hr]; exact hIr
    have hIt : ∀ j y, t[j]? = some y → W.cell? ⟨g, o + posR L k + 1 + j, none⟩ = some (.int .i64 y) := fun j y hj => by
      have := hIx.2 (j + 1) y (by simpa using hj)
      rw [show o + posR L k + (j + 1) = o + posR L k + 1 + j by omega] at this
      exact this
    have HT := Lib.hid ht
    have HIX := Lib.hid hIx
    have HIT := Lib.hid hIt
    have HR := Lib.hid hr
    have c1 := class_any x W
    have fin : ∀ (n : Nat) (tm : Array Value) (df : List Deferred), Ordl.ordB Tb.classI (runR L k) = true → ownPostN W0.heap.size (KpR (w.heap.size + 1) g) (OrdI w L) (OrdX w L) (k + 1) W .normal { tmps := tm, defers := df } (W.drewN n) := fun n tm df h =>
      ⟨(KeepsOthers.of_grownBy (ogb_drewN0 W n none) (fun j o e _ => by cases e)).from _, ⟨rfl, rfl⟩, HYES.out h, hcc, hf, HB.out.grown (ogb_drewN0 W n none) (by omega) (fun r e => by cases e), hs⟩
    have FIN := Lib.hid fin
    have fin2 : ∀ (n : Nat) (tm : Array Value) (df : List Deferred), Ordl.ordB Tb.classI (runR L k) = false → ownPostN W0.heap.size (KpR (w.heap.size + 1) g) (OrdI w L) (OrdX w L) (k + 1) W .ret { tmps := tm, defers := df } ((W.drewN n).setCell ⟨w.heap.size, 0, none⟩ (.bool false)) := fun n tm df h =>
      ⟨((KeepsOthers.of_grownBy (ogb_drewN0 W n none) (fun j o e _ => by cases e)).trans (KeepsOthers.setCell _ _ _)).from _, rfl, HNO.out h, World.cell?_setCell_same _ _ _ hcc, (HB.out.grown (ogb_drewN0 W n none) (by omega) (fun r e => by cases e)).setCell (p := ⟨w.heap.size, 0, none⟩) (Nat.le_refl _) _, by simp; omega⟩
    have FIN2 := Lib.hid fin2
    clear fin fin2 hIt hIx hr ht hno hyes hord hb ha hIr hrp hIW hpp hrk hple hp1 hI
    generalize hrr : runR L k = r at *
    have HRR := Lib.hid hrr
    have HLT := Lib.hid hlt
    clear hrr hlt
    by_cases hx0 : Tb.classI x = 0
    · by_cases hn1 : r.length = 1
      · have hisf := isf_any g (o + posR L k) 0 t W ⟨HIX.out.1, fun j y hj => by
          have := (List.getElem?_eq_some_iff.1 hj).1
          have := HLT.out
          omega⟩ (by have := HLT.out; omega) (fun i y hy => HT.out y (List.mem_of_getElem? hy))
        have hlt0 : t.length = 0 := by have := HLT.out; omega
        rw [hlt0] at hisf
        have ho : Ordl.ordB Tb.classI t = Ordl.ordB Tb.classI r := by rw [HORD.out, if_pos hx0]
        unfold IsfPost FV at hisf
        rw [ho] at hisf
        generalize hbb : Ordl.ordB Tb.classI r = b at *
        have HBB := Lib.hid hbb
        clear hbb ho hlt0
        rw [hx0] at c1
        rw [hn1] at hb0 hN1 hN0 hrl ⊢
        gi_wp2_with (first | (refine ⟨trivial, ?_⟩; gi_at_call 28; refine (CallsIn.inRound l (callsIn_wide.2 c1)).mono ?_; rintro e' w' ⟨rfl, rfl⟩) | (refine ⟨trivial, ?_⟩; gi_at_call 29; refine (CallsIn.inRound l (callsIn_wide.2 hisf)).mono ?_; rintro e' w' ⟨rfl, nq, rfl⟩))
        all_goals first | exact FIN.out _ _ _ (by simpa using ‹(!b) = false›) | exact FIN2.out _ _ _ (by simpa using ‹(!b) = true›)
      · have hisf := isf_any g (o + posR L k + 1) (r.length - 1) t W ⟨HIX.out.1, fun j y hj => HIT.out j y hj⟩ (by have := HLT.out; omega) (fun i y hy => HT.out y (List.mem_of_getElem? hy))
        have hlt0 : t.length = r.length - 1 := by have := HLT.out; omega
        rw [hlt0] at hisf
        have ho : Ordl.ordB Tb.classI t = Ordl.ordB Tb.classI r := by rw [HORD.out, if_pos hx0]
        unfold IsfPost FV at hisf
        rw [ho] at hisf
        generalize hbb : Ordl.ordB Tb.classI r = b at *
        have HBB := Lib.hid hbb
        have hn2 : ¬ 1 = r.length := fun e => hn1 e.symm
        have hn3 : 1 < r.length := by omega
        clear hbb ho hlt0
        rw [hx0] at c1
        gi_wp2_with (first | (refine ⟨trivial, ?_⟩; gi_at_call 28; refine (CallsIn.inRound l (callsIn_wide.2 c1)).mono ?_; rintro e' w' ⟨rfl, rfl⟩) | (refine ⟨trivial, ?_⟩; gi_at_call 29; refine (CallsIn.inRound l (callsIn_wide.2 hisf)).mono ?_; rintro e' w' ⟨rfl, nq, rfl⟩))
        all_goals first | exact FIN.out _ _ _ (by simpa using ‹(!b) = false›) | exact FIN2.out _ _ _ (by simpa using ‹(!b) = true›)
    · have hisf := isf_any g (o + posR L k) r.length r W (by rw [HR.out]; exact HIX.out) hb0 (fun i y hy => by
        rw [HR.out] at hy
        exact HT.out y (List.mem_of_getElem? (by simpa using hy)))
      unfold IsfPost FV at hisf
      generalize hbb : Ordl.ordB Tb.classI r = b at *
      have HBB := Lib.hid hbb
      have hx1 : (Tb.classI x == 0) = false := by simpa using hx0
      clear hbb
      generalize Tb.classI x = cc at *
      gi_wp2_with (first | (refine ⟨trivial, ?_⟩; gi_at_call 28; refine (CallsIn.inRound l (callsIn_wide.2 c1)).mono ?_; rintro e' w' ⟨rfl, rfl⟩) | (refine ⟨trivial, ?_⟩; gi_at_call 29; refine (CallsIn.inRound l (callsIn_wide.2 hisf)).mono ?_; rintro e' w' ⟨rfl, nq, rfl⟩))
      all_goals first | exact FIN.out _ _ _ (by simpa using ‹(!b) = false›) | exact FIN2.out _ _ _ (by simpa using ‹(!b) = true›)
  case done =>
    rintro D W hD ⟨ha, hcc, hf, hb, hs⟩ hK
    have hall := (ord_runs L).2 ha
    have HALL := Lib.hid hall
    clear hall ha
    gi_wp2
    have hK' := (KeepsOthers.setCell W ⟨w.heap.size, 0, none⟩ (.bool true)).same D _ hK rfl
    refine ⟨by simp, .inl ⟨_, _, rfl, run_takeDeferred hK', ?_⟩⟩
    have hc5 := cell_kept (World.cell?_setCell_same W ⟨w.heap.size, 0, none⟩ (.bool true) hcc) (grownBy_putObj' _ D (.deferred none)) (fun r e => by cases e; exact ⟨_, hK', rfl⟩)
    refine ⟨.bool true, ?_, by rw [HALL.out], (hb.setCell (p := ⟨w.heap.size, 0, none⟩) (Nat.le_refl _) _).trans (belowK_b (w := W0) (by omega) _ D _ _ hD hK' rfl rfl)⟩
    simp [results, Try.f10, go_sem, hc5]
  case stop =>
    rintro D c k W hD _ ⟨rfl, hx, hcc, hb, hs⟩ hK
    have HX := Lib.hid hx
    clear hx
    gi_wp2
    refine ⟨by simp, .inl ⟨_, _, rfl, run_takeDeferred hK, ?_⟩⟩
    have hc5 := cell_kept hcc (grownBy_putObj' _ D (.deferred none)) (fun r e => by cases e; exact ⟨_, hK, rfl⟩)
    refine ⟨.bool false, ?_, by rw [HX.out], hb.trans (belowK_b (w := W0) (by omega) W D _ _ hD hK rfl rfl)⟩
    simp [results, Try.f10, go_sem, hc5]
end Go.Proofs.Ytahapmpohaaigaa
