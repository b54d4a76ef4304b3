/- Rows that are appended to and sorted at their ends; a sorted row's test; the walks of Sort and Ordered. -/
import Derived.Test.YtahapmpohaaigaaOsG
import Derived.Test.YtahapmpohaaigaaTbH
import Derived.Maps.OwnIn
namespace Go.Proofs.Ytahapmpohaaigaa
open Go.RowKit Go.Shelf
open Go
open Stb0 (Srt Stb seg seg_get seg_len)
set_option linter.unusedVariables false
set_option maxRecDepth 100000
attribute [local go_sem] Oper.semAt_some
def encI (x : Int) : Value := .int .i64 x
def OwnL (W : World) (base : Nat) (v : Value) (L : List Int) : Prop := W.ownsRow base 3 1 v L.length (L.map encI)
theorem own_to {W : World} {base g cap : Nat} {S r : List Int} (h : OwnL W base (.slice (some ⟨g, 0, none⟩) (S ++ r).length cap) (S ++ r)) :
    ∃ fr : Array Value, fr.size = cap ∧ (∀ (i : Nat) (x : Int), S[i]? = some x → fr[i]? = some (encI x)) ∧ SR fr W g S.length r.length (fun k => (r[k]?).getD 0) ∧ (S ++ r).length ≤ cap ∧ cap ≤ maxLen ∧ base ≤ g := by
  obtain ⟨_, h2⟩ := h
  rcases h2 with ⟨h3, _⟩ | ⟨g', cap', cur, hv, hb, hg, hle, hmx, hcs, htk⟩
  · cases h3
  · injection hv with hp hn hc
    injection hp with hp
    injection hp with hp1 hp2 hp3
    subst hp1 hc
    rw [Nat.mul_one] at hcs htk
    have hget : ∀ (i : Nat) (x : Int), (S ++ r)[i]? = some x → cur[i]? = some (encI x) := fun i x hx => by
      have h5 := congrArg (fun l : List Value => l[i]?) htk
      have hi : i < (S ++ r).length := (List.getElem?_eq_some_iff.1 hx).1
      simp only [List.getElem?_map, hx, Option.map_some] at h5
      rw [← Array.getElem?_toList, ← h5, List.getElem?_take_of_lt hi]
    refine ⟨cur, hcs, fun i x hx => ?_, ⟨fun k hk => ?_, fun k hk => ?_, cur, hg, rfl, fun i _ => rfl⟩, hle, hmx, hb⟩
    · exact hget i x (by rw [List.getElem?_append_left (List.getElem?_eq_some_iff.1 hx).1, hx])
    · have h6 := hget (S.length + k) (r[k]) (by rw [List.getElem?_append_right (by omega), Nat.add_sub_cancel_left, List.getElem?_eq_getElem hk])
      have h7 : (r[k]?).getD 0 = r[k] := by rw [List.getElem?_eq_getElem hk]; rfl
      show W.cell? ⟨g, S.length + k, none⟩ = some (.int .i64 ((r[k]?).getD 0))
      rw [h7]
      simp [World.cell?, hg, h6, encI]
    · simp [World.frozen?, hg]
theorem own_of {W : World} {base g cap : Nat} {fr : Array Value} {S : List Int} {z : Nat} {d : Nat → Int} (hfs : fr.size = cap) (hS : ∀ (i : Nat) (x : Int), S[i]? = some x → fr[i]? = some (encI x)) (hle : S.length + z ≤ cap) (hmx : cap ≤ maxLen) (hb : base ≤ g) (hsr : SR fr W g S.length z d) :
    OwnL W base (.slice (some ⟨g, 0, none⟩) (S ++ seg d 0 z).length cap) (S ++ seg d 0 z) := by
  obtain ⟨h1, h2, cur, hg, hcs, hcu⟩ := hsr
  refine ⟨by simp, Or.inr ⟨g, cap, cur, rfl, hb, hg, by rw [List.length_append, seg_len]; omega, hmx, by omega, ?_⟩⟩
  rw [Nat.mul_one]
  apply List.ext_getElem?
  intro i
  by_cases hi : i < (S ++ seg d 0 z).length
  · rw [List.getElem?_take_of_lt hi, Array.getElem?_toList, List.getElem?_map]
    rw [List.length_append, seg_len] at hi
    by_cases hs : i < S.length
    · rw [List.getElem?_append_left hs, List.getElem?_eq_getElem hs, hcu i (by omega)]
      exact hS i _ (List.getElem?_eq_getElem hs)
    · obtain ⟨k, rfl⟩ : ∃ k, i = S.length + k := ⟨i - S.length, by omega⟩
      rw [List.getElem?_append_right (by omega), Nat.add_sub_cancel_left, seg_get (by omega)]
      have h6 := h1 k (by omega)
      have h7 : cur[S.length + k]? = some (.int .i64 (d k)) := by simpa [World.cell?, hg] using h6
      rw [h7, Nat.zero_add]
      rfl
  · rw [List.getElem?_eq_none (by rw [List.length_take]; omega), List.getElem?_eq_none (by rw [List.length_map]; omega)]
/-- The sorted end of a row. -/
theorem own_sorted {W' : World} {base g cap : Nat} {fr : Array Value} {S r : List Int} (hfs : fr.size = cap) (hS : ∀ (i : Nat) (x : Int), S[i]? = some x → fr[i]? = some (encI x)) (hle : (S ++ r).length ≤ cap) (hmx : cap ≤ maxLen) (hb : base ≤ g)
    (hr : Ordl.Run Tb.classI r) {d' : Nat → Int} (hsr : SR fr W' g S.length r.length d') (hs : Srt Tb.classI d' 0 r.length) (ht : Stb Tb.classI (fun k => (r[k]?).getD 0) d' 0 r.length) :
    OwnL W' base (.slice (some ⟨g, 0, none⟩) (S ++ Ordl.sortL Tb.classI r).length cap) (S ++ Ordl.sortL Tb.classI r) := by
  rw [List.length_append] at hle
  have h := own_of hfs hS hle hmx hb hsr
  have e0 : seg (fun k => (r[k]?).getD 0) 0 r.length = r := by
    apply List.ext_getElem?
    intro i
    by_cases hi : i < r.length
    · rw [seg_get (by omega), Nat.zero_add, List.getElem?_eq_getElem hi]
      rfl
    · rw [List.getElem?_eq_none (by rw [seg_len]; omega), List.getElem?_eq_none (by omega)]
  have e1 : seg d' 0 r.length = Ordl.sortL Tb.classI r := by
    refine Ordl.sort_uniq cls0 hr ?_ (fun c => ?_)
    · rw [List.pairwise_iff_getElem]
      intro i j hi hj hij
      rw [seg_len] at hi hj
      have a1 := seg_get (d := d') (a := 0) (b := r.length) (i := i) hi
      have a2 := seg_get (d := d') (a := 0) (b := r.length) (i := j) hj
      rw [List.getElem?_eq_getElem (by rw [seg_len]; exact hi)] at a1
      rw [List.getElem?_eq_getElem (by rw [seg_len]; exact hj)] at a2
      rw [Option.some.inj a1, Option.some.inj a2]
      exact hs _ _ (by omega) (by omega) (by omega)
    · have := ht c
      rw [e0] at this
      exact this
  rw [e1] at h
  exact h
def OutPost (L : List Int) (w : World) (e : Ending) (W' : World) : Prop := ∃ v, e = .returned v ∧ OwnL W' w.heap.size v L ∧ Below w.heap.size w W'
theorem run_is (L : List Int) (k : Nat) (h : k < (rnL L).length) : Ordl.Run Tb.classI (runR L k) ∧ (rnL L)[k]? = some (runR L k) := by
  have h4 : (rnL L)[k]? = some (rnL L)[k] := List.getElem?_eq_getElem h
  have h5 : runR L k = (rnL L)[k] := by unfold runR; rw [h4]; rfl
  rw [h5]
  exact ⟨(Ordl.runs_are cls0 L).1 _ (List.getElem_mem h), h4⟩
theorem infoI : (Try.prog.info? 3).map (fun i => (i.zero, i.size, i.bytes)) = some (some (.int .i64 0), 1, 8) := by kernel_rfl
theorem OwnL.shape {W : World} {base : Nat} {v : Value} {L : List Int} (h : OwnL W base v L) : (∃ pv cv, v = .slice pv L.length cv) ∧ (v.ownBlock = none ∨ ∃ g cur fz, v.ownBlock = some g ∧ base ≤ g ∧ W.heap[g]? = some (.cells cur 3 fz)) := by
  obtain ⟨_, h2⟩ := h
  rcases h2 with ⟨rfl, hn⟩ | ⟨g', cap', cur, rfl, hb, hg, _⟩
  · exact ⟨⟨none, 0, by rw [hn]⟩, Or.inl rfl⟩
  · exact ⟨⟨_, _, rfl⟩, Or.inr ⟨g', cur, (0, 0), rfl, hb, hg⟩⟩
theorem OwnL.kept {W W' : World} {base : Nat} {v : Value} {L : List Int} {row : Option Nat} (h : OwnL W base v L) (hg : W.grownBy W' row) (hne : ∀ r, row = some r → r < base ∨ ∃ o : Obj, W.heap[r]? = some o ∧ o.isCells = false) : OwnL W' base v L := by
  obtain ⟨h1, h2⟩ := h
  refine ⟨h1, ?_⟩
  rcases h2 with h2 | ⟨g', cap', cur, hv, hb, hgg, h3⟩
  · exact Or.inl h2
  · refine Or.inr ⟨g', cap', cur, hv, hb, (hg.block g' (Array.getElem?_eq_some_iff.1 hgg).1 ?_).trans hgg, h3⟩
    intro e
    rcases hne g' e.symm with h | ⟨o, ho, hc⟩
    · omega
    · rw [hgg] at ho
      cases ho
      cases hc
theorem OwnL.slice_of {W : World} {base : Nat} {v : Value} {L : List Int} (h : OwnL W base v L) (hL : 0 < L.length) : ∃ g cap, v = .slice (some ⟨g, 0, none⟩) L.length cap := by
  rcases h.2 with ⟨_, hn⟩ | ⟨g', cap', cur, hv, _⟩
  · omega
  · exact ⟨g', cap', hv⟩
theorem nth_sort (L : List Int) (k : Nat) : (((rnL L).take k).map (Ordl.sortL Tb.classI)).flatten.length = posR L k := by
  unfold posR
  induction (rnL L).take k with
  | nil => rfl
  | cons r rs ih => rw [List.map_cons, List.flatten_cons, List.flatten_cons, List.length_append, List.length_append, ih, Ordl.sort_len]
def sortK (L : List Int) (k : Nat) : List Int := (((rnL L).take k).map (Ordl.sortL Tb.classI)).flatten
theorem sortK_len (L : List Int) (k : Nat) : (sortK L k).length = posR L k := nth_sort L k
theorem sortK_succ {L : List Int} {k : Nat} (h : k < (rnL L).length) : sortK L (k + 1) = sortK L k ++ Ordl.sortL Tb.classI (runR L k) := by
  unfold sortK
  have h4 := (run_is L k h).2
  rw [List.take_succ_eq_append_getElem h, List.map_append, List.flatten_append]
  rw [List.getElem?_eq_getElem h] at h4
  simp only [List.map_cons, List.map_nil, List.flatten_cons, List.flatten_nil, List.append_nil]
  rw [Option.some.inj h4]
theorem sortK_end (L : List Int) : sortK L (rnL L).length = Ordl.sortL Tb.classI L := by
  unfold sortK
  rw [List.take_length]
  exact Ordl.runs_sort cls0 L
theorem own_app {W : World} {base : Nat} {v : Value} {S r : List Int} (h : W.ownsRow base 3 1 v (S.length + r.length) (S.map encI ++ r.map encI)) (hr : 0 < r.length) : ∃ g cap, v = .slice (some ⟨g, 0, none⟩) (S.length + r.length) cap ∧ OwnL W base (.slice (some ⟨g, 0, none⟩) (S ++ r).length cap) (S ++ r) ∧ base ≤ g ∧ S.length + r.length ≤ cap ∧ g < W.heap.size := by
  have h0 := h
  rcases h.2 with ⟨_, hn⟩ | ⟨g', cap', cur, hv, hb, hg, hle, _⟩
  · omega
  · subst hv
    refine ⟨g', cap', rfl, ?_, hb, hle, (Array.getElem?_eq_some_iff.1 hg).1⟩
    unfold OwnL
    rw [List.length_append, List.map_append]
    exact h0
theorem own_setBox {W : World} {base : Nat} {v : Value} {L : List Int} (h : OwnL W base v L) (b : Nat) (hb : b < base) (u : Value) : OwnL (W.setCell ⟨b, 0, none⟩ u) base v L :=
  h.kept (ogb_set W ⟨b, 0, none⟩ u) (fun r e => Or.inl (by cases e; exact hb))
/-- Between two rounds of Sort. -/
def SrtI (w : World) (L : List Int) (k : Nat) (W : World) : Prop := (∃ v, W.cell? ⟨w.heap.size, 0, none⟩ = some v ∧ W.frozen? ⟨w.heap.size, 0, none⟩ = false ∧ OwnL W (w.heap.size + 2) v (sortK L k)) ∧ Below w.heap.size w W ∧ w.heap.size + 2 ≤ W.heap.size
theorem SrtI.own {w : World} {L : List Int} {B : Nat} (hB : w.heap.size + 2 ≤ B) : OwN B (some (w.heap.size + 1)) (SrtI w L) := by
  rintro k W W' row ⟨⟨v, hc, hf, ho⟩, hb, hs⟩ hg hr
  have hne : some w.heap.size ≠ row := fun e => by
    rcases hr _ e.symm with h | ⟨h, _⟩
    · rw [← e] at h; injection h with h; omega
    · omega
  have h1 : w.heap.size < W.heap.size := by omega
  refine ⟨⟨v, (gb_cell hg (a := ⟨w.heap.size, 0, none⟩) h1 hne).trans hc, (gb_frozen hg (a := ⟨w.heap.size, 0, none⟩) h1 hne).trans hf, ho.kept hg (fun r e => ?_)⟩, hb.grown hg (by omega) (fun r e => ?_), Nat.le_trans hs hg.size⟩
  · rcases hr r e with h | ⟨_, h⟩
    · rw [e] at h; injection h with h; exact Or.inl (by omega)
    · exact Or.inr h
  · rcases hr r e with h | ⟨h, _⟩
    · rw [e] at h; injection h with h; omega
    · omega
set_option maxHeartbeats 4000000 in
theorem sort_any (p : Option Addr) (c : Nat) (L : List Int) (w : World) (hL : L.length ≤ 100000) (hrp : RowP w p c L) :
    Calls Try.prog 9 #[.slice p L.length c] w (OutPost (Ordl.sortL Tb.classI L) w) := by
  have hc := hrp.1
  obtain ⟨g, o, hgo⟩ := rowP_at hrp (w.heap.size + 1)
  have HGO := Lib.hid hgo
  clear hgo hrp
  refine (callsIn_wide (n := 6)).1 ?_
  obtain ⟨i0, hi, hz0, hz1, hz2⟩ := info_parts infoI
  refine callsIn_of_wp_marks Try.func9 rfl trivial ?_ rfl
  simp only [Try.ntmps9, List.size_toArray, List.length_cons, List.length_nil, Nat.reduceAdd, Nat.reduceSub, Array.replicate_succ, Array.replicate_zero, List.push_toArray, List.append_toArray, List.nil_append, List.cons_append]
  gi_wp2_with (refine ⟨trivial, ?_⟩; gi_at_call 25; refine (callsIn_wide.2 (runs_any _ _ _ _)).mono ?_; rintro e w' ⟨rfl, rfl⟩)
  have hB0 : Below w.heap.size w ((w.alloc (.cells #[.slice none 0 0] 22)).alloc (.cells #[.slice p L.length c] 22)) := ((Below.refl _ w).alloc (Nat.le_refl _) _).alloc (by simp) _
  have hb0 : ((w.alloc (.cells #[.slice none 0 0] 22)).alloc (.cells #[.slice p L.length c] 22)).cell? ⟨w.heap.size + 1, 0, none⟩ = some (.slice p L.length c) := by simp [go_sem]
  have hb1 : ((w.alloc (.cells #[.slice none 0 0] 22)).alloc (.cells #[.slice p L.length c] 22)).frozen? ⟨w.heap.size + 1, 0, none⟩ = false := by simp [go_sem]
  have hb2 : ((w.alloc (.cells #[.slice none 0 0] 22)).alloc (.cells #[.slice p L.length c] 22)).cell? ⟨w.heap.size, 0, none⟩ = some (.slice none 0 0) := by simp [go_sem]
  have hb3 : ((w.alloc (.cells #[.slice none 0 0] 22)).alloc (.cells #[.slice p L.length c] 22)).frozen? ⟨w.heap.size, 0, none⟩ = false := by simp [go_sem]
  have hs0 : ((w.alloc (.cells #[.slice none 0 0] 22)).alloc (.cells #[.slice p L.length c] 22)).heap.size = w.heap.size + 2 := by simp
  generalize (w.alloc (.cells #[.slice none 0 0] 22)).alloc (.cells #[.slice p L.length c] 22) = W0 at *
  have hgl : g < w.heap.size + 2 := by rcases HGO.out with h | h <;> omega
  have hgo2 : L = [] ∨ (p = some ⟨g, o, none⟩ ∧ Ints W0 g o L ∧ w.heap.size + 1 ≠ g) := by
    rcases HGO.out with h | ⟨h1, h2, h3⟩
    · exact Or.inl h.1
    · exact Or.inr ⟨h1, h2.kept (hB0.block g h3), by omega⟩
  refine wpIn_rangeFunc_N rfl (by omega) (gf := 35) (lb := #[.pointer (some ⟨w.heap.size + 1, 0, none⟩)]) rfl trivial (enters_of Try.func35 (by kernel_rfl) rfl)
    (runs1_all (w.heap.size + 1) p g o c L hL hc W0 hb0 hb1 hgo2) (fun b e => by cases e; omega)
    (fun h k => ⟨k.1.trans h.1, k.2.trans h.2⟩) (fun W l o o' hl _ _ _ => ⟨World.putObj_heap_other (by omega), World.putObj_heap_other (by omega)⟩) (Below.refl _ _) (fun _ => rfl)
    (SrtI w L) (fun _ _ _ => False) (SrtI.own (by omega)) (fun _ _ _ _ _ h _ _ => h) ⟨⟨_, hb2, hb3, ⟨rfl, Or.inl ⟨rfl, rfl⟩⟩⟩, hB0, by omega⟩
    (fun k => { tmps := #[.slice p L.length c, undef, .slice none 0 0, .pointer (some ⟨w.heap.size, 0, none⟩), .slice (some ⟨g, o + posR L k, none⟩) (runR L k).length (runR L k).length, undef, .slice p L.length c, .func (.func 35) #[] #[.pointer (some ⟨w.heap.size + 1, 0, none⟩)], .slice (some ⟨g, o + posR L k, none⟩) (runR L k).length (runR L k).length, undef, undef, undef, undef, undef, undef, undef, undef, undef, undef], defers := [] }) ?assign ?body ?done ?stop
  case assign =>
    intro l k W K _ hK
    unfold encR
    gi_wp2
    exact hK
  case body =>
    rintro l k W ⟨⟨v, hc, hf, ho⟩, hb, hs⟩ hk
    obtain ⟨hrun, hrk⟩ := run_is L k hk
    have hgo3 : p = some ⟨g, o, none⟩ ∧ Ints w g o L ∧ g < w.heap.size := HGO.out.resolve_left (fun h => by
      rw [h.1] at hk
      exact absurd hk (Nat.not_lt_zero _))
    obtain ⟨hpp, hI, hgl3⟩ := hgo3
    have HPP0 := Lib.hid hpp
    clear hpp
    obtain ⟨⟨pv, cv, rfl⟩, hrow⟩ := ho.shape
    obtain ⟨x0, T0, -, -, hp1, hple⟩ := rn_at hk
    have hIW : Ints W g o L := hI.kept (hb.block g hI.1)
    have hIr := hIW.part (posR L k) (runR L k).length
    have hrp : (L.drop (posR L k)).take (runR L k).length = runR L k := by
      obtain ⟨x1, T1, e1, e2, -, -⟩ := rn_at hk
      rw [e1, e2, List.length_cons, List.take_succ_cons]
      congr 1
      exact List.prefix_iff_eq_take.1 (List.takeWhile_prefix _) ▸ rfl
    rw [hrp] at hIr
    have hnews : ∀ (j : Nat) (u : Value), ((runR L k).map encI)[j]? = some u → W.cell? (Addr.add ⟨g, o + posR L k, none⟩ j) = some u := fun j u hj => by
      rw [List.getElem?_map] at hj
      cases hj2 : (runR L k)[j]? with
      | none => rw [hj2] at hj; cases hj
      | some y =>
        rw [hj2] at hj
        cases hj
        rw [Go.WideShapes.add_plain]
        exact hIr.2 j y hj2
    have hrl : 0 < (runR L k).length := by
      obtain ⟨a, t, e, _⟩ := hrun
      rw [e]; simp
    have hSl := sortK_len L k
    have ho2 : W.ownsRow (w.heap.size + 2) 3 1 (.slice pv (sortK L k).length cv) (sortK L k).length ((sortK L k).map encI) := ho
    have b1 : (sortK L k).length + (runR L k).length ≤ maxLen := by unfold maxLen; omega
    have b2 : ((sortK L k).length + (runR L k).length) * 8 ≤ 140737488355328 := by omega
    have hone : ∀ u ∈ (runR L k).map encI, u.oneCell' = true := fun u hu => by
      obtain ⟨y, _, rfl⟩ := List.mem_map.1 hu
      rfl
    have b0 : (runR L k).length ≤ 100000 := by omega
    have HB := Lib.hid hb
    have HROW := Lib.hid hrow
    have HRUN := Lib.hid hrun
    have HK := Lib.hid hk
    have HP := Lib.hid hp1
    have HS := Lib.hid hSl
    have HRL := Lib.hid hrl
    have hlen : ((runR L k).map encI).length = (runR L k).length * 1 := by simp
    generalize hrr : runR L k = r at *
    generalize hSS : sortK L k = S at *
    clear hIr hrp hrow hrun hk hp1 hSl hrl hb hrk hple
    have hnb : some w.heap.size ≠ (Value.slice pv S.length cv).ownBlock := fun e => by
      rcases HROW.out with h | ⟨g2, cur, fz, h, h2, _⟩
      · rw [h] at e; cases e
      · rw [h] at e; injection e with e; omega
    have HNB := Lib.hid hnb
    clear hnb
    gi_wp2_with (first | (gi_at_builtin; refine wpListIn_append_own_at _ rfl _ _ 22 rfl (w.heap.size + 2) 3 i0 (.int .i64 0) 1 8 Try.underlying22 hi hz0 hz1 hz2 rfl (by decide) (.slice pv S.length cv) S.length (S.map encI) rfl ho2 ⟨g, o + posR L k, none⟩ r.length r.length (r.map encI) rfl hlen hnews hone b1 b2 hs ?_; intro v' w1 hown' hgrow hnil hblk; clear hnil hblk; obtain ⟨g', cap', rfl, hO, hgb, hcp, hgl'⟩ := own_app hown' HRL.out; clear hown'; have hcw := (gb_cell hgrow (a := ⟨w.heap.size, 0, none⟩) (by show w.heap.size < W.heap.size; omega) HNB.out).trans hc; have hfw := (gb_frozen hgrow (a := ⟨w.heap.size, 0, none⟩) (by show w.heap.size < W.heap.size; omega) HNB.out).trans hf; have HO := Lib.hid hO; have HG := Lib.hid hgrow; clear hO hgrow; have hcn : ¬ cap' = S.length := (by have := HRL.out; omega); have hcn2 : S.length < cap' := (by have := HRL.out; omega)) | (refine ⟨trivial, ?_⟩; obtain ⟨fr, f1, f2, f3, f4, f5, f6⟩ := own_to (own_setBox HO.out w.heap.size (by omega) (.slice (some ⟨g', 0, none⟩) (S.length + r.length) cap')); have hst := ssf_any fr g' S.length r.length (cap' - S.length) _ _ f3 b0; unfold FV at hst; have HF1 := Lib.hid f1; have HF2 := Lib.hid f2; clear f1 f2 f3; gi_at_call 26; refine (CallsIn.inRound l (callsIn_wide.2 hst)).mono ?_; clear hst; rintro e W2 ⟨rfl, hP⟩; have HPP := Lib.hid hP; clear hP))
    obtain ⟨d', s1, s2, s3, s4⟩ := HPP.out
    have hO2 := own_sorted HF1.out HF2.out f4 f5 f6 HRUN.out s1 s3 s4
    have hlen2 : (S ++ Ordl.sortL Tb.classI r).length = S.length + r.length := by rw [List.length_append, Ordl.sort_len]
    rw [hlen2] at hO2
    have g1 := HG.out
    have g2 := ogb_set w1 ⟨w.heap.size, 0, none⟩ (.slice (some ⟨g', 0, none⟩) (S.length + r.length) cap')
    have hob : ∀ q, (Value.slice pv S.length cv).ownBlock = some q → w.heap.size + 2 ≤ q ∧ ∃ cur fz, W.heap[q]? = some (.cells cur 3 fz) := fun q e => by
      rcases HROW.out with h | ⟨g2, cur, fz, h, h2, h3⟩
      · rw [h] at e; cases e
      · rw [h] at e; injection e with e; subst e; exact ⟨h2, cur, fz, h3⟩
    have hz1 : W.heap.size ≤ w1.heap.size := g1.size
    have hq : ∀ q, q < w.heap.size + 2 → q ≠ w.heap.size → W2.heap[q]? = W.heap[q]? := fun q h1 h2 => by
      refine (s2.block q (by simp; omega) (fun e => ?_)).trans ((g2.block q (by omega) (fun e => ?_)).trans (g1.block q (by omega) (fun e => ?_)))
      · injection e with e; omega
      · injection e with e; exact h2 e
      · have := (hob q e.symm).1; omega
    obtain ⟨_, hsh⟩ := (own_setBox HO.out w.heap.size (by omega) (.slice (some ⟨g', 0, none⟩) (S.length + r.length) cap')).shape
    have hW2 : w1.heap.size ≤ W2.heap.size := by have := s2.size; simpa using this
    refine ⟨((KeepsOthers.of_grownBy g1 (fun j ob e ho => ?_)).trans ((KeepsOthers.setCell _ _ _).trans (KeepsOthers.of_grownBy s2 (fun j ob e ho => ?_)))).from _, ⟨hq _ (by omega) (by omega), hq _ (by omega) (by omega)⟩, ⟨.slice (some ⟨g', 0, none⟩) (S.length + r.length) cap', ?_, ?_, ?_⟩, ?_, by omega⟩
    · obtain ⟨_, cur, fz, h3⟩ := hob j e
      rw [h3] at ho; cases ho; rfl
    · injection e with e
      subst e
      rcases hsh with h | ⟨g2, cur, fz, h, h2, h3⟩
      · cases h
      · injection h with h
        subst h
        rw [h3] at ho; cases ho; rfl
    · exact (gb_cell s2 (a := ⟨w.heap.size, 0, none⟩) (by simp; omega) (fun e => by injection e with e; simp only at e; omega)).trans (World.cell?_setCell_same _ _ _ hcw)
    · exact (gb_frozen s2 (a := ⟨w.heap.size, 0, none⟩) (by simp; omega) (fun e => by injection e with e; simp only at e; omega)).trans ((World.frozen?_setCell _ _ _ _).trans hfw)
    · rw [sortK_succ HK.out, hrr, hSS]
      unfold OwnL at hO2 ⊢
      rw [hlen2] at hO2 ⊢
      exact hO2
    · refine ((HB.out.grown g1 (by omega) (fun r e => ?_)).grown g2 (by omega) (fun r e => ?_)).grown s2 (by simp; omega) (fun r e => ?_)
      · have := (hob r e).1; omega
      · cases e; exact Nat.le_refl _
      · cases e; omega
  case done =>
    rintro D W hD ⟨⟨v, hc, hf, ho⟩, hb, hs⟩ hK
    rw [sortK_end] at ho
    obtain ⟨⟨pv, cv, rfl⟩, hrow⟩ := ho.shape
    gi_wp2
    refine ⟨by simp, .inl ⟨_, _, rfl, run_takeDeferred hK, ?_⟩⟩
    refine ⟨_, results_tmp rfl _ _ _, _, rfl, ?_, hb.trans (belowK_b (w := W0) (by omega) W D _ _ hD hK rfl rfl)⟩
    exact own_base (ho.kept (grownBy_putObj' _ D (.deferred none)) (fun r e => by cases e; exact Or.inr ⟨_, hK, rfl⟩)) (by omega)
  case stop =>
    rintro D c k W _ _ h _
    exact h.elim
end Go.Proofs.Ytahapmpohaaigaa
