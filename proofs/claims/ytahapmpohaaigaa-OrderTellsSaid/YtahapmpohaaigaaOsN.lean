/- The walks of Parts and Decompose, the program's and the document's. -/
import Derived.Test.YtahapmpohaaigaaOsM
namespace Go.Proofs.Ytahapmpohaaigaa
open Go.RowKit Go.Shelf
open Go
set_option linter.unusedVariables false
set_option maxRecDepth 100000
/-- A taker's row. -/
def TK (W : World) (bt base : Nat) (S : List Int) : Prop := ∃ v, W.cell? ⟨bt, 0, none⟩ = some v ∧ W.frozen? ⟨bt, 0, none⟩ = false ∧ OwnL W base v S ∧ bt < base ∧ base ≤ W.heap.size
theorem TK.below {W W' : World} {bt base n : Nat} {S : List Int} (h : TK W bt base S) (hb : Below n W W') (hn : W.heap.size ≤ n) : TK W' bt base S := by
  obtain ⟨v, h1, h2, h3, h4, h5⟩ := h
  refine ⟨v, (hb.cell (p := ⟨bt, 0, none⟩) (by show bt < n; omega)).trans h1, (hb.frozen (p := ⟨bt, 0, none⟩) (by show bt < n; omega)).trans h2, ⟨h3.1, ?_⟩, h4, Nat.le_trans h5 hb.size⟩
  rcases h3.2 with h | ⟨g', cap', cur, hv, hb', hg, h6⟩
  · exact Or.inl h
  · have hlt := (Array.getElem?_eq_some_iff.1 hg).1
    exact Or.inr ⟨g', cap', cur, hv, hb', (hb.block g' (by omega)).trans hg, h6⟩
def ApPost (W : World) (bt base : Nat) (S : List Int) (e : Ending) (W' : World) : Prop := e = .returned (.tuple #[]) ∧ TK W' bt base S ∧ Below bt W W'
set_option maxHeartbeats 4000000 in
theorem apart_none (r : Int) (hr : Is64 r) (h : Tb.madeF r = none) (W : World) (bt base : Nat) (S : List Int) (hS : S.length ≤ 10000000) (ht : TK W bt base S) :
    Calls Try.prog 31 #[.pointer (some ⟨bt, 0, none⟩), .int .i64 r] W (ApPost W bt base (S ++ [r])) := by
  have cm := made_any r hr W
  unfold MadePost madeV at cm
  rw [h] at cm
  obtain ⟨i0, hi, hz0, hz1, hz2⟩ := info_parts infoI
  have HT := Lib.hid ht
  clear ht
  go_enter Try.func31, Try.ntmps31
  go_wp2_with fail
  refine cm.mono ?_
  rintro e w1 ⟨rfl, hb⟩
  obtain ⟨v, h1, h2, h3, h4, h5⟩ := HT.out.below hb (Nat.le_refl _)
  obtain ⟨⟨pv, cv, rfl⟩, hrow⟩ := row_shape h3
  have hnb : some bt ≠ (Value.slice pv S.length cv).ownBlock := fun e => by
    have := (hrow _ e.symm).1
    omega
  have hA : ∀ ob : Obj, (w1.alloc ob).cell? ⟨bt, 0, none⟩ = some (.slice pv S.length cv) ∧ (w1.alloc ob).frozen? ⟨bt, 0, none⟩ = false := fun ob =>
    have hA0 := (Below.refl w1.heap.size w1).alloc (Nat.le_refl _) ob
    ⟨(hA0.cell (p := ⟨bt, 0, none⟩) (by show bt < w1.heap.size; omega)).trans h1, (hA0.frozen (p := ⟨bt, 0, none⟩) (by show bt < w1.heap.size; omega)).trans h2⟩
  have b1 : S.length + 1 ≤ maxLen := by unfold maxLen; omega
  have b2 : (S.length + 1) * 8 ≤ 140737488355328 := by omega
  have HA := Lib.hid hA
  have HO := Lib.hid h3
  have HROW := Lib.hid hrow
  have HNB := Lib.hid hnb
  have HB := Lib.hid hb
  clear hA h3 hrow hnb hb
  go_wp2_with (at_builtin; refine wpList_append_own_at _ rfl _ _ 22 rfl base 3 i0 (.int .i64 0) 1 8 Try.underlying22 hi hz0 hz1 hz2 rfl (by decide) (.slice pv S.length cv) S.length (S.map encI) rfl (row_kept HO.out (World.grownBy_alloc w1 _ none) (fun r e => by cases e)) ⟨w1.heap.size, 0, none⟩ 1 1 [.int .i64 r] rfl rfl (cell_one_new _ _ _) (by simp [Value.oneCell']) b1 b2 (by simp; omega) ?_; intro v' w2 hown' hgrow hnil hblk; clear hnil hblk; obtain ⟨g', cap', rfl, hgb', hcp', hsh⟩ := row_pos hown' (Nat.succ_pos _); have hcw := (gb_cell hgrow (a := ⟨bt, 0, none⟩) (by simp; omega) HNB.out).trans (HA.out _).1; have hfw := (gb_frozen hgrow (a := ⟨bt, 0, none⟩) (by simp; omega) HNB.out).trans (HA.out _).2; have HOW := Lib.hid hown'; have HG := Lib.hid hgrow; clear hown' hgrow hsh)
  go_end0
  have g0 := World.grownBy_alloc w1 (.cells #[.int .i64 r] 3) none
  have g1 := HG.out
  have g2 := ogb_set w2 ⟨bt, 0, none⟩ (.slice (some ⟨g', 0, none⟩) (S.length + 1) cap')
  have hz1 : (w1.alloc (.cells #[.int .i64 r] 3)).heap.size ≤ w2.heap.size := g1.size
  rw [World.size_alloc] at hz1
  refine ⟨rfl, ⟨_, World.cell?_setCell_same _ _ _ hcw, (World.frozen?_setCell _ _ _ _).trans hfw, ?_, h4, by simp; omega⟩, ?_⟩
  · unfold OwnL
    rw [List.length_append, List.map_append]
    exact row_kept HOW.out g2 (fun r e => Or.inl (by cases e; exact h4))
  · have hWs := HB.out.size
    obtain ⟨_, _, _, _, q4, q5⟩ := HT.out
    refine (((HB.out.mono (by omega)).grown g0 (by omega) (fun r e => by cases e)).grown g1 (by simp; omega) (fun r e => ?_)).grown g2 (by omega) (fun r e => ?_)
    · have := (HROW.out r e).1; omega
    · cases e; exact Nat.le_refl _
set_option maxHeartbeats 4000000 in
theorem apart_n : ∀ (n : Nat) (r : Int), Tb.depB n r = true → n ≤ 5 → Is64 r → ∀ (W : World) (bt base : Nat) (S : List Int), (S ++ Tb.parts r).length ≤ 10000000 → TK W bt base S →
    Calls Try.prog 31 #[.pointer (some ⟨bt, 0, none⟩), .int .i64 r] W (ApPost W bt base (S ++ Tb.parts r))
  | 0, r, h, _, _, _, _, _, _, _, _ => by cases h
  | n + 1, r, h, hn, hr, W, bt, base, S, hS, ht => by
    cases hm : Tb.madeF r with
    | none =>
      rw [Tb.parts_none hm] at hS ⊢
      exact apart_none r hr hm W bt base S (by simp at hS; omega) ht
    | some x =>
      obtain ⟨d1, d2⟩ := Tb.dep_made h hm
      obtain ⟨a, b⟩ := x
      have hbd := Tb.made_bd hm
      simp only at d1 d2 hbd
      have hp := Tb.parts_some hm
      simp only at hp
      have cm := made_any r hr W
      unfold MadePost madeV at cm
      rw [hm] at cm
      have i1 : Is64 a := by unfold Is64; omega
      have i2 : Is64 b := by unfold Is64; omega
      have HT := Lib.hid ht
      have HP := Lib.hid hp
      by_cases hb0 : b = 0
      · subst hb0
        rw [if_pos rfl, List.append_nil] at hp
        rw [hp] at hS ⊢
        have ih := fun W1 ht1 => apart_n n a d1 (by omega) i1 W1 bt base S hS ht1
        clear ht hp hbd
        go_enter Try.func31, Try.ntmps31
        go_wp2_with fail
        refine cm.mono ?_
        rintro e w1 ⟨rfl, hb⟩
        have ih1 := ih w1 (HT.out.below hb (Nat.le_refl _))
        have HB := Lib.hid hb
        clear ih hb
        go_wp2_with fail
        refine ih1.mono ?_
        rintro e w2 ⟨rfl, h1, h2⟩
        have H1 := Lib.hid h1
        have H2 := Lib.hid h2
        clear h1 h2 ih1
        go_wp2_with fail
        go_end0
        exact ⟨rfl, H1.out, (HB.out.mono (by obtain ⟨_, _, _, _, q4, q5⟩ := HT.out; omega)).trans H2.out⟩
      · rw [if_neg hb0] at hp
        rw [hp] at hS ⊢
        have ih := fun W1 ht1 => apart_n n a d1 (by omega) i1 W1 bt base S (by simp only [List.length_append] at hS ⊢; omega) ht1
        have ih2 := fun W1 ht1 => apart_n n b (d2.resolve_left hb0) (by omega) i2 W1 bt base (S ++ Tb.parts a) (by rw [List.append_assoc]; exact hS) ht1
        rw [List.append_assoc] at ih2
        have hb1 : (b == 0) = false := by simpa using hb0
        have hb2 : (b != 0) = true := by simpa using hb0
        clear ht hp hbd
        go_enter Try.func31, Try.ntmps31
        go_wp2_with fail
        refine cm.mono ?_
        rintro e w1 ⟨rfl, hb⟩
        have ih1 := ih w1 (HT.out.below hb (Nat.le_refl _))
        have HB := Lib.hid hb
        clear ih hb
        go_wp2_with fail
        refine ih1.mono ?_
        rintro e w2 ⟨rfl, h1, h2⟩
        have ih3 := ih2 w2 h1
        have H2 := Lib.hid h2
        clear h1 h2 ih1 ih2
        go_wp2_with fail
        refine ih3.mono ?_
        rintro e w3 ⟨rfl, h1, h3⟩
        have H1 := Lib.hid h1
        have H3 := Lib.hid h3
        clear h1 h3 ih3
        go_wp2_with fail
        go_end0
        exact ⟨rfl, H1.out, ((HB.out.mono (by obtain ⟨_, _, _, _, q4, q5⟩ := HT.out; omega)).trans H2.out).trans H3.out⟩
theorem apart_any (r : Int) (hr : Is64 r) (W : World) (bt base : Nat) (S : List Int) (hS : (S ++ Tb.parts r).length ≤ 10000000) (ht : TK W bt base S) :
    Calls Try.prog 31 #[.pointer (some ⟨bt, 0, none⟩), .int .i64 r] W (ApPost W bt base (S ++ Tb.parts r)) := apart_n 5 r (Tb.dep5 r) (Nat.le_refl _) hr W bt base S hS ht
theorem OwnL.of_below {W W' : World} {base n : Nat} {v : Value} {L : List Int} (h : OwnL W base v L) (hb : Below n W W') (hn : W.heap.size ≤ n) : OwnL W' base v L := by
  refine ⟨h.1, ?_⟩
  rcases h.2 with h | ⟨g', cap', cur, hv, hb', hg, h6⟩
  · exact Or.inl h
  · have hlt := (Array.getElem?_eq_some_iff.1 hg).1
    exact Or.inr ⟨g', cap', cur, hv, hb', (hb.block g' (by omega)).trans hg, h6⟩
def All64 (L : List Int) : Prop := ∀ x ∈ L, Is64 x
theorem dec_snoc (L : List Int) (i : Nat) (x : Int) (h : L[i]? = some x) : Tb.dec (L.take (i + 1)) = Tb.dec (L.take i) ++ Tb.parts x := by
  obtain ⟨h1, h2⟩ := List.getElem?_eq_some_iff.1 h
  rw [List.take_succ_eq_append_getElem h1, Tb.dec_app, h2, Tb.dec_one]
theorem dec_take_le (L : List Int) (i : Nat) : (Tb.dec (L.take i)).length ≤ 32 * L.length := by
  have h1 := (Tb.dec_len (L.take i)).2
  have h2 : (L.take i).length ≤ L.length := by rw [List.length_take]; omega
  omega
set_option maxHeartbeats 4000000 in
theorem pdec_any (p : Option Addr) (c : Nat) (L : List Int) (w : World) (hL : L.length ≤ 300000) (h : RowP w p c L) (h64 : All64 L) :
    Calls Try.prog 16 #[.slice p L.length c] w (OutPost (Tb.dec L) w) := by
  have H1 := Lib.hid h.2
  have H64 := Lib.hid h64
  clear h h64
  obtain ⟨n, hn⟩ : ∃ n, L.length = n := ⟨_, rfl⟩
  rw [hn]
  rw [hn] at hL
  have HN := Lib.hid hn
  clear hn
  go_enter Try.func16, Try.ntmps16
  go_wp2_with fail
  have ht0 : TK (w.alloc (.cells #[.slice none 0 0] 46)) w.heap.size (w.heap.size + 1) [] := ⟨_, by simp, by simp [go_sem], ⟨rfl, Or.inl ⟨rfl, rfl⟩⟩, by omega, by simp⟩
  have hb0 : Below w.heap.size w (w.alloc (.cells #[.slice none 0 0] 46)) := (Below.refl _ w).alloc (Nat.le_refl _) _
  generalize w.alloc (.cells #[.slice none 0 0] 46) = W0 at *
  have HT0 := Lib.hid ht0
  have HB0 := Lib.hid hb0
  clear ht0 hb0
  go_loopw [5, 10] (fun v5 vi wr => ∃ i : Nat, vi = .int .i64 (i : Int) ∧ i ≤ n ∧ TK wr w.heap.size (w.heap.size + 1) (Tb.dec (L.take i)) ∧ Below w.heap.size w wr) (fun _ vi _ => n - (intOf vi).toNat)
  case atStart => exact ⟨0, rfl, Nat.zero_le _, HT0.out, HB0.out⟩
  case round =>
    clear HT0 HB0
    obtain ⟨i, rfl, hi, ht, hb⟩ := hrel
    have HT := Lib.hid ht
    have HB := Lib.hid hb
    clear ht hb
    by_cases hlt : i < n
    · have hl1 : i < L.length := by have := HN.out; omega
      obtain ⟨g, o, rfl, hI⟩ := H1.out.resolve_left (fun e => by rw [e] at hl1; exact absurd hl1 (Nat.not_lt_zero _))
      obtain ⟨x, hx⟩ : ∃ x, L[i]? = some x := ⟨_, List.getElem?_eq_getElem hl1⟩
      have k1 := (HB.out.cell (p := ⟨g, o + i, none⟩) hI.1).trans (hI.2 i x hx)
      have q1 : (i : Int) < (n : Int) := by omega
      have hsn := dec_snoc L i x hx
      have hle := dec_take_le L (i + 1)
      rw [hsn] at hle
      have hap := apart_any x (H64.out x (List.mem_of_getElem? hx)) wr w.heap.size (w.heap.size + 1) (Tb.dec (L.take i)) (by have := HN.out; omega) HT.out
      rw [← hsn] at hap
      clear hsn hle hx hI hl1
      go_wp2_with fail
      refine hap.mono ?_
      rintro e w1 ⟨rfl, h1, h2⟩
      have HX1 := Lib.hid h1
      have HX2 := Lib.hid h2
      clear h1 h2 hap
      go_wp2_with fail
      go_roundw
      case rel => exact ⟨i + 1, by go_num, by omega, HX1.out, HB.out.trans HX2.out⟩
      case measure => simp [intOf]; omega
    · obtain rfl : i = n := by omega
      have q1 : ¬ (i : Int) < (i : Int) := by omega
      have htk : L.take i = L := List.take_of_length_le (by have := HN.out; omega)
      obtain ⟨v, h1, h2, h3, h4, h5⟩ := HT.out
      rw [htk] at h3
      obtain ⟨⟨pv, cv, rfl⟩, _⟩ := row_shape h3
      have HO := Lib.hid h3
      clear h3 htk
      go_wp2_with fail
      go_ret
      exact ⟨_, rfl, own_base HO.out (by omega), HB.out⟩
theorem pparts_any (r : Int) (w : World) (hr : Is64 r) : Calls Try.prog 18 #[.int .i64 r] w (OutPost (Tb.parts r) w) := by
  have hb0 : Below w.heap.size w (w.alloc (.cells #[.int .i64 r] 3)) := (Below.refl _ w).alloc (Nat.le_refl _) _
  have hc := pdec_any (some ⟨w.heap.size, 0, none⟩) 1 [r] (w.alloc (.cells #[.int .i64 r] 3)) (by simp) ⟨by simp, Or.inr ⟨w.heap.size, 0, rfl, by simp, fun j x hj => by
    cases j with
    | zero =>
      rw [List.getElem?_cons_zero] at hj
      cases hj
      simp
    | succ j => simp at hj⟩⟩ (fun x hx => by rw [List.mem_singleton.1 hx]; exact hr)
  rw [Tb.dec_one] at hc
  have HC : Calls Try.prog 16 #[.slice (some ⟨w.heap.size, 0, none⟩) 1 1] (w.alloc (.cells #[.int .i64 r] 3)) (OutPost (Tb.parts r) (w.alloc (.cells #[.int .i64 r] 3))) := hc
  clear hc
  go_enter Try.func18, Try.ntmps18
  go_wp2_with fail
  refine HC.mono ?_
  rintro e W ⟨v, rfl, hr2, hb⟩
  obtain ⟨⟨pv, cv, rfl⟩, _⟩ := row_shape hr2
  have HR := Lib.hid hr2
  clear hr2
  go_wp2_with fail
  go_ret
  exact ⟨_, rfl, own_base HR.out (by simp), hb0.trans (hb.mono (by simp))⟩
theorem own_one (w : World) (r : Int) : OwnL (w.alloc (.cells #[.int .i64 r] 3)) w.heap.size (.slice (some ⟨w.heap.size, 0, none⟩) 1 1) [r] :=
  ⟨rfl, Or.inr ⟨w.heap.size, 1, #[.int .i64 r], rfl, Nat.le_refl _, World.alloc_heap_new _ _, Nat.le_refl _, by unfold maxLen; omega, rfl, rfl⟩⟩
set_option maxHeartbeats 4000000 in
theorem rparts_n : ∀ (n : Nat) (r : Int), Tb.depB n r = true → n ≤ 5 → ∀ w : World, Calls Try.prog 20 #[.int .i64 r] w (OutPost (Tb.parts r) w)
  | 0, r, h, _, _ => by cases h
  | n + 1, r, h, hn, w => by
    have cm := rmade_any r w
    unfold MadePost madeV at cm
    cases hm : Tb.madeF r with
    | none =>
      rw [Tb.parts_none hm]
      rw [hm] at cm
      go_enter Try.func20, Try.ntmps20
      go_wp2_with fail
      refine cm.mono ?_
      rintro e w1 ⟨rfl, hb⟩
      go_wp2_with fail
      go_ret
      exact ⟨_, rfl, own_base (own_one w1 r) hb.size, hb.alloc hb.size _⟩
    | some x =>
      obtain ⟨d1, d2⟩ := Tb.dep_made h hm
      obtain ⟨a, b⟩ := x
      simp only at d1 d2
      have hp := Tb.parts_some hm
      simp only at hp
      rw [hm] at cm
      have ih := fun W1 => rparts_n n a d1 (by omega) W1
      by_cases hb0 : b = 0
      · subst hb0
        rw [if_pos rfl, List.append_nil] at hp
        rw [hp]
        clear hp
        go_enter Try.func20, Try.ntmps20
        go_wp2_with fail
        refine cm.mono ?_
        rintro e w1 ⟨rfl, hb⟩
        go_wp2_with fail
        refine (ih w1).mono ?_
        rintro e w2 ⟨v, rfl, hr2, hb2⟩
        obtain ⟨⟨pv, cv, rfl⟩, _⟩ := row_shape hr2
        have HR := Lib.hid hr2
        clear hr2
        go_wp2_with fail
        go_ret
        exact ⟨_, rfl, own_base HR.out hb.size, bn hb hb2⟩
      · rw [if_neg hb0] at hp
        rw [hp]
        have ih2 := fun W1 => rparts_n n b (d2.resolve_left hb0) (by omega) W1
        have hb1 : (b == 0) = false := by simpa using hb0
        have hb2 : (b != 0) = true := by simpa using hb0
        have l1 := Tb.parts_le a
        have l2 := Tb.parts_le b
        have l3 := Tb.parts_pos b
        obtain ⟨i0, hi, hz0, hz1, hz2⟩ := info_parts infoI
        clear hp
        go_enter Try.func20, Try.ntmps20
        go_wp2_with fail
        refine cm.mono ?_
        rintro e w1 ⟨rfl, hbx⟩
        go_wp2_with fail
        refine (ih w1).mono ?_
        rintro e w2 ⟨v, rfl, hr2, hbx2⟩
        obtain ⟨⟨pv, cv, rfl⟩, hrow⟩ := row_shape hr2
        have HR := Lib.hid hr2
        have HB1 := Lib.hid (bn hbx hbx2)
        have HROW := Lib.hid hrow
        have hws : w1.heap.size ≤ w2.heap.size := hbx2.size
        have hw0 : w.heap.size ≤ w1.heap.size := hbx.size
        clear hr2 hrow hbx2 hbx
        go_wp2_with fail
        refine (ih2 w2).mono ?_
        rintro e w3 ⟨v3, rfl, hr3, hbx3⟩
        obtain ⟨g3, cap3, rfl, hg3, hc3, hsh3⟩ := row_pos hr3 (by omega)
        have hr2 := HR.out.of_below hbx3 (Nat.le_refl _)
        have ho2 : w3.ownsRow w1.heap.size 3 1 (.slice pv (Tb.parts a).length cv) (Tb.parts a).length ((Tb.parts a).map encI) := hr2
        obtain ⟨hcl, _⟩ := OwnL.spot (show OwnL w3 w2.heap.size (.slice (some ⟨g3, 0, none⟩) (Tb.parts b).length cap3) (Tb.parts b) from hr3)
        have hnews : ∀ (j : Nat) (u : Value), ((Tb.parts b).map encI)[j]? = some u → w3.cell? (Addr.add ⟨g3, 0, none⟩ j) = some u := fun j u hj => by
          rw [List.getElem?_map] at hj
          cases hj2 : (Tb.parts b)[j]? with
          | none => rw [hj2] at hj; cases hj
          | some y =>
            rw [hj2] at hj
            cases hj
            rw [Go.WideShapes.add_plain, Nat.zero_add]
            exact (hcl j y hj2).1
        have hone : ∀ u ∈ (Tb.parts b).map encI, u.oneCell' = true := fun u hu => by
          obtain ⟨y, _, rfl⟩ := List.mem_map.1 hu
          rfl
        have hlen : ((Tb.parts b).map encI).length = (Tb.parts b).length * 1 := by simp
        have HB3 := Lib.hid (bn HB1.out hbx3)
        have hz3 : w2.heap.size ≤ w3.heap.size := hbx3.size
        have b1 : (Tb.parts a).length + (Tb.parts b).length ≤ maxLen := by unfold maxLen; omega
        have b2 : ((Tb.parts a).length + (Tb.parts b).length) * 8 ≤ 140737488355328 := by omega
        have b3 : w1.heap.size ≤ w3.heap.size := by omega
        have hob : ∀ q, (Value.slice pv (Tb.parts a).length cv).ownBlock = some q → w1.heap.size ≤ q := fun q e => (HROW.out q e).1
        have HOB := Lib.hid hob
        clear hr3 hbx3 hsh3 hr2 hcl hob l1 l2
        generalize hA : Tb.parts a = A at *
        generalize hBb : Tb.parts b = B at *
        go_wp2_with (at_builtin; refine wpList_append_own _ rfl _ _ 22 rfl w1.heap.size 3 i0 (.int .i64 0) 1 8 Try.underlying22 hi hz0 hz1 hz2 rfl (by decide) (.slice pv A.length cv) A.length (A.map encI) rfl ho2 ⟨g3, 0, none⟩ B.length cap3 (B.map encI) rfl hlen hnews hone b1 b2 b3 ?_; intro v' w4 hown' hgrow hnil; clear hnil; obtain ⟨g', cap', rfl, hgb', hcp', hsh⟩ := row_pos hown' (by omega); have HOW := Lib.hid hown'; have HG := Lib.hid hgrow; clear hown' hgrow hsh)
        go_ret
        refine ⟨_, rfl, ?_, HB3.out.grown HG.out (by have := HB3.out.size; omega) (fun r e => by have := HOB.out r e; omega)⟩
        unfold OwnL
        rw [List.length_append, List.map_append]
        exact own_base HOW.out hw0
theorem row_news {W : World} {g o : Nat} {L : List Int} (h : Ints W g o L) : (∀ (j : Nat) (u : Value), (L.map encI)[j]? = some u → W.cell? (Addr.add ⟨g, o, none⟩ j) = some u) ∧ (∀ u ∈ L.map encI, u.oneCell' = true) ∧ (L.map encI).length = L.length * 1 := by
  refine ⟨fun j u hj => ?_, fun u hu => ?_, by simp⟩
  · rw [List.getElem?_map] at hj
    cases hj2 : L[j]? with
    | none => rw [hj2] at hj; cases hj
    | some y =>
      rw [hj2] at hj
      cases hj
      rw [Go.WideShapes.add_plain]
      exact h.2 j y hj2
  · obtain ⟨y, _, rfl⟩ := List.mem_map.1 hu
    rfl
theorem OwnL.ints {W : World} {base g n cap : Nat} {L : List Int} (h : OwnL W base (.slice (some ⟨g, 0, none⟩) n cap) L) : Ints W g 0 L := by
  obtain ⟨h1, h2, _, _⟩ := h.spot
  exact ⟨h2, fun j x hj => by rw [Nat.zero_add]; exact (h1 j x hj).1⟩
theorem rparts_any (r : Int) (w : World) : Calls Try.prog 20 #[.int .i64 r] w (OutPost (Tb.parts r) w) := rparts_n 5 r (Tb.dep5 r) (Nat.le_refl _) w
set_option maxHeartbeats 4000000 in
theorem rdec_any (p : Option Addr) (c : Nat) (L : List Int) (w : World) (hL : L.length ≤ 300000) (h : RowP w p c L) :
    Calls Try.prog 21 #[.slice p L.length c] w (OutPost (Tb.dec L) w) := by
  have H1 := Lib.hid h.2
  clear h
  obtain ⟨i0, hi0, hz0, hz1, hz2⟩ := info_parts infoI
  obtain ⟨n, hn⟩ : ∃ n, L.length = n := ⟨_, rfl⟩
  rw [hn]
  rw [hn] at hL
  have HN := Lib.hid hn
  clear hn
  have e0 : OwnL w w.heap.size (.slice none 0 0) (Tb.dec (L.take 0)) := ⟨rfl, Or.inl ⟨rfl, rfl⟩⟩
  have HE := Lib.hid e0
  clear e0
  go_enter Try.func21, Try.ntmps21
  go_wp2_with fail
  go_loopw [3, 4] (fun v3 vi wr => ∃ (i : Nat) (pv : Option Addr) (m cv : Nat), vi = .int .i64 (i : Int) ∧ v3 = .slice pv m cv ∧ m = (Tb.dec (L.take i)).length ∧ i ≤ n ∧ OwnL wr w.heap.size (.slice pv m cv) (Tb.dec (L.take i)) ∧ Below w.heap.size w wr) (fun _ vi _ => n - (intOf vi).toNat)
  case atStart => exact ⟨0, none, 0, 0, rfl, rfl, rfl, Nat.zero_le _, HE.out, Below.refl _ _⟩
  case round =>
    clear HE
    obtain ⟨i, pv, m, cv, rfl, rfl, hm, hi, ho, hb⟩ := hrel
    have HO := Lib.hid ho
    have HB := Lib.hid hb
    have HM := Lib.hid hm
    clear ho hb hm
    by_cases hlt : i < n
    · have hl1 : i < L.length := by have := HN.out; omega
      obtain ⟨g, o, rfl, hI⟩ := H1.out.resolve_left (fun e => by rw [e] at hl1; exact absurd hl1 (Nat.not_lt_zero _))
      obtain ⟨x, hx⟩ : ∃ x, L[i]? = some x := ⟨_, List.getElem?_eq_getElem hl1⟩
      have k1 := (HB.out.cell (p := ⟨g, o + i, none⟩) hI.1).trans (hI.2 i x hx)
      have q1 : (i : Int) < (n : Int) := by omega
      have hsn := dec_snoc L i x hx
      have hle := dec_take_le L (i + 1)
      rw [hsn, List.length_append] at hle
      have l3 := Tb.parts_pos x
      have HSN := Lib.hid hsn
      have hnl := HN.out
      have hmm := HM.out
      have b1 : m + (Tb.parts x).length ≤ maxLen := by unfold maxLen; omega
      have b2 : (m + (Tb.parts x).length) * 8 ≤ 140737488355328 := by omega
      clear hsn hle hx hI hl1 hnl hmm
      go_wp2_with fail
      refine (rparts_any x wr).mono ?_
      rintro e w1 ⟨v3, rfl, hr3, hb3⟩
      obtain ⟨g3, cap3, rfl, hg3, hc3, hsh3⟩ := row_pos hr3 (by omega)
      have ho2 : w1.ownsRow w.heap.size 3 1 (.slice pv m cv) m ((Tb.dec (L.take i)).map encI) := by
        have := HO.out.of_below hb3 (Nat.le_refl _)
        unfold OwnL at this
        rw [← HM.out] at this
        exact this
      obtain ⟨hnews, hone, hlen⟩ := row_news (OwnL.ints (show OwnL w1 wr.heap.size (.slice (some ⟨g3, 0, none⟩) (Tb.parts x).length cap3) (Tb.parts x) from hr3))
      have hob : ∀ q, (Value.slice pv m cv).ownBlock = some q → w.heap.size ≤ q := fun q e => ((row_shape ho2).2 q e).1
      have HOB := Lib.hid hob
      have HB3 := Lib.hid (HB.out.trans (hb3.mono HB.out.size))
      have b3 : w.heap.size ≤ w1.heap.size := HB3.out.size
      clear hr3 hb3 hob hsh3
      generalize hXX : Tb.parts x = X at *
      generalize hDD : Tb.dec (L.take i) = D at *
      go_wp2_with (at_builtin; refine wpList_append_own _ rfl _ _ 22 rfl w.heap.size 3 i0 (.int .i64 0) 1 8 Try.underlying22 hi0 hz0 hz1 hz2 rfl (by decide) (.slice pv m cv) m (D.map encI) rfl ho2 ⟨g3, 0, none⟩ X.length cap3 (X.map encI) rfl hlen hnews hone b1 b2 b3 ?_; intro v' w4 hown' hgrow hnil; clear hnil; obtain ⟨g', cap', rfl, hgb', hcp', hsh⟩ := row_pos hown' (by omega); have HOW := Lib.hid hown'; have HG := Lib.hid hgrow; clear hown' hgrow hsh)
      go_roundw
      case rel =>
        refine ⟨i + 1, _, _, _, by go_num, rfl, ?_, by omega, ?_, HB3.out.grown HG.out (by omega) (fun r e => by have := HOB.out r e; omega)⟩
        · rw [HSN.out, List.length_append, HM.out]
        · unfold OwnL
          rw [HSN.out, List.length_append, List.map_append, ← HM.out]
          exact HOW.out
      case measure => simp [intOf]; omega
    · obtain rfl : i = n := by omega
      have q1 : ¬ (i : Int) < (i : Int) := by omega
      have htk : L.take i = L := List.take_of_length_le (by have := HN.out; omega)
      have ho := HO.out
      rw [htk] at ho
      have HO2 := Lib.hid ho
      clear ho htk
      go_wp2_with fail
      go_ret
      exact ⟨_, rfl, HO2.out, HB.out⟩
end Go.Proofs.Ytahapmpohaaigaa
