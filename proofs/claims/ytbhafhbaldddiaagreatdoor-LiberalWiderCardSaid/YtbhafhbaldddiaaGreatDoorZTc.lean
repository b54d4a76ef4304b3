/- The walk of the document's named: a zone's name. The walk of the document's zone. -/
import Derived.Test.YtbhafhbaldddiaaGreatDoorZTb
import Derived.Test.YtbhafhbaldddiaaGreatDoorZLc
import Derived.BigRegion
namespace Go.Proofs.YtbhafhbaldddiaaGreatDoor
open Go.RowKit
open Go
open Lb (R Wd)
set_option linter.unusedVariables false
def docN : List Wd := [[122], [117, 116], [117, 116, 99], [103, 109, 116], [101, 115, 116], [101, 100, 116], [99, 115, 116], [99, 100, 116], [109, 115, 116], [109, 100, 116], [112, 115, 116], [112, 100, 116]]
def docH : List Int := [0, 0, 0, 0, -5, -4, -6, -5, -7, -6, -8, -7]
theorem hr_doc : ∀ j, j < 12 → Lb.hrF (docN.getD j []) = (docH.getD j 0, true) := fun j hj => by
  have h : (List.range 12).all (fun j => decide (Lb.hrF (docN.getD j []) = (docH.getD j 0, true))) = true := by decide +kernel
  exact of_decide_eq_true (List.all_eq_true.1 h j (List.mem_range.2 hj))
theorem hr_doc_none {u : Wd} (h : ∀ j, j < 12 → docN.getD j [] ≠ u) : Lb.hrF u = (0, oneB u) := by
  refine hr_none (fun p hp e => ?_)
  have h2 : (Lb.zones.all fun p => (List.range 12).any fun j => decide (docN.getD j [] = p.1)) = true := by decide +kernel
  obtain ⟨j, hj, hj2⟩ := List.any_eq_true.1 (List.all_eq_true.1 h2 p hp)
  exact h j (List.mem_range.1 hj) ((of_decide_eq_true hj2).trans e.symm)
def IntRow (w : World) (g : Nat) (N : List Int) : Prop := ∀ (k : Nat) (x : Int), N[k]? = some x → w.cell? ⟨g, k, none⟩ = some (.int .i64 x)
theorem int_alloc (w : World) (N : List Int) (T : TypeId) : IntRow (w.alloc (.cells (N.map fun s => Value.int .i64 s).toArray T)) w.heap.size N := fun k s h => by
  have h0 : (w.alloc (.cells (N.map fun s => Value.int .i64 s).toArray T)).heap[w.heap.size]? = some (.cells (N.map fun s => Value.int .i64 s).toArray T) := by
    show (w.heap.push _)[w.heap.size]? = _
    rw [Array.getElem?_push_size]
  unfold World.cell?
  simp only [h0]
  simp [h]
theorem BgRow.below {w w' : World} {g n : Nat} {N : List Wd} (h : BgRow w g N) (hb : Below n w w') (hg : g < n) : BgRow w' g N := fun k s hk => (hb.cell (p := ⟨g, k, none⟩) hg).trans (h k s hk)
theorem two_rows (w : World) (A : List Wd) (H : List Int) (T1 T2 : TypeId) : BgRow ((w.alloc (.cells (A.map fun s => Value.string (Ml.mk s)).toArray T1)).alloc (.cells (H.map fun s => Value.int .i64 s).toArray T2)) w.heap.size A ∧ IntRow ((w.alloc (.cells (A.map fun s => Value.string (Ml.mk s)).toArray T1)).alloc (.cells (H.map fun s => Value.int .i64 s).toArray T2)) (w.heap.size + 1) H := by
  refine ⟨(bg_alloc w A T1).below ((Below.refl _ _).alloc (Nat.le_refl _) _) (by simp), ?_⟩
  have h := int_alloc (w.alloc (.cells (A.map fun s => Value.string (Ml.mk s)).toArray T1)) H T2
  rw [World.size_alloc] at h
  exact h
set_option maxHeartbeats 4000000 in
set_option maxRecDepth 100000 in
theorem rnamed_any (u : Wd) (hu : u.length ≤ 100000) (w : World) : Calls Tryz.prog 116 #[.string (Ml.mk u)] w (fun e w' => e = .returned (.tuple #[.int .i64 ((Lb.hrF u).1 * 60), .bool (Lb.hrF u).2]) ∧ Below w.heap.size w w') := by
  have hrows : BgRow ((w.alloc (.cells #[.string ⟨#[122]⟩, .string ⟨#[117, 116]⟩, .string ⟨#[117, 116, 99]⟩, .string ⟨#[103, 109, 116]⟩, .string ⟨#[101, 115, 116]⟩, .string ⟨#[101, 100, 116]⟩, .string ⟨#[99, 115, 116]⟩, .string ⟨#[99, 100, 116]⟩, .string ⟨#[109, 115, 116]⟩, .string ⟨#[109, 100, 116]⟩, .string ⟨#[112, 115, 116]⟩, .string ⟨#[112, 100, 116]⟩] 9)).alloc (.cells #[.int .i64 0, .int .i64 0, .int .i64 0, .int .i64 0, .int .i64 (-5), .int .i64 (-4), .int .i64 (-6), .int .i64 (-5), .int .i64 (-7), .int .i64 (-6), .int .i64 (-8), .int .i64 (-7)] 3)) w.heap.size docN ∧ IntRow ((w.alloc (.cells #[.string ⟨#[122]⟩, .string ⟨#[117, 116]⟩, .string ⟨#[117, 116, 99]⟩, .string ⟨#[103, 109, 116]⟩, .string ⟨#[101, 115, 116]⟩, .string ⟨#[101, 100, 116]⟩, .string ⟨#[99, 115, 116]⟩, .string ⟨#[99, 100, 116]⟩, .string ⟨#[109, 115, 116]⟩, .string ⟨#[109, 100, 116]⟩, .string ⟨#[112, 115, 116]⟩, .string ⟨#[112, 100, 116]⟩] 9)).alloc (.cells #[.int .i64 0, .int .i64 0, .int .i64 0, .int .i64 0, .int .i64 (-5), .int .i64 (-4), .int .i64 (-6), .int .i64 (-5), .int .i64 (-7), .int .i64 (-6), .int .i64 (-8), .int .i64 (-7)] 3)) (w.heap.size + 1) docH := two_rows w docN docH 9 3
  have hB : Below w.heap.size w ((w.alloc (.cells #[.string ⟨#[122]⟩, .string ⟨#[117, 116]⟩, .string ⟨#[117, 116, 99]⟩, .string ⟨#[103, 109, 116]⟩, .string ⟨#[101, 115, 116]⟩, .string ⟨#[101, 100, 116]⟩, .string ⟨#[99, 115, 116]⟩, .string ⟨#[99, 100, 116]⟩, .string ⟨#[109, 115, 116]⟩, .string ⟨#[109, 100, 116]⟩, .string ⟨#[112, 115, 116]⟩, .string ⟨#[112, 100, 116]⟩] 9)).alloc (.cells #[.int .i64 0, .int .i64 0, .int .i64 0, .int .i64 0, .int .i64 (-5), .int .i64 (-4), .int .i64 (-6), .int .i64 (-5), .int .i64 (-7), .int .i64 (-6), .int .i64 (-8), .int .i64 (-7)] 3)) := ((Below.refl w.heap.size w).alloc (Nat.le_refl _) _).alloc (by simp) _
  have h2 : (Ml.mk u).size = u.length := rfl
  obtain ⟨U, hU⟩ : ∃ U, Ml.mk u = U := ⟨_, rfl⟩
  obtain ⟨m, hm⟩ : ∃ m, u.length = m := ⟨_, rfl⟩
  rw [hU, hm] at h2
  rw [hm] at hu
  rw [hU]
  obtain ⟨v, hv⟩ : ∃ v, Lb.hrF u = v := ⟨_, rfl⟩
  rw [hv]
  have HU := Lib.hid hU
  have HM := Lib.hid hm
  have HV := Lib.hid hv
  clear hU hm hv
  go_enter Tryz.func116, Tryz.ntmps116
  go_wp2_with fail
  generalize ((w.alloc (.cells #[.string ⟨#[122]⟩, .string ⟨#[117, 116]⟩, .string ⟨#[117, 116, 99]⟩, .string ⟨#[103, 109, 116]⟩, .string ⟨#[101, 115, 116]⟩, .string ⟨#[101, 100, 116]⟩, .string ⟨#[99, 115, 116]⟩, .string ⟨#[99, 100, 116]⟩, .string ⟨#[109, 115, 116]⟩, .string ⟨#[109, 100, 116]⟩, .string ⟨#[112, 115, 116]⟩, .string ⟨#[112, 100, 116]⟩] 9)).alloc (.cells #[.int .i64 0, .int .i64 0, .int .i64 0, .int .i64 0, .int .i64 (-5), .int .i64 (-4), .int .i64 (-6), .int .i64 (-5), .int .i64 (-7), .int .i64 (-6), .int .i64 (-8), .int .i64 (-7)] 3)) = W2 at *
  have HR := Lib.hid hrows
  have HB := Lib.hid hB
  clear hrows hB
  go_loop [6] (fun k => ∃ j : Nat, j ≤ 12 ∧ k = .int .i64 j ∧ ∀ i, i < j → docN.getD i [] ≠ u) (fun k => 12 - (intOf k).toNat)
  case atStart => exact ⟨0, Nat.zero_le _, rfl, fun i hi => absurd hi (Nat.not_lt_zero _)⟩
  case round =>
    obtain ⟨j, hj, rfl, hno⟩ := hrel
    have HNO := Lib.hid hno
    clear hno
    by_cases hlt : j < 12
    · have l0 : (j : Int) < 12 := by omega
      obtain ⟨a, ha⟩ : ∃ a, docN[j]? = some a := ⟨_, List.getElem?_eq_getElem hlt⟩
      obtain ⟨x, hx⟩ : ∃ x, docH[j]? = some x := ⟨_, List.getElem?_eq_getElem hlt⟩
      have kx := HR.out.1 j a ha
      have kh := HR.out.2 j x hx
      have hal : a.length ≤ 3 := by
        have h : (docN.all fun a => decide (a.length ≤ 3)) = true := by decide +kernel
        exact of_decide_eq_true (List.all_eq_true.1 h a (List.mem_of_getElem? ha))
      have hxb : -8 ≤ x ∧ x ≤ 0 := by
        have h : (docH.all fun x => decide (-8 ≤ x ∧ x ≤ 0)) = true := by decide +kernel
        exact of_decide_eq_true (List.all_eq_true.1 h x (List.mem_of_getElem? hx))
      obtain ⟨x1, x2⟩ := hxb
      have hga : docN.getD j [] = a := by rw [List.getD_eq_getElem?_getD, ha]; rfl
      have hgx : docH.getD j 0 = x := by rw [List.getD_eq_getElem?_getD, hx]; rfl
      have hsz : (Ml.mk a).size = a.length := rfl
      by_cases l1 : a = u
      · have hv : v = (x, true) := by rw [← HV.out, ← l1, ← hga, hr_doc j hlt, hgx]
        have hau : Ml.mk a = U := by rw [l1, HU.out]
        rw [hau] at kx hsz
        have HVJ := Lib.hid hv
        clear hv l1 hau ha hx hga hgx
        generalize a.length = al at *
        go_wp2
        go_ret2
        rw [HVJ.out]
        exact ⟨rfl, HB.out⟩
      · have hne := lmk_ne2 l1
        rw [HU.out] at hne
        have hnext : ∀ i, i < j + 1 → docN.getD i [] ≠ u := fun i hi => by
          rcases Nat.lt_or_eq_of_le (Nat.lt_succ_iff.1 hi) with h1 | rfl
          · exact HNO.out i h1
          · rw [hga]; exact l1
        have HNX := Lib.hid hnext
        clear hnext l1 ha hx hga hgx
        generalize Ml.mk a = A at *
        generalize a.length = al at *
        go_wp2
        go_round
        case rel => exact ⟨j + 1, by omega, by go_num, HNX.out⟩
        case measure => simp [intOf]; omega
    · obtain rfl : j = 12 := by omega
      have hv : v = (0, oneB u) := by rw [← HV.out, hr_doc_none HNO.out]
      by_cases l1 : m = 1
      · subst l1
        obtain ⟨c, hc⟩ : ∃ c, u = [c] := by
          have := HM.out
          match u, this with
          | [c], _ => exact ⟨c, rfl⟩
        have hix : ∀ h, ((U[0]'h).toNat : Int) = (c.toNat : Int) := by
          have h3 := HU.out
          subst hc
          subst h3
          exact fun h => rfl
        have hlt := tletter_any c
        have hob : oneB u = (Lb.srt c == 2 && !(decide (u = [106]))) := by rw [hc]; rfl
        have hj2 : (U.toList == [106]) = decide (u = [106]) := by
          by_cases e : u = [106]
          · rw [decide_eq_true e]
            have h3 := HU.out
            rw [e] at h3
            subst h3
            exact beq_iff_eq.2 (by rw [Go.Lib.toList_data]; rfl)
          · rw [decide_eq_false e]
            have h3 := HU.out
            subst h3
            exact hlit_ne e
        rw [hob] at hv
        generalize (Lb.srt c == 2) = b at hlt hv
        generalize decide (u = [106]) = b2 at hj2 hv
        generalize (c.toNat : Int) = cn at hix hlt
        have HVF := Lib.hid hv
        clear hob hc hv
        cases b
        · go_wp2_with (go_at_call 37; refine (hlt _).mono ?_; rintro e wd ⟨rfl, rfl⟩)
          go_ret2
          rw [HVF.out]
          exact ⟨rfl, HB.out⟩
        · cases b2
          all_goals
            go_wp2_with (go_at_call 37; refine (hlt _).mono ?_; rintro e wd ⟨rfl, rfl⟩)
            go_ret2
            rw [HVF.out]
            exact ⟨rfl, HB.out⟩
      · have hob : oneB u = false := by
          have := HM.out
          match u, this with
          | [], _ => rfl
          | [c], h => exact absurd h.symm l1
          | c :: d :: q, _ => rfl
        rw [hob] at hv
        have l3 : ¬ (m : Int) = 1 := by omega
        have HVF := Lib.hid hv
        clear hob hv l1
        go_wp2
        go_ret2
        rw [HVF.out]
        exact ⟨rfl, HB.out⟩
end Go.Proofs.YtbhafhbaldddiaaGreatDoor
namespace Go.Proofs.YtbhafhbaldddiaaGreatDoor
open Go.RowKit
open Go
open Lb (R Wd)
set_option linter.unusedVariables false
theorem Tk.fin2 {w0 W : World} {B : Nat} {L : List Wd} {r : R} {b b' : Bool} {x x' : Int} (h : Tk w0 ((W.setCell ⟨B, 2, none⟩ (.bool b)).setCell ⟨B, 9, none⟩ (.int .i64 x)) B L r) (hb : b' = b) (hx : x' = x) : Tk w0 ((W.setCell ⟨B, 2, none⟩ (.bool b')).setCell ⟨B, 9, none⟩ (.int .i64 x')) B L r := by
  subst hb; subst hx; exact h
theorem Tk.fin3 {w0 W : World} {B : Nat} {L : List Wd} {r : R} {b b' : Bool} {x x' y y' : Int} (h : Tk w0 (((W.setCell ⟨B, 2, none⟩ (.bool b)).setCell ⟨B, 9, none⟩ (.int .i64 x)).setCell ⟨B, 9, none⟩ (.int .i64 y)) B L r) (hb : b' = b) (hx : x' = x) (hy : y' = y) : Tk w0 (((W.setCell ⟨B, 2, none⟩ (.bool b')).setCell ⟨B, 9, none⟩ (.int .i64 x')).setCell ⟨B, 9, none⟩ (.int .i64 y')) B L r := by
  subst hb; subst hx; subst hy; exact h
theorem thr_bd (u : Wd) : -8 ≤ (Lb.hrF u).1 ∧ (Lb.hrF u).1 ≤ 0 := by
  unfold Lb.hrF
  have h : (Lb.zones.all fun p => decide (-8 ≤ p.2 ∧ p.2 ≤ 0)) = true := by decide +kernel
  split
  · rename_i p e
    exact of_decide_eq_true (List.all_eq_true.1 h p (List.mem_of_find?_eq_some e))
  · exact ⟨by show (-8 : Int) ≤ 0; decide, by show (0 : Int) ≤ 0; decide⟩
section
variable {w0 W : World} {B : Nat} {L : List Wd} {r : R}
theorem Tk.zone_none (h : Tk w0 W B L r) (hx : r.l = []) : Calls Tryz.prog 103 #[.pointer (some ⟨B, 0, none⟩)] W (TkPost (.tuple #[]) w0 B L r) := by
  have hx2 : Lb.nx r = [] := by unfold Lb.nx; rw [hx]; rfl
  have H := Lib.hid h
  clear h hx
  unfold TkPost
  go_enter Tryz.func103, Tryz.ntmps103
  go_wp2_with fail
  have hm := H.out.next
  rw [hx2, mk_nil] at hm
  refine hm.mono ?_
  clear hm
  rintro e w1 ⟨rfl, h1⟩
  obtain ⟨_, _, _, -, -, ⟨k2, k3, k4, k5, k6, k7, k8, k9⟩, f0, f1, f2, f3, f4, f5, f6, f7, f8, f9⟩ := h1.open_
  have H1 : Hid (Tk w0 _ B L (r)) := Lib.hid (h1)
  clear H h1
  go_wp2_with fail
  refine bodyPost_ret (results_none rfl _ _ _) rfl ?_
  exact ⟨rfl, H1.out⟩
set_option maxHeartbeats 4000000 in
set_option maxRecDepth 100000 in
theorem Tk.zone_name (h : Tk w0 W B L r) (hl : r.l ≠ []) (h43 : Lb.nx r ≠ [43]) (h45 : Lb.nx r ≠ [45]) : Calls Tryz.prog 103 #[.pointer (some ⟨B, 0, none⟩)] W (TkPost (.tuple #[]) w0 B L (Lb.tl (Lb.sE ((Lb.hrF (Lb.nx r)).1 * 60) (Lb.orB (!(Lb.hrF (Lb.nx r)).2) r)))) := by
  have hs := h.psz.nx
  have hn := h.next
  have hne0 : Lb.nx r ≠ [] := fun e => by
    obtain ⟨⟨c, q, e2, _⟩, _⟩ := h.piece hl
    rw [e] at e2
    cases e2
  have q0 := hlit_ne (l := []) hne0
  have q43 := hlit_ne (l := [43]) h43
  have q45 := hlit_ne (l := [45]) h45
  have hsz : (Ml.mk (Lb.nx r)).size = (Lb.nx r).length := rfl
  have hh := fun w => rnamed_any (Lb.nx r) hs w
  obtain ⟨hv1, hv2⟩ := thr_bd (Lb.nx r)
  obtain ⟨v, hv⟩ : ∃ v, (Lb.hrF (Lb.nx r)).1 = v := ⟨_, rfl⟩
  obtain ⟨ok, hok⟩ : ∃ ok, (Lb.hrF (Lb.nx r)).2 = ok := ⟨_, rfl⟩
  simp only [hv, hok] at hh hv1 hv2 ⊢
  have HL := Lib.hid hl
  clear h h43 h45 hl hne0 hv hok
  generalize Ml.mk (Lb.nx r) = T at *
  generalize (Lb.nx r).length = z at *
  unfold TkPost
  go_enter Tryz.func103, Tryz.ntmps103
  go_wp2_with fail
  refine hn.mono ?_
  rintro e w1 ⟨rfl, h1⟩
  obtain ⟨g, i, n', c', a, k0, k1, hlt, hc, hn', kx, f1, H1⟩ := h1.head_ HL.out
  clear h1 hn
  go_wp2_with fail
  refine (hh _).mono ?_
  rintro e w2 ⟨rfl, hB⟩
  have h1 := H1.out.quiet hB
  clear H1 hB hh k0 k1 kx f1 hc hn' hlt
  obtain ⟨_, _, _, -, -, ⟨k2, k3, k4, k5, k6, k7, k8, k9⟩, f0, f1, f2, f3, f4, f5, f6, f7, f8, f9⟩ := h1.open_
  obtain ⟨bd, hbd⟩ : ∃ bd, (Lb.tl r).bad = bd := ⟨_, rfl⟩
  rw [hbd] at k2
  have hfin : Tk w0 ((w2.setCell ⟨B, 9, none⟩ (.int .i64 (v * 60))).setCell ⟨B, 2, none⟩ (.bool (bd || !ok))) B L (Lb.tl (Lb.sE (v * 60) (Lb.orB (!ok) r))) := by
    have h3 := (h1.sE (v * 60)).bad1 (bd || !ok)
    have e : Lb.tl (Lb.sE (v * 60) (Lb.orB (!ok) r)) = { (Lb.sE (v * 60) (Lb.tl r)) with bad := bd || !ok } := by
      rw [← hbd]
      rfl
    rw [e]
    exact h3
  have HF := Lib.hid hfin
  clear hfin h1 hbd
  cases bd <;> cases ok
  all_goals
    go_wp2
    refine bodyPost_ret (results_none rfl _ _ _) rfl ?_
    exact ⟨rfl, HF.out⟩
set_option maxHeartbeats 4000000 in
set_option maxRecDepth 100000 in
theorem Tk.zone_plus (h : Tk w0 W B L r) (hx : Lb.nx r = [43]) : Calls Tryz.prog 103 #[.pointer (some ⟨B, 0, none⟩)] W (TkPost (.tuple #[]) w0 B L (Lb.dzO (1) (Lb.tl r))) := by
  have hl : r.l ≠ [] := tnx_ne (by rw [hx]; simp)
  have hn : Calls Tryz.prog 69 #[.pointer (some ⟨B, 0, none⟩)] W (TkPost (.string ⟨#[43]⟩) w0 B L r) := by
    have := h.next
    rw [hx] at this
    exact this
  have HL := Lib.hid hl
  have hs := h.psz.tail
  clear h hl hx
  unfold TkPost Lb.dzO
  have hs2 : (Lb.nx (Lb.tl r)).length ≤ 100000 := PSz.nx (r := Lb.tl r) hs
  obtain ⟨z, hz⟩ : ∃ z, (Lb.nx (Lb.tl r)).length = z := ⟨_, rfl⟩
  obtain ⟨T, hT⟩ : ∃ T, Ml.mk (Lb.nx (Lb.tl r)) = T := ⟨_, rfl⟩
  have hsz : T.size = z := by rw [← hT, ← hz]; rfl
  rw [hz] at hs2 ⊢
  have HT := Lib.hid hT
  clear hs hz hT
  by_cases hz4 : z = 4
  · subst hz4
    rw [if_pos rfl]
    obtain ⟨hb1, hb2⟩ := Lb.nmV_bd 4 4 (Lb.tl r) (by omega)
    obtain ⟨n, hn4⟩ : ∃ n, Lb.nmV 4 4 (Lb.tl r) = n := ⟨_, rfl⟩
    rw [hn4] at hb1 hb2
    rw [hn4]
    have t1 : n.tdiv 100 = n / 100 := Int.tdiv_eq_ediv_of_nonneg hb1
    have t2 : n.tmod 100 = n % 100 := Int.tmod_eq_emod_of_nonneg hb1
    obtain ⟨v, hv⟩ : ∃ v, n / 100 = v := ⟨_, rfl⟩
    obtain ⟨m, hm⟩ : ∃ m, n % 100 = m := ⟨_, rfl⟩
    have hv1 : 0 ≤ v := by omega
    have hv2 : v ≤ 1000 := by omega
    have hm1 : 0 ≤ m := by omega
    have hm2 : m ≤ 99 := by omega
    rw [hv] at t1
    rw [hm] at t2
    rw [hv, hm]
    clear hv hm
    go_enter Tryz.func103, Tryz.ntmps103
    go_wp2_with fail
    refine hn.mono ?_
    rintro e w1 ⟨rfl, h1⟩
    obtain ⟨g, i, n', c', a, k0, k1, hlt, hc, hn', kx, f1, H1⟩ := h1.head_ HL.out
    clear h1 hn
    go_wp2_with fail
    have hn2 := H1.out.next
    rw [HT.out] at hn2
    refine hn2.mono ?_
    clear hn2
    rintro e w2 ⟨rfl, h1⟩
    have H2 : Hid (Tk w0 _ B L (Lb.tl r)) := Lib.hid h1
    clear H1 h1 k0 k1 kx f1 hc hn' hlt
    go_wp2_with fail
    have hm := H2.out.num44
    rw [hn4] at hm
    refine hm.mono ?_
    clear hm
    rintro e w3 ⟨rfl, h1⟩
    obtain ⟨_, _, _, -, -, ⟨k2, k3, k4, k5, k6, k7, k8, k9⟩, f0, f1, f2, f3, f4, f5, f6, f7, f8, f9⟩ := h1.open_
    have H3 : Hid (Tk w0 _ B L (Lb.nmR 4 4 (Lb.tl r))) := Lib.hid (h1)
    clear H2 h1
    clear hn4
    obtain ⟨bd, hbd⟩ : ∃ bd, (Lb.nmR 4 4 (Lb.tl r)).bad = bd := ⟨_, rfl⟩
    rw [hbd] at k2
    have HBD := Lib.hid hbd
    clear hbd
    cases bd
    · rcases Int.lt_or_le 23 v with q1 | q1
      · skip
        have h2 := H3.out.bad1 true
        have H9 : Hid (Tk w0 _ B L (Lb.znF (1) v m (Lb.nmR 4 4 (Lb.tl r)))) := Lib.hid (by
          have e : Lb.orB (decide (v > 23) || decide (m > 59)) (Lb.nmR 4 4 (Lb.tl r)) = { (Lb.nmR 4 4 (Lb.tl r)) with bad := true } := by
            unfold Lb.orB
            rw [HBD.out, decide_eq_true (show v > 23 from q1)]
            try rfl
          unfold Lb.znF
          rw [e]
          exact h2.sE _)
        clear h2
        go_wp2
        go_end0
        exact ⟨rfl, H9.out.fin2 (by first | rfl | (simp; omega)) (by omega)⟩
      · rcases Int.lt_or_le 59 m with q2 | q2
        · skip
          have h2 := H3.out.bad1 true
          have H9 : Hid (Tk w0 _ B L (Lb.znF (1) v m (Lb.nmR 4 4 (Lb.tl r)))) := Lib.hid (by
            have e : Lb.orB (decide (v > 23) || decide (m > 59)) (Lb.nmR 4 4 (Lb.tl r)) = { (Lb.nmR 4 4 (Lb.tl r)) with bad := true } := by
              unfold Lb.orB
              rw [HBD.out, decide_eq_true (show m > 59 from q2), Bool.or_true]
              try rfl
            unfold Lb.znF
            rw [e]
            exact h2.sE _)
          clear h2
          go_wp2
          go_end0
          exact ⟨rfl, H9.out.fin2 (by first | rfl | (simp; omega)) (by omega)⟩
        · skip
          have h2 := H3.out.bad1 false
          have H9 : Hid (Tk w0 _ B L (Lb.znF (1) v m (Lb.nmR 4 4 (Lb.tl r)))) := Lib.hid (by
            have e : Lb.orB (decide (v > 23) || decide (m > 59)) (Lb.nmR 4 4 (Lb.tl r)) = { (Lb.nmR 4 4 (Lb.tl r)) with bad := false } := by
              unfold Lb.orB
              rw [HBD.out, decide_eq_false (show ¬ v > 23 by omega), decide_eq_false (show ¬ m > 59 by omega)]
              try rfl
            unfold Lb.znF
            rw [e]
            exact h2.sE _)
          clear h2
          go_wp2
          go_end0
          exact ⟨rfl, H9.out.fin2 (by first | rfl | (simp; omega)) (by omega)⟩
    · skip
      have h2 := H3.out.bad1 true
      have H9 : Hid (Tk w0 _ B L (Lb.znF (1) v m (Lb.nmR 4 4 (Lb.tl r)))) := Lib.hid (by
        have e : Lb.orB (decide (v > 23) || decide (m > 59)) (Lb.nmR 4 4 (Lb.tl r)) = { (Lb.nmR 4 4 (Lb.tl r)) with bad := true } := by
          unfold Lb.orB
          rw [HBD.out]
          try rfl
        unfold Lb.znF
        rw [e]
        exact h2.sE _)
      clear h2
      go_wp2
      go_end0
      exact ⟨rfl, H9.out.fin2 (by first | rfl | (simp; omega)) (by omega)⟩
  · rw [if_neg hz4]
    have hz5 : ¬ (z : Int) = 4 := by omega
    clear hz4
    obtain ⟨b, hb⟩ : ∃ b, Lb.mbB [58] (Lb.nmR 2 2 (Lb.tl r)) = b := ⟨_, rfl⟩
    rw [hb]
    obtain ⟨hb1, hb2⟩ := Lb.nmV_bd 2 2 (Lb.tl r) (by omega)
    obtain ⟨v, hv⟩ : ∃ v, Lb.nmV 2 2 (Lb.tl r) = v := ⟨_, rfl⟩
    rw [hv] at hb1 hb2
    rw [hv]
    cases b
    · rw [if_neg (by decide)]
      go_enter Tryz.func103, Tryz.ntmps103
      go_wp2_with fail
      refine hn.mono ?_
      rintro e w1 ⟨rfl, h1⟩
      obtain ⟨g, i, n', c', a, k0, k1, hlt, hc, hn', kx, f1, H1⟩ := h1.head_ HL.out
      clear h1 hn
      go_wp2_with fail
      have hn2 := H1.out.next
      rw [HT.out] at hn2
      refine hn2.mono ?_
      clear hn2
      rintro e w2 ⟨rfl, h1⟩
      have H2 : Hid (Tk w0 _ B L (Lb.tl r)) := Lib.hid h1
      clear H1 h1 k0 k1 kx f1 hc hn' hlt
      go_wp2_with fail
      have hm := H2.out.num22
      rw [hv] at hm
      refine hm.mono ?_
      clear hm
      rintro e w3 ⟨rfl, h1⟩
      obtain ⟨_, _, _, -, -, ⟨k2, k3, k4, k5, k6, k7, k8, k9⟩, f0, f1, f2, f3, f4, f5, f6, f7, f8, f9⟩ := h1.open_
      have H3 : Hid (Tk w0 _ B L (Lb.nmR 2 2 (Lb.tl r))) := Lib.hid (h1)
      clear H2 h1
      go_wp2_with fail
      have hm := H3.out.mb58
      rw [hb, mb_no hb] at hm
      refine hm.mono ?_
      clear hm
      rintro e w4 ⟨rfl, h1⟩
      clear k2 k3 k4 k5 k6 k7 k8 k9 f0 f1 f2 f3 f4 f5 f6 f7 f8 f9
      obtain ⟨_, _, _, -, -, ⟨k2, k3, k4, k5, k6, k7, k8, k9⟩, f0, f1, f2, f3, f4, f5, f6, f7, f8, f9⟩ := h1.open_
      have H4 : Hid (Tk w0 _ B L (Lb.nmR 2 2 (Lb.tl r))) := Lib.hid (h1)
      clear H3 h1
      clear hv hb
      obtain ⟨bd, hbd⟩ : ∃ bd, (Lb.nmR 2 2 (Lb.tl r)).bad = bd := ⟨_, rfl⟩
      rw [hbd] at k2
      have HBD := Lib.hid hbd
      clear hbd
      cases bd
      · rcases Int.lt_or_le 23 v with q1 | q1
        · skip
          have h2 := H4.out.bad1 true
          have H9 : Hid (Tk w0 _ B L (Lb.znF (1) v (0 : Int) (Lb.nmR 2 2 (Lb.tl r)))) := Lib.hid (by
            have e : Lb.orB (decide (v > 23) || decide ((0 : Int) > 59)) (Lb.nmR 2 2 (Lb.tl r)) = { (Lb.nmR 2 2 (Lb.tl r)) with bad := true } := by
              unfold Lb.orB
              rw [HBD.out, decide_eq_true (show v > 23 from q1)]
              try rfl
            unfold Lb.znF
            rw [e]
            exact h2.sE _)
          clear h2
          go_wp2
          go_end0
          exact ⟨rfl, H9.out.fin2 (by first | rfl | (simp; omega)) (by omega)⟩
        · rcases Int.lt_or_le 59 (0 : Int) with q2 | q2
          · skip
            exact absurd q2 (by decide)
          · skip
            have h2 := H4.out.bad1 false
            have H9 : Hid (Tk w0 _ B L (Lb.znF (1) v (0 : Int) (Lb.nmR 2 2 (Lb.tl r)))) := Lib.hid (by
              have e : Lb.orB (decide (v > 23) || decide ((0 : Int) > 59)) (Lb.nmR 2 2 (Lb.tl r)) = { (Lb.nmR 2 2 (Lb.tl r)) with bad := false } := by
                unfold Lb.orB
                rw [HBD.out, decide_eq_false (show ¬ v > 23 by omega), decide_eq_false (show ¬ (0 : Int) > 59 by omega)]
                try rfl
              unfold Lb.znF
              rw [e]
              exact h2.sE _)
            clear h2
            go_wp2
            go_end0
            exact ⟨rfl, H9.out.fin2 (by first | rfl | (simp; omega)) (by omega)⟩
      · skip
        have h2 := H4.out.bad1 true
        have H9 : Hid (Tk w0 _ B L (Lb.znF (1) v (0 : Int) (Lb.nmR 2 2 (Lb.tl r)))) := Lib.hid (by
          have e : Lb.orB (decide (v > 23) || decide ((0 : Int) > 59)) (Lb.nmR 2 2 (Lb.tl r)) = { (Lb.nmR 2 2 (Lb.tl r)) with bad := true } := by
            unfold Lb.orB
            rw [HBD.out]
            try rfl
          unfold Lb.znF
          rw [e]
          exact h2.sE _)
        clear h2
        go_wp2
        go_end0
        exact ⟨rfl, H9.out.fin2 (by first | rfl | (simp; omega)) (by omega)⟩
    · rw [if_pos rfl]
      obtain ⟨hb3, hb4⟩ := Lb.nmV_bd 2 2 (Lb.tl (Lb.nmR 2 2 (Lb.tl r))) (by omega)
      obtain ⟨m, hm⟩ : ∃ m, Lb.nmV 2 2 (Lb.tl (Lb.nmR 2 2 (Lb.tl r))) = m := ⟨_, rfl⟩
      rw [hm] at hb3 hb4
      rw [hm]
      have HMM := Lib.hid hm
      clear hm
      go_enter Tryz.func103, Tryz.ntmps103
      go_wp2_with fail
      refine hn.mono ?_
      rintro e w1 ⟨rfl, h1⟩
      obtain ⟨g, i, n', c', a, k0, k1, hlt, hc, hn', kx, f1, H1⟩ := h1.head_ HL.out
      clear h1 hn
      go_wp2_with fail
      have hn2 := H1.out.next
      rw [HT.out] at hn2
      refine hn2.mono ?_
      clear hn2
      rintro e w2 ⟨rfl, h1⟩
      have H2 : Hid (Tk w0 _ B L (Lb.tl r)) := Lib.hid h1
      clear H1 h1 k0 k1 kx f1 hc hn' hlt
      go_wp2_with fail
      have hm := H2.out.num22
      rw [hv] at hm
      refine hm.mono ?_
      clear hm
      rintro e w3 ⟨rfl, h1⟩
      obtain ⟨_, _, _, -, -, ⟨k2, k3, k4, k5, k6, k7, k8, k9⟩, f0, f1, f2, f3, f4, f5, f6, f7, f8, f9⟩ := h1.open_
      have H3 : Hid (Tk w0 _ B L (Lb.nmR 2 2 (Lb.tl r))) := Lib.hid (h1)
      clear H2 h1
      go_wp2_with fail
      have hm := H3.out.mb58
      rw [hb, mb_yes hb] at hm
      refine hm.mono ?_
      clear hm
      rintro e w4 ⟨rfl, h1⟩
      clear k2 k3 k4 k5 k6 k7 k8 k9 f0 f1 f2 f3 f4 f5 f6 f7 f8 f9
      obtain ⟨_, _, _, -, -, ⟨k2, k3, k4, k5, k6, k7, k8, k9⟩, f0, f1, f2, f3, f4, f5, f6, f7, f8, f9⟩ := h1.open_
      have H4 : Hid (Tk w0 _ B L (Lb.tl (Lb.nmR 2 2 (Lb.tl r)))) := Lib.hid (h1)
      clear H3 h1
      go_wp2_with fail
      have hm := H4.out.num22
      rw [HMM.out] at hm
      refine hm.mono ?_
      clear hm
      rintro e w5 ⟨rfl, h1⟩
      clear k2 k3 k4 k5 k6 k7 k8 k9 f0 f1 f2 f3 f4 f5 f6 f7 f8 f9
      obtain ⟨_, _, _, -, -, ⟨k2, k3, k4, k5, k6, k7, k8, k9⟩, f0, f1, f2, f3, f4, f5, f6, f7, f8, f9⟩ := h1.open_
      have H5 : Hid (Tk w0 _ B L (Lb.nmR 2 2 (Lb.tl (Lb.nmR 2 2 (Lb.tl r))))) := Lib.hid (h1)
      clear H4 h1
      clear hv hb
      obtain ⟨bd, hbd⟩ : ∃ bd, (Lb.nmR 2 2 (Lb.tl (Lb.nmR 2 2 (Lb.tl r)))).bad = bd := ⟨_, rfl⟩
      rw [hbd] at k2
      have HBD := Lib.hid hbd
      clear hbd
      cases bd
      · rcases Int.lt_or_le 23 v with q1 | q1
        · skip
          have h2 := H5.out.bad1 true
          have H9 : Hid (Tk w0 _ B L (Lb.znF (1) v m (Lb.nmR 2 2 (Lb.tl (Lb.nmR 2 2 (Lb.tl r)))))) := Lib.hid (by
            have e : Lb.orB (decide (v > 23) || decide (m > 59)) (Lb.nmR 2 2 (Lb.tl (Lb.nmR 2 2 (Lb.tl r)))) = { (Lb.nmR 2 2 (Lb.tl (Lb.nmR 2 2 (Lb.tl r)))) with bad := true } := by
              unfold Lb.orB
              rw [HBD.out, decide_eq_true (show v > 23 from q1)]
              try rfl
            unfold Lb.znF
            rw [e]
            exact h2.sE _)
          clear h2
          go_wp2
          go_end0
          exact ⟨rfl, H9.out.fin2 (by first | rfl | (simp; omega)) (by omega)⟩
        · rcases Int.lt_or_le 59 m with q2 | q2
          · skip
            have h2 := H5.out.bad1 true
            have H9 : Hid (Tk w0 _ B L (Lb.znF (1) v m (Lb.nmR 2 2 (Lb.tl (Lb.nmR 2 2 (Lb.tl r)))))) := Lib.hid (by
              have e : Lb.orB (decide (v > 23) || decide (m > 59)) (Lb.nmR 2 2 (Lb.tl (Lb.nmR 2 2 (Lb.tl r)))) = { (Lb.nmR 2 2 (Lb.tl (Lb.nmR 2 2 (Lb.tl r)))) with bad := true } := by
                unfold Lb.orB
                rw [HBD.out, decide_eq_true (show m > 59 from q2), Bool.or_true]
                try rfl
              unfold Lb.znF
              rw [e]
              exact h2.sE _)
            clear h2
            go_wp2
            go_end0
            exact ⟨rfl, H9.out.fin2 (by first | rfl | (simp; omega)) (by omega)⟩
          · skip
            have h2 := H5.out.bad1 false
            have H9 : Hid (Tk w0 _ B L (Lb.znF (1) v m (Lb.nmR 2 2 (Lb.tl (Lb.nmR 2 2 (Lb.tl r)))))) := Lib.hid (by
              have e : Lb.orB (decide (v > 23) || decide (m > 59)) (Lb.nmR 2 2 (Lb.tl (Lb.nmR 2 2 (Lb.tl r)))) = { (Lb.nmR 2 2 (Lb.tl (Lb.nmR 2 2 (Lb.tl r)))) with bad := false } := by
                unfold Lb.orB
                rw [HBD.out, decide_eq_false (show ¬ v > 23 by omega), decide_eq_false (show ¬ m > 59 by omega)]
                try rfl
              unfold Lb.znF
              rw [e]
              exact h2.sE _)
            clear h2
            go_wp2
            go_end0
            exact ⟨rfl, H9.out.fin2 (by first | rfl | (simp; omega)) (by omega)⟩
      · skip
        have h2 := H5.out.bad1 true
        have H9 : Hid (Tk w0 _ B L (Lb.znF (1) v m (Lb.nmR 2 2 (Lb.tl (Lb.nmR 2 2 (Lb.tl r)))))) := Lib.hid (by
          have e : Lb.orB (decide (v > 23) || decide (m > 59)) (Lb.nmR 2 2 (Lb.tl (Lb.nmR 2 2 (Lb.tl r)))) = { (Lb.nmR 2 2 (Lb.tl (Lb.nmR 2 2 (Lb.tl r)))) with bad := true } := by
            unfold Lb.orB
            rw [HBD.out]
            try rfl
          unfold Lb.znF
          rw [e]
          exact h2.sE _)
        clear h2
        go_wp2
        go_end0
        exact ⟨rfl, H9.out.fin2 (by first | rfl | (simp; omega)) (by omega)⟩
set_option maxHeartbeats 4000000 in
set_option maxRecDepth 100000 in
theorem Tk.zone_minus (h : Tk w0 W B L r) (hx : Lb.nx r = [45]) : Calls Tryz.prog 103 #[.pointer (some ⟨B, 0, none⟩)] W (TkPost (.tuple #[]) w0 B L (Lb.dzO (-1) (Lb.tl r))) := by
  have hl : r.l ≠ [] := tnx_ne (by rw [hx]; simp)
  have hn : Calls Tryz.prog 69 #[.pointer (some ⟨B, 0, none⟩)] W (TkPost (.string ⟨#[45]⟩) w0 B L r) := by
    have := h.next
    rw [hx] at this
    exact this
  have HL := Lib.hid hl
  have hs := h.psz.tail
  clear h hl hx
  unfold TkPost Lb.dzO
  have hs2 : (Lb.nx (Lb.tl r)).length ≤ 100000 := PSz.nx (r := Lb.tl r) hs
  obtain ⟨z, hz⟩ : ∃ z, (Lb.nx (Lb.tl r)).length = z := ⟨_, rfl⟩
  obtain ⟨T, hT⟩ : ∃ T, Ml.mk (Lb.nx (Lb.tl r)) = T := ⟨_, rfl⟩
  have hsz : T.size = z := by rw [← hT, ← hz]; rfl
  rw [hz] at hs2 ⊢
  have HT := Lib.hid hT
  clear hs hz hT
  by_cases hz4 : z = 4
  · subst hz4
    rw [if_pos rfl]
    obtain ⟨hb1, hb2⟩ := Lb.nmV_bd 4 4 (Lb.tl r) (by omega)
    obtain ⟨n, hn4⟩ : ∃ n, Lb.nmV 4 4 (Lb.tl r) = n := ⟨_, rfl⟩
    rw [hn4] at hb1 hb2
    rw [hn4]
    have t1 : n.tdiv 100 = n / 100 := Int.tdiv_eq_ediv_of_nonneg hb1
    have t2 : n.tmod 100 = n % 100 := Int.tmod_eq_emod_of_nonneg hb1
    obtain ⟨v, hv⟩ : ∃ v, n / 100 = v := ⟨_, rfl⟩
    obtain ⟨m, hm⟩ : ∃ m, n % 100 = m := ⟨_, rfl⟩
    have hv1 : 0 ≤ v := by omega
    have hv2 : v ≤ 1000 := by omega
    have hm1 : 0 ≤ m := by omega
    have hm2 : m ≤ 99 := by omega
    rw [hv] at t1
    rw [hm] at t2
    rw [hv, hm]
    clear hv hm
    go_enter Tryz.func103, Tryz.ntmps103
    go_wp2_with fail
    refine hn.mono ?_
    rintro e w1 ⟨rfl, h1⟩
    obtain ⟨g, i, n', c', a, k0, k1, hlt, hc, hn', kx, f1, H1⟩ := h1.head_ HL.out
    clear h1 hn
    go_wp2_with fail
    have hn2 := H1.out.next
    rw [HT.out] at hn2
    refine hn2.mono ?_
    clear hn2
    rintro e w2 ⟨rfl, h1⟩
    have H2 : Hid (Tk w0 _ B L (Lb.tl r)) := Lib.hid h1
    clear H1 h1 k0 k1 kx f1 hc hn' hlt
    go_wp2_with fail
    have hm := H2.out.num44
    rw [hn4] at hm
    refine hm.mono ?_
    clear hm
    rintro e w3 ⟨rfl, h1⟩
    obtain ⟨_, _, _, -, -, ⟨k2, k3, k4, k5, k6, k7, k8, k9⟩, f0, f1, f2, f3, f4, f5, f6, f7, f8, f9⟩ := h1.open_
    have H3 : Hid (Tk w0 _ B L (Lb.nmR 4 4 (Lb.tl r))) := Lib.hid (h1)
    clear H2 h1
    clear hn4
    obtain ⟨bd, hbd⟩ : ∃ bd, (Lb.nmR 4 4 (Lb.tl r)).bad = bd := ⟨_, rfl⟩
    rw [hbd] at k2
    have HBD := Lib.hid hbd
    clear hbd
    cases bd
    · rcases Int.lt_or_le 23 v with q1 | q1
      · skip
        have h2 := H3.out.bad1 true
        have H9 : Hid (Tk w0 _ B L (Lb.znF (-1) v m (Lb.nmR 4 4 (Lb.tl r)))) := Lib.hid (by
          have e : Lb.orB (decide (v > 23) || decide (m > 59)) (Lb.nmR 4 4 (Lb.tl r)) = { (Lb.nmR 4 4 (Lb.tl r)) with bad := true } := by
            unfold Lb.orB
            rw [HBD.out, decide_eq_true (show v > 23 from q1)]
            try rfl
          unfold Lb.znF
          rw [e]
          exact (h2.sE (v * 60 + m)).sE _)
        clear h2
        go_wp2
        go_end0
        exact ⟨rfl, H9.out.fin3 (by first | rfl | (simp; omega)) (by omega) (by omega)⟩
      · rcases Int.lt_or_le 59 m with q2 | q2
        · skip
          have h2 := H3.out.bad1 true
          have H9 : Hid (Tk w0 _ B L (Lb.znF (-1) v m (Lb.nmR 4 4 (Lb.tl r)))) := Lib.hid (by
            have e : Lb.orB (decide (v > 23) || decide (m > 59)) (Lb.nmR 4 4 (Lb.tl r)) = { (Lb.nmR 4 4 (Lb.tl r)) with bad := true } := by
              unfold Lb.orB
              rw [HBD.out, decide_eq_true (show m > 59 from q2), Bool.or_true]
              try rfl
            unfold Lb.znF
            rw [e]
            exact (h2.sE (v * 60 + m)).sE _)
          clear h2
          go_wp2
          go_end0
          exact ⟨rfl, H9.out.fin3 (by first | rfl | (simp; omega)) (by omega) (by omega)⟩
        · skip
          have h2 := H3.out.bad1 false
          have H9 : Hid (Tk w0 _ B L (Lb.znF (-1) v m (Lb.nmR 4 4 (Lb.tl r)))) := Lib.hid (by
            have e : Lb.orB (decide (v > 23) || decide (m > 59)) (Lb.nmR 4 4 (Lb.tl r)) = { (Lb.nmR 4 4 (Lb.tl r)) with bad := false } := by
              unfold Lb.orB
              rw [HBD.out, decide_eq_false (show ¬ v > 23 by omega), decide_eq_false (show ¬ m > 59 by omega)]
              try rfl
            unfold Lb.znF
            rw [e]
            exact (h2.sE (v * 60 + m)).sE _)
          clear h2
          go_wp2
          go_end0
          exact ⟨rfl, H9.out.fin3 (by first | rfl | (simp; omega)) (by omega) (by omega)⟩
    · skip
      have h2 := H3.out.bad1 true
      have H9 : Hid (Tk w0 _ B L (Lb.znF (-1) v m (Lb.nmR 4 4 (Lb.tl r)))) := Lib.hid (by
        have e : Lb.orB (decide (v > 23) || decide (m > 59)) (Lb.nmR 4 4 (Lb.tl r)) = { (Lb.nmR 4 4 (Lb.tl r)) with bad := true } := by
          unfold Lb.orB
          rw [HBD.out]
          try rfl
        unfold Lb.znF
        rw [e]
        exact (h2.sE (v * 60 + m)).sE _)
      clear h2
      go_wp2
      go_end0
      exact ⟨rfl, H9.out.fin3 (by first | rfl | (simp; omega)) (by omega) (by omega)⟩
  · rw [if_neg hz4]
    have hz5 : ¬ (z : Int) = 4 := by omega
    clear hz4
    obtain ⟨b, hb⟩ : ∃ b, Lb.mbB [58] (Lb.nmR 2 2 (Lb.tl r)) = b := ⟨_, rfl⟩
    rw [hb]
    obtain ⟨hb1, hb2⟩ := Lb.nmV_bd 2 2 (Lb.tl r) (by omega)
    obtain ⟨v, hv⟩ : ∃ v, Lb.nmV 2 2 (Lb.tl r) = v := ⟨_, rfl⟩
    rw [hv] at hb1 hb2
    rw [hv]
    cases b
    · rw [if_neg (by decide)]
      go_enter Tryz.func103, Tryz.ntmps103
      go_wp2_with fail
      refine hn.mono ?_
      rintro e w1 ⟨rfl, h1⟩
      obtain ⟨g, i, n', c', a, k0, k1, hlt, hc, hn', kx, f1, H1⟩ := h1.head_ HL.out
      clear h1 hn
      go_wp2_with fail
      have hn2 := H1.out.next
      rw [HT.out] at hn2
      refine hn2.mono ?_
      clear hn2
      rintro e w2 ⟨rfl, h1⟩
      have H2 : Hid (Tk w0 _ B L (Lb.tl r)) := Lib.hid h1
      clear H1 h1 k0 k1 kx f1 hc hn' hlt
      go_wp2_with fail
      have hm := H2.out.num22
      rw [hv] at hm
      refine hm.mono ?_
      clear hm
      rintro e w3 ⟨rfl, h1⟩
      obtain ⟨_, _, _, -, -, ⟨k2, k3, k4, k5, k6, k7, k8, k9⟩, f0, f1, f2, f3, f4, f5, f6, f7, f8, f9⟩ := h1.open_
      have H3 : Hid (Tk w0 _ B L (Lb.nmR 2 2 (Lb.tl r))) := Lib.hid (h1)
      clear H2 h1
      go_wp2_with fail
      have hm := H3.out.mb58
      rw [hb, mb_no hb] at hm
      refine hm.mono ?_
      clear hm
      rintro e w4 ⟨rfl, h1⟩
      clear k2 k3 k4 k5 k6 k7 k8 k9 f0 f1 f2 f3 f4 f5 f6 f7 f8 f9
      obtain ⟨_, _, _, -, -, ⟨k2, k3, k4, k5, k6, k7, k8, k9⟩, f0, f1, f2, f3, f4, f5, f6, f7, f8, f9⟩ := h1.open_
      have H4 : Hid (Tk w0 _ B L (Lb.nmR 2 2 (Lb.tl r))) := Lib.hid (h1)
      clear H3 h1
      clear hv hb
      obtain ⟨bd, hbd⟩ : ∃ bd, (Lb.nmR 2 2 (Lb.tl r)).bad = bd := ⟨_, rfl⟩
      rw [hbd] at k2
      have HBD := Lib.hid hbd
      clear hbd
      cases bd
      · rcases Int.lt_or_le 23 v with q1 | q1
        · skip
          have h2 := H4.out.bad1 true
          have H9 : Hid (Tk w0 _ B L (Lb.znF (-1) v (0 : Int) (Lb.nmR 2 2 (Lb.tl r)))) := Lib.hid (by
            have e : Lb.orB (decide (v > 23) || decide ((0 : Int) > 59)) (Lb.nmR 2 2 (Lb.tl r)) = { (Lb.nmR 2 2 (Lb.tl r)) with bad := true } := by
              unfold Lb.orB
              rw [HBD.out, decide_eq_true (show v > 23 from q1)]
              try rfl
            unfold Lb.znF
            rw [e]
            exact (h2.sE (v * 60 + (0 : Int))).sE _)
          clear h2
          go_wp2
          go_end0
          exact ⟨rfl, H9.out.fin3 (by first | rfl | (simp; omega)) (by omega) (by omega)⟩
        · rcases Int.lt_or_le 59 (0 : Int) with q2 | q2
          · skip
            exact absurd q2 (by decide)
          · skip
            have h2 := H4.out.bad1 false
            have H9 : Hid (Tk w0 _ B L (Lb.znF (-1) v (0 : Int) (Lb.nmR 2 2 (Lb.tl r)))) := Lib.hid (by
              have e : Lb.orB (decide (v > 23) || decide ((0 : Int) > 59)) (Lb.nmR 2 2 (Lb.tl r)) = { (Lb.nmR 2 2 (Lb.tl r)) with bad := false } := by
                unfold Lb.orB
                rw [HBD.out, decide_eq_false (show ¬ v > 23 by omega), decide_eq_false (show ¬ (0 : Int) > 59 by omega)]
                try rfl
              unfold Lb.znF
              rw [e]
              exact (h2.sE (v * 60 + (0 : Int))).sE _)
            clear h2
            go_wp2
            go_end0
            exact ⟨rfl, H9.out.fin3 (by first | rfl | (simp; omega)) (by omega) (by omega)⟩
      · skip
        have h2 := H4.out.bad1 true
        have H9 : Hid (Tk w0 _ B L (Lb.znF (-1) v (0 : Int) (Lb.nmR 2 2 (Lb.tl r)))) := Lib.hid (by
          have e : Lb.orB (decide (v > 23) || decide ((0 : Int) > 59)) (Lb.nmR 2 2 (Lb.tl r)) = { (Lb.nmR 2 2 (Lb.tl r)) with bad := true } := by
            unfold Lb.orB
            rw [HBD.out]
            try rfl
          unfold Lb.znF
          rw [e]
          exact (h2.sE (v * 60 + (0 : Int))).sE _)
        clear h2
        go_wp2
        go_end0
        exact ⟨rfl, H9.out.fin3 (by first | rfl | (simp; omega)) (by omega) (by omega)⟩
    · rw [if_pos rfl]
      obtain ⟨hb3, hb4⟩ := Lb.nmV_bd 2 2 (Lb.tl (Lb.nmR 2 2 (Lb.tl r))) (by omega)
      obtain ⟨m, hm⟩ : ∃ m, Lb.nmV 2 2 (Lb.tl (Lb.nmR 2 2 (Lb.tl r))) = m := ⟨_, rfl⟩
      rw [hm] at hb3 hb4
      rw [hm]
      have HMM := Lib.hid hm
      clear hm
      go_enter Tryz.func103, Tryz.ntmps103
      go_wp2_with fail
      refine hn.mono ?_
      rintro e w1 ⟨rfl, h1⟩
      obtain ⟨g, i, n', c', a, k0, k1, hlt, hc, hn', kx, f1, H1⟩ := h1.head_ HL.out
      clear h1 hn
      go_wp2_with fail
      have hn2 := H1.out.next
      rw [HT.out] at hn2
      refine hn2.mono ?_
      clear hn2
      rintro e w2 ⟨rfl, h1⟩
      have H2 : Hid (Tk w0 _ B L (Lb.tl r)) := Lib.hid h1
      clear H1 h1 k0 k1 kx f1 hc hn' hlt
      go_wp2_with fail
      have hm := H2.out.num22
      rw [hv] at hm
      refine hm.mono ?_
      clear hm
      rintro e w3 ⟨rfl, h1⟩
      obtain ⟨_, _, _, -, -, ⟨k2, k3, k4, k5, k6, k7, k8, k9⟩, f0, f1, f2, f3, f4, f5, f6, f7, f8, f9⟩ := h1.open_
      have H3 : Hid (Tk w0 _ B L (Lb.nmR 2 2 (Lb.tl r))) := Lib.hid (h1)
      clear H2 h1
      go_wp2_with fail
      have hm := H3.out.mb58
      rw [hb, mb_yes hb] at hm
      refine hm.mono ?_
      clear hm
      rintro e w4 ⟨rfl, h1⟩
      clear k2 k3 k4 k5 k6 k7 k8 k9 f0 f1 f2 f3 f4 f5 f6 f7 f8 f9
      obtain ⟨_, _, _, -, -, ⟨k2, k3, k4, k5, k6, k7, k8, k9⟩, f0, f1, f2, f3, f4, f5, f6, f7, f8, f9⟩ := h1.open_
      have H4 : Hid (Tk w0 _ B L (Lb.tl (Lb.nmR 2 2 (Lb.tl r)))) := Lib.hid (h1)
      clear H3 h1
      go_wp2_with fail
      have hm := H4.out.num22
      rw [HMM.out] at hm
      refine hm.mono ?_
      clear hm
      rintro e w5 ⟨rfl, h1⟩
      clear k2 k3 k4 k5 k6 k7 k8 k9 f0 f1 f2 f3 f4 f5 f6 f7 f8 f9
      obtain ⟨_, _, _, -, -, ⟨k2, k3, k4, k5, k6, k7, k8, k9⟩, f0, f1, f2, f3, f4, f5, f6, f7, f8, f9⟩ := h1.open_
      have H5 : Hid (Tk w0 _ B L (Lb.nmR 2 2 (Lb.tl (Lb.nmR 2 2 (Lb.tl r))))) := Lib.hid (h1)
      clear H4 h1
      clear hv hb
      obtain ⟨bd, hbd⟩ : ∃ bd, (Lb.nmR 2 2 (Lb.tl (Lb.nmR 2 2 (Lb.tl r)))).bad = bd := ⟨_, rfl⟩
      rw [hbd] at k2
      have HBD := Lib.hid hbd
      clear hbd
      cases bd
      · rcases Int.lt_or_le 23 v with q1 | q1
        · skip
          have h2 := H5.out.bad1 true
          have H9 : Hid (Tk w0 _ B L (Lb.znF (-1) v m (Lb.nmR 2 2 (Lb.tl (Lb.nmR 2 2 (Lb.tl r)))))) := Lib.hid (by
            have e : Lb.orB (decide (v > 23) || decide (m > 59)) (Lb.nmR 2 2 (Lb.tl (Lb.nmR 2 2 (Lb.tl r)))) = { (Lb.nmR 2 2 (Lb.tl (Lb.nmR 2 2 (Lb.tl r)))) with bad := true } := by
              unfold Lb.orB
              rw [HBD.out, decide_eq_true (show v > 23 from q1)]
              try rfl
            unfold Lb.znF
            rw [e]
            exact (h2.sE (v * 60 + m)).sE _)
          clear h2
          go_wp2
          go_end0
          exact ⟨rfl, H9.out.fin3 (by first | rfl | (simp; omega)) (by omega) (by omega)⟩
        · rcases Int.lt_or_le 59 m with q2 | q2
          · skip
            have h2 := H5.out.bad1 true
            have H9 : Hid (Tk w0 _ B L (Lb.znF (-1) v m (Lb.nmR 2 2 (Lb.tl (Lb.nmR 2 2 (Lb.tl r)))))) := Lib.hid (by
              have e : Lb.orB (decide (v > 23) || decide (m > 59)) (Lb.nmR 2 2 (Lb.tl (Lb.nmR 2 2 (Lb.tl r)))) = { (Lb.nmR 2 2 (Lb.tl (Lb.nmR 2 2 (Lb.tl r)))) with bad := true } := by
                unfold Lb.orB
                rw [HBD.out, decide_eq_true (show m > 59 from q2), Bool.or_true]
                try rfl
              unfold Lb.znF
              rw [e]
              exact (h2.sE (v * 60 + m)).sE _)
            clear h2
            go_wp2
            go_end0
            exact ⟨rfl, H9.out.fin3 (by first | rfl | (simp; omega)) (by omega) (by omega)⟩
          · skip
            have h2 := H5.out.bad1 false
            have H9 : Hid (Tk w0 _ B L (Lb.znF (-1) v m (Lb.nmR 2 2 (Lb.tl (Lb.nmR 2 2 (Lb.tl r)))))) := Lib.hid (by
              have e : Lb.orB (decide (v > 23) || decide (m > 59)) (Lb.nmR 2 2 (Lb.tl (Lb.nmR 2 2 (Lb.tl r)))) = { (Lb.nmR 2 2 (Lb.tl (Lb.nmR 2 2 (Lb.tl r)))) with bad := false } := by
                unfold Lb.orB
                rw [HBD.out, decide_eq_false (show ¬ v > 23 by omega), decide_eq_false (show ¬ m > 59 by omega)]
                try rfl
              unfold Lb.znF
              rw [e]
              exact (h2.sE (v * 60 + m)).sE _)
            clear h2
            go_wp2
            go_end0
            exact ⟨rfl, H9.out.fin3 (by first | rfl | (simp; omega)) (by omega) (by omega)⟩
      · skip
        have h2 := H5.out.bad1 true
        have H9 : Hid (Tk w0 _ B L (Lb.znF (-1) v m (Lb.nmR 2 2 (Lb.tl (Lb.nmR 2 2 (Lb.tl r)))))) := Lib.hid (by
          have e : Lb.orB (decide (v > 23) || decide (m > 59)) (Lb.nmR 2 2 (Lb.tl (Lb.nmR 2 2 (Lb.tl r)))) = { (Lb.nmR 2 2 (Lb.tl (Lb.nmR 2 2 (Lb.tl r)))) with bad := true } := by
            unfold Lb.orB
            rw [HBD.out]
            try rfl
          unfold Lb.znF
          rw [e]
          exact (h2.sE (v * 60 + m)).sE _)
        clear h2
        go_wp2
        go_end0
        exact ⟨rfl, H9.out.fin3 (by first | rfl | (simp; omega)) (by omega) (by omega)⟩
theorem Tk.zone (h : Tk w0 W B L r) : Calls Tryz.prog 103 #[.pointer (some ⟨B, 0, none⟩)] W (TkPost (.tuple #[]) w0 B L (Lb.dzR r)) := by
  unfold Lb.dzR
  split
  · exact h.zone_none (by assumption)
  · split
    · exact h.zone_plus (by assumption)
    · split
      · exact h.zone_minus (by assumption)
      · exact h.zone_name (by assumption) (by assumption) (by assumption)
end
end Go.Proofs.YtbhafhbaldddiaaGreatDoor
