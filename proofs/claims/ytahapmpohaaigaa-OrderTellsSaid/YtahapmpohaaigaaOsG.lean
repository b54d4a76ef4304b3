/- The iterator over runs: its contract. -/
import Derived.Test.YtahapmpohaaigaaRf
import Derived.Test.YtahapmpohaaigaaOrP
import Derived.Test.YtahapmpohaaigaaOsF
import Derived.Shelf.Abstract
import Derived.Shelf.RegionOpen
import Derived.OwnWalkIn
import Derived.TacticsInMore
import Derived.LoopNIn
import Derived.LoopIn
namespace Go.Proofs.Ytahapmpohaaigaa
open Go.RowKit Go.Shelf
open Go
set_option linter.unusedVariables false
attribute [local go_sem] Oper.semAt_some
/-- Ints from o on in the block g. -/
def Ints (W : World) (g o : Nat) (L : List Int) : Prop := g < W.heap.size ∧ ∀ j x, L[j]? = some x → W.cell? ⟨g, o + j, none⟩ = some (.int .i64 x)
theorem Ints.kept {W W' : World} {g o : Nat} {L : List Int} (h : Ints W g o L) (hk : W'.heap[g]? = W.heap[g]?) : Ints W' g o L := by
  refine ⟨?_, fun j x hj => (World.cell?_of_block hk).trans (h.2 j x hj)⟩
  have h1 := Array.getElem?_eq_getElem h.1
  rw [h1] at hk
  exact (Array.getElem?_eq_some_iff.1 hk).1
theorem Ints.part {W : World} {g o : Nat} {L : List Int} (h : Ints W g o L) (p n : Nat) : Ints W g (o + p) ((L.drop p).take n) := by
  refine ⟨h.1, fun j x hj => ?_⟩
  rw [Nat.add_assoc]
  refine h.2 _ _ ?_
  have hjn : j < n := by
    have := (List.getElem?_eq_some_iff.1 hj).1
    rw [List.length_take] at this
    omega
  rw [List.getElem?_take_of_lt hjn, List.getElem?_drop] at hj
  exact hj
/-- The runs of a row, and where they begin. -/
def rnL (L : List Int) : List (List Int) := Ordl.runsL Tb.classI L
def posR (L : List Int) (k : Nat) : Nat := ((rnL L).take k).flatten.length
def runR (L : List Int) (k : Nat) : List Int := ((rnL L)[k]?).getD []
def encR (g o : Nat) (L : List Int) (k : Nat) : Array Value := #[.slice (some ⟨g, o + posR L k, none⟩) (runR L k).length (runR L k).length]
def KpR (bx g : Nat) (W W' : World) : Prop := W'.heap[bx]? = W.heap[bx]? ∧ W'.heap[g]? = W.heap[g]?
def boxLen (bx : Nat) (W : World) : Nat := match W.cell? ⟨bx, 0, none⟩ with | some (.slice _ n _) => n | _ => 0
theorem boxLen_of {bx : Nat} {W : World} {p : Option Addr} {n c : Nat} (h : W.cell? ⟨bx, 0, none⟩ = some (.slice p n c)) : boxLen bx W = n := by unfold boxLen; rw [h]
theorem cls0 : ∀ x, 0 ≤ Tb.classI x := fun x => (Tb.class_bd x).1
theorem rn_drop (L : List Int) (k : Nat) : L.drop (posR L k) = ((rnL L).drop k).flatten := by
  have h := Ordl.runs_join cls0 L
  unfold posR rnL
  have h2 : ((Ordl.runsL Tb.classI L).take k).flatten ++ ((Ordl.runsL Tb.classI L).drop k).flatten = L := by
    rw [← List.flatten_append, List.take_append_drop, h]
  generalize ((Ordl.runsL Tb.classI L).take k).flatten = A at *
  generalize ((Ordl.runsL Tb.classI L).drop k).flatten = B at *
  rw [← h2]
  exact List.drop_left ..
theorem rn_tail : ∀ (L : List Int) (k : Nat), (rnL L).drop k = rnL (((rnL L).drop k).flatten) := by
  unfold rnL
  refine Ordl.by_runs cls0 (fun k => by simp [Ordl.runsL]) (fun x t r ht hr ih k => ?_)
  rw [Ordl.runs_run ht hr]
  cases k with
  | zero =>
    rw [List.drop_zero, List.flatten_cons, Ordl.runs_join cls0 r]
    exact (Ordl.runs_run ht hr).symm
  | succ k => exact ih k
theorem tw_take {p : Int → Bool} : ∀ {T : List Int} {j : Nat}, (∀ y ∈ T.take j, p y = true) → j ≤ T.length → (j = T.length ∨ ∃ y, T[j]? = some y ∧ p y = false) → T.takeWhile p = T.take j
  | [], j, _, _, _ => by simp
  | y :: T, 0, _, _, h => by
    rcases h with h | ⟨z, hz, hp⟩
    · cases h
    · rw [List.getElem?_cons_zero] at hz
      cases hz
      simp [hp]
  | y :: T, j + 1, h1, h2, h3 => by
    have hy := h1 y (by simp)
    rw [List.takeWhile_cons, if_pos hy, List.take_succ_cons, tw_take (T := T) (j := j) (fun z hz => h1 z (by rw [List.take_succ_cons]; exact List.mem_cons_of_mem _ hz)) (by simpa using h2) (by simpa using h3)]
theorem runs_any (p : Option Addr) (n c : Nat) (w : World) : Calls Try.prog 25 #[.slice p n c] w fun e w' => e = .returned (.func (.func 35) #[] #[.pointer (some ⟨w.heap.size, 0, none⟩)]) ∧ w' = w.alloc (.cells #[.slice p n c] 22) := by
  go_enter Try.func25, Try.ntmps25
  go_wp2
  go_ret
  exact ⟨rfl, rfl⟩
theorem rn_end (L : List Int) : posR L (rnL L).length = L.length := by
  have h := Ordl.runs_join cls0 L
  unfold posR
  rw [List.take_length]
  unfold rnL
  rw [h]
theorem rn_at {L : List Int} {k : Nat} (h : k < (rnL L).length) : ∃ x T, L.drop (posR L k) = x :: T ∧ runR L k = x :: T.takeWhile (Ordl.isMark Tb.classI) ∧ posR L (k + 1) = posR L k + (runR L k).length ∧ posR L k + (runR L k).length ≤ L.length := by
  have h1 := rn_drop L k
  have h2 := rn_tail L k
  have h4 : (rnL L)[k]? = some (rnL L)[k] := List.getElem?_eq_getElem h
  have h5 : runR L k = (rnL L)[k] := by unfold runR; rw [h4]; rfl
  have h6 : posR L (k + 1) = posR L k + (runR L k).length := by
    unfold posR
    rw [List.take_succ_eq_append_getElem h, List.flatten_append, List.length_append, h5]
    simp
  have h3 : (rnL L).drop k = (rnL L)[k] :: (rnL L).drop (k + 1) := List.drop_eq_getElem_cons h
  rw [← h1] at h2
  have h8 : (L.drop (posR L k)).length = (runR L k).length + ((rnL L).drop (k + 1)).flatten.length := by
    rw [h1, h3, List.flatten_cons, List.length_append, h5]
  rw [List.length_drop] at h8
  cases e : L.drop (posR L k) with
  | nil =>
    rw [e, h3] at h2
    cases h2
  | cons x T =>
    have h7 : runR L k = x :: T.takeWhile (Ordl.isMark Tb.classI) := by
      rw [e, h3] at h2
      unfold rnL at h2
      rw [Ordl.runs_head] at h2
      rw [h5]
      exact (List.cons.inj h2).1
    have h9 : 0 < (runR L k).length := by rw [h7]; simp
    exact ⟨x, T, rfl, h7, h6, by omega⟩
set_option maxHeartbeats 4000000 in
theorem runs1_in (bx g o c : Nat) (L : List Int) (hL : L.length ≤ 100000) (hc : L.length ≤ c) (hx : 0 < L.length) (w : World) (hbx : w.cell? ⟨bx, 0, none⟩ = some (.slice (some ⟨g, o, none⟩) L.length c)) (hfx : w.frozen? ⟨bx, 0, none⟩ = false) (hI : Ints w g o L) (hne : bx ≠ g) :
    SeqN Fence.wide 5 Try.prog 35 #[.pointer (some ⟨bx, 0, none⟩)] (encR g o L) (KpR bx g) (some bx) (rnL L).length w := by
  intro l J Jx W hW hJ hJx hY h0
  have hbl : bx < w.heap.size := World.block_lt_of_cell? _ _ hbx
  have hbx1 := (hW.cell (p := ⟨bx, 0, none⟩) hbl).trans hbx
  have hfx1 := (hW.frozen (p := ⟨bx, 0, none⟩) hbl).trans hfx
  have hI1 : Ints W g o L := hI.kept (hW.block g hI.1)
  refine callsIn_of_wp Try.func35 rfl trivial ?_ rfl
  simp only [Try.ntmps35, List.size_toArray, List.length_cons, List.length_nil, Nat.reduceAdd, Nat.reduceSub, Array.replicate_succ, Array.replicate_zero, List.push_toArray, List.append_toArray, List.nil_append, List.cons_append]
  gi_wp2_with fail
  gi_loopw [3] (fun s3 wr => ∃ (k o' c' : Nat), k ≤ (rnL L).length ∧ J k wr ∧ wr.cell? ⟨bx, 0, none⟩ = some (.slice (some ⟨g, o', none⟩) (L.length - posR L k) c') ∧ wr.frozen? ⟨bx, 0, none⟩ = false ∧ (k < (rnL L).length → o' = o + posR L k ∧ L.length - posR L k ≤ c') ∧ Ints wr g o L) (fun _ wr => boxLen bx wr)
  case atStart =>
    refine ⟨0, o, c, Nat.zero_le _, h0, ?_, hfx1, fun _ => ⟨?_, ?_⟩, hI1⟩
    · exact hbx1
    · rfl
    · exact hc
  case round =>
    obtain ⟨k, o', c', hk, hJk, hb, hf, ho, hIr⟩ := hrel
    by_cases hlt : k < (rnL L).length
    · obtain ⟨x, T, hd, hr, hp, hple⟩ := rn_at hlt
      obtain ⟨ho', hc'⟩ := ho hlt
      obtain ⟨m, hm⟩ : ∃ m, L.length - posR L k = m := ⟨_, rfl⟩
      have hmT : m = T.length + 1 := by
        have := congrArg List.length hd
        rw [List.length_drop, List.length_cons] at this
        omega
      rw [hm] at hb hc'
      have hcell : ∀ j y, T[j]? = some y → wr.cell? ⟨g, o' + (j + 1), none⟩ = some (.int .i64 y) := fun j y hj => by
        have := (hIr.part (posR L k) m).2 (j + 1) y (by
          rw [hd, hmT, List.take_succ_cons, List.getElem?_cons_succ, List.getElem?_take_of_lt (List.getElem?_eq_some_iff.1 hj).1, hj])
        rw [ho']
        exact this
      have HC := Lib.hid hcell
      have HIR := Lib.hid hIr
      have HO := Lib.hid ho'
      have HP := Lib.hid hp
      have HPL := Lib.hid hple
      have HD := Lib.hid hd
      have HRR := Lib.hid hr
      have HM := Lib.hid hmT
      have HM0 := Lib.hid hm
      have HK := Lib.hid hlt
      have m0 : (0 : Int) < (m : Int) := by omega
      have m1 : m ≤ 100000 := by omega
      have m2 : 0 < m := by omega
      clear hcell hIr ho' hp hple hd hr hm hmT ho hbx1 hfx1 hI1 hbx hfx hI hk hlt
      gi_wp2_with fail
      gi_loopw [3] (fun s3 wr2 => ∃ q : Nat, s3 = .int .i64 (q : Int) ∧ 1 ≤ q ∧ q ≤ m ∧ (∀ y ∈ T.take (q - 1), Ordl.isMark Tb.classI y = true) ∧ wr = wr2) (fun s3 _ => m + 1 - (intOf s3).toNat)
      case atStart => exact ⟨1, rfl, Nat.le_refl _, by omega, (fun y hy => by simp at hy), rfl⟩
      case round =>
        obtain ⟨q, rfl, hq1, hq2, hall, rfl⟩ := hrel
        have HALL := Lib.hid hall
        clear hall
        by_cases hgo : ∃ y, T[q - 1]? = some y ∧ 0 < Tb.classI y
        · obtain ⟨y, hy, hcl⟩ := hgo
          have hql : q - 1 < T.length := (List.getElem?_eq_some_iff.1 hy).1
          have hqm : q < m := by have := HM.out; omega
          have hcy := HC.out (q - 1) y hy
          rw [Nat.sub_add_cancel hq1] at hcy
          have c1 := class_any y wr
          have hqm2 : (q : Int) < (m : Int) := by omega
          have HALL2 : Hid (∀ y ∈ T.take (q + 1 - 1), Ordl.isMark Tb.classI y = true) := Lib.hid (by
            intro u hu
            rw [show q + 1 - 1 = q - 1 + 1 by omega, List.take_succ_eq_append_getElem hql] at hu
            rcases List.mem_append.1 hu with h | h
            · exact HALL.out u h
            · rw [List.mem_singleton.1 h]
              have : T[q - 1] = y := by
                have := List.getElem?_eq_getElem hql
                rw [hy] at this
                exact (Option.some.inj this).symm
              rw [this]
              exact decide_eq_true hcl)
          clear hy hql
          generalize Tb.classI y = cc at *
          gi_wp2_with (refine ⟨trivial, ?_⟩; gi_at_call 28; refine (callsIn_wide.2 c1).mono ?_; rintro e' w' ⟨rfl, rfl⟩)
          go_roundw
          case rel => exact ⟨q + 1, by go_num, by omega, by omega, HALL2.out, by first | rfl | trivial⟩
          case measure => simp [intOf]; omega
        · have hstop : q - 1 = T.length ∨ ∃ y, T[q - 1]? = some y ∧ Ordl.isMark Tb.classI y = false := by
            by_cases h : q - 1 < T.length
            · refine Or.inr ⟨T[q - 1], List.getElem?_eq_getElem h, ?_⟩
              refine decide_eq_false fun hp => hgo ⟨_, List.getElem?_eq_getElem h, hp⟩
            · have := HM.out
              exact Or.inl (by omega)
          have htw := tw_take HALL.out (by have := HM.out; omega) hstop
          have hrl : runR L k = x :: T.take (q - 1) := by rw [HRR.out, htw]
          have hrn : (runR L k).length = q := by
            rw [hrl, List.length_cons, List.length_take]
            have := HM.out
            omega
          have henc : encR g o L k = #[.slice (some ⟨g, o', none⟩) q q] := by
            unfold encR
            rw [hrn, HO.out]
          obtain ⟨fn, tmps, assign, body, hy, hR⟩ := hY k wr HK.out hJk
          rw [henc] at hy
          have HY := Lib.hid hY
          have HRN := Lib.hid hrn
          have qc : q ≤ c' := by omega
          have qc2 : (q : Int) ≤ (c' : Int) := by omega
          have q0 : (0 : Int) ≤ (q : Int) := by omega
          have qm : (q : Int) ≤ (m : Int) := by omega
          clear htw hrl hrn henc hY
          rcases hstop with hq | ⟨y, hyy, hcl⟩
          · have hqm2 : ¬ (q : Int) < (m : Int) := by have := HM.out; omega
            clear hq hgo
            gi_wp2_with fail
            refine ⟨trivial, ?_⟩
            gi_wp2_with fail
            refine hR.mono ?_
            rintro e W' (⟨rfl, hJ', hkp⟩ | ⟨rfl, hJx'⟩)
            · have hb2 : W'.cell? ⟨bx, 0, none⟩ = some (.slice (some ⟨g, o', none⟩) m c') := (World.cell?_of_block hkp.1).trans hb
              have hf2 : W'.frozen? ⟨bx, 0, none⟩ = false := (World.frozen?_of_block hkp.1).trans hf
              have hI2 := HIR.out.kept hkp.2
              have HJ2 := Lib.hid hJ'
              have HI2 := Lib.hid hI2
              have HB := Lib.hid (boxLen_of hb)
              clear hJ' hI2 hkp hR hy hb hf hJk
              by_cases hcap : c' = q
              · subst hcap
                gi_wp2_with fail
                go_roundw
                case rel =>
                  have hend : ¬ k + 1 < (rnL L).length := fun hlt => by
                    obtain ⟨x2, T2, hd2, hr2, -, hple2⟩ := rn_at hlt
                    rw [HP.out, HRN.out, hr2, List.length_cons] at hple2
                    have := HM0.out
                    have := HPL.out
                    omega
                  refine ⟨k + 1, o', 0, HK.out, hJ (k + 1) W' _ (some bx) HJ2.out (ogb_set W' ⟨bx, 0, none⟩ _) (fun r e => Or.inl rfl), ?_, by rw [World.frozen?_setCell]; exact hf2, fun h => absurd h hend, HI2.out.kept (Below.heap_setCell _ _ _ _ (by simpa using hne.symm))⟩
                  have e1 : L.length - posR L (k + 1) = 0 := by
                    rw [HP.out, HRN.out]
                    have := HM0.out
                    have := HPL.out
                    omega
                  rw [World.cell?_setCell_same _ _ _ hb2, e1]
                  try first | rfl | (congr 2; omega)
                case measure =>
                  rw [boxLen_of (World.cell?_setCell_same _ _ _ hb2), HB.out]
                  omega
              · have qcn : q < c' := by omega
                have qcn2 : (q : Int) < (c' : Int) := by omega
                gi_wp2_with fail
                go_roundw
                case rel =>
                  have e1 : L.length - posR L (k + 1) = m - q := by
                    rw [HP.out, HRN.out]
                    have := HM0.out
                    have := HPL.out
                    omega
                  refine ⟨k + 1, o' + q, c' - q, HK.out, hJ (k + 1) W' _ (some bx) HJ2.out (ogb_set W' ⟨bx, 0, none⟩ _) (fun r e => Or.inl rfl), ?_, by rw [World.frozen?_setCell]; exact hf2, fun h => ⟨by rw [HP.out, HRN.out, HO.out]; omega, by omega⟩, HI2.out.kept (Below.heap_setCell _ _ _ _ (by simpa using hne.symm))⟩
                  rw [World.cell?_setCell_same _ _ _ hb2, e1]
                  try first | rfl | (congr 2; omega)
                case measure =>
                  rw [boxLen_of (World.cell?_setCell_same _ _ _ hb2), HB.out]
                  omega
            · gi_wp2_with fail
              refine bodyPost_ret (results_none rfl _ _ _) rfl ?_
              exact ⟨⟨_, rfl⟩, Or.inr ⟨k + 1, HK.out, hJx'⟩⟩
          · have hql : q - 1 < T.length := (List.getElem?_eq_some_iff.1 hyy).1
            have hqm2 : (q : Int) < (m : Int) := by have := HM.out; omega
            have hcy := HC.out (q - 1) y hyy
            rw [Nat.sub_add_cancel hq1] at hcy
            have c1 := class_any y wr
            have hc0 : ¬ 0 < Tb.classI y := of_decide_eq_false hcl
            clear hgo hyy hql hcl
            generalize Tb.classI y = cc at *
            gi_wp2_with (refine ⟨trivial, ?_⟩; gi_at_call 28; refine (callsIn_wide.2 c1).mono ?_; rintro e' w' ⟨rfl, rfl⟩)
            refine hR.mono ?_
            rintro e W' (⟨rfl, hJ', hkp⟩ | ⟨rfl, hJx'⟩)
            · have hb2 : W'.cell? ⟨bx, 0, none⟩ = some (.slice (some ⟨g, o', none⟩) m c') := (World.cell?_of_block hkp.1).trans hb
              have hf2 : W'.frozen? ⟨bx, 0, none⟩ = false := (World.frozen?_of_block hkp.1).trans hf
              have hI2 := HIR.out.kept hkp.2
              have HJ2 := Lib.hid hJ'
              have HI2 := Lib.hid hI2
              have HB := Lib.hid (boxLen_of hb)
              clear hJ' hI2 hkp hR hy hb hf hJk
              by_cases hcap : c' = q
              · exfalso; omega
              · have qcn : q < c' := by omega
                have qcn2 : (q : Int) < (c' : Int) := by omega
                gi_wp2_with fail
                go_roundw
                case rel =>
                  have e1 : L.length - posR L (k + 1) = m - q := by
                    rw [HP.out, HRN.out]
                    have := HM0.out
                    have := HPL.out
                    omega
                  refine ⟨k + 1, o' + q, c' - q, HK.out, hJ (k + 1) W' _ (some bx) HJ2.out (ogb_set W' ⟨bx, 0, none⟩ _) (fun r e => Or.inl rfl), ?_, by rw [World.frozen?_setCell]; exact hf2, fun h => ⟨by rw [HP.out, HRN.out, HO.out]; omega, by omega⟩, HI2.out.kept (Below.heap_setCell _ _ _ _ (by simpa using hne.symm))⟩
                  rw [World.cell?_setCell_same _ _ _ hb2, e1]
                  try first | rfl | (congr 2; omega)
                case measure =>
                  rw [boxLen_of (World.cell?_setCell_same _ _ _ hb2), HB.out]
                  omega
            · gi_wp2_with fail
              refine bodyPost_ret (results_none rfl _ _ _) rfl ?_
              exact ⟨⟨_, rfl⟩, Or.inr ⟨k + 1, HK.out, hJx'⟩⟩
    · obtain rfl : k = (rnL L).length := by omega
      rw [rn_end, Nat.sub_self] at hb
      gi_wp2_with fail
      go_end0
      exact ⟨⟨_, rfl⟩, Or.inl hJk⟩
theorem runs1_nil (bx : Nat) (p : Option Addr) (c : Nat) (encs : Nat → Array Value) (Kp : World → World → Prop) (w : World) (hbx : w.cell? ⟨bx, 0, none⟩ = some (.slice p 0 c)) :
    SeqN Fence.wide 5 Try.prog 35 #[.pointer (some ⟨bx, 0, none⟩)] encs Kp (some bx) 0 w := by
  intro l J Jx W hW hJ hJx hY h0
  have hbl : bx < w.heap.size := World.block_lt_of_cell? _ _ hbx
  have hbx1 := (hW.cell (p := ⟨bx, 0, none⟩) hbl).trans hbx
  refine callsIn_of_wp Try.func35 rfl trivial ?_ rfl
  simp only [Try.ntmps35, List.size_toArray, List.length_cons, List.length_nil, Nat.reduceAdd, Nat.reduceSub, Array.replicate_succ, Array.replicate_zero, List.push_toArray, List.append_toArray, List.nil_append, List.cons_append]
  gi_wp2_with fail
  gi_loopw [3] (fun s3 wr => wr = W) (fun _ wr => 0)
  case atStart => rfl
  case round =>
    subst hrel
    gi_wp2_with fail
    go_end0
    exact ⟨⟨_, rfl⟩, Or.inl h0⟩
/-- What is asked of a row that is handed over. -/
def RowP (W : World) (p : Option Addr) (c : Nat) (L : List Int) : Prop := L.length ≤ c ∧ (L = [] ∨ ∃ g o, p = some ⟨g, o, none⟩ ∧ Ints W g o L)
/-- The iterator over a row's runs, be it empty. -/
theorem runs1_all (bx : Nat) (p : Option Addr) (g o c : Nat) (L : List Int) (hL : L.length ≤ 100000) (hc : L.length ≤ c) (w : World) (hbx : w.cell? ⟨bx, 0, none⟩ = some (.slice p L.length c)) (hfx : w.frozen? ⟨bx, 0, none⟩ = false) (h : L = [] ∨ (p = some ⟨g, o, none⟩ ∧ Ints w g o L ∧ bx ≠ g)) :
    SeqN Fence.wide 5 Try.prog 35 #[.pointer (some ⟨bx, 0, none⟩)] (encR g o L) (KpR bx g) (some bx) (rnL L).length w := by
  by_cases hn : L = []
  · subst hn
    exact runs1_nil bx p c _ _ w hbx
  · obtain ⟨rfl, hI, hne⟩ := h.resolve_left hn
    exact runs1_in bx g o c L hL hc (List.length_pos_iff.2 hn) w hbx hfx hI hne
theorem rowP_at {w : World} {p : Option Addr} {c : Nat} {L : List Int} (h : RowP w p c L) (d : Nat) : ∃ g o, (L = [] ∧ g = d) ∨ (p = some ⟨g, o, none⟩ ∧ Ints w g o L ∧ g < w.heap.size) := by
  rcases h.2 with h | ⟨g, o, h1, h2⟩
  · exact ⟨d, 0, Or.inl ⟨h, rfl⟩⟩
  · exact ⟨g, o, Or.inr ⟨h1, h2, h2.1⟩⟩
end Go.Proofs.Ytahapmpohaaigaa
