/- The walk of the statement on runs. -/
import Derived.Test.YtahapmpohaaigaaOrderCutW
namespace Go.Proofs.Ytahapmpohaaigaa
open Go.RowKit
open Go
set_option linter.unusedVariables false
theorem run_app2 {W : World} {base : Nat} {v : Value} {S M : List Int} (h : OwnL W base v S) (ty : TypeId) {q : Option Addr} {d : Nat} (hM : RowP W q d M) (b1 : S.length + M.length ≤ 10000000) (hb : base ≤ W.heap.size) :
    ∃ v' W', (Builtin.append_ #[22, 22] ty #[v, .slice q M.length d]).run Try.prog W = .ok v' W' ∧ OwnL W' base v' (S ++ M) ∧ W.grownBy W' v.ownBlock ∧ (v'.ownBlock = v.ownBlock ∨ v'.ownBlock = some W.heap.size) := by
  obtain ⟨i0, hi, hz0, hz1, hz2⟩ := info_parts infoI
  by_cases hn : M = []
  · subst hn
    cases q with
    | none => exact ⟨v, W, app_none h ty d, by simpa using h, gb_refl _ _, Or.inl rfl⟩
    | some ad =>
      obtain ⟨v', W', hr, h2, h3, _, h5⟩ := run_append_own_at (P := Try.prog) W base 22 ty 3 i0 (.int .i64 0) 1 8 Try.underlying22 hi hz0 hz1 hz2 rfl (by decide) v S.length (S.map encI) h ad 0 d [] rfl (fun j u hj => by simp at hj) (fun u hu => by cases hu) (by unfold maxLen; simp at b1 ⊢; omega) (by simp at b1 ⊢; omega) hb
      exact ⟨v', W', hr, by unfold OwnL; simpa using h2, h3, h5⟩
  · obtain ⟨g, o, rfl, hI⟩ := hM.2.resolve_left hn
    obtain ⟨hnews, hone, hlen⟩ := row_news hI
    obtain ⟨v', W', hr, h2, h3, _, h5⟩ := run_append_own_at (P := Try.prog) W base 22 ty 3 i0 (.int .i64 0) 1 8 Try.underlying22 hi hz0 hz1 hz2 rfl (by decide) v S.length (S.map encI) h ⟨g, o, none⟩ M.length d (M.map encI) hlen hnews hone (by unfold maxLen; omega) (by omega) hb
    exact ⟨v', W', hr, by unfold OwnL; rw [List.length_append, List.map_append]; exact h2, h3, h5⟩
theorem wpList_app2 {ops : Array Oper} {rest : List Oper} {o : Oper} {a : Act} {Q : Exit → Act → World → Prop} (w : World) (hg : o.guard = none) (s x : Operand)
    (hop : o.op = Op.call { callee := .builtin .append, args := #[s, x], argTypes := #[22, 22] }) (base : Nat) (v : Value) (S : List Int) (hs : a.eval s = v) (hown : OwnL w base v S)
    (q : Option Addr) (n d : Nat) (M : List Int) (hn : M.length = n) (hx : a.eval x = .slice q n d) (hM : RowP w q d M) (b1 : S.length + M.length ≤ 10000000) (hb : base ≤ w.heap.size)
    (h : ∀ v' w', OwnL w' base v' (S ++ M) → w.grownBy w' v.ownBlock → (v'.ownBlock = v.ownBlock ∨ v'.ownBlock = some w.heap.size) → wpList Try.prog ops Q rest (a.put o.dst v') w') : wpList Try.prog ops Q (o :: rest) a w := by
  subst hn
  refine wpList_plain hg fun K hK => ?_
  obtain ⟨v', w', hrun, h2, h3, h4⟩ := run_app2 hown o.type hM b1 hb
  unfold Oper.wp
  simp [execOp, hop, resolve, invoke, builtin, hs, hx, hrun, Result.andThen]
  exact hK _ _ (h v' w' h2 h3 h4)
/-- Two rows of one's own that share no block. -/
def Apart (v u : Value) : Prop := ∀ r, v.ownBlock = some r → u.ownBlock ≠ some r
theorem own_apart {W W' : World} {base : Nat} {v u : Value} {L : List Int} (h : OwnL W base u L) (hg : W.grownBy W' v.ownBlock) (ha : Apart v u) : OwnL W' base u L := by
  refine ⟨h.1, ?_⟩
  rcases h.2 with h2 | ⟨g', cap', cur, hv, hb, hgg, h3⟩
  · exact Or.inl h2
  · refine Or.inr ⟨g', cap', cur, hv, hb, (hg.block g' (Array.getElem?_eq_some_iff.1 hgg).1 ?_).trans hgg, h3⟩
    intro e
    exact ha g' e.symm (by rw [hv]; rfl)
theorem own_lt {W : World} {base : Nat} {v : Value} {L : List Int} (h : OwnL W base v L) : ∀ r, v.ownBlock = some r → r < W.heap.size := fun r e => by
  obtain ⟨_, cur, fz, h3⟩ := (row_shape h).2 r e
  exact (Array.getElem?_eq_some_iff.1 h3).1
theorem apart_l {W : World} {base : Nat} {v v' u : Value} {L : List Int} (h : Apart v u) (hu : OwnL W base u L) (hv : v'.ownBlock = v.ownBlock ∨ v'.ownBlock = some W.heap.size) : Apart v' u := fun r e e2 => by
  rcases hv with hv | hv
  · rw [hv] at e; exact h r e e2
  · rw [hv] at e; injection e with e; have := own_lt hu r e2; omega
theorem apart_r {W : World} {base : Nat} {v u u' : Value} {L : List Int} (h : Apart v u) (hv0 : OwnL W base v L) (hv : u'.ownBlock = u.ownBlock ∨ u'.ownBlock = some W.heap.size) : Apart v u' := fun r e e2 => by
  rcases hv with hv | hv
  · rw [hv] at e2; exact h r e e2
  · rw [hv] at e2; injection e2 with e2; have := own_lt hv0 r e; omega
def allK (L : List Int) (k : Nat) : List Int := ((rnL L).take k).flatten
theorem allK_len (L : List Int) (k : Nat) : (allK L k).length = posR L k := rfl
theorem allK_succ {L : List Int} {k : Nat} (h : k < (rnL L).length) : allK L (k + 1) = allK L k ++ runR L k := by
  unfold allK
  have h4 := (run_is L k h).2
  rw [List.take_succ_eq_append_getElem h, List.flatten_append]
  rw [List.getElem?_eq_getElem h] at h4
  simp only [List.flatten_cons, List.flatten_nil, List.append_nil]
  rw [Option.some.inj h4]
theorem allK_end (L : List Int) : allK L (rnL L).length = L := by
  unfold allK
  rw [List.take_length]
  exact Ordl.runs_join cls0 L
theorem run_row {w : World} {g o : Nat} {L : List Int} (hI : Ints w g o L) {k : Nat} (hk : k < (rnL L).length) : Ints w g (o + posR L k) (runR L k) := by
  have h := hI.part (posR L k) (runR L k).length
  have hrp : (L.drop (posR L k)).take (runR L k).length = runR L k := by
    obtain ⟨x1, T1, e1, e2, -, -⟩ := rn_at hk
    rw [e1, e2, List.length_cons, List.take_succ_cons]
    congr 1
    exact List.prefix_iff_eq_take.1 (List.takeWhile_prefix _) ▸ rfl
  rw [hrp] at h
  exact h
/-- A cell of a row of values. -/
theorem row_cell {W : World} {base : Nat} {e : TypeId} {g n cap : Nat} {xs : List Value} (h : W.ownsRow base e 1 (.slice (some ⟨g, 0, none⟩) n cap) n xs) : ∀ (j : Nat) (u : Value), xs[j]? = some u → W.cell? ⟨g, j, none⟩ = some u := fun j u hj => by
  rcases h.2 with ⟨h3, _⟩ | ⟨g', cap', cur, hv, hb, hg, hle, hmx, hcs, htk⟩
  · cases h3
  · injection hv with hp _ _
    injection hp with hp
    injection hp with hp1
    subst hp1
    have h5 := congrArg (fun l : List Value => l[j]?) htk
    have hj' : j < n * 1 := by
      have := (List.getElem?_eq_some_iff.1 hj).1
      rw [h.1] at this
      exact this
    simp only [hj] at h5
    rw [List.getElem?_take_of_lt hj', Array.getElem?_toList] at h5
    simp [World.cell?, hg, h5]
set_option maxHeartbeats 8000000 in
theorem orderRuns_walk {w : World} (p : Option Addr) (c : Nat) (L : List Int) (h : RowP w p c L) (_ : All64 L) : Calls Try.prog 4 #[.slice p L.length c] w (LawTrue w) := by
  have k9 := fun w => wakes_any w
  unfold LawTrue at k9 ⊢
  have HL := Lib.hid h
  have hc := h.1
  clear h
  have HC := Lib.hid hc
  clear hc
  obtain ⟨n, hn⟩ : ∃ n, L.length = n := ⟨_, rfl⟩
  rw [hn]
  have HN := Lib.hid hn
  clear hn
  by_cases hbig : 200 < n
  · have q0 : (200 : Int) < (n : Int) := by omega
    go_enter Try.func4, Try.ntmps4
    go_wp2_with fail
    refine (k9 _).mono ?_
    rintro e w1 ⟨rfl, hb⟩
    go_wp2_with fail
    go_ret
    exact ⟨rfl, hb⟩
  · have q0 : ¬ (200 : Int) < (n : Int) := by omega
    have hgo : ∃ g o, L = [] ∨ (p = some ⟨g, o, none⟩ ∧ Ints w g o L) := by
      rcases HL.out.2 with h | ⟨g, o, h1, h2⟩
      · exact ⟨0, 0, Or.inl h⟩
      · exact ⟨g, o, Or.inr ⟨h1, h2⟩⟩
    obtain ⟨g, o, hgo⟩ := hgo
    have c1 := pruns_any p g o c L w (by have := HN.out; omega) HC.out hgo
    rw [HN.out] at c1
    obtain ⟨N, hNN⟩ : ∃ N, (rnL L).length = N := ⟨_, rfl⟩
    unfold RnsPost at c1
    rw [hNN] at c1
    have hNle : N ≤ n := by
      have h1 := rn_end L
      have h2 : ∀ k, k ≤ (rnL L).length → k ≤ posR L k := fun k => by
        induction k with
        | zero => intro _; exact Nat.zero_le _
        | succ k ih =>
          intro hk
          obtain ⟨x, T, _, e2, e3, _⟩ := rn_at (L := L) (k := k) (by omega)
          rw [e3, e2, List.length_cons]
          have := ih (by omega)
          omega
      have h3 := h2 _ (Nat.le_refl _)
      rw [h1, HN.out, hNN] at h3
      exact h3
    have HG := Lib.hid hgo
    have HNN := Lib.hid hNN
    clear hgo hNN
    go_enter Try.func4, Try.ntmps4
    go_wp2_with fail
    refine c1.mono ?_
    rintro e w1 ⟨v, rfl, hrow, hb1⟩
    obtain ⟨⟨pr, cr, rfl⟩, _⟩ := row_shape hrow
    have HROW := Lib.hid hrow
    have B1 := Lib.hid hb1
    have e0 : OwnL w1 w1.heap.size (.slice none 0 0) [] := ⟨rfl, Or.inl ⟨rfl, rfl⟩⟩
    have E0 := Lib.hid e0
    clear c1 hrow hb1 e0
    go_wp2_with fail
    go_loopw [3, 4, 5, 6, 8, 16] (fun v3 v4 _ _ _ vi wr => ∃ (i m : Nat) (p3 : Option Addr) (c3 : Nat) (p4 : Option Addr) (c4 : Nat), vi = .int .i64 (i : Int) ∧ v3 = .slice p3 m c3 ∧ v4 = .slice p4 m c4 ∧ m = posR L i ∧ i ≤ N ∧ OwnL wr w1.heap.size (.slice p3 m c3) (allK L i) ∧ OwnL wr w1.heap.size (.slice p4 m c4) (sortK L i) ∧ Apart (.slice p3 m c3) (.slice p4 m c4) ∧ Below w1.heap.size w1 wr) (fun _ _ _ _ _ vi _ => N - (intOf vi).toNat)
    case atStart => exact ⟨0, 0, none, 0, none, 0, rfl, rfl, rfl, rfl, Nat.zero_le _, E0.out, E0.out, (fun r e => by cases e), Below.refl _ _⟩
    case round =>
      clear E0
      obtain ⟨i, m, p3, c3, p4, c4, rfl, rfl, rfl, hm, hi, h3, h4, hap, hb⟩ := hrel
      have O3 := Lib.hid h3
      have O4 := Lib.hid h4
      have AP := Lib.hid hap
      have B2 := Lib.hid hb
      have HM := Lib.hid hm
      clear h3 h4 hap hb hm
      by_cases hlt : i < N
      · have q1 : (i : Int) < (N : Int) := by omega
        have hik : i < (rnL L).length := by rw [HNN.out]; exact hlt
        obtain ⟨⟨x, t, hr, ht⟩, hrk⟩ := run_is L i hik
        obtain ⟨_, _, _, _, hp1, hple⟩ := rn_at hik
        obtain ⟨hpp, hI⟩ := HG.out.resolve_left (fun e => by rw [e] at hik; exact absurd hik (Nat.not_lt_zero _))
        have hIr := run_row ((hI.kept (B1.out.block g hI.1)).kept (B2.out.block g (Nat.lt_of_lt_of_le hI.1 B1.out.size))) hik
        obtain ⟨gr, capr, hpr, -, hcr, -⟩ := row_pos HROW.out (by omega)
        injection hpr with hpr1 hpr2 hpr3
        have hcell := (B2.out.cell (p := ⟨gr, i, none⟩) (World.block_lt_of_cell? _ _ (row_cell (by rw [← hpr1]; exact HROW.out) i (encRun g o L i) (by
          unfold runVals
          rw [List.getElem?_map, List.getElem?_range hlt]
          rfl)))).trans (row_cell (by rw [← hpr1]; exact HROW.out) i (encRun g o L i) (by
          unfold runVals
          rw [List.getElem?_map, List.getElem?_range hlt]
          rfl))
        have hfree : 0 < i → Tb.classI x = 0 := fun h0 => (Ordl.runs_are cls0 L).2.1 i (runR L i) h0 hrk x t hr
        have hallS := allK_succ hik
        have hsrtS := sortK_succ hik
        unfold encRun at hcell
        generalize runR L i = r at *
        have hlr : t.length + 1 = r.length := by rw [hr]; rfl
        have hrn : r.length ≤ n := by have := HN.out; omega
        have hx : wr.cell? ⟨g, o + posR L i, none⟩ = some (.int .i64 x) := hIr.2 0 x (by rw [hr]; rfl)
        have hIt : ∀ (j : Nat) (y : Int), t[j]? = some y → wr.cell? ⟨g, o + posR L i + 1 + j, none⟩ = some (.int .i64 y) := fun j y hj => by
          have := hIr.2 (j + 1) y (by rw [hr]; simpa using hj)
          rw [show o + posR L i + (j + 1) = o + posR L i + 1 + j by omega] at this
          exact this
        have hRP : RowP wr (some ⟨g, o + posR L i, none⟩) r.length r := ⟨Nat.le_refl _, Or.inr ⟨g, _, rfl, hIr⟩⟩
        have hpos : posR L i + r.length ≤ 200 := by have := HN.out; omega
        generalize hoo : o + posR L i = o' at *
        have cx := fun W => rclass_any x W
        have HALL := Lib.hid hallS
        have HSRT := Lib.hid hsrtS
        have HT := Lib.hid ht
        have HIT := Lib.hid hIt
        have HR := Lib.hid hr
        have HRP := Lib.hid hRP
        have IR := Lib.hid hIr
        have hgl : g < w1.heap.size := Nat.lt_of_lt_of_le hI.1 B1.out.size
        have HLR := Lib.hid hlr
        have HP1 := Lib.hid hp1
        have HPOS := Lib.hid hpos
        have HPR := Lib.hid hpr1
        obtain ⟨lr, hlr2⟩ : ∃ k, r.length = k := ⟨_, rfl⟩
        have HLEN := Lib.hid hlr2
        rw [hlr2] at hcell
        have hl0 : 0 < lr := by have := HLR.out; omega
        have hl1 : (0 : Int) < (lr : Int) := by omega
        have hl2 : (1 : Int) ≤ (lr : Int) := by omega
        have hl3 : 1 ≤ lr := by omega
        have hl4 : ((lr : Int) == 0) = false := by simp; omega
        have hls : lr ≤ 200 := by omega
        clear hallS hsrtS ht hIt hr hRP hlr hlr2 hpos hpr1 hpr2 hpr3 hIr hI hpp hrk hp1 hple hik hoo
        rw [HPR.out]
        by_cases hi0 : 0 < i
        · have hx0 := hfree hi0
          have i0 : (0 : Int) < (i : Int) := by omega
          rw [hx0] at cx
          clear hfree
          by_cases hone : lr = 1
          · subst hone
            go_wp2_with fail
            refine (cx _).mono ?_
            rintro e w9 ⟨rfl, rfl⟩
            go_wp2_with fail
            go_loopw [8, 38] (fun _ vk wx => vk = .int .i64 0 ∧ wr = wx) (fun _ vk _ => 0)
            case atStart => exact ⟨rfl, rfl⟩
            case round =>
              obtain ⟨rfl, rfl⟩ := hrel
              have z3 : m + 1 ≤ 200 := by have := HPOS.out; have := HM.out; have := HLEN.out; omega
              have z4 : (allK L i).length = m := by rw [allK_len]; exact HM.out.symm
              have z5 : (sortK L i).length = m := by rw [sortK_len]; exact HM.out.symm
              have Z4 := Lib.hid z4
              have Z5 := Lib.hid z5
              clear z4 z5
              go_wp2_with (at_builtin; refine wpList_app2 _ rfl _ _ rfl w1.heap.size (.slice p3 m c3) (allK L i) rfl O3.out (some ⟨g, o', none⟩) 1 1 r HLEN.out rfl (by have := HRP.out; rw [HLEN.out] at this; exact this) (by have := Z4.out; have := HLEN.out; omega) B2.out.size ?_; intro v3' wA hoA hgA hvA; have hbA := own_grown O3.out hgA (Nat.le_refl _) B2.out.size; rw [← HALL.out] at hoA; have h4A := own_apart O4.out hgA AP.out; have hapA := apart_l AP.out O4.out hvA; obtain ⟨pA, cA, rfl, hrA⟩ := hoA.rowp; clear hrA; have hlA : (allK L (i + 1)).length = m + 1 := (by rw [HALL.out, List.length_append, Z4.out, HLEN.out]); rw [hlA] at hoA hapA ⊢; have OA := Lib.hid hoA; have O4A := Lib.hid h4A; have APA := Lib.hid hapA; have BA := Lib.hid hbA; clear hoA hgA hvA hbA h4A hapA hlA)
              have cS := sort_any (some ⟨g, o', none⟩) r.length r wA (by have := HLEN.out; omega) ⟨Nat.le_refl _, Or.inr ⟨g, o', rfl, IR.out.kept (BA.out.block g hgl)⟩⟩
              rw [HLEN.out] at cS
              have lS := Ordl.sort_len (cls := Tb.classI) r
              rw [HLEN.out] at lS
              have LS := Lib.hid lS
              clear lS
              refine cS.mono ?_
              intro e wB ho
              obtain ⟨pB, eB, rfl, hrB, hbB⟩ := out_open ho
              rw [LS.out]
              have OB := Lib.hid (OA.out.of_below hbB (Nat.le_refl _))
              have O4B := Lib.hid (O4A.out.of_below hbB (Nat.le_refl _))
              have RB := Lib.hid hrB
              have BB := Lib.hid (BA.out.trans (hbB.mono (by have := BA.out.size; have := B2.out.size; omega)))
              clear cS ho hrB hbB OA O4A BA
              have zB : w1.heap.size ≤ wB.heap.size := by have := BB.out.size; have := B2.out.size; omega
              go_wp2_with (at_builtin; refine wpList_app2 _ rfl _ _ rfl w1.heap.size (.slice p4 m c4) (sortK L i) rfl O4B.out pB 1 eB (Ordl.sortL Tb.classI r) LS.out rfl RB.out (by have := Z5.out; have := LS.out; omega) zB ?_; intro v4' wC hoC hgC hvC; have hbC := own_grown O4B.out hgC (Nat.le_refl _) zB; rw [← HSRT.out] at hoC; have h3C := own_apart OB.out hgC (fun r e e2 => APA.out r e2 e); have hapC := apart_r APA.out OB.out hvC; obtain ⟨pC, cC, rfl, hrC⟩ := hoC.rowp; clear hrC; have hlC : (sortK L (i + 1)).length = m + 1 := (by rw [HSRT.out, List.length_append, Z5.out, LS.out]); rw [hlC] at hoC hapC ⊢; have OC := Lib.hid hoC; have O3C := Lib.hid h3C; have APC := Lib.hid hapC; have BC := Lib.hid hbC; clear hoC hgC hvC hbC h3C hapC hlC)
              go_roundw
              case rel => exact ⟨i + 1, m + 1, pA, cA, pC, cC, by go_num, rfl, rfl, by rw [HP1.out, HM.out, HLEN.out], by omega, O3C.out, OC.out, APC.out, (B2.out.trans BB.out).trans BC.out⟩
              case measure => simp [intOf]; omega
          · have hn2 : ¬ 1 = lr := fun e => hone e.symm
            have hn3 : 1 < lr := by omega
            have hn4 : (1 : Int) < (lr : Int) := by omega
            obtain ⟨l1, hL1⟩ : ∃ l1, lr - 1 = l1 := ⟨_, rfl⟩
            have HL1 := Lib.hid hL1
            go_wp2_with fail
            refine (cx _).mono ?_
            rintro e w9 ⟨rfl, rfl⟩
            have HA : Hid (∀ (j : Nat) (y : Int), t[j]? = some y → wr.cell? ⟨g, o' + 1 + j, none⟩ = some (.int .i64 y)) := HIT
            go_wp2_with fail
            go_loopw [8, 38] (fun _ vk wx => ∃ k : Nat, vk = .int .i64 (k : Int) ∧ k ≤ l1 ∧ wr = wx) (fun _ vk _ => l1 - (intOf vk).toNat)
            case atStart => exact ⟨0, rfl, Nat.zero_le _, rfl⟩
            case round =>
              obtain ⟨k, rfl, hk, rfl⟩ := hrel
              by_cases hkl : k < l1
              · have hkt : k < t.length := by have := HLR.out; have := HLEN.out; have := HL1.out; omega
                obtain ⟨y, hy⟩ : ∃ y, t[k]? = some y := ⟨_, List.getElem?_eq_getElem hkt⟩
                have ky := HA.out k y hy
                have hyp := HT.out y (List.mem_of_getElem? hy)
                have cy := fun W => rclass_any y W
                have ey : (Tb.classI y == 0) = false := by simp; omega
                have q2 : (k : Int) < (l1 : Int) := by omega
                clear hy hkt hyp
                generalize Tb.classI y = ky0 at *
                go_wp2_with fail
                refine (cy _).mono ?_
                rintro e wy ⟨rfl, rfl⟩
                go_wp2_with fail
                go_roundw
                case rel => exact ⟨k + 1, by go_num, by omega, by first | rfl | trivial⟩
                case measure => simp [intOf]; omega
              · have q2 : ¬ (k : Int) < (l1 : Int) := by omega
                obtain rfl : k = l1 := by omega
                have z3 : m + lr ≤ 200 := by have := HPOS.out; have := HM.out; have := HLEN.out; omega
                have z4 : (allK L i).length = m := by rw [allK_len]; exact HM.out.symm
                have z5 : (sortK L i).length = m := by rw [sortK_len]; exact HM.out.symm
                have Z4 := Lib.hid z4
                have Z5 := Lib.hid z5
                clear z4 z5
                go_wp2_with (at_builtin; refine wpList_app2 _ rfl _ _ rfl w1.heap.size (.slice p3 m c3) (allK L i) rfl O3.out (some ⟨g, o', none⟩) lr lr r HLEN.out rfl (by have := HRP.out; rw [HLEN.out] at this; exact this) (by have := Z4.out; have := HLEN.out; omega) B2.out.size ?_; intro v3' wA hoA hgA hvA; have hbA := own_grown O3.out hgA (Nat.le_refl _) B2.out.size; rw [← HALL.out] at hoA; have h4A := own_apart O4.out hgA AP.out; have hapA := apart_l AP.out O4.out hvA; obtain ⟨pA, cA, rfl, hrA⟩ := hoA.rowp; clear hrA; have hlA : (allK L (i + 1)).length = m + lr := (by rw [HALL.out, List.length_append, Z4.out, HLEN.out]); rw [hlA] at hoA hapA ⊢; have OA := Lib.hid hoA; have O4A := Lib.hid h4A; have APA := Lib.hid hapA; have BA := Lib.hid hbA; clear hoA hgA hvA hbA h4A hapA hlA)
                have cS := sort_any (some ⟨g, o', none⟩) r.length r wA (by have := HLEN.out; omega) ⟨Nat.le_refl _, Or.inr ⟨g, o', rfl, IR.out.kept (BA.out.block g hgl)⟩⟩
                rw [HLEN.out] at cS
                have lS := Ordl.sort_len (cls := Tb.classI) r
                rw [HLEN.out] at lS
                have LS := Lib.hid lS
                clear lS
                refine cS.mono ?_
                intro e wB ho
                obtain ⟨pB, eB, rfl, hrB, hbB⟩ := out_open ho
                rw [LS.out]
                have OB := Lib.hid (OA.out.of_below hbB (Nat.le_refl _))
                have O4B := Lib.hid (O4A.out.of_below hbB (Nat.le_refl _))
                have RB := Lib.hid hrB
                have BB := Lib.hid (BA.out.trans (hbB.mono (by have := BA.out.size; have := B2.out.size; omega)))
                clear cS ho hrB hbB OA O4A BA
                have zB : w1.heap.size ≤ wB.heap.size := by have := BB.out.size; have := B2.out.size; omega
                go_wp2_with (at_builtin; refine wpList_app2 _ rfl _ _ rfl w1.heap.size (.slice p4 m c4) (sortK L i) rfl O4B.out pB lr eB (Ordl.sortL Tb.classI r) LS.out rfl RB.out (by have := Z5.out; have := LS.out; omega) zB ?_; intro v4' wC hoC hgC hvC; have hbC := own_grown O4B.out hgC (Nat.le_refl _) zB; rw [← HSRT.out] at hoC; have h3C := own_apart OB.out hgC (fun r e e2 => APA.out r e2 e); have hapC := apart_r APA.out OB.out hvC; obtain ⟨pC, cC, rfl, hrC⟩ := hoC.rowp; clear hrC; have hlC : (sortK L (i + 1)).length = m + lr := (by rw [HSRT.out, List.length_append, Z5.out, LS.out]); rw [hlC] at hoC hapC ⊢; have OC := Lib.hid hoC; have O3C := Lib.hid h3C; have APC := Lib.hid hapC; have BC := Lib.hid hbC; clear hoC hgC hvC hbC h3C hapC hlC)
                go_roundw
                case rel => exact ⟨i + 1, m + lr, pA, cA, pC, cC, by go_num, rfl, rfl, by rw [HP1.out, HM.out, HLEN.out], by omega, O3C.out, OC.out, APC.out, (B2.out.trans BB.out).trans BC.out⟩
                case measure => simp [intOf]; omega
        · have i0 : ¬ (0 : Int) < (i : Int) := by omega
          clear hfree
          by_cases hone : lr = 1
          · subst hone
            skip
            go_wp2_with fail
            go_loopw [8, 38] (fun _ vk wx => vk = .int .i64 0 ∧ wr = wx) (fun _ vk _ => 0)
            case atStart => exact ⟨rfl, rfl⟩
            case round =>
              obtain ⟨rfl, rfl⟩ := hrel
              have z3 : m + 1 ≤ 200 := by have := HPOS.out; have := HM.out; have := HLEN.out; omega
              have z4 : (allK L i).length = m := by rw [allK_len]; exact HM.out.symm
              have z5 : (sortK L i).length = m := by rw [sortK_len]; exact HM.out.symm
              have Z4 := Lib.hid z4
              have Z5 := Lib.hid z5
              clear z4 z5
              go_wp2_with (at_builtin; refine wpList_app2 _ rfl _ _ rfl w1.heap.size (.slice p3 m c3) (allK L i) rfl O3.out (some ⟨g, o', none⟩) 1 1 r HLEN.out rfl (by have := HRP.out; rw [HLEN.out] at this; exact this) (by have := Z4.out; have := HLEN.out; omega) B2.out.size ?_; intro v3' wA hoA hgA hvA; have hbA := own_grown O3.out hgA (Nat.le_refl _) B2.out.size; rw [← HALL.out] at hoA; have h4A := own_apart O4.out hgA AP.out; have hapA := apart_l AP.out O4.out hvA; obtain ⟨pA, cA, rfl, hrA⟩ := hoA.rowp; clear hrA; have hlA : (allK L (i + 1)).length = m + 1 := (by rw [HALL.out, List.length_append, Z4.out, HLEN.out]); rw [hlA] at hoA hapA ⊢; have OA := Lib.hid hoA; have O4A := Lib.hid h4A; have APA := Lib.hid hapA; have BA := Lib.hid hbA; clear hoA hgA hvA hbA h4A hapA hlA)
              have cS := sort_any (some ⟨g, o', none⟩) r.length r wA (by have := HLEN.out; omega) ⟨Nat.le_refl _, Or.inr ⟨g, o', rfl, IR.out.kept (BA.out.block g hgl)⟩⟩
              rw [HLEN.out] at cS
              have lS := Ordl.sort_len (cls := Tb.classI) r
              rw [HLEN.out] at lS
              have LS := Lib.hid lS
              clear lS
              refine cS.mono ?_
              intro e wB ho
              obtain ⟨pB, eB, rfl, hrB, hbB⟩ := out_open ho
              rw [LS.out]
              have OB := Lib.hid (OA.out.of_below hbB (Nat.le_refl _))
              have O4B := Lib.hid (O4A.out.of_below hbB (Nat.le_refl _))
              have RB := Lib.hid hrB
              have BB := Lib.hid (BA.out.trans (hbB.mono (by have := BA.out.size; have := B2.out.size; omega)))
              clear cS ho hrB hbB OA O4A BA
              have zB : w1.heap.size ≤ wB.heap.size := by have := BB.out.size; have := B2.out.size; omega
              go_wp2_with (at_builtin; refine wpList_app2 _ rfl _ _ rfl w1.heap.size (.slice p4 m c4) (sortK L i) rfl O4B.out pB 1 eB (Ordl.sortL Tb.classI r) LS.out rfl RB.out (by have := Z5.out; have := LS.out; omega) zB ?_; intro v4' wC hoC hgC hvC; have hbC := own_grown O4B.out hgC (Nat.le_refl _) zB; rw [← HSRT.out] at hoC; have h3C := own_apart OB.out hgC (fun r e e2 => APA.out r e2 e); have hapC := apart_r APA.out OB.out hvC; obtain ⟨pC, cC, rfl, hrC⟩ := hoC.rowp; clear hrC; have hlC : (sortK L (i + 1)).length = m + 1 := (by rw [HSRT.out, List.length_append, Z5.out, LS.out]); rw [hlC] at hoC hapC ⊢; have OC := Lib.hid hoC; have O3C := Lib.hid h3C; have APC := Lib.hid hapC; have BC := Lib.hid hbC; clear hoC hgC hvC hbC h3C hapC hlC)
              go_roundw
              case rel => exact ⟨i + 1, m + 1, pA, cA, pC, cC, by go_num, rfl, rfl, by rw [HP1.out, HM.out, HLEN.out], by omega, O3C.out, OC.out, APC.out, (B2.out.trans BB.out).trans BC.out⟩
              case measure => simp [intOf]; omega
          · have hn2 : ¬ 1 = lr := fun e => hone e.symm
            have hn3 : 1 < lr := by omega
            have hn4 : (1 : Int) < (lr : Int) := by omega
            obtain ⟨l1, hL1⟩ : ∃ l1, lr - 1 = l1 := ⟨_, rfl⟩
            have HL1 := Lib.hid hL1

            have HA : Hid (∀ (j : Nat) (y : Int), t[j]? = some y → wr.cell? ⟨g, o' + 1 + j, none⟩ = some (.int .i64 y)) := HIT
            go_wp2_with fail
            go_loopw [8, 38] (fun _ vk wx => ∃ k : Nat, vk = .int .i64 (k : Int) ∧ k ≤ l1 ∧ wr = wx) (fun _ vk _ => l1 - (intOf vk).toNat)
            case atStart => exact ⟨0, rfl, Nat.zero_le _, rfl⟩
            case round =>
              obtain ⟨k, rfl, hk, rfl⟩ := hrel
              by_cases hkl : k < l1
              · have hkt : k < t.length := by have := HLR.out; have := HLEN.out; have := HL1.out; omega
                obtain ⟨y, hy⟩ : ∃ y, t[k]? = some y := ⟨_, List.getElem?_eq_getElem hkt⟩
                have ky := HA.out k y hy
                have hyp := HT.out y (List.mem_of_getElem? hy)
                have cy := fun W => rclass_any y W
                have ey : (Tb.classI y == 0) = false := by simp; omega
                have q2 : (k : Int) < (l1 : Int) := by omega
                clear hy hkt hyp
                generalize Tb.classI y = ky0 at *
                go_wp2_with fail
                refine (cy _).mono ?_
                rintro e wy ⟨rfl, rfl⟩
                go_wp2_with fail
                go_roundw
                case rel => exact ⟨k + 1, by go_num, by omega, by first | rfl | trivial⟩
                case measure => simp [intOf]; omega
              · have q2 : ¬ (k : Int) < (l1 : Int) := by omega
                obtain rfl : k = l1 := by omega
                have z3 : m + lr ≤ 200 := by have := HPOS.out; have := HM.out; have := HLEN.out; omega
                have z4 : (allK L i).length = m := by rw [allK_len]; exact HM.out.symm
                have z5 : (sortK L i).length = m := by rw [sortK_len]; exact HM.out.symm
                have Z4 := Lib.hid z4
                have Z5 := Lib.hid z5
                clear z4 z5
                go_wp2_with (at_builtin; refine wpList_app2 _ rfl _ _ rfl w1.heap.size (.slice p3 m c3) (allK L i) rfl O3.out (some ⟨g, o', none⟩) lr lr r HLEN.out rfl (by have := HRP.out; rw [HLEN.out] at this; exact this) (by have := Z4.out; have := HLEN.out; omega) B2.out.size ?_; intro v3' wA hoA hgA hvA; have hbA := own_grown O3.out hgA (Nat.le_refl _) B2.out.size; rw [← HALL.out] at hoA; have h4A := own_apart O4.out hgA AP.out; have hapA := apart_l AP.out O4.out hvA; obtain ⟨pA, cA, rfl, hrA⟩ := hoA.rowp; clear hrA; have hlA : (allK L (i + 1)).length = m + lr := (by rw [HALL.out, List.length_append, Z4.out, HLEN.out]); rw [hlA] at hoA hapA ⊢; have OA := Lib.hid hoA; have O4A := Lib.hid h4A; have APA := Lib.hid hapA; have BA := Lib.hid hbA; clear hoA hgA hvA hbA h4A hapA hlA)
                have cS := sort_any (some ⟨g, o', none⟩) r.length r wA (by have := HLEN.out; omega) ⟨Nat.le_refl _, Or.inr ⟨g, o', rfl, IR.out.kept (BA.out.block g hgl)⟩⟩
                rw [HLEN.out] at cS
                have lS := Ordl.sort_len (cls := Tb.classI) r
                rw [HLEN.out] at lS
                have LS := Lib.hid lS
                clear lS
                refine cS.mono ?_
                intro e wB ho
                obtain ⟨pB, eB, rfl, hrB, hbB⟩ := out_open ho
                rw [LS.out]
                have OB := Lib.hid (OA.out.of_below hbB (Nat.le_refl _))
                have O4B := Lib.hid (O4A.out.of_below hbB (Nat.le_refl _))
                have RB := Lib.hid hrB
                have BB := Lib.hid (BA.out.trans (hbB.mono (by have := BA.out.size; have := B2.out.size; omega)))
                clear cS ho hrB hbB OA O4A BA
                have zB : w1.heap.size ≤ wB.heap.size := by have := BB.out.size; have := B2.out.size; omega
                go_wp2_with (at_builtin; refine wpList_app2 _ rfl _ _ rfl w1.heap.size (.slice p4 m c4) (sortK L i) rfl O4B.out pB lr eB (Ordl.sortL Tb.classI r) LS.out rfl RB.out (by have := Z5.out; have := LS.out; omega) zB ?_; intro v4' wC hoC hgC hvC; have hbC := own_grown O4B.out hgC (Nat.le_refl _) zB; rw [← HSRT.out] at hoC; have h3C := own_apart OB.out hgC (fun r e e2 => APA.out r e2 e); have hapC := apart_r APA.out OB.out hvC; obtain ⟨pC, cC, rfl, hrC⟩ := hoC.rowp; clear hrC; have hlC : (sortK L (i + 1)).length = m + lr := (by rw [HSRT.out, List.length_append, Z5.out, LS.out]); rw [hlC] at hoC hapC ⊢; have OC := Lib.hid hoC; have O3C := Lib.hid h3C; have APC := Lib.hid hapC; have BC := Lib.hid hbC; clear hoC hgC hvC hbC h3C hapC hlC)
                go_roundw
                case rel => exact ⟨i + 1, m + lr, pA, cA, pC, cC, by go_num, rfl, rfl, by rw [HP1.out, HM.out, HLEN.out], by omega, O3C.out, OC.out, APC.out, (B2.out.trans BB.out).trans BC.out⟩
                case measure => simp [intOf]; omega
      · obtain rfl : i = N := by omega
        have q1 : ¬ (i : Int) < (i : Int) := by omega
        have e3 : allK L i = L := by rw [← HNN.out]; exact allK_end L
        have e4 : sortK L i = Ordl.sortL Tb.classI L := by rw [← HNN.out]; exact sortK_end L
        have hmn : m = n := by rw [HM.out, ← allK_len, e3]; exact HN.out
        subst hmn
        have o3 := O3.out
        have o4 := O4.out
        rw [e3] at o3
        rw [e4] at o4
        have r3 := rowp_of o3 HN.out
        have cE := rsame_any p3 p c3 c L L wr (by have := HN.out; omega) (by have := HN.out; omega) r3 (HL.out.below (B1.out.trans (B2.out.mono B1.out.size)) (Nat.le_refl _))
        rw [eqT, HN.out] at cE
        have B3 := Lib.hid (B1.out.trans (B2.out.mono B1.out.size))
        have O4' := Lib.hid o4
        clear o3 o4 e3 e4 r3 O3 O4 AP B1 B2 HM
        go_wp2_with fail
        refine cE.mono ?_
        intro e wA ho
        obtain ⟨rfl, hbA⟩ := eq_open ho
        have O5 := Lib.hid (O4'.out.of_below hbA (Nat.le_refl _))
        have B4 := Lib.hid (B3.out.trans (hbA.mono B3.out.size))
        have cF := sort_any p c L wA (by have := HN.out; omega) (HL.out.below B4.out (Nat.le_refl _))
        rw [HN.out] at cF
        have lS := Ordl.sort_len (cls := Tb.classI) L
        rw [HN.out] at lS
        have LS := Lib.hid lS
        clear lS ho hbA O4' B3 cE
        generalize Ordl.sortL Tb.classI L = SL at *
        go_wp2_with fail
        refine cF.mono ?_
        intro e wB ho
        obtain ⟨pB, eB, rfl, hrB, hbB⟩ := out_open ho
        have cG := rsame_any pB p4 eB c4 SL SL wB (by have := LS.out; omega) (by have := LS.out; omega) hrB (rowp_of (O5.out.of_below hbB (Nat.le_refl _)) LS.out)
        rw [eqT, LS.out] at cG
        rw [LS.out]
        have B5 := Lib.hid (B4.out.trans (hbB.mono B4.out.size))
        clear ho hrB hbB O5 B4 cF
        go_wp2_with fail
        refine cG.mono ?_
        intro e wC ho
        obtain ⟨rfl, hbC⟩ := eq_open ho
        have B6 := Lib.hid (B5.out.trans (hbC.mono B5.out.size))
        clear ho hbC B5 cG
        go_wp2_with fail
        refine (k9 _).mono ?_
        rintro e wD ⟨rfl, hbD⟩
        go_wp2_with fail
        go_ret
        exact ⟨rfl, B6.out.trans (hbD.mono B6.out.size)⟩
end Go.Proofs.Ytahapmpohaaigaa
