/- The walk of the document's Runs. -/
import Derived.Test.YtahapmpohaaigaaOtA
import Derived.Deep.RegionLaw
namespace Go.Proofs.Ytahapmpohaaigaa
open Go.RowKit Go.Shelf
open Go
set_option linter.unusedVariables false
set_option maxRecDepth 100000
/-- What the document's Runs hands over: runs in rows of their own. -/
def RrPost (L : List Int) (w : World) (e : Ending) (W' : World) : Prop := ∃ v vs, e = .returned v ∧ W'.ownsRow w.heap.size 22 1 v (rnL L).length vs ∧ RowsR W' w.heap.size vs (rnL L) ∧ Below w.heap.size w W'
theorem rn_le (L : List Int) : (rnL L).length ≤ L.length := by
  have h1 := rn_end L
  have h2 : ∀ k, k ≤ (rnL L).length → k ≤ posR L k := fun k => by
    induction k with
    | zero => intro _; exact Nat.zero_le _
    | succ k ih =>
      intro hk
      obtain ⟨x, T, _, e2, e3, _⟩ := rn_at (L := L) (k := k) (by omega)
      rw [e3, e2, List.length_cons]
      have := ih (by omega)
      omega
  have h3 := h2 _ (Nat.le_refl _)
  rw [h1] at h3
  exact h3
theorem rn_le2 {L : List Int} {Rs : List (List Int)} {R : List Int} (h : rnL L = Rs ++ [R]) : R.length ≤ L.length := by
  have h1 := Ordl.runs_join cls0 L
  have h2 : rnL L = Ordl.runsL Tb.classI L := rfl
  rw [← h2, h] at h1
  have h3 := congrArg List.length h1
  rw [List.flatten_append, List.length_append] at h3
  simp at h3
  omega
/-- One int appended to a row of one's own, as one step of a region that draws. -/
theorem step_append_own {ops : Array Oper} {o : Oper} {a : Act} {w : World} {K : Act → World → Prop} {Q : Exit → Act → World → Prop} {E : Prop}
    (hg : o.guard = none) (s x : Operand) (hop : o.op = Op.call { callee := Callee.builtin Builtin.append, args := #[s, x], argTypes := #[22, 22] })
    (base : Nat) (v : Value) (S : List Int) (hs : a.eval s = v) (hown : OwnL w base v S) (ad : Addr) (x0 : Int) (hx : a.eval x = .slice (some ad) 1 1) (hc : ∀ j u, [Value.int .i64 x0][j]? = some u → w.cell? (ad.add j) = some u) (b1 : S.length + 1 ≤ 10000000) (hb : base ≤ w.heap.size)
    (hK : ∀ v' w', OwnL w' base v' (S ++ [x0]) → w.grownBy w' v.ownBlock → (v'.ownBlock = v.ownBlock ∨ v'.ownBlock = some w.heap.size) → K (a.put o.dst v') w') :
    if Region.wanted o (yielded ops a.tmps) = true then Oper.wp Try.prog o a w K Q else E := by
  have hw : Region.wanted o (yielded ops a.tmps) = true := by simp [Region.wanted, hg]
  rw [if_pos hw]
  obtain ⟨i0, hi, hz0, hz1, hz2⟩ := info_parts infoI
  obtain ⟨v', w', hrun, h2, h3, _, h5⟩ := run_append_own_at (P := Try.prog) w base 22 o.type 3 i0 (.int .i64 0) 1 8 Try.underlying22 hi hz0 hz1 hz2 rfl (by decide) v S.length (S.map encI) hown ad 1 1 [.int .i64 x0] rfl hc (fun u hu => by rw [List.mem_singleton.1 hu]; rfl) (by unfold maxLen; omega) (by omega) hb
  unfold Oper.wp
  simp [execOp, hop, resolve, invoke, builtin, hs, hx, hrun, Result.andThen]
  exact hK _ _ (by unfold OwnL; rw [List.length_append, List.map_append]; exact h2) h3 h5
theorem row_off {W W' : World} {base n : Nat} {e : TypeId} {v : Value} {xs : List Value} {row : Option Nat} (h : W.ownsRow base e 1 v n xs) (hg : W.grownBy W' row) (ha : ∀ r, row = some r → v.ownBlock ≠ some r) : W'.ownsRow base e 1 v n xs := by
  refine ⟨h.1, ?_⟩
  rcases h.2 with h2 | ⟨g', cap', cur, hv, hb, hgg, h3⟩
  · exact Or.inl h2
  · refine Or.inr ⟨g', cap', cur, hv, hb, (hg.block g' (Array.getElem?_eq_some_iff.1 hgg).1 ?_).trans hgg, h3⟩
    intro e
    exact ha g' e.symm (by rw [hv]; rfl)
theorem row_frz {W : World} {base : Nat} {e : TypeId} {g n m cap : Nat} {xs : List Value} (h : W.ownsRow base e 1 (.slice (some ⟨g, 0, none⟩) n cap) m xs) (j : Nat) : W.frozen? ⟨g, j, none⟩ = false := by
  rcases h.2 with ⟨h3, _⟩ | ⟨g', cap', cur, hv, hb, hg, _⟩
  · cases h3
  · injection hv with hp _ _
    injection hp with hp
    injection hp with hp1
    subst hp1
    simp [World.frozen?, hg]
/-- A row of rows that has grown: nothing old has turned. -/
theorem row_grown {W W' : World} {base n : Nat} {e : TypeId} {v : Value} {k : Nat} {xs : List Value} (h : W.ownsRow base e 1 v k xs) (hg : W.grownBy W' v.ownBlock) (hn : n ≤ base) (hb : base ≤ W.heap.size) : Below n W W' :=
  (Below.refl n W).grown hg (by omega) (fun r e => by
    have := ((row_shape h).2 r e).1
    omega)
set_option maxHeartbeats 8000000 in
theorem rruns_any (p : Option Addr) (c : Nat) (L : List Int) (w : World) (hL : L.length ≤ 100000) (h : RowP w p c L) :
    Calls Try.prog 19 #[.slice p L.length c] w (RrPost L w) := by
  have H1 := Lib.hid h.2
  clear h
  obtain ⟨i0, hi0, hz0, hz1, hz2⟩ := info_parts infoSI
  obtain ⟨i1, hi1, hy0, hy1, hy2⟩ := info_parts infoI
  obtain ⟨n, hn⟩ : ∃ n, L.length = n := ⟨_, rfl⟩
  rw [hn]
  rw [hn] at hL
  have HN := Lib.hid hn
  clear hn
  have e0 : w.ownsRow w.heap.size 22 1 (.slice none 0 0) 0 [] := ⟨rfl, Or.inl ⟨rfl, rfl⟩⟩
  have HE := Lib.hid e0
  clear e0
  go_enter Try.func19, Try.ntmps19
  go_wp2_with fail
  go_loopw [3, 4] (fun v3 vi wr => ∃ (i m : Nat) (pv : Option Addr) (cv : Nat) (vs : List Value), vi = .int .i64 (i : Int) ∧ v3 = .slice pv m cv ∧ m = (rnL (L.take i)).length ∧ i ≤ n ∧ wr.ownsRow w.heap.size 22 1 (.slice pv m cv) m vs ∧ RowsR wr w.heap.size vs (rnL (L.take i)) ∧ Below w.heap.size w wr) (fun _ vi _ => n - (intOf vi).toNat)
  case atStart => exact ⟨0, 0, none, 0, [], rfl, rfl, rfl, Nat.zero_le _, HE.out, ⟨rfl, fun j u R h => by simp at h, fun j k u u' _ h => by simp at h⟩, Below.refl _ _⟩
  case round =>
    clear HE
    obtain ⟨i, m, pv, cv, vs, rfl, rfl, hm, hi, ho, hr, hb⟩ := hrel
    have HO := Lib.hid ho
    have HR := Lib.hid hr
    have HB := Lib.hid hb
    have HM := Lib.hid hm
    clear ho hr hb hm
    by_cases hlt : i < n
    · have hl1 : i < L.length := by have := HN.out; omega
      obtain ⟨g, o, rfl, hI⟩ := H1.out.resolve_left (fun e => by rw [e] at hl1; exact absurd hl1 (Nat.not_lt_zero _))
      obtain ⟨x, hx⟩ : ∃ x, L[i]? = some x := ⟨_, List.getElem?_eq_getElem hl1⟩
      have k1 := (HB.out.cell (p := ⟨g, o + i, none⟩) hI.1).trans (hI.2 i x hx)
      have q1 : (i : Int) < (n : Int) := by omega
      have hmi : m ≤ i := by
        have h1 := rn_le (L.take i)
        rw [List.length_take] at h1
        have := HM.out
        omega
      have b1 : m + 1 ≤ maxLen := by unfold maxLen; omega
      have b2 : (m + 1) * 24 ≤ 140737488355328 := by omega
      have HX := Lib.hid hx
      have cx := fun W => rclass_any x W
      have hbs := HB.out.size
      clear hI hl1 hx
      by_cases h00 : i = 0
      · have e1 := rn_new HX.out (Or.inl h00)
        have E1 := Lib.hid e1
        have qz : (i : Int) = 0 := by omega
        have QZ := Lib.hid h00
        clear e1
        have g0 := World.grownBy_alloc wr (.cells #[.int .i64 x] 3) none
        have g1 := World.grownBy_alloc (wr.alloc (.cells #[.int .i64 x] 3)) (.cells #[.slice (some ⟨wr.heap.size, 0, none⟩) 1 1] 22) none
        have hoA := row_kept (row_kept HO.out g0 (fun r e => by cases e)) g1 (fun r e => by cases e)
        have hrA := (HR.out.off g0 (fun j u r _ e => by cases e)).off g1 (fun j u r _ e => by cases e)
        have huA : OwnL ((wr.alloc (.cells #[.int .i64 x] 3)).alloc (.cells #[.slice (some ⟨wr.heap.size, 0, none⟩) 1 1] 22)) w.heap.size (.slice (some ⟨wr.heap.size, 0, none⟩) 1 1) [x] := own_off (own_base (own_one wr x) hbs) g1 (fun r e => by cases e)
        have hltA : ∀ r, (Value.slice pv m cv).ownBlock = some r → r ≠ wr.heap.size := fun r e e2 => by have := row_lt HO.out r e; omega
        have hltR := HR.out.lt
        have hnw : ∀ j u, [Value.slice (some ⟨wr.heap.size, 0, none⟩) 1 1][j]? = some u → ((wr.alloc (.cells #[.int .i64 x] 3)).alloc (.cells #[.slice (some ⟨wr.heap.size, 0, none⟩) 1 1] 22)).cell? ((⟨wr.heap.size + 1, 0, none⟩ : Addr).add j) = some u := by
          have := cell_one_new (wr.alloc (.cells #[.int .i64 x] 3)) (.slice (some ⟨wr.heap.size, 0, none⟩) 1 1) 22
          rw [World.size_alloc] at this
          exact this
        have hbA : Below w.heap.size w ((wr.alloc (.cells #[.int .i64 x] 3)).alloc (.cells #[.slice (some ⟨wr.heap.size, 0, none⟩) 1 1] 22)) := (HB.out.alloc hbs _).alloc (by simp; omega) _
        have HOA := Lib.hid hoA
        have HRA := Lib.hid hrA
        have HUA := Lib.hid huA
        have HLA := Lib.hid hltA
        have HLR := Lib.hid hltR
        have HBA := Lib.hid hbA
        have HNW := Lib.hid hnw
        clear g0 g1 hoA hrA huA hltA hltR hbA hnw
        subst h00
        rw [Nat.add_zero] at k1
        go_wp2_with (at_builtin; refine wpList_append_own_at _ rfl _ _ 30 rfl w.heap.size 22 i0 (.slice none 0 0) 1 24 Try.underlying30 hi0 hz0 hz1 hz2 rfl (by decide) (.slice pv m cv) m vs rfl HOA.out ⟨wr.heap.size + 1, 0, none⟩ 1 1 [.slice (some ⟨wr.heap.size, 0, none⟩) 1 1] rfl rfl HNW.out (by simp [Value.oneCell']) b1 b2 HBA.out.size ?_; intro v' wA hown' hgrow hnil hblk; clear hnil; obtain ⟨g', cap', rfl, hgb', hcp', hsh⟩ := row_pos hown' (Nat.succ_pos _); have HOW := Lib.hid hown'; have HG := Lib.hid hgrow; clear hown' hgrow hsh hblk)
        go_roundw
        case rel =>
          refine ⟨1, m + 1, _, _, vs ++ [.slice (some ⟨wr.heap.size, 0, none⟩) 1 1], by go_num, rfl, by rw [E1.out, List.length_append, ← HM.out]; rfl, by omega, HOW.out, ?_, HBA.out.trans (row_grown HOA.out HG.out (Nat.le_refl _) HBA.out.size)⟩
          rw [E1.out]
          exact (HRA.out.off HG.out (fun j u r h1 e => HRA.out.outer HOA.out j u r h1 e)).snoc (own_off HUA.out HG.out (fun r e e2 => by injection e2 with e2; exact HLA.out r e e2.symm)) (fun j u' h1 => ⟨fun r e e2 => by have e3 : wr.heap.size = r := Option.some.inj e; have := HLR.out j u' h1 r e2; omega, fun r e e2 => by have e3 : wr.heap.size = r := Option.some.inj e2; have := HLR.out j u' h1 r e; omega⟩)
        case measure => simp [intOf]; omega
      · have qz : ¬ (i : Int) = 0 := by omega
        by_cases hnew : Tb.classI x = 0
        · have e1 := rn_new HX.out (Or.inr hnew)
          have E1 := Lib.hid e1
          clear e1
          have g0 := World.grownBy_alloc wr (.cells #[.int .i64 x] 3) none
          have g1 := World.grownBy_alloc (wr.alloc (.cells #[.int .i64 x] 3)) (.cells #[.slice (some ⟨wr.heap.size, 0, none⟩) 1 1] 22) none
          have hoA := row_kept (row_kept HO.out g0 (fun r e => by cases e)) g1 (fun r e => by cases e)
          have hrA := (HR.out.off g0 (fun j u r _ e => by cases e)).off g1 (fun j u r _ e => by cases e)
          have huA : OwnL ((wr.alloc (.cells #[.int .i64 x] 3)).alloc (.cells #[.slice (some ⟨wr.heap.size, 0, none⟩) 1 1] 22)) w.heap.size (.slice (some ⟨wr.heap.size, 0, none⟩) 1 1) [x] := own_off (own_base (own_one wr x) hbs) g1 (fun r e => by cases e)
          have hltA : ∀ r, (Value.slice pv m cv).ownBlock = some r → r ≠ wr.heap.size := fun r e e2 => by have := row_lt HO.out r e; omega
          have hltR := HR.out.lt
          have hnw : ∀ j u, [Value.slice (some ⟨wr.heap.size, 0, none⟩) 1 1][j]? = some u → ((wr.alloc (.cells #[.int .i64 x] 3)).alloc (.cells #[.slice (some ⟨wr.heap.size, 0, none⟩) 1 1] 22)).cell? ((⟨wr.heap.size + 1, 0, none⟩ : Addr).add j) = some u := by
            have := cell_one_new (wr.alloc (.cells #[.int .i64 x] 3)) (.slice (some ⟨wr.heap.size, 0, none⟩) 1 1) 22
            rw [World.size_alloc] at this
            exact this
          have hbA : Below w.heap.size w ((wr.alloc (.cells #[.int .i64 x] 3)).alloc (.cells #[.slice (some ⟨wr.heap.size, 0, none⟩) 1 1] 22)) := (HB.out.alloc hbs _).alloc (by simp; omega) _
          have HOA := Lib.hid hoA
          have HRA := Lib.hid hrA
          have HUA := Lib.hid huA
          have HLA := Lib.hid hltA
          have HLR := Lib.hid hltR
          have HBA := Lib.hid hbA
          have HNW := Lib.hid hnw
          clear g0 g1 hoA hrA huA hltA hltR hbA hnw
          go_wp2_with fail
          refine (cx _).mono ?_
          rintro e w' ⟨rfl, rfl⟩
          go_wp2_with (at_builtin; refine wpList_append_own_at _ rfl _ _ 30 rfl w.heap.size 22 i0 (.slice none 0 0) 1 24 Try.underlying30 hi0 hz0 hz1 hz2 rfl (by decide) (.slice pv m cv) m vs rfl HOA.out ⟨wr.heap.size + 1, 0, none⟩ 1 1 [.slice (some ⟨wr.heap.size, 0, none⟩) 1 1] rfl rfl HNW.out (by simp [Value.oneCell']) b1 b2 HBA.out.size ?_; intro v' wA hown' hgrow hnil hblk; clear hnil; obtain ⟨g', cap', rfl, hgb', hcp', hsh⟩ := row_pos hown' (Nat.succ_pos _); have HOW := Lib.hid hown'; have HG := Lib.hid hgrow; clear hown' hgrow hsh hblk)
          go_roundw
          case rel =>
            refine ⟨i + 1, m + 1, _, _, vs ++ [.slice (some ⟨wr.heap.size, 0, none⟩) 1 1], by go_num, rfl, by rw [E1.out, List.length_append, ← HM.out]; rfl, by omega, HOW.out, ?_, HBA.out.trans (row_grown HOA.out HG.out (Nat.le_refl _) HBA.out.size)⟩
            rw [E1.out]
            exact (HRA.out.off HG.out (fun j u r h1 e => HRA.out.outer HOA.out j u r h1 e)).snoc (own_off HUA.out HG.out (fun r e e2 => by injection e2 with e2; exact HLA.out r e e2.symm)) (fun j u' h1 => ⟨fun r e e2 => by have e3 : wr.heap.size = r := Option.some.inj e; have := HLR.out j u' h1 r e2; omega, fun r e e2 => by have e3 : wr.heap.size = r := Option.some.inj e2; have := HLR.out j u' h1 r e; omega⟩)
          case measure => simp [intOf]; omega
        · have hi0' : 0 < i := by omega
          obtain ⟨Rs, R, eR, eR'⟩ := rn_more HX.out hi0' hnew
          have hmR : m = Rs.length + 1 := by rw [HM.out, eR]; simp
          have hr := HR.out
          rw [eR] at hr
          have hvl : vs.length = Rs.length + 1 := by have := hr.1; simpa using this
          obtain ⟨u, hu⟩ : ∃ u, vs[Rs.length]? = some u := ⟨_, List.getElem?_eq_getElem (by omega)⟩
          have hou := hr.2.1 Rs.length u R hu List.getElem?_concat_length
          obtain ⟨gq, cq, hpv, hgq, hcq, _⟩ := row_pos HO.out (by omega)
          injection hpv with hpv _ hcv
          subst hpv hcv
          have hcell := row_cell HO.out Rs.length u hu
          obtain ⟨⟨pu, cu, rfl⟩, hub⟩ := hou.shape
          have hgl : gq < wr.heap.size := row_lt HO.out gq rfl
          have hRl : R.length ≤ 100000 := by
            have h1 := rn_le2 eR
            rw [List.length_take] at h1
            omega
          obtain ⟨k, hk⟩ : ∃ k, Rs.length = k := ⟨_, rfl⟩
          obtain ⟨z, hz⟩ : ∃ z, R.length = z := ⟨_, rfl⟩
          rw [hk] at hcell hmR hvl hu
          rw [hz] at hcell hRl
          have b3 : z + 1 ≤ maxLen := by unfold maxLen; omega
          have b4 : (z + 1) * 8 ≤ 140737488355328 := by omega
          subst hmR
          have l0 : (k : Int) < (k : Int) + 1 := by omega
          have bz : ((i : Int) == 0) = false := by simpa using qz
          have bc : (Tb.classI x == 0) = false := by simpa using hnew
          rw [hz] at hou hu
          have g0 := ogb_drew (World.grownBy_alloc wr (.cells #[.int .i64 x] 3) none)
          have hoA : OwnL (wr.alloc (.cells #[.int .i64 x] 3)).drew w.heap.size (.slice pu z cu) R := own_off hou g0 (fun r e => by cases e)
          have hrA : RowsR (wr.alloc (.cells #[.int .i64 x] 3)).drew w.heap.size vs (Rs ++ [R]) := hr.off g0 (fun j u r _ e => by cases e)
          have hqA : ((wr.alloc (.cells #[.int .i64 x] 3)).drew).ownsRow w.heap.size 22 1 (.slice (some ⟨gq, 0, none⟩) (k + 1) cv) (k + 1) vs := row_off HO.out g0 (fun r e => by cases e)
          have hcA : ∀ j u, [Value.int .i64 x][j]? = some u → ((wr.alloc (.cells #[.int .i64 x] 3)).drew).cell? (Addr.add ⟨wr.heap.size, 0, none⟩ j) = some u := cell_one_new wr (.int .i64 x) 3
          have hnq : some gq ≠ (Value.slice pu z cu).ownBlock := fun e => hr.outer HO.out k _ gq hu rfl e.symm
          have hbA : Below w.heap.size w (wr.alloc (.cells #[.int .i64 x] 3)).drew := (HB.out.alloc hbs _).drew
          have hsA : w.heap.size ≤ ((wr.alloc (.cells #[.int .i64 x] 3)).drew).heap.size := hbA.size
          have hglA : gq < ((wr.alloc (.cells #[.int .i64 x] 3)).drew).heap.size := row_lt hqA gq rfl
          have hcellA := row_cell hqA k _ hu
          have hfrzA := row_frz hqA k
          have b5 : R.length + 1 ≤ 10000000 := by omega
          have HOA := Lib.hid hoA
          have HRA := Lib.hid hrA
          have HQA := Lib.hid hqA
          have HCA := Lib.hid hcA
          have HNQ := Lib.hid hnq
          have HBA := Lib.hid hbA
          have HSA := Lib.hid hsA
          have HGA := Lib.hid hglA
          have HCC := Lib.hid hcellA
          have HFF := Lib.hid hfrzA
          have HU := Lib.hid hu
          have HER' := Lib.hid eR'
          have HK := Lib.hid hk
          have HZ := Lib.hid hz
          have B5 := Lib.hid b5
          clear hou hr hu eR eR' hk hz hub hvl g0 hoA hrA hqA hcA hnq hbA hsA hglA hcellA hfrzA b5
          go_wp2_with fail
          refine (cx _).mono ?_
          rintro e w' ⟨rfl, rfl⟩
          go_wp2_with fail
          go_region_law (refine step_append_own rfl (.tmp 38) (.tmp 43) rfl w.heap.size (.slice pu z cu) R (by simp [Act.eval, Act.put]) HOA.out ⟨wr.heap.size, 0, none⟩ x (by simp [Act.eval, Act.put]) HCA.out B5.out HSA.out ?_; intro v' wA hoW hgW hblW; have hcw := (gb_cell hgW (a := ⟨gq, k, none⟩) HGA.out HNQ.out).trans HCC.out; have hfw := (gb_frozen hgW (a := ⟨gq, k, none⟩) HGA.out HNQ.out).trans HFF.out; obtain ⟨pv', cv', rfl, hrw'⟩ := hoW.rowp; clear hrw'; have HOW := Lib.hid hoW; have HG := Lib.hid hgW; have HBL := Lib.hid hblW; clear hoW hgW hblW)
          all_goals
            go_wp2_with fail
            go_roundw
            case rel =>
              have hqW := row_off HQA.out HG.out (fun r e e2 => HNQ.out ((show some gq = some r from e2).trans e.symm))
              have hu2 := HU.out
              rw [← HK.out] at hu2
              have hrW := HRA.out.last hu2 HG.out HBL.out HOW.out
              rw [HK.out, List.length_append] at hrW
              have hqS := row_set hqW k (.slice pv' (R.length + 1) cv')
              refine ⟨i + 1, k + 1, _, _, vs.set k (.slice pv' (R.length + 1) cv'), by go_num, rfl, by rw [HER'.out, List.length_append, HK.out]; rfl, by omega, hqS, ?_, ?_⟩
              · rw [HER'.out]
                exact hrW.off (ogb_set wA ⟨gq, k, none⟩ _) (fun j u r h1 e e2 => hrW.outer (v := .slice (some ⟨gq, 0, none⟩) (k + 1) cv) (n := k + 1) (xs := vs) hqW j u r h1 e e2)
              · exact (HBA.out.trans (own_grown HOA.out HG.out (Nat.le_refl _) HSA.out)).setCell hgq _
            case measure => simp [intOf]; omega
    · obtain rfl : i = n := by omega
      have q1 : ¬ (i : Int) < (i : Int) := by omega
      have e3 : L.take i = L := by rw [← HN.out]; exact List.take_length
      have ho := HO.out
      have hr := HR.out
      have hm := HM.out
      rw [e3] at hr hm
      have HO2 := Lib.hid ho
      have HR2 := Lib.hid hr
      have HM2 := Lib.hid hm
      clear ho hr hm HO HR HM
      go_wp2_with fail
      go_ret
      exact ⟨_, vs, rfl, by rw [← HM2.out]; exact HO2.out, HR2.out, HB.out⟩
end Go.Proofs.Ytahapmpohaaigaa
