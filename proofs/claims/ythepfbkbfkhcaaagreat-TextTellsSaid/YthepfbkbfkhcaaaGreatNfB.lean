/- The iterator over the scalars' parts: its contract. The walk of the iterator over the scalars' parts. -/
import Derived.Test.YthepfbkbfkhcaaaGreatRf
import Derived.Test.YthepfbkbfkhcaaaGreatNf
import Derived.Test.YthepfbkbfkhcaaaGreatOsN
namespace Go.Proofs.YthepfbkbfkhcaaaGreat
open Go.RowKit Go.Shelf
open Go
set_option linter.unusedVariables false
set_option maxRecDepth 100000
attribute [local go_sem] Oper.semAt_some
/-- The block that the slice in cell X owns. -/
def ownQ (X : Nat) (W : World) (q : Nat) : Prop := ∃ v, W.cell? ⟨X, 0, none⟩ = some v ∧ v.ownBlock = some q
structure KpQ (X : Nat) (W W' : World) : Prop where
  size : W.heap.size ≤ W'.heap.size
  same : ∀ a v, W.cell? a = some v → a.block ≠ X → ¬ ownQ X W a.block → W'.heap[a.block]? = W.heap[a.block]?
  new : ∀ q, ownQ X W' q → (ownQ X W q ∨ W.heap.size ≤ q)
  lt : (∀ q, ownQ X W q → q < W.heap.size) → ∀ q, ownQ X W' q → q < W'.heap.size
theorem KpQ.trans {X : Nat} {A B C : World} (h : KpQ X A B) (k : KpQ X B C) : KpQ X A C := by
  refine ⟨Nat.le_trans h.size k.size, fun a v ha hx hn => ?_, fun q hq => ?_, fun hl => k.lt (h.lt hl)⟩
  · have h1 := h.same a v ha hx hn
    have h2 : B.cell? a = some v := (World.cell?_of_block h1).trans ha
    refine (k.same a v h2 hx (fun ho => ?_)).trans h1
    rcases h.new _ ho with h3 | h3
    · exact hn h3
    · have := World.block_lt_of_cell? _ _ ha
      omega
  · rcases k.new q hq with h1 | h1
    · exact h.new q h1
    · exact Or.inr (Nat.le_trans h.size h1)
theorem cell_none {W : World} {a : Addr} {o : Obj} (h : W.heap[a.block]? = some o) (hc : o.isCells = false) : W.cell? a = none := by
  unfold World.cell?
  rw [h]
  cases o <;> first | rfl | (simp [Obj.isCells] at hc)
theorem ownQ_put {X l : Nat} {W : World} (o' : Obj) (h : l ≠ X) (q : Nat) : ownQ X (W.putObj l o') q ↔ ownQ X W q := by
  have : (W.putObj l o').cell? ⟨X, 0, none⟩ = W.cell? ⟨X, 0, none⟩ := World.cell?_of_block (World.putObj_heap_other (by simpa using h.symm))
  unfold ownQ
  rw [this]
theorem KpQ.put {X l : Nat} {W : World} {o o' : Obj} (h : l ≠ X) (hl : W.heap[l]? = some o) (hc : o.isCells = false) : KpQ X W (W.putObj l o') := by
  have hz : (W.putObj l o').heap.size = W.heap.size := by
    have := (grownBy_putObj' W l o').size
    unfold World.putObj
    simp
  refine ⟨by omega, fun a v ha hx _ => ?_, fun q hq => Or.inl ((ownQ_put o' h q).1 hq), fun hlt q hq => by rw [hz]; exact hlt q ((ownQ_put o' h q).1 hq)⟩
  by_cases e : a.block = l
  · rw [cell_none (e ▸ hl) hc] at ha
    cases ha
  · exact World.putObj_heap_other e
def dR (L : List Int) (k : Nat) : Int := (Tb.dec L).getD k 0
def encD (L : List Int) (k : Nat) : Array Value := #[.int .i64 (dR L k)]
def posD (L : List Int) (i : Nat) : Nat := (Tb.dec (L.take i)).length
theorem posD_succ {L : List Int} {i : Nat} (h : i < L.length) : posD L (i + 1) = posD L i + (Tb.parts L[i]).length := by
  unfold posD
  rw [dec_snoc L i L[i] (List.getElem?_eq_getElem h), List.length_append]
theorem dec_get {L : List Int} {i j : Nat} (h : i < L.length) (hj : j < (Tb.parts L[i]).length) : dR L (posD L i + j) = (Tb.parts L[i])[j] ∧ posD L i + j < (Tb.dec L).length := by
  have e : Tb.dec L = Tb.dec (L.take i) ++ (Tb.parts L[i] ++ Tb.dec (L.drop (i + 1))) := by
    rw [← Tb.dec_cons, ← Tb.dec_app, ← List.drop_eq_getElem_cons h, List.take_append_drop]
  unfold posD dR
  rw [e]
  constructor
  · rw [List.getD_eq_getElem?_getD, List.getElem?_append_right (by omega), Nat.add_sub_cancel_left, List.getElem?_append_left hj, List.getElem?_eq_getElem hj]
    rfl
  · simp only [List.length_append]
    omega
theorem posD_end (L : List Int) : posD L L.length = (Tb.dec L).length := by unfold posD; rw [List.take_length]
theorem below_grown {W W' : World} (h : Below W.heap.size W W') : W.grownBy W' none := ⟨h.os, h.tape, h.output, h.size, fun k hk _ => h.block k hk⟩
theorem parts_any (p : Option Addr) (n c : Nat) (w : World) : Calls Tryz.prog 50 #[.slice p n c] w fun e w' => e = .returned (.func (.func 67) #[] #[.pointer (some ⟨w.heap.size, 0, none⟩)]) ∧ w' = w.alloc (.cells #[.slice p n c] 49) := by
  go_enter Tryz.func50, Tryz.ntmps50
  go_wp2
  go_ret
  exact ⟨rfl, rfl⟩
/-- What the iterator carries between two rounds. -/
def PtW (X b g o : Nat) (p : Option Addr) (c : Nat) (L : List Int) (n0 : Nat) (wr : World) : Prop :=
  wr.cell? ⟨b, 0, none⟩ = some (.slice p L.length c) ∧ (∀ i (h : i < L.length), p = some ⟨g, o, none⟩ ∧ wr.cell? ⟨g, o + i, none⟩ = some (.int .i64 L[i])) ∧ (∀ q, ownQ X wr q → n0 ≤ q ∧ q < wr.heap.size) ∧ n0 ≤ wr.heap.size
theorem PtW.step {X b g o c n0 : Nat} {p : Option Addr} {L : List Int} {W W' : World} (h : PtW X b g o p c L n0 W) (hb : b < n0) (hbX : b ≠ X) (hg : g < n0) (hgX : g ≠ X) (hk : KpQ X W W') : PtW X b g o p c L n0 W' := by
  obtain ⟨h1, h2, h3, h4⟩ := h
  refine ⟨?_, fun i hi => ⟨(h2 i hi).1, ?_⟩, fun q hq => ⟨?_, hk.lt (fun q hq => (h3 q hq).2) q hq⟩, Nat.le_trans h4 hk.size⟩
  · exact (World.cell?_of_block (hk.same ⟨b, 0, none⟩ _ h1 hbX (fun ho => by have := (h3 _ ho).1; simp only at this; omega))).trans h1
  · exact (World.cell?_of_block (hk.same ⟨g, o + i, none⟩ _ (h2 i hi).2 hgX (fun ho => by have := (h3 _ ho).1; simp only at this; omega))).trans (h2 i hi).2
  · rcases hk.new q hq with h | h
    · exact (h3 q h).1
    · omega
theorem PtW.below {X b g o c n0 : Nat} {p : Option Addr} {L : List Int} {W W' : World} (h : PtW X b g o p c L n0 W) (hX : X < n0) (hb : b < n0) (hg : g < n0) (hbl : Below W.heap.size W W') : PtW X b g o p c L n0 W' := by
  obtain ⟨h1, h2, h3, h4⟩ := h
  refine ⟨(hbl.cell (p := ⟨b, 0, none⟩) (by show b < W.heap.size; omega)).trans h1, fun i hi => ⟨(h2 i hi).1, (hbl.cell (p := ⟨g, o + i, none⟩) (by show g < W.heap.size; omega)).trans (h2 i hi).2⟩, fun q ⟨v, hc, hv⟩ => ?_, Nat.le_trans h4 hbl.size⟩
  rw [hbl.cell (p := ⟨X, 0, none⟩) (by show X < W.heap.size; omega)] at hc
  have := h3 q ⟨v, hc, hv⟩
  have := hbl.size
  omega
end Go.Proofs.YthepfbkbfkhcaaaGreat
namespace Go.Proofs.YthepfbkbfkhcaaaGreat
open Go.RowKit Go.Shelf
open Go
set_option linter.unusedVariables false
set_option maxRecDepth 100000
attribute [local go_sem] Oper.semAt_some
theorem parts_len (r : Int) : (Tb.parts r).length ≤ 32 := by
  have := (Tb.dec_len [r]).2
  rw [Tb.dec_one] at this
  simpa using this
/-- A row of parts that no other owns. -/
def PRow (X : Nat) (pv : Option Addr) (K : List Int) (W : World) : Prop := ∀ j (h : j < K.length), ∃ gp, pv = some ⟨gp, 0, none⟩ ∧ W.cell? ⟨gp, j, none⟩ = some (.int .i64 K[j]) ∧ gp ≠ X ∧ ¬ ownQ X W gp
theorem PRow.step {X : Nat} {pv : Option Addr} {K : List Int} {W W' : World} (h : PRow X pv K W) (hk : KpQ X W W') : PRow X pv K W' := by
  intro j hj
  obtain ⟨gp, e, hc, hx, hn⟩ := h j hj
  refine ⟨gp, e, (World.cell?_of_block (hk.same ⟨gp, j, none⟩ _ hc hx hn)).trans hc, hx, fun ho => ?_⟩
  rcases hk.new gp ho with h1 | h1
  · exact hn h1
  · have : gp < W.heap.size := World.block_lt_of_cell? _ _ hc
    omega
theorem PRow.made {X : Nat} {pv : Option Addr} {n cv : Nat} {K : List Int} {W W' : World} (hX : X < W.heap.size) (hlt : ∀ q, ownQ X W q → q < W.heap.size) (h : OwnL W' W.heap.size (.slice pv n cv) K) (hb : Below W.heap.size W W') : PRow X pv K W' := by
  intro j hj
  rcases h.2 with ⟨_, hn⟩ | ⟨gp, cap, cur, hv, hB, hg, _⟩
  · omega
  · injection hv with e1 e2 e3
    subst e1
    refine ⟨gp, rfl, ?_, by omega, fun ⟨v, hc, hv⟩ => ?_⟩
    · have := World.ownsRow.cells (g := gp) h rfl j (.int .i64 K[j]) (by rw [List.getElem?_map, List.getElem?_eq_getElem hj]; rfl)
      rw [Go.WideShapes.add_plain, Nat.zero_add] at this
      exact this
    · rw [hb.cell (p := ⟨X, 0, none⟩) hX] at hc
      have := hlt gp ⟨v, hc, hv⟩
      omega
set_option maxHeartbeats 8000000 in
theorem parts1_in (X b g o c : Nat) (p : Option Addr) (L : List Int) (hL : L.length ≤ 100000) (h64 : All64 L) (w : World) (hX : X < w.heap.size) (hc0 : w.cell? ⟨X, 0, none⟩ = some (.slice none 0 0))
    (hbX : b ≠ X) (hgX : g ≠ X) (hg : g < w.heap.size) (hlc : L.length ≤ c) (hb : w.cell? ⟨b, 0, none⟩ = some (.slice p L.length c)) (hI : ∀ i (h : i < L.length), p = some ⟨g, o, none⟩ ∧ w.cell? ⟨g, o + i, none⟩ = some (.int .i64 L[i])) :
    SeqN Fence.wide 5 Tryz.prog 67 #[.pointer (some ⟨b, 0, none⟩)] (encD L) (KpQ X) none (Tb.dec L).length w := by
  intro l J Jx W hW hJ hJx hY h0
  have hbl : b < w.heap.size := World.block_lt_of_cell? _ _ hb
  have hP0 : PtW X b g o p c L w.heap.size W := ⟨(hW.cell (p := ⟨b, 0, none⟩) hbl).trans hb, fun i hi => ⟨(hI i hi).1, (hW.cell (p := ⟨g, o + i, none⟩) hg).trans (hI i hi).2⟩, (fun q hq => by
    obtain ⟨v, hc, hv⟩ := hq
    rw [hW.cell (p := ⟨X, 0, none⟩) hX, hc0] at hc
    cases hc
    cases hv), hW.size⟩
  have HP0 := Lib.hid hP0
  have hb1 := hP0.1
  have H64 := Lib.hid h64
  have HY := Lib.hid hY
  clear hI h64 hb hc0 hP0 hY
  obtain ⟨n, hn⟩ : ∃ n, L.length = n := ⟨_, rfl⟩
  rw [hn] at hb1 hL hlc
  have HN := Lib.hid hn
  clear hn
  refine callsIn_of_wp Tryz.func67 rfl trivial ?_ rfl
  simp only [Tryz.ntmps67, List.size_toArray, List.length_cons, List.length_nil, Nat.reduceAdd, Nat.reduceSub, Array.replicate_succ, Array.replicate_zero, List.push_toArray, List.append_toArray, List.nil_append, List.cons_append]
  gi_wp2_with fail
  gi_loopw [9] (fun i9 wr => ∃ i : Nat, i ≤ n ∧ i9 = .int .i64 (i : Int) ∧ J (posD L i) wr ∧ Hid (PtW X b g o p c L w.heap.size wr)) (fun i9 _ => n - (intOf i9).toNat)
  case atStart => exact ⟨0, Nat.zero_le _, rfl, h0, HP0⟩
  case round =>
    obtain ⟨i, hi, rfl, hJi, HP⟩ := hrel
    by_cases hlt : i < n
    · have hil : i < L.length := by rw [HN.out]; exact hlt
      obtain ⟨hp, hci⟩ := HP.out.2.1 i hil
      have c1 := pparts_any L[i] wr (H64.out _ (List.getElem_mem hil))
      have HD : Hid (∀ j (hj : j < (Tb.parts L[i]).length), dR L (posD L i + j) = (Tb.parts L[i])[j] ∧ posD L i + j < (Tb.dec L).length) := Lib.hid (fun j hj => dec_get hil hj)
      have HS := Lib.hid (posD_succ hil)
      have hpl := parts_len L[i]
      have ii : (i : Int) < (n : Int) := by omega
      have HPP := Lib.hid hp
      subst hp
      generalize L[i] = r at *
      generalize hK : Tb.parts r = K at *
      have HJ := Lib.hid hJi
      clear hJi h0 hb1 HP0
      gi_wp2_with fail
      refine ⟨trivial, ?_⟩
      gi_at_call 68
      refine (callsIn_wide.2 c1).mono ?_
      rintro e' w1 ⟨v1, rfl, hO1, hbl1⟩
      obtain ⟨⟨pv, cv, rfl⟩, -⟩ := row_shape hO1
      have HR := Lib.hid (PRow.made (X := X) (by have := HP.out.2.2.2; omega) (fun q hq => (HP.out.2.2.1 q hq).2) hO1 hbl1)
      have HP1 := Lib.hid (HP.out.below hX hbl hg hbl1)
      have HJ1 := Lib.hid (hJ _ _ _ none HJ.out (below_grown hbl1) (fun r e => by cases e))
      clear hO1 hbl1 hci c1
      gi_wp2_with fail
      obtain ⟨m, hm⟩ : ∃ m, K.length = m := ⟨_, rfl⟩
      have HM := Lib.hid hm
      rw [hm] at hpl
      rw [hm]
      clear hm
      gi_loopw [16] (fun j16 wq => ∃ j : Nat, j ≤ m ∧ j16 = .int .i64 (j : Int) ∧ J (posD L i + j) wq ∧ Hid (PtW X b g o (some ⟨g, o, none⟩) c L w.heap.size wq) ∧ Hid (PRow X pv K wq)) (fun j16 _ => m - (intOf j16).toNat)
      case atStart => exact ⟨0, Nat.zero_le _, rfl, HJ1.out, HP1, HR⟩
      case round =>
        obtain ⟨j, hj, rfl, hJj, HP2, HR2⟩ := hrel
        clear HP1 HR HJ1
        by_cases hjm : j < m
        · have hjK : j < K.length := by rw [HM.out]; exact hjm
          obtain ⟨gp, hpv, hcj, -, -⟩ := HR2.out j hjK
          obtain ⟨hd1, hd2⟩ := HD.out j hjK
          obtain ⟨fn, tmps, assign, body, hy, hRd⟩ := HY.out _ _ hd2 hJj
          unfold encD at hy
          rw [hd1] at hy
          have jm : (j : Int) < (m : Int) := by omega
          have HQ := Lib.hid hd2
          have HPV := Lib.hid hpv
          subst hpv
          clear hd1 hd2 hJj
          generalize K[j] = y at *
          gi_wp2_with fail
          refine hRd.mono ?_
          rintro e W' (⟨rfl, hJ', hkp⟩ | ⟨rfl, hJx'⟩)
          · have HP3 := Lib.hid (HP2.out.step hbl hbX hg hgX hkp)
            have HR3 := Lib.hid (HR2.out.step hkp)
            have HJ3 := Lib.hid hJ'
            clear hJ' hkp hRd hy hcj HP2 HR2
            gi_wp2_with fail
            go_roundw
            case rel => exact ⟨j + 1, by omega, by go_num, HJ3.out, HP3, HR3⟩
            case measure => simp [intOf]; omega
          · gi_wp2_with fail
            refine bodyPost_ret (results_none rfl _ _ _) rfl ?_
            exact ⟨⟨_, rfl⟩, Or.inr ⟨_, HQ.out, hJx'⟩⟩
        · obtain rfl : j = m := by omega
          have HJ2 := Lib.hid hJj
          clear hJj
          gi_wp2_with fail
          go_roundw
          case rel => exact ⟨i + 1, by omega, by go_num, by rw [HS.out, HM.out]; exact HJ2.out, HP2⟩
          case measure => simp [intOf]; omega
    · obtain rfl : i = n := by omega
      have hJn : J (Tb.dec L).length wr := by rw [← posD_end, HN.out]; exact hJi
      have HJ := Lib.hid hJn
      clear hJi hJn h0 HP0
      gi_wp2_with fail
      go_end0
      exact ⟨⟨_, rfl⟩, Or.inl HJ.out⟩
end Go.Proofs.YthepfbkbfkhcaaaGreat
