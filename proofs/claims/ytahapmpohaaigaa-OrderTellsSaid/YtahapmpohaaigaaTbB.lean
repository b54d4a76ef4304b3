/- The walks of the tables' row: a mark's letters and wholes put into a map. -/
import Derived.Test.YtahapmpohaaigaaTbA
import Derived.DeepKeys4
import Derived.Laws.RangeAny
import Derived.Lib.OthersKept
namespace Go.Proofs.Ytahapmpohaaigaa
open Go.RowKit
open Go.Maps (Keyed int_keyed keyOf_int_mk)
open Go
set_option linter.unusedVariables false
def pairV (a b : Int) : Value := .agg #[.int .i64 a, .int .i64 b]
theorem kp : Keyed Try.prog 64 := Keyed.of_law (deep_law_laid laidOut (m := 2) (by omega) (of_decide_eq_true (by kernel_rfl)) (by kernel_rfl) (by rw [Try.underlying64]))
theorem ki : Keyed Try.prog 3 := int_keyed Try.underlying3
def okI (v : Value) : Bool := match v with | .int .i64 a => (Lit.int .i64 a).wf | _ => false
def okP (v : Value) : Bool := match v with | .agg cs => (match cs.toList with | [x, y] => okI x && okI y | _ => false) | _ => false
theorem two_more : ∃ n, Try.prog.types.size + 1 = n + 2 := ⟨Try.prog.types.size - 1, by have : 0 < Try.prog.types.size := of_decide_eq_true (by kernel_rfl); omega⟩
theorem cells_pair : Try.prog.cellsOf 64 = 2 := by kernel_rfl
theorem cells_int : Try.prog.cellsOf 3 = 1 := by kernel_rfl
theorem lits_pair (n : Nat) (x y : Value) : Try.prog.keyLits (n + 2) 64 [x, y] = (Try.prog.keyLits (n + 1) 3 [x]).bind fun p => (Try.prog.keyLits (n + 1) 3 [y]).map fun q => p ++ q := by
  conv => lhs; unfold Program.keyLits
  rw [Try.underlying64]
  simp only [cells_pair, cells_int, List.length_cons, List.length_nil, if_true]
  simp only [List.range, List.range.loop, List.mapM_cons, List.mapM_nil]
  simp only [Nat.zero_mul, List.drop_zero, List.take_succ_cons, List.take_zero, Nat.one_mul, List.drop_succ_cons]
  cases Try.prog.keyLits (n + 1) 3 [x] <;> cases Try.prog.keyLits (n + 1) 3 [y] <;> simp
theorem lits_int (n : Nat) (x : Value) : Try.prog.keyLits (n + 1) 3 [x] = match x with | .int q' a => if q' = .i64 ∧ (Lit.int .i64 a).wf = true then some [.int .i64 a] else none | _ => none := by
  unfold Program.keyLits
  rw [Try.underlying3]
  cases x <;> rfl
theorem lits_some {n : Nat} {x : Value} {l : List Lit} (h : Try.prog.keyLits (n + 1) 3 [x] = some l) : ∃ a, x = .int .i64 a := by
  rw [lits_int] at h
  cases x with
  | int q a =>
    simp only at h
    split at h
    · rename_i h1
      exact ⟨a, by rw [h1.1]⟩
    · cases h
  | _ => cases h
theorem keyOf_pairT (v : Value) : keyOf Try.prog 64 v = if v.formed Try.prog 64 = true then (Try.prog.keyLits (Try.prog.types.size + 1) 64 v.cells.toList).map fun ls => .string (keyBytes ls) else none := by
  have h1 : Try.prog.keyType 64 = true := by kernel_rfl
  unfold keyOf
  rw [Try.underlying64]
  simp only [h1, Bool.true_and]
theorem key_pair (a b : Int) (ha : (Lit.int .i64 a).wf = true) (hb : (Lit.int .i64 b).wf = true) : ∃ kl, keyOf Try.prog 64 (pairV a b) = some kl := by
  rw [keyOf_pairT]
  have h1 : (pairV a b).formed Try.prog 64 = true := by
    unfold pairV Value.formed
    rw [Try.underlying64]
    simp [cells_pair]
  rw [if_pos h1]
  obtain ⟨n, hn⟩ := two_more
  rw [hn]
  have h2 : (pairV a b).cells.toList = [.int .i64 a, .int .i64 b] := rfl
  rw [h2, lits_pair, lits_int, lits_int]
  simp [ha, hb]
set_option maxRecDepth 100000 in
theorem pair_key {v : Value} {kl : Lit} (h : keyOf Try.prog 64 v = some kl) : ∃ p : Int × Int, v = pairV p.1 p.2 := by
  rw [keyOf_pairT] at h
  split at h
  · rename_i hf
    unfold Value.formed at hf
    cases v <;> simp [Try.underlying64] at hf
    rename_i cs
    rw [cells_pair] at hf
    obtain ⟨l⟩ := cs
    simp at hf
    match l, hf with
    | [x, y], _ =>
      obtain ⟨n, hn⟩ := two_more
      have h2 : (Value.agg #[x, y]).cells.toList = [x, y] := rfl
      rw [hn, h2, lits_pair, Option.map_eq_some_iff] at h
      obtain ⟨_, h3, _⟩ := h
      obtain ⟨_, h4, h5⟩ := Option.bind_eq_some_iff.1 h3
      obtain ⟨_, h6, _⟩ := Option.map_eq_some_iff.1 h5
      obtain ⟨p, rfl⟩ := lits_some h4
      obtain ⟨q, rfl⟩ := lits_some h6
      exact ⟨(p, q), rfl⟩
  · cases h
theorem wf_small {a : Int} (h0 : -100000000 ≤ a) (h1 : a ≤ 100000000) : (Lit.int .i64 a).wf = true := by
  simp [Lit.wf, IntKind.min, IntKind.max, IntKind.signed, IntKind.bits]
  omega
theorem okI_small {a : Int} (h0 : -100000000 ≤ a) (h1 : a ≤ 100000000) : okI (.int .i64 a) = true := wf_small h0 h1
/-- Where a text's scalars begin. -/
def posN (s : ByteArray) : Nat → Nat
  | 0 => 0
  | i + 1 => posN s i + (Utf8.decode s (posN s i)).2
def decB (s : ByteArray) (rs : List Int) : Bool := ((List.range rs.length).all fun i => decide (posN s i < s.size) && (rs[i]?.getD 0 == ((Utf8.decode s (posN s i)).1 : Int))) && decide (¬ posN s rs.length < s.size)
theorem dec_at {s : ByteArray} {rs : List Int} (h : decB s rs = true) : (∀ i, i < rs.length → posN s i < s.size ∧ ((Utf8.decode s (posN s i)).1 : Int) = rs[i]?.getD 0) ∧ ¬ posN s rs.length < s.size := by
  unfold decB at h
  rw [Bool.and_eq_true, List.all_eq_true] at h
  refine ⟨fun i hi => ?_, of_decide_eq_true h.2⟩
  have := h.1 i (List.mem_range.2 hi)
  rw [Bool.and_eq_true] at this
  exact ⟨of_decide_eq_true this.1, (beq_iff_eq.1 this.2).symm⟩
noncomputable def rowF (f : Value → Option Value) (m : Int) (rs ws : List Int) : Nat → Value → Option Value
  | 0 => f
  | i + 1 => updF (rowF f m rs ws i) (pairV (rs[i]?.getD 0) m) (.int .i64 (ws[i]?.getD 0))
set_option maxHeartbeats 1000000 in
theorem row_any (b n g : Nat) (f : Value → Option Value) (m : Int) (s : ByteArray) (rs ws : List Int) (w : World) (hd : decB s rs = true) (hl : rs.length = ws.length) (hls : ws.length ≤ 100)
    (hm0 : 0 ≤ m) (hm1 : m ≤ 100000) (hr : ∀ i, i < rs.length → 0 ≤ rs[i]?.getD 0 ∧ rs[i]?.getD 0 ≤ 100000) (hws : ∀ i, i < ws.length → 0 ≤ ws[i]?.getD 0 ∧ ws[i]?.getD 0 ≤ 100000)
    (hg : ∀ i, i < ws.length → w.cell? ⟨g, i, none⟩ = some (.int .i64 (ws[i]?.getD 0))) (hgl : g < w.heap.size) (hgb : g ≠ b) (hn : n ≤ 100000) (h : MapF Try.prog 64 okI w b n f) :
    Calls Try.prog 48 #[.map (some b), .int .i64 m, .string s, .slice (some ⟨g, 0, none⟩) ws.length ws.length] w fun e w' => e = .returned (.tuple #[]) ∧ MapF Try.prog 64 okI w' b (n + rs.length) (rowF f m rs ws rs.length) ∧ w.grownBy w' (some b) := by
  obtain ⟨hd1, hd2⟩ := dec_at hd
  have hbl := h.lt
  have HD1 := Lib.hid hd1
  have HG := Lib.hid hg
  have HW := Lib.hid hws
  have HR := Lib.hid hr
  have HL := Lib.hid hl
  clear hd hd1 hg hws hr hl
  go_enter Try.func48, Try.ntmps48
  go_wp2
  go_loopw [8] (fun k wr => ∃ i : Nat, i ≤ rs.length ∧ k = .int .i64 i ∧ wr.heap[w.heap.size]? = some (.stringIter s (posN s i)) ∧ MapF Try.prog 64 okI wr b (n + i) (rowF f m rs ws i) ∧ w.grownBy wr (some b)) (fun k _ => rs.length - (intOf k).toNat)
  case atStart => exact ⟨0, by omega, rfl, World.iter_heap _ _ _, h.alloc _, (World.grownBy_alloc w _ none).but _⟩
  case round =>
    obtain ⟨i, hi, rfl, hit, hmap, hgr⟩ := hrel
    by_cases hlt : i < rs.length
    · obtain ⟨p1, p2⟩ := HD1.out i hlt
      have hrx := HR.out i hlt
      have hlw : i < ws.length := by rw [← HL.out]; exact hlt
      have hwx := HW.out i hlw
      have hc := HG.out i hlw
      have ilt : (i : Int) < (ws.length : Int) := by omega
      have hsz := hgr.size
      have HH : Hid (rowF f m rs ws (i + 1) = updF (rowF f m rs ws i) (pairV (rs[i]?.getD 0) m) (.int .i64 (ws[i]?.getD 0))) := rfl
      generalize rs[i]?.getD 0 = r at *
      generalize ws[i]?.getD 0 = x at *
      obtain ⟨q, hq⟩ : ∃ q : Nat, (Utf8.decode s (posN s i)).1 = q := ⟨_, rfl⟩
      obtain ⟨W1, hW1⟩ : ∃ W, wr.iterAt w.heap.size s (posN s (i + 1)) = W := ⟨_, rfl⟩
      have hnx : ∀ ty, (Instr.next (.pointer (some ⟨w.heap.size, 0, none⟩)) true ty).run Try.prog wr = .ok (.tuple #[.bool true, .int .i64 (posN s i), .int .i32 r]) W1 := fun ty => by
        rw [Lib.run_next_any_at wr w.heap.size s (posN s i) ty hit p1, ← hW1, p2]
        rfl
      have g1 := gb_iterAt wr w.heap.size s (posN s (i + 1))
      have hit1 := Lib.iterAt_heap wr w.heap.size s (posN s i) (posN s (i + 1)) hit
      rw [hW1] at g1 hit1
      have hm1' : MapF Try.prog 64 okI W1 b (n + i) (rowF f m rs ws i) := hmap.kept g1 (fun e => by cases e; omega)
      have hg1 : w.grownBy W1 (some b) := gb_new hgr g1 (Nat.le_refl _)
      have c1 : W1.cell? ⟨g, i, none⟩ = some (.int .i64 x) := (gb_cell hg1 hgl (fun e => by cases e; exact hgb rfl)).trans hc
      have hz1 := g1.size
      have hz2 : w.heap.size < W1.heap.size := (Array.getElem?_eq_some_iff.1 hit1).1
      clear hW1 g1 hit hmap p2 hq hc HG HR HW HL hgr h
      obtain ⟨kl, hkl⟩ := key_pair r m (wf_small (by omega) (by omega)) (wf_small (by omega) (by omega))
      go_wp2_with (at_mapUpdate; refine wpList_store_f _ rfl _ _ _ 66 rfl 64 3 kp Try.underlying66 okI b (n + i) _ rfl hm1' (by unfold maxLen; omega) _ _ kl rfl rfl hkl (okI_small (by omega) (by omega)) ?_; intro w2 hmap2 hturn2)
      go_roundw
      case rel =>
        refine ⟨i + 1, by omega, by go_num, (hturn2.grown.block _ (by omega) (fun e => by cases e; omega)).trans hit1, ?_, gb_same hg1 hturn2.grown⟩
        rw [HH.out]
        exact hmap2
      case measure => simp [intOf]; omega
    · obtain rfl : i = rs.length := by omega
      have hnx : ∀ ty, (Instr.next (.pointer (some ⟨w.heap.size, 0, none⟩)) true ty).run Try.prog wr = _ := fun ty => Lib.run_next_end_at wr w.heap.size s (posN s rs.length) ty hit hd2
      clear HD1 HG HW HR HL h
      go_wp2
      go_end0
      exact ⟨rfl, hmap, hgr⟩
end Go.Proofs.Ytahapmpohaaigaa
