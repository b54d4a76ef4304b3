/- The walks of the document's put onto nothing, of its tables and doubles. -/
import Derived.Test.YtahapmpohaaigaaTbE
import Derived.Laws.AppendOwnNone
namespace Go.Proofs.Ytahapmpohaaigaa
open Go.RowKit
open Go
set_option linter.unusedVariables false
set_option maxRecDepth 100000
theorem bdn {w a : World} {n : Nat} (h : Below n w a) (k : Nat) : Below n w (a.drewN k) := ⟨h.os, h.tape, h.output, h.size, h.block⟩
set_option maxHeartbeats 1000000 in
theorem put_nil (w : World) (p0 p1 p2 : Int) : Calls Try.prog 40 #[.slice none 0 0, .agg #[.int .i64 p0, .int .i64 p1, .int .i64 p2]] w (PutPost [(p0, p1, p2)] w) := by
  obtain ⟨i0, hi, hi0, hi1, hi2⟩ := info_parts info_pair
  go_enter Try.func40, Try.ntmps40
  go_wp2_with fail
  refine wp_loop_rounds 1 ?_
  rw [rounds_succ]
  go_wp2_with fail
  go_quiet (fail)
  go_wp2_with (first | (at_builtin; refine wpList_append_lies _ rfl (.tmp 30) (.tmp 32) _ rfl (w.heap.size + 1) 52 i0 _ 3 24 Try.underlying49 hi hi0 hi1 hi2 rfl (by omega) _ 0 [] (by rfl) (World.ownsRow_nil _ _ _ _) ⟨w.heap.size + 1, 0, none⟩ 1 1 (c3 (p0, p1, p2)) (by rfl) rfl (World.news_of_block (by simpa using heap_alloc_new ((w.alloc (.cells #[.int .i64 p0, .int .i64 p1, .int .i64 p2] 52)).drewN nq) (.cells #[.int .i64 p0, .int .i64 p1, .int .i64 p2] 52))) (c3_one _) (by omega) (by unfold maxLen; omega) (by omega) (by simp) _ rfl ?_; intro g1 cap1 w2 hown2 hgrow2 hat2 hlt2; have HO2 := Lib.hid hown2; have HG2 := Lib.hid hgrow2; clear hown2 hgrow2) | (at_builtin; refine wpList_append_own_none rfl (.tmp 34) (.tmp 37) _ rfl (w.heap.size + 1) 52 i0 3 Try.underlying49 hi _ _ _ (by rfl) HO2.out (by rfl) ?_))
  go_ret
  refine ⟨_, rfl, HO2.out, ?_⟩
  refine Below.grown (B := w.heap.size) ?_ HG2.out (by simp; omega) (fun k hk => by simp [Value.ownBlock] at hk)
  exact bbox (bdn (bbox (Below.refl _ _) _) nq) _
def marks : List Int := [768, 769, 770, 771, 772, 774, 776, 778, 780, 803, 807]
def letsL : List (List Int) := [[65, 192, 69, 200, 73, 204, 79, 210, 85, 217, 97, 224, 101, 232, 105, 236, 111, 242, 117, 249], [65, 193, 69, 201, 73, 205, 79, 211, 85, 218, 89, 221, 97, 225, 101, 233, 105, 237, 111, 243, 117, 250, 121, 253, 234, 7871, 252, 472], [65, 194, 69, 202, 73, 206, 79, 212, 85, 219, 97, 226, 101, 234, 105, 238, 111, 244, 117, 251, 7865, 7879], [65, 195, 78, 209, 79, 213, 97, 227, 110, 241, 111, 245], [252, 470], [1048, 1049, 1080, 1081], [65, 196, 69, 203, 73, 207, 79, 214, 85, 220, 97, 228, 101, 235, 105, 239, 111, 246, 117, 252, 121, 255, 1045, 1025, 1077, 1105], [65, 197, 97, 229], [67, 268, 83, 352, 90, 381, 99, 269, 115, 353, 122, 382], [101, 7865], [67, 199, 99, 231]]
def lets (i : Nat) : List Int := letsL[i]?.getD []
def mark (i : Nat) : Int := marks[i]?.getD 0
def offL : List Nat := [0, 10, 24, 35, 41, 42, 44, 57, 59, 65, 66, 68]
def off (i : Nat) : Nat := offL[i]?.getD 0
def ln (i : Nat) : Nat := (lets i).length / 2
def rowC (i : Nat) : Array Value := ((lets i).map fun x => Value.int .i64 x).toArray
def outC (b : Nat) : Array Value := #[.int .i64 768, .slice (some ⟨b, 0, none⟩) 20 20, .int .i64 769, .slice (some ⟨b + 1, 0, none⟩) 28 28, .int .i64 770, .slice (some ⟨b + 1 + 1, 0, none⟩) 22 22, .int .i64 771, .slice (some ⟨b + 1 + 1 + 1, 0, none⟩) 12 12, .int .i64 772, .slice (some ⟨b + 1 + 1 + 1 + 1, 0, none⟩) 2 2, .int .i64 774, .slice (some ⟨b + 1 + 1 + 1 + 1 + 1, 0, none⟩) 4 4, .int .i64 776, .slice (some ⟨b + 1 + 1 + 1 + 1 + 1 + 1, 0, none⟩) 26 26, .int .i64 778, .slice (some ⟨b + 1 + 1 + 1 + 1 + 1 + 1 + 1, 0, none⟩) 4 4, .int .i64 780, .slice (some ⟨b + 1 + 1 + 1 + 1 + 1 + 1 + 1 + 1, 0, none⟩) 12 12, .int .i64 803, .slice (some ⟨b + 1 + 1 + 1 + 1 + 1 + 1 + 1 + 1 + 1, 0, none⟩) 2 2, .int .i64 807, .slice (some ⟨b + 1 + 1 + 1 + 1 + 1 + 1 + 1 + 1 + 1 + 1, 0, none⟩) 4 4]
/-- The document's table as it lies in memory. -/
def TabAt (W : World) (b : Nat) : Prop := (∀ i, i < 11 → W.heap[b + i]? = some (.cells (rowC i) 3 (0, 0))) ∧ W.heap[b + 11]? = some (.cells (outC b) 58 (0, 0))
theorem TabAt.below {W W' : World} {b n : Nat} (h : TabAt W b) (hb : Below n W W') (hn : b + 12 ≤ n) : TabAt W' b := ⟨fun i hi => (hb.block _ (by omega)).trans (h.1 i hi), (hb.block _ (by omega)).trans h.2⟩
def RtabPost (w : World) (e : Ending) (w' : World) : Prop := e = .returned (.slice (some ⟨w.heap.size + 11, 0, none⟩) 11 11) ∧ TabAt w' w.heap.size ∧ w'.heap.size = w.heap.size + 12 ∧ Below w.heap.size w w'
theorem push_new (A : Array Obj) (o : Obj) (k : Nat) (h : A.size = k) : (A.push o)[k]? = some o := by
  subst h
  simp
theorem push_old (A : Array Obj) (o o' : Obj) (k : Nat) (h : A[k]? = some o) : (A.push o')[k]? = some o := by
  have := (Array.getElem?_eq_some_iff.1 h).1
  rw [Array.getElem?_push, if_neg (by omega)]
  exact h
theorem pile (w : World) (o0 o1 o2 o3 o4 o5 o6 o7 o8 o9 o10 o11 : Obj) :
    let W := (((((((((((w.alloc o0).alloc o1).alloc o2).alloc o3).alloc o4).alloc o5).alloc o6).alloc o7).alloc o8).alloc o9).alloc o10).alloc o11
    (W.heap[w.heap.size]? = some o0 ∧ W.heap[w.heap.size + 1]? = some o1 ∧ W.heap[w.heap.size + 2]? = some o2 ∧ W.heap[w.heap.size + 3]? = some o3 ∧ W.heap[w.heap.size + 4]? = some o4 ∧ W.heap[w.heap.size + 5]? = some o5 ∧
    W.heap[w.heap.size + 6]? = some o6 ∧ W.heap[w.heap.size + 7]? = some o7 ∧ W.heap[w.heap.size + 8]? = some o8 ∧ W.heap[w.heap.size + 9]? = some o9 ∧ W.heap[w.heap.size + 10]? = some o10 ∧ W.heap[w.heap.size + 11]? = some o11) ∧ W.heap.size = w.heap.size + 12 ∧ Below w.heap.size w W := by
  intro W
  have e : W.heap = (((((((((((w.heap.push o0).push o1).push o2).push o3).push o4).push o5).push o6).push o7).push o8).push o9).push o10).push o11 := rfl
  refine ⟨?_, by rw [e]; simp, ?_⟩
  · rw [e]
    refine ⟨?_, ?_, ?_, ?_, ?_, ?_, ?_, ?_, ?_, ?_, ?_, ?_⟩
    all_goals repeat' (first | (refine push_new _ _ _ ?_; simp; done) | refine push_old _ _ _ _ ?_)
  · exact bbox (bbox (bbox (bbox (bbox (bbox (bbox (bbox (bbox (bbox (bbox (bbox (Below.refl _ _) _) _) _) _) _) _) _) _) _) _) _) _
set_option maxHeartbeats 8000000 in
theorem rtable_any (w : World) : Calls Try.prog 39 #[] w (RtabPost w) := by
  go_enter Try.func39, Try.ntmps39
  go_wp2_with fail
  go_ret
  refine ⟨rfl, ?_⟩
  obtain ⟨⟨h0, h1, h2, h3, h4, h5, h6, h7, h8, h9, h10, h11⟩, hz, hB⟩ := pile w (.cells #[.int .i64 65, .int .i64 192, .int .i64 69, .int .i64 200, .int .i64 73, .int .i64 204, .int .i64 79, .int .i64 210, .int .i64 85, .int .i64 217, .int .i64 97, .int .i64 224, .int .i64 101, .int .i64 232, .int .i64 105, .int .i64 236, .int .i64 111, .int .i64 242, .int .i64 117, .int .i64 249] 3) (.cells #[.int .i64 65, .int .i64 193, .int .i64 69, .int .i64 201, .int .i64 73, .int .i64 205, .int .i64 79, .int .i64 211, .int .i64 85, .int .i64 218, .int .i64 89, .int .i64 221, .int .i64 97, .int .i64 225, .int .i64 101, .int .i64 233, .int .i64 105, .int .i64 237, .int .i64 111, .int .i64 243, .int .i64 117, .int .i64 250, .int .i64 121, .int .i64 253, .int .i64 234, .int .i64 7871, .int .i64 252, .int .i64 472] 3) (.cells #[.int .i64 65, .int .i64 194, .int .i64 69, .int .i64 202, .int .i64 73, .int .i64 206, .int .i64 79, .int .i64 212, .int .i64 85, .int .i64 219, .int .i64 97, .int .i64 226, .int .i64 101, .int .i64 234, .int .i64 105, .int .i64 238, .int .i64 111, .int .i64 244, .int .i64 117, .int .i64 251, .int .i64 7865, .int .i64 7879] 3) (.cells #[.int .i64 65, .int .i64 195, .int .i64 78, .int .i64 209, .int .i64 79, .int .i64 213, .int .i64 97, .int .i64 227, .int .i64 110, .int .i64 241, .int .i64 111, .int .i64 245] 3) (.cells #[.int .i64 252, .int .i64 470] 3) (.cells #[.int .i64 1048, .int .i64 1049, .int .i64 1080, .int .i64 1081] 3) (.cells #[.int .i64 65, .int .i64 196, .int .i64 69, .int .i64 203, .int .i64 73, .int .i64 207, .int .i64 79, .int .i64 214, .int .i64 85, .int .i64 220, .int .i64 97, .int .i64 228, .int .i64 101, .int .i64 235, .int .i64 105, .int .i64 239, .int .i64 111, .int .i64 246, .int .i64 117, .int .i64 252, .int .i64 121, .int .i64 255, .int .i64 1045, .int .i64 1025, .int .i64 1077, .int .i64 1105] 3) (.cells #[.int .i64 65, .int .i64 197, .int .i64 97, .int .i64 229] 3) (.cells #[.int .i64 67, .int .i64 268, .int .i64 83, .int .i64 352, .int .i64 90, .int .i64 381, .int .i64 99, .int .i64 269, .int .i64 115, .int .i64 353, .int .i64 122, .int .i64 382] 3) (.cells #[.int .i64 101, .int .i64 7865] 3) (.cells #[.int .i64 67, .int .i64 199, .int .i64 99, .int .i64 231] 3) (.cells (outC w.heap.size) 58)
  refine ⟨⟨fun i hi => ?_, h11⟩, hz, hB⟩
  match i, hi with
  | 0, _ => exact h0
  | 1, _ => exact h1
  | 2, _ => exact h2
  | 3, _ => exact h3
  | 4, _ => exact h4
  | 5, _ => exact h5
  | 6, _ => exact h6
  | 7, _ => exact h7
  | 8, _ => exact h8
  | 9, _ => exact h9
  | 10, _ => exact h10
  | k + 11, hk => exact absurd hk (by omega)
def dblL : List Int := [832, 768, 833, 769, 8486, 937, 8490, 75, 8491, 197]
def RdblPost (w : World) (e : Ending) (w' : World) : Prop := e = .returned (.slice (some ⟨w.heap.size, 0, none⟩) 10 10) ∧ w'.heap[w.heap.size]? = some (.cells (dblL.map fun x => Value.int .i64 x).toArray 3 (0, 0)) ∧ w'.heap.size = w.heap.size + 1 ∧ Below w.heap.size w w'
theorem rdbl_any (w : World) : Calls Try.prog 41 #[] w (RdblPost w) := by
  go_enter Try.func41, Try.ntmps41
  go_wp2_with fail
  go_ret
  exact ⟨rfl, heap_alloc_new _ _, by simp, bbox (Below.refl _ _) _⟩
def flat : List T3 := Tb.tbl.map Tb.turn
theorem flat_ok : ((List.range 11).all fun i => off (i + 1) == off i + ln i && (lets i).length == 2 * ln i && (List.range (ln i)).all fun j => flat[off i + j]? == some ((lets i)[2 * j + 1]?.getD 0, (lets i)[2 * j]?.getD 0, mark i)) = true := by kernel_rfl
theorem flat_at {i : Nat} (hi : i < 11) : off (i + 1) = off i + ln i ∧ (lets i).length = 2 * ln i ∧ ∀ j, j < ln i → flat[off i + j]? = some ((lets i)[2 * j + 1]?.getD 0, (lets i)[2 * j]?.getD 0, mark i) := by
  have := List.all_eq_true.1 flat_ok i (List.mem_range.2 hi)
  simp only [Bool.and_eq_true, beq_iff_eq, List.all_eq_true, List.mem_range] at this
  exact ⟨this.1.1, this.1.2, this.2⟩
theorem outC_at (b i : Nat) (hi : i < 11) : (outC b)[i * 2]? = some (.int .i64 (mark i)) ∧ (outC b)[i * 2 + 1]? = some (.slice (some ⟨b + i, 0, none⟩) (2 * ln i) (2 * ln i)) := by
  match i, hi with
  | 0, _ => exact ⟨rfl, rfl⟩
  | 1, _ => exact ⟨rfl, rfl⟩
  | 2, _ => exact ⟨rfl, rfl⟩
  | 3, _ => exact ⟨rfl, rfl⟩
  | 4, _ => exact ⟨rfl, rfl⟩
  | 5, _ => exact ⟨rfl, rfl⟩
  | 6, _ => exact ⟨rfl, rfl⟩
  | 7, _ => exact ⟨rfl, rfl⟩
  | 8, _ => exact ⟨rfl, rfl⟩
  | 9, _ => exact ⟨rfl, rfl⟩
  | 10, _ => exact ⟨rfl, rfl⟩
  | k + 11, hk => exact absurd hk (by omega)
theorem rowC_at (i m : Nat) (hm : m < (lets i).length) : (rowC i)[m]? = some (.int .i64 ((lets i)[m]?.getD 0)) := by
  unfold rowC
  simp [hm]
def foldP (n : Nat) : List T3 := (flat.take n).foldl putL []
theorem foldP_succ {n : Nat} {p : T3} (h : flat[n]? = some p) : foldP (n + 1) = putL (foldP n) p := by
  obtain ⟨h1, h2⟩ := List.getElem?_eq_some_iff.1 h
  unfold foldP
  rw [List.take_succ_eq_append_getElem h1, List.foldl_append, h2]
  rfl
theorem putL_len : ∀ (L : List T3) (p : T3), (putL L p).length = L.length + 1
  | [], p => rfl
  | q :: l, p => by
    unfold putL
    split
    · simp [putL_len l p]
    · simp
theorem foldP_len (n : Nat) (h : n ≤ flat.length) : (foldP n).length = n := by
  induction n with
  | zero => rfl
  | succ n ih =>
    rw [foldP_succ (List.getElem?_eq_getElem (by omega)), putL_len, ih (by omega)]
theorem flat_len : flat.length = 68 := by kernel_rfl
/-- A slice of pairs on its way. -/
def OutR (w : World) (base : Nat) (v : Value) (L : List T3) : Prop := (v = .slice none 0 0 ∧ L = []) ∨ (0 < L.length ∧ w.ownsRow base 52 3 v L.length (cells3 L))
theorem put_out {w : World} {base : Nat} {v : Value} {L : List T3} (h : OutR w base v L) (hL : L.length ≤ 1000) (p0 p1 p2 : Int) (M : List T3) (hM : putL L (p0, p1, p2) = M) : Calls Try.prog 40 #[v, .agg #[.int .i64 p0, .int .i64 p1, .int .i64 p2]] w (PutPost M w) := by
  rcases h with ⟨rfl, rfl⟩ | ⟨h1, h2⟩
  · subst hM
    exact put_nil w p0 p1 p2
  · obtain ⟨g, cap, rfl, _, h3, h4, h5⟩ := Row3.own h2 h1
    exact put_row w L g cap p0 p1 p2 h3 h4 hL h5 M hM
end Go.Proofs.Ytahapmpohaaigaa
