/- The walks of text: space, Trim. The iterator over a text's words: its contract. The walk of text.One. -/
import Derived.Test.YthepfbkbfkhcaaaGreatTy
import Derived.Test.YthepfbkbfkhcaaaGreatUtE
import Derived.Laws.Strings
import Derived.Test.YthepfbkbfkhcaaaGreatUtC
import Derived.Test.YthepfbkbfkhcaaaGreatUtG
import Derived.Test.YthepfbkbfkhcaaaGreatBld
namespace Ut
open Go
theorem bsL_extract (s : ByteArray) (a b : Nat) : bsL (s.extract a b) = ((bsL s).drop a).take (b - a) := by
  unfold bsL
  rw [ByteArray.data_extract, Array.toList_extract, List.extract_eq_take_drop, List.map_take, List.map_drop]
theorem bsL_nil {s : ByteArray} (h : s.size = 0) : bsL s = [] := List.eq_nil_of_length_eq_zero (by rw [bsL_len]; exact h)
theorem toList_of (t : ByteArray) : t.toList.isEmpty = decide (t.size = 0) := by
  rw [ByteArray.toList_eq]
  have h : t.data.toList.length = t.size := by rw [Array.length_toList]; rfl
  cases e : t.data.toList with
  | nil =>
    rw [e] at h
    have h0 : t.size = 0 := h.symm
    rw [decide_eq_true h0]
    rfl
  | cons x l =>
    rw [e, List.length_cons] at h
    have h0 : ¬ t.size = 0 := by omega
    rw [decide_eq_false h0]
    rfl
theorem toList_nil {t : ByteArray} (h : t.size = 0) : t.toList = [] := by
  have := toList_of t
  rw [h] at this
  simpa using this
theorem toList_ne {t : ByteArray} (h : ¬ t.size = 0) : ¬ t.toList = [] := fun e => by
  have h2 : t.toList.isEmpty = true := by rw [e]; rfl
  rw [toList_of] at h2
  exact h (of_decide_eq_true h2)
end Ut
namespace Go.Proofs.YthepfbkbfkhcaaaGreat
open Go.RowKit
open Go
set_option linter.unusedVariables false
set_option maxRecDepth 100000
def TOut (t : ByteArray) (w : World) (e : Ending) (w' : World) : Prop := e = .returned (.string t) ∧ w = w'
theorem white_ok : ((List.range 64).all fun c => (bits BinOp.and IntKind.u64 ((4294977024 : Int) / 2 ^ c) 1 == 1) == Tx.wsN c) = true := by kernel_rfl
theorem tspace_any (c : Nat) (hc : c < 256) (w : World) : Calls Tryz.prog 21 #[.int .u8 (c : Int)] w fun e w' => e = .returned (.bool (Tx.wsN c)) ∧ w = w' := by
  by_cases h : c < 64
  · have i1 : (c : Int) < 64 := by omega
    have hk : (bits BinOp.and IntKind.u64 ((4294977024 : Int) / 2 ^ c) 1 == 1) = Tx.wsN c := by
      have := List.all_eq_true.1 white_ok c (List.mem_range.2 h)
      simpa using this
    go_enter Tryz.func21, Tryz.ntmps21
    go_wp2
    go_ret
    exact ⟨by rw [← hk]; rfl, rfl⟩
  · have i1 : ¬ (c : Int) < 64 := by omega
    have e : Tx.wsN c = false := by unfold Tx.wsN; simp; omega
    rw [e]
    go_enter Tryz.func21, Tryz.ntmps21
    go_wp2
    go_ret
    exact ⟨rfl, rfl⟩
theorem ttrim_any (s : ByteArray) (hs : s.size ≤ 100000) (w : World) : Calls Tryz.prog 5 #[.string s] w (TOut (Ut.mk (Tx.trim Tx.wsN (Ut.bsL s))) w) := by
  have C := tspace_any
  go_enter Tryz.func5, Tryz.ntmps5
  go_wp2_with fail
  go_loop [0] (fun sv => ∃ t : ByteArray, sv = .string t ∧ t.size ≤ s.size ∧ Hid (Tx.lt Tx.wsN (Ut.bsL t) = Tx.lt Tx.wsN (Ut.bsL s))) (fun sv => match sv with | .string t => t.size | _ => 0)
  case atStart => exact ⟨s, rfl, Nat.le_refl _, Lib.hid rfl⟩
  case round =>
    obtain ⟨t, rfl, ht, HT⟩ := hrel
    have second : ∀ t : ByteArray, True := fun _ => trivial
    clear second
    by_cases hz : t.size = 0
    · have z1 := Ut.toList_nil hz
      have hfin : Hid (t = Ut.mk (Tx.trim Tx.wsN (Ut.bsL s))) := Lib.hid (by
        unfold Tx.trim
        rw [← HT.out, Ut.bsL_nil hz]
        show t = Ut.mk []
        exact Ut.bsL_inj (by rw [Ut.bsL_nil hz, Ut.mk_bytes (by simp)]))
      clear HT
      go_wp2_with fail
      go_loop [0] (fun sv => sv = .string t) (fun _ => 0)
      case atStart => rfl
      case round =>
        subst hrel
        go_wp2_with fail
        go_ret
        exact ⟨by rw [← hfin.out]; rfl, rfl⟩
    · have z1 := Ut.toList_ne hz
      have z2 : t.toList.isEmpty = false := by rw [Ut.toList_of]; simp [hz]
      have hlt : 0 < t.size := by omega
      have hc := Sm.B_lt t 0
      have hidx : ((t[0]'hlt).toNat : Int) = (Sm.B t 0 : Int) := by rw [Sm.B_at t 0 hlt]
      have hd := Ut.bsL_drop t 0 hlt
      rw [List.drop_zero] at hd
      have c1 := fun w => C (Sm.B t 0) hc w
      generalize Sm.B t 0 = c at *
      have HD := Lib.hid hd
      clear hd
      cases hw : Tx.wsN c with
      | true =>
        rw [hw] at c1
        have HT2 : Hid (Tx.lt Tx.wsN (Ut.bsL (t.extract 1 t.size)) = Tx.lt Tx.wsN (Ut.bsL s)) := Lib.hid (by
          rw [← HT.out, HD.out, Tx.lt_ws hw, Ut.bsL_extract, List.take_of_length_le (by rw [List.length_drop, Ut.bsL_len]; exact Nat.le_refl _)])
        have hsz : (t.extract 1 t.size).size = t.size - 1 := by simp
        have i1 : (1 : Int) ≤ (t.size : Int) := by omega
        go_wp2_with (go_at_call 21; refine (c1 _).mono ?_; rintro e w1 ⟨rfl, rfl⟩)
        go_round
        case rel => exact ⟨_, rfl, by omega, HT2⟩
        case measure => simp; omega
      | false =>
        rw [hw] at c1
        have h0 : Hid (Tx.rt Tx.wsN (Ut.bsL t) = Tx.trim Tx.wsN (Ut.bsL s)) := Lib.hid (by
          unfold Tx.trim
          rw [← HT.out, HD.out, Tx.lt_cons hw])
        clear HT
        go_wp2_with (go_at_call 21; refine (c1 _).mono ?_; rintro e w1 ⟨rfl, rfl⟩)
        go_loop [0] (fun sv => ∃ t : ByteArray, sv = .string t ∧ t.size ≤ s.size ∧ Hid (Tx.rt Tx.wsN (Ut.bsL t) = Tx.trim Tx.wsN (Ut.bsL s))) (fun sv => match sv with | .string t => t.size | _ => 0)
        case atStart => exact ⟨t, rfl, ht, h0⟩
        case round =>
          clear hz z1 z2 hlt hidx HD h0 ht c1
          obtain ⟨t, rfl, ht, HT⟩ := hrel
          by_cases hz : t.size = 0
          · have z1 := Ut.toList_nil hz
            have hfin : Hid (t = Ut.mk (Tx.trim Tx.wsN (Ut.bsL s))) := Lib.hid (by
              rw [← HT.out, Ut.bsL_nil hz]
              show t = Ut.mk []
              exact Ut.bsL_inj (by rw [Ut.bsL_nil hz, Ut.mk_bytes (by simp)]))
            clear HT
            go_wp2_with fail
            go_ret
            exact ⟨by rw [← hfin.out]; rfl, rfl⟩
          · have z1 := Ut.toList_ne hz
            have z2 : t.toList.isEmpty = false := by rw [Ut.toList_of]; simp [hz]
            obtain ⟨m, hm⟩ : ∃ m, t.size = m + 1 := ⟨t.size - 1, by omega⟩
            have hlt : m < t.size := by omega
            have hc := Sm.B_lt t m
            have hidx : ((t[m]'hlt).toNat : Int) = (Sm.B t m : Int) := by rw [Sm.B_at t m hlt]
            have hd := Ut.bsL_drop t m hlt
            have hsp : Ut.bsL t = (Ut.bsL t).take m ++ [Sm.B t m] := by
              have h1 := (List.take_append_drop m (Ut.bsL t)).symm
              rw [hd, List.drop_eq_nil_of_le (by rw [Ut.bsL_len]; omega)] at h1
              exact h1
            have c2 := fun w => C (Sm.B t m) hc w
            generalize Sm.B t m = d at *
            have HSP := Lib.hid hsp
            clear hsp hd
            have i1 : (t.size : Int) - 1 = (m : Int) := by omega
            have i2 : (m : Int) < (t.size : Int) := by omega
            have i3 : (0 : Int) ≤ (m : Int) := by omega
            have i4 : (m : Int) ≤ (t.size : Int) := by omega
            have i5 : IntKind.i64.wrap ((t.size : Int) - 1) = (m : Int) := by rw [IntKind.wrap_i64]; omega
            cases hw2 : Tx.wsN d with
            | true =>
              rw [hw2] at c2
              have HT2 : Hid (Tx.rt Tx.wsN (Ut.bsL (t.extract 0 m)) = Tx.trim Tx.wsN (Ut.bsL s)) := Lib.hid (by
                rw [← HT.out]
                conv => rhs; rw [HSP.out]
                rw [Tx.rt_snoc, hw2, if_pos rfl, Ut.bsL_extract, List.drop_zero, Nat.sub_zero])
              have hsz : (t.extract 0 m).size = m := by simp; omega
              clear HSP HT
              go_wp2_with (go_at_call 21; refine (c2 _).mono ?_; rintro e w1 ⟨rfl, rfl⟩)
              go_round
              case rel => exact ⟨_, rfl, by omega, HT2⟩
              case measure => simp; omega
            | false =>
              rw [hw2] at c2
              have hfin : Hid (t = Ut.mk (Tx.trim Tx.wsN (Ut.bsL s))) := Lib.hid (by
                rw [← HT.out]
                conv => rhs; rw [HSP.out]
                rw [Tx.rt_snoc, hw2, if_neg (by simp), ← HSP.out, Ut.mk_of])
              clear HSP HT
              go_wp2_with (go_at_call 21; refine (c2 _).mono ?_; rintro e w1 ⟨rfl, rfl⟩)
              go_ret
              exact ⟨by rw [← hfin.out]; rfl, rfl⟩
end Go.Proofs.YthepfbkbfkhcaaaGreat
namespace Go.Proofs.YthepfbkbfkhcaaaGreat
open Go.RowKit Go.Shelf
open Go
set_option linter.unusedVariables false
set_option maxRecDepth 100000
attribute [local go_sem] Oper.semAt_some
def wdsL (s : ByteArray) : List (List Nat) := Tx.words Tx.wsN (Ut.bsL s)
def wdB (s : ByteArray) (k : Nat) : ByteArray := Ut.mk ((wdsL s)[k]?.getD [])
def encW (s : ByteArray) (k : Nat) : Array Value := #[.string (wdB s k)]
def curL (s : ByteArray) (f i : Nat) : List Nat := ((Ut.bsL s).take i).drop f
theorem cur_len (s : ByteArray) {f i : Nat} (h2 : i ≤ s.size) : (curL s f i).length = i - f := by
  unfold curL
  rw [List.length_drop, List.length_take, Ut.bsL_len]
  omega
theorem cur_nil (s : ByteArray) {f i : Nat} (h : i ≤ f) : curL s f i = [] := by
  unfold curL
  apply List.drop_eq_nil_of_le
  rw [List.length_take]
  omega
theorem cur_more (s : ByteArray) {f i : Nat} (h : f ≤ i) (h2 : i < s.size) : curL s f (i + 1) = curL s f i ++ [Sm.B s i] := by
  unfold curL
  have h3 : i < (Ut.bsL s).length := by rw [Ut.bsL_len]; exact h2
  have e : (Ut.bsL s)[i] = Sm.B s i := by
    have := Ut.bsL_get s i h2
    rw [List.getElem?_eq_getElem h3] at this
    exact Option.some.inj this
  rw [List.take_succ_eq_append_getElem h3, e, List.drop_append_of_le_length (by rw [List.length_take]; omega)]
theorem cur_extract (s : ByteArray) (f i : Nat) : s.extract f i = Ut.mk (curL s f i) := by
  apply Ut.bsL_inj
  have hb : ∀ b ∈ curL s f i, b < 256 := fun b hb => Ut.bsL_lt s b (List.mem_of_mem_take (List.mem_of_mem_drop hb))
  rw [Ut.mk_bytes hb, Ut.bsL_extract]
  unfold curL
  rw [List.drop_take]
/-- How far the words have come: k are told, from f to i the word under way. -/
def WAt (s : ByteArray) (k f i : Nat) : Prop := (wdsL s).drop k = Tx.wgo Tx.wsN ((Ut.bsL s).drop i) (curL s f i)
theorem wat_start (s : ByteArray) : WAt s 0 0 0 := rfl
theorem wat_go {s : ByteArray} {k f i : Nat} (h : WAt s k f i) (hf : f ≤ i) (hi : i < s.size) (hw : Tx.wsN (Sm.B s i) = false) : WAt s k f (i + 1) := by
  unfold WAt at *
  rw [h, Ut.bsL_drop s i hi]
  show (if Tx.wsN (Sm.B s i) then _ else _) = _
  rw [hw, if_neg (by simp), cur_more s hf hi]
theorem wat_skip {s : ByteArray} {k i : Nat} (h : WAt s k i i) (hi : i < s.size) (hw : Tx.wsN (Sm.B s i) = true) : WAt s k (i + 1) (i + 1) := by
  unfold WAt at *
  rw [h, Ut.bsL_drop s i hi, cur_nil s (Nat.le_refl i), cur_nil s (Nat.le_refl (i + 1))]
  show (if Tx.wsN (Sm.B s i) then _ else _) = _
  rw [hw, if_pos rfl]
  rfl
theorem wat_word {s : ByteArray} {k f i : Nat} (h : WAt s k f i) (hf : f < i) (hi : i < s.size) (hw : Tx.wsN (Sm.B s i) = true) : k < (wdsL s).length ∧ wdB s k = s.extract f i ∧ WAt s (k + 1) (i + 1) (i + 1) := by
  unfold WAt at h
  rw [Ut.bsL_drop s i hi] at h
  have h2 : (wdsL s).drop k = Tx.one1 (curL s f i) ++ Tx.wgo Tx.wsN ((Ut.bsL s).drop (i + 1)) [] := by
    rw [h]
    show (if Tx.wsN (Sm.B s i) then _ else _) = _
    rw [hw, if_pos rfl]
  have hne : curL s f i ≠ [] := fun e => by
    have := cur_len s (f := f) (Nat.le_of_lt hi)
    rw [e] at this
    simp at this
    omega
  rw [Tx.one1_ne hne] at h2
  have hk : k < (wdsL s).length := by
    apply Classical.byContradiction
    intro hn
    rw [List.drop_eq_nil_of_le (by omega)] at h2
    simp at h2
  rw [List.drop_eq_getElem_cons hk] at h2
  injection h2 with h3 h4
  refine ⟨hk, ?_, ?_⟩
  · unfold wdB
    rw [List.getElem?_eq_getElem hk, h3, cur_extract]
    rfl
  · unfold WAt
    rw [h4, cur_nil s (Nat.le_refl _)]
    rfl
theorem wat_last {s : ByteArray} {k f : Nat} (h : WAt s k f s.size) (hf : f < s.size) : k + 1 = (wdsL s).length ∧ wdB s k = s.extract f s.size := by
  unfold WAt at h
  have hdn : (Ut.bsL s).drop s.size = [] := List.drop_eq_nil_of_le (by rw [Ut.bsL_len]; exact Nat.le_refl _)
  rw [hdn] at h
  have hne : curL s f s.size ≠ [] := fun e => by
    have := cur_len s (f := f) (Nat.le_refl s.size)
    rw [e] at this
    simp at this
    omega
  have h2 : (wdsL s).drop k = [curL s f s.size] := by rw [h]; exact Tx.one1_ne hne
  have hk : k < (wdsL s).length := by
    apply Classical.byContradiction
    intro hn
    rw [List.drop_eq_nil_of_le (by omega)] at h2
    simp at h2
  have hl := congrArg List.length h2
  rw [List.length_drop] at hl
  simp at hl
  rw [List.drop_eq_getElem_cons hk] at h2
  injection h2 with h3 h4
  refine ⟨by omega, ?_⟩
  unfold wdB
  rw [List.getElem?_eq_getElem hk, h3, cur_extract]
  rfl
theorem wat_none {s : ByteArray} {k f : Nat} (h : WAt s k f s.size) (hf : s.size ≤ f) (hk : k ≤ (wdsL s).length) : k = (wdsL s).length := by
  unfold WAt at h
  have hdn : (Ut.bsL s).drop s.size = [] := List.drop_eq_nil_of_le (by rw [Ut.bsL_len]; exact Nat.le_refl _)
  rw [hdn, cur_nil s hf] at h
  have h2 : (wdsL s).drop k = [] := h
  have := congrArg List.length h2
  rw [List.length_drop] at this
  simp at this
  omega
theorem wwords_any (s : ByteArray) (w : World) : Calls Tryz.prog 23 #[.string s] w fun e w' => e = .returned (.func (.func 35) #[] #[.pointer (some ⟨w.heap.size, 0, none⟩)]) ∧ w' = w.alloc (.cells #[.string s] 9) := by
  go_enter Tryz.func23, Tryz.ntmps23
  go_wp2
  go_ret
  exact ⟨rfl, rfl⟩
set_option maxHeartbeats 4000000 in
theorem words1_in (b : Nat) (s : ByteArray) (hs : s.size ≤ 1000000) (w : World) (hb : w.cell? ⟨b, 0, none⟩ = some (.string s)) :
    SeqN Fence.wide 5 Tryz.prog 35 #[.pointer (some ⟨b, 0, none⟩)] (encW s) (KpB b) none (wdsL s).length w := by
  intro l J Jx W hW hJ hJx hY h0
  have hbl : b < w.heap.size := World.block_lt_of_cell? _ _ hb
  have hb1 := (hW.cell (p := ⟨b, 0, none⟩) hbl).trans hb
  refine callsIn_of_wp Tryz.func35 rfl trivial ?_ rfl
  simp only [Tryz.ntmps35, List.size_toArray, List.length_cons, List.length_nil, Nat.reduceAdd, Nat.reduceSub, Array.replicate_succ, Array.replicate_zero, List.push_toArray, List.append_toArray, List.nil_append, List.cons_append]
  gi_wp2_with fail
  gi_loopw [3, 7] (fun s2 s3 wr => ∃ k f i : Nat, k ≤ (wdsL s).length ∧ f ≤ i ∧ i ≤ s.size ∧ s2 = .int .i64 (f : Int) ∧ s3 = .int .i64 (i : Int) ∧ J k wr ∧ wr.cell? ⟨b, 0, none⟩ = some (.string s) ∧ Hid (WAt s k f i)) (fun _ s3 _ => s.size - (intOf s3).toNat)
  case atStart => exact ⟨0, 0, 0, Nat.zero_le _, Nat.le_refl _, Nat.zero_le _, rfl, rfl, h0, hb1, Lib.hid (wat_start s)⟩
  case round =>
    obtain ⟨k, f, i, hk, hfi, hi, rfl, rfl, hJk, hc, HW⟩ := hrel
    by_cases hlt : i < s.size
    · have ii : (i : Int) < (s.size : Int) := by omega
      have i0 : (0 : Int) ≤ (i : Int) := by omega
      have iw : IntKind.i64.wrap ((i : Int) + 1) = (i : Int) + 1 := by rw [IntKind.wrap_i64]; omega
      have hidx : ((s[i]'hlt).toNat : Int) = (Sm.B s i : Int) := by rw [Sm.B_at s i hlt]
      have c1 := tspace_any (Sm.B s i) (Sm.B_lt s i) wr
      cases hw : Tx.wsN (Sm.B s i) with
      | false =>
        have HW2 := Lib.hid (wat_go HW.out hfi hlt hw)
        rw [hw] at c1
        have HJ := Lib.hid hJk
        have HY := Lib.hid hY
        clear hw hJk hY h0 hb1 HW
        generalize Sm.B s i = c at *
        gi_wp2_with (refine ⟨trivial, ?_⟩; gi_at_call 21; refine (callsIn_wide.2 c1).mono ?_; rintro e' w' ⟨rfl, rfl⟩)
        go_roundw
        case rel => exact ⟨k, f, i + 1, hk, by omega, by omega, rfl, by go_num, HJ.out, hc, HW2⟩
        case measure => simp [intOf]; omega
      | true =>
        by_cases hf : f < i
        · obtain ⟨hkl, hwd, hw2⟩ := wat_word HW.out hf hlt hw
          have HW2 := Lib.hid hw2
          have HK := Lib.hid hkl
          obtain ⟨fn, tmps, assign, body, hy, hR⟩ := hY k wr hkl hJk
          unfold encW at hy
          rw [hwd] at hy
          rw [hw] at c1
          have HY := Lib.hid hY
          have fi : (f : Int) < (i : Int) := by omega
          have fi2 : (f : Int) ≤ (i : Int) := by omega
          have fi3 : (i : Int) ≤ (s.size : Int) := by omega
          have fi0 : (0 : Int) ≤ (f : Int) := by omega
          clear hw hwd hw2 hkl hY h0 hb1 HW hk hJk
          generalize Sm.B s i = c at *
          gi_wp2_with (refine ⟨trivial, ?_⟩; gi_at_call 21; refine (callsIn_wide.2 c1).mono ?_; rintro e' w' ⟨rfl, rfl⟩)
          refine hR.mono ?_
          rintro e W' (⟨rfl, hJ', hkp⟩ | ⟨rfl, hJx'⟩)
          · have hkp2 : W'.heap[b]? = wr.heap[b]? := hkp
            have hc2 : W'.cell? ⟨b, 0, none⟩ = some (.string s) := (World.cell?_of_block hkp2).trans hc
            have HJ := Lib.hid hJ'
            clear hJ' hkp hkp2 hc hR hy c1
            gi_wp2_with fail
            go_roundw
            case rel => exact ⟨k + 1, i + 1, i + 1, HK.out, by omega, by omega, by go_num, by go_num, HJ.out, hc2, HW2⟩
            case measure => simp [intOf]; omega
          · gi_wp2_with fail
            refine bodyPost_ret (results_none rfl _ _ _) rfl ?_
            exact ⟨⟨_, rfl⟩, Or.inr ⟨k + 1, HK.out, hJx'⟩⟩
        · obtain rfl : f = i := by omega
          have HW2 := Lib.hid (wat_skip HW.out hlt hw)
          rw [hw] at c1
          have HJ := Lib.hid hJk
          have HY := Lib.hid hY
          have fi : ¬ (f : Int) < (f : Int) := by omega
          clear hw hJk hY h0 hb1 HW
          generalize Sm.B s f = c at *
          gi_wp2_with (refine ⟨trivial, ?_⟩; gi_at_call 21; refine (callsIn_wide.2 c1).mono ?_; rintro e' w' ⟨rfl, rfl⟩)
          refine ⟨(fun _ hh => by cases hh), ?_⟩
          gi_wp2_with fail
          go_roundw
          case rel => exact ⟨k, f + 1, f + 1, hk, by omega, by omega, by go_num, by go_num, HJ.out, hc, HW2⟩
          case measure => simp [intOf]; omega
    · obtain rfl : i = s.size := by omega
      have q1 : ¬ (s.size : Int) < (s.size : Int) := by omega
      by_cases hf : f < s.size
      · obtain ⟨hkl, hwd⟩ := wat_last HW.out hf
        obtain ⟨fn, tmps, assign, body, hy, hR⟩ := hY k wr (by omega) hJk
        unfold encW at hy
        rw [hwd] at hy
        have fi : (f : Int) < (s.size : Int) := by omega
        have fi2 : (f : Int) ≤ (s.size : Int) := by omega
        have fi0 : (0 : Int) ≤ (f : Int) := by omega
        have HK := Lib.hid hkl
        clear hwd hkl hY h0 hb1 HW hk hJk
        gi_wp2_with fail
        refine hR.mono ?_
        rintro e W' (⟨rfl, hJ', hkp⟩ | ⟨rfl, hJx'⟩)
        · have HJ := Lib.hid hJ'
          clear hJ' hkp hc hR hy
          gi_wp2_with fail
          go_end0
          exact ⟨⟨_, rfl⟩, Or.inl (by rw [← HK.out]; exact HJ.out)⟩
        · gi_wp2_with fail
          go_end0
          exact ⟨⟨_, rfl⟩, Or.inr ⟨k + 1, by rw [HK.out]; exact Nat.le_refl _, hJx'⟩⟩
      · have hkl := wat_none HW.out (by omega) hk
        have fi : ¬ (f : Int) < (s.size : Int) := by omega
        subst hkl
        have HJ := Lib.hid hJk
        clear hJk hY h0 hb1 HW
        gi_wp2_with fail
        go_end0
        exact ⟨⟨_, rfl⟩, Or.inl HJ.out⟩
end Go.Proofs.YthepfbkbfkhcaaaGreat
namespace Go.Proofs.YthepfbkbfkhcaaaGreat
open Go.RowKit Go.Shelf
open Go
set_option linter.unusedVariables false
set_option maxRecDepth 100000
attribute [local go_sem] Oper.semAt_some
theorem bld_kept {T e : TypeId} {B b : Nat} {bs : List Value} {W W' : World} {row : Option Nat} (h : Lib.IsBuilderF T e B b bs W) (hg : W.grownBy W' row) (hr : ∀ r, row = some r → ∃ o : Obj, W.heap[r]? = some o ∧ o.isCells = false) : Lib.IsBuilderF T e B b bs W' := by
  have one : ∀ p, Lib.BuilderAtF T e B b p bs W → Lib.BuilderAtF T e B b p bs W' := fun p ⟨hB, v, hb, ho, hn⟩ => by
    refine ⟨hB, v, (hg.block b (Array.getElem?_eq_some_iff.1 hb).1 (fun ee => ?_)).trans hb, ho.kept hg ?_, hn⟩
    · obtain ⟨o, h1, h2⟩ := hr b ee.symm
      rw [hb] at h1
      cases h1
      cases h2
    · rcases ho.2 with ⟨rfl, _⟩ | ⟨g, cap, cur, fz, rfl, _, hgg, _⟩
      · exact Or.inl rfl
      · refine Or.inr (fun ee => ?_)
        obtain ⟨o, h1, h2⟩ := hr g ee.symm
        rw [hgg] at h1
        cases h1
        cases h2
  exact h.elim (fun x => .inl (one _ x)) (fun x => .inr (one _ x))
theorem kept_others {b : Nat} {W W' : World} {cs : Array Value} {T : TypeId} {fz : Nat × Nat} (h : Lib.OthersKept 5 (some b) W W') (hb : W.heap[b]? = some (.cells cs T fz)) (hs : W.heap.size ≤ W'.heap.size) : KeepsOthers W W' := by
  refine ⟨hs, fun k o hk ho => h k o hk (fun e => ?_) (fun c f e => ?_)⟩
  · cases e
    rw [hb] at hk
    cases hk
    cases ho
  · subst e
    cases ho
def preB (s : ByteArray) (k : Nat) : ByteArray := Ut.mk (Tx.joinW 32 ((wdsL s).take k))
def OneI (w : World) (s : ByteArray) (k : Nat) (W : World) : Prop := Lib.IsBuilderF 31 5 w.heap.size w.heap.size (Lib.strCells (preB s k)) W ∧ W.heap[w.heap.size + 1]? = some (.cells #[.string s] 9 (0, 0)) ∧ Below w.heap.size w W ∧ w.heap.size + 2 ≤ W.heap.size
theorem OneI.own {w : World} {s : ByteArray} {B : Nat} (hB : w.heap.size + 2 ≤ B) : OwN B none (OneI w s) := by
  rintro k W W' row ⟨h1, h2, h3, h4⟩ hg hr
  have hr2 : ∀ r, row = some r → ∃ o : Obj, W.heap[r]? = some o ∧ o.isCells = false := fun r e => by
    rcases hr r e with h | ⟨_, h⟩
    · rw [e] at h; cases h
    · exact h
  have hr3 : ∀ r, row = some r → w.heap.size + 2 ≤ r := fun r e => by
    rcases hr r e with h | ⟨h, _⟩
    · rw [e] at h; cases h
    · omega
  exact ⟨bld_kept h1 hg hr2, (hg.block _ (by omega) (fun e => by have := hr3 _ e.symm; omega)).trans h2, h3.grown hg (by omega) (fun r e => by have := hr3 r e; omega), Nat.le_trans h4 hg.size⟩
theorem wds_good (s : ByteArray) : Tx.GoodW Tx.wsN (wdsL s) := Tx.words_good _
theorem join_snoc (ws : List (List Nat)) (u : List Nat) (h : ws ≠ []) : Tx.joinW 32 (ws ++ [u]) = Tx.joinW 32 ws ++ 32 :: u := by
  induction ws with
  | nil => exact absurd rfl h
  | cons a t ih =>
    cases t with
    | nil => rfl
    | cons b t =>
      show a ++ 32 :: Tx.joinW 32 ((b :: t) ++ [u]) = _
      rw [ih (by simp)]
      show _ = (a ++ 32 :: Tx.joinW 32 (b :: t)) ++ 32 :: u
      simp
theorem pre_zero (s : ByteArray) : preB s 0 = ⟨#[]⟩ := rfl
theorem take_len {s : ByteArray} {k : Nat} (hk : k < (wdsL s).length) : (wdsL s).take (k + 1) = (wdsL s).take k ++ [(wdsL s)[k]?.getD []] := by
  rw [List.take_succ_eq_append_getElem hk, List.getElem?_eq_getElem hk]
  rfl
theorem take_ne {s : ByteArray} {k : Nat} (hk : 0 < k ∧ 0 < (wdsL s).length) : (wdsL s).take k ≠ [] := fun e => by
  have h := congrArg List.length e
  rw [List.length_take, List.length_nil] at h
  omega
theorem pre_first {s : ByteArray} (hk : 0 < (wdsL s).length) : preB s 1 = wdB s 0 := by
  unfold preB wdB
  rw [take_len hk]
  rfl
theorem pre_next {s : ByteArray} {k : Nat} (hk : k < (wdsL s).length) (h0 : 0 < k) : preB s (k + 1) = preB s k ++ Ut.mk [32] ++ wdB s k := by
  unfold preB wdB
  rw [take_len hk, join_snoc _ _ (take_ne ⟨h0, by omega⟩), Ut.mk_app, show (32 :: (wdsL s)[k]?.getD []) = [32] ++ (wdsL s)[k]?.getD [] from rfl, Ut.mk_app, ← ByteArray.append_assoc]
theorem pre_pos {s : ByteArray} {k : Nat} (hk : k ≤ (wdsL s).length) (h0 : 0 < k) : 0 < (preB s k).size := by
  unfold preB
  rw [Ut.mk_size]
  have := Tx.join_ne (sp := 32) ((wdsL s).take k) (fun u hu => wds_good s u (List.mem_of_mem_take hu)) (take_ne ⟨h0, by omega⟩)
  exact List.length_pos_iff.2 this
theorem pre_all (s : ByteArray) : preB s (wdsL s).length = Ut.mk (Tx.oneP Tx.wsN 32 (Ut.bsL s)) := by
  unfold preB
  rw [List.take_length]
  rfl
def tot (ws : List (List Nat)) : Nat := (ws.map fun u => u.length + 1).sum
theorem tot_app (a b : List (List Nat)) : tot (a ++ b) = tot a + tot b := by simp [tot]
theorem tot_cons (a : List Nat) (l : List (List Nat)) : tot (a :: l) = a.length + 1 + tot l := by simp [tot]
theorem tot_one1 (cur : List Nat) : tot (Tx.one1 cur) ≤ cur.length + 1 := by
  cases cur with
  | nil => simp [Tx.one1_nil, tot]
  | cons x t => rw [Tx.one1_ne (by simp)]; simp [tot]
theorem tot_wgo : ∀ (t cur : List Nat), tot (Tx.wgo Tx.wsN t cur) ≤ t.length + cur.length + 1
  | [], cur => by
    have := tot_one1 cur
    show tot (Tx.one1 cur) ≤ _
    simp; omega
  | x :: t, cur => by
    show tot (if Tx.wsN x then Tx.one1 cur ++ Tx.wgo Tx.wsN t [] else Tx.wgo Tx.wsN t (cur ++ [x])) ≤ _
    have h1 := tot_one1 cur
    have h2 := tot_wgo t []
    have h3 := tot_wgo t (cur ++ [x])
    rw [List.length_append] at h3
    simp only [List.length_cons, List.length_nil] at h2 h3 ⊢
    split
    · rw [tot_app]; omega
    · omega
theorem join_le : ∀ ws : List (List Nat), (Tx.joinW 32 ws).length ≤ tot ws
  | [] => Nat.zero_le _
  | [a] => by show a.length ≤ _; simp [tot]
  | a :: b :: t => by
    have := join_le (b :: t)
    show (a ++ 32 :: Tx.joinW 32 (b :: t)).length ≤ tot (a :: b :: t)
    rw [List.length_append, List.length_cons]
    have e : tot (a :: b :: t) = a.length + 1 + tot (b :: t) := by simp [tot]
    omega
theorem tot_wds (s : ByteArray) : tot (wdsL s) ≤ s.size + 1 := by
  have := tot_wgo (Ut.bsL s) []
  rw [Ut.bsL_len] at this
  exact this
theorem pre_le (s : ByteArray) (k : Nat) : (preB s k).size ≤ s.size + 1 := by
  unfold preB
  rw [Ut.mk_size]
  have h1 := join_le ((wdsL s).take k)
  have h2 := tot_wds s
  have h3 : tot (wdsL s) = tot ((wdsL s).take k) + tot ((wdsL s).drop k) := by rw [← tot_app, List.take_append_drop]
  omega
theorem wd_le {s : ByteArray} {k : Nat} (hk : k < (wdsL s).length) : (wdB s k).size ≤ s.size + 1 := by
  unfold wdB
  rw [Ut.mk_size, List.getElem?_eq_getElem hk]
  have h2 := tot_wds s
  have h3 : tot (wdsL s) = tot ((wdsL s).take k) + tot ((wdsL s).drop k) := by rw [← tot_app, List.take_append_drop]
  rw [List.drop_eq_getElem_cons hk] at h3
  rw [tot_cons] at h3
  show (wdsL s)[k].length ≤ _
  omega
theorem str_cells_byte : Lib.strCells (Ut.mk [32]) = [.int .u8 32] := rfl
theorem bld_block {T e : TypeId} {B b : Nat} {bs : List Value} {W : World} (h : Lib.IsBuilderF T e B b bs W) : ∃ cs fz, W.heap[b]? = some (.cells cs T fz) := by
  rcases h with ⟨_, v, hb, _⟩ | ⟨_, v, hb, _⟩ <;> exact ⟨_, _, hb⟩
set_option maxHeartbeats 8000000 in
theorem tone_any (s : ByteArray) (hs : s.size ≤ 100000) (w : World) : Calls Tryz.prog 7 #[.string s] w (fun e w' => e = .returned (.string (Ut.mk (Tx.oneP Tx.wsN 32 (Ut.bsL s)))) ∧ Below w.heap.size w w') := by
  refine (callsIn_wide (n := 6)).1 ?_
  refine callsIn_of_wp_marks Tryz.func7 rfl trivial ?_ rfl
  simp only [Tryz.ntmps7, List.size_toArray, List.length_cons, List.length_nil, Nat.reduceAdd, Nat.reduceSub, Array.replicate_succ, Array.replicate_zero, List.push_toArray, List.append_toArray, List.nil_append, List.cons_append]
  gi_wp2_with (refine ⟨trivial, ?_⟩; gi_at_call 23; refine (callsIn_wide.2 (wwords_any _ _)).mono ?_; rintro e w' ⟨rfl, rfl⟩)
  have hB0 : Below w.heap.size w ((w.alloc (.cells #[.pointer none, .slice none 0 0] 31)).alloc (.cells #[.string s] 9)) := ((Below.refl _ w).alloc (Nat.le_refl _) _).alloc (by simp) _
  have hb1 : ((w.alloc (.cells #[.pointer none, .slice none 0 0] 31)).alloc (.cells #[.string s] 9)).cell? ⟨w.heap.size + 1, 0, none⟩ = some (.string s) := by simp [go_sem]
  have hk1 : ((w.alloc (.cells #[.pointer none, .slice none 0 0] 31)).alloc (.cells #[.string s] 9)).heap[w.heap.size + 1]? = some (.cells #[.string s] 9 (0, 0)) := by
    have := World.alloc_heap_new (w.alloc (.cells #[.pointer none, .slice none 0 0] 31)) (.cells #[.string s] 9)
    rw [World.size_alloc] at this
    exact this
  have hbl : Lib.IsBuilderF 31 5 w.heap.size w.heap.size [] ((w.alloc (.cells #[.pointer none, .slice none 0 0] 31)).alloc (.cells #[.string s] 9)) :=
    Lib.IsBuilderF.alloc (.inl ⟨Nat.le_refl _, .slice none 0 0, World.alloc_heap_new w _, World.ownsRowF_nil _ _ _ _, by simp [Value.ownBlock]⟩) _
  have hs0 : ((w.alloc (.cells #[.pointer none, .slice none 0 0] 31)).alloc (.cells #[.string s] 9)).heap.size = w.heap.size + 2 := by simp
  generalize (w.alloc (.cells #[.pointer none, .slice none 0 0] 31)).alloc (.cells #[.string s] 9) = W0 at *
  refine wpIn_rangeFunc_N rfl (by omega) (gf := 35) (lb := #[.pointer (some ⟨w.heap.size + 1, 0, none⟩)]) rfl trivial (enters_of Tryz.func35 (by kernel_rfl) rfl)
    (words1_in (w.heap.size + 1) s (by omega) W0 hb1) (fun b e => by cases e)
    (fun h k => k.trans h) (fun W l o o' hl _ _ _ => World.putObj_heap_other (by omega)) (Below.refl _ _) (fun _ => rfl)
    (OneI w s) (fun _ _ _ => False) (OneI.own (by omega)) (fun c k W W' row h _ _ => h.elim) ⟨hbl, hk1, hB0, by omega⟩
    (fun k => { tmps := #[.string s, undef, .string ⟨#[]⟩, .pointer (some ⟨w.heap.size, 0, none⟩), .string (wdB s k), .string s, .func (.func 35) #[] #[.pointer (some ⟨w.heap.size + 1, 0, none⟩)], .string (wdB s k), undef, undef, undef, undef, undef, undef], defers := [] }) ?assign ?body ?done ?stop
  case assign =>
    intro l k W K _ hK
    unfold encW
    gi_wp2
    exact hK
  case body =>
    rintro l k W ⟨h1, h2, h3, h4⟩ hk
    obtain ⟨cs, fz, hblk⟩ := bld_block h1
    have cl := Tryz.bld_len w.heap.size w.heap.size (Lib.strCells (preB s k)) W h1
    rw [Lib.strCells_length] at cl
    have hle := pre_le s k
    have hwl := wd_le hk
    have hslen : (Lib.strCells (preB s k)).length = (preB s k).size := Lib.strCells_length _
    have fin : ∀ W2 : World, Lib.IsBuilderF 31 5 w.heap.size w.heap.size (Lib.strCells (preB s (k + 1))) W2 → Below w.heap.size W W2 → Lib.OthersKept 5 (some w.heap.size) W W2 → KeepsFrom W0.heap.size W W2 ∧ KpB (w.heap.size + 1) W W2 ∧ OneI w s (k + 1) W2 := fun W2 g1 g2 g3 => by
      have e2 := g3 (w.heap.size + 1) _ h2 (fun e => by injection e with e; omega) (fun c f e => by injection e with _ e _; exact absurd e (by decide))
      exact ⟨(kept_others g3 hblk g2.size).from _, e2.trans h2.symm, g1, e2, h3.trans g2, Nat.le_trans h4 g2.size⟩
    have FIN := Lib.hid fin
    have hW : w.heap.size ≤ W.heap.size := h3.size
    by_cases h0 : k = 0
    · subst h0
      have e1 : (preB s 0).size = 0 := rfl
      have cs1 := Tryz.bld_str w.heap.size w.heap.size (Lib.strCells (preB s 0)) (wdB s 0) W h1 (by rw [hslen]; omega) hW
      have hpre : Lib.strCells (preB s 0) ++ Lib.strCells (wdB s 0) = Lib.strCells (preB s 1) := by rw [pre_first hk]; rfl
      rw [hpre] at cs1
      rw [e1] at cl
      clear hpre fin h1 h2 h3
      generalize wdB s 0 = wd at *
      gi_wp2_with (first | (refine ⟨trivial, ?_⟩; gi_at_call 24; refine (callsIn_wide.2 cl).mono ?_; rintro e w' ⟨rfl, rfl⟩) | (refine ⟨trivial, ?_⟩; gi_at_call 26; refine (callsIn_wide.2 cs1).mono ?_; rintro e W2 ⟨rfl, hb2, hB2, hO2⟩))
      exact FIN.out W2 (Or.inr hb2) hB2 hO2
    · have hp := pre_pos (Nat.le_of_lt hk) (Nat.pos_of_ne_zero h0)
      have hpi : (0 : Int) < ((preB s k).size : Int) := by omega
      have cb := Tryz.bld_byte w.heap.size w.heap.size (Lib.strCells (preB s k)) 32 W h1 (by rw [hslen]; omega) hW
      have cs1 : ∀ W1 : World, Lib.BuilderAtF 31 5 w.heap.size w.heap.size (.pointer (some ⟨w.heap.size, 0, none⟩)) (Lib.strCells (preB s k) ++ [.int .u8 32]) W1 → w.heap.size ≤ W1.heap.size → Calls Tryz.prog 26 #[.pointer (some ⟨w.heap.size, 0, none⟩), .string (wdB s k)] W1 (fun e w' => e = .returned (.tuple #[.int .i64 (wdB s k).size, .nilIface]) ∧ (Lib.BuilderAtF 31 5 w.heap.size w.heap.size (.pointer (some ⟨w.heap.size, 0, none⟩)) (Lib.strCells (preB s (k + 1))) w' ∧ Below w.heap.size W1 w' ∧ Lib.OthersKept 5 (some w.heap.size) W1 w')) := fun W1 g1 g2 => by
        have := Tryz.bld_str w.heap.size w.heap.size (Lib.strCells (preB s k) ++ [.int .u8 32]) (wdB s k) W1 (Or.inr g1) (by rw [List.length_append, hslen]; simp; omega) g2
        rw [pre_next hk (Nat.pos_of_ne_zero h0), str_app, str_app, str_cells_byte]
        exact this
      have CS := Lib.hid cs1
      clear fin h1 h2 h3 hslen cs1 hle hp
      generalize (preB s k).size = z at *
      gi_wp2_with (first | (refine ⟨trivial, ?_⟩; gi_at_call 24; refine (callsIn_wide.2 cl).mono ?_; rintro e w' ⟨rfl, rfl⟩) | (refine ⟨trivial, ?_⟩; gi_at_call 25; refine (callsIn_wide.2 cb).mono ?_; rintro e W1 ⟨rfl, hb1', hB1, hO1⟩; have cs2 := CS.out W1 hb1' (Nat.le_trans hW hB1.size)) | (refine ⟨trivial, ?_⟩; gi_at_call 26; refine (callsIn_wide.2 cs2).mono ?_; rintro e W2 ⟨rfl, hb2, hB2, hO2⟩))
      exact FIN.out W2 (Or.inr hb2) (hB1.trans hB2) (hO1.trans hO2)
  case done =>
    rintro D W hD ⟨h1, h2, h3, h4⟩ hK
    rw [pre_all] at h1
    obtain ⟨t, hte⟩ : ∃ t, Ut.mk (Tx.oneP Tx.wsN 32 (Ut.bsL s)) = t := ⟨_, rfl⟩
    rw [hte] at h1
    have HTE := Lib.hid hte
    clear hte
    have co := Tryz.bld_out w.heap.size w.heap.size t.data.toList W h1 h3.size
    have ht : (⟨t.data.toList.toArray⟩ : ByteArray) = t := by rw [Array.toArray_toList]
    rw [ht] at co
    clear h1 h2
    gi_wp2_with (refine ⟨trivial, ?_⟩; gi_at_call 27; refine (callsIn_wide.2 co).mono ?_; rintro e W2 ⟨rfl, hb2, hB2, hO2⟩)
    have hK' : W2.heap[D]? = some (.deferred (some [])) := hO2 D _ hK (fun e => by injection e with e; omega) (fun c f e => by cases e)
    refine ⟨by simp, .inl ⟨_, _, rfl, run_takeDeferred hK', ?_⟩⟩
    refine ⟨.string t, ?_, by rw [HTE.out], (h3.trans hB2).trans (belowK_b (w := W0) (by omega) W2 D _ _ hD hK' rfl rfl)⟩
    simp [results, Tryz.f7, go_sem]
  case stop =>
    rintro D c k W hD _ hx hK
    exact hx.elim
end Go.Proofs.YthepfbkbfkhcaaaGreat
