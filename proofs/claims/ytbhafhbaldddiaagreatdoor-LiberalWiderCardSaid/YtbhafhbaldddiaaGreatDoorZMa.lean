/- The walks of the library's Split at one byte: a text's pieces. The walks of the letters' names: numbers, months, days, Month, Day, name. The walks of the letters' digits, and of a letter's next and take. -/
import Derived.Test.YtbhafhbaldddiaaGreatDoorZA
import Derived.Test.YtbhafhbaldddiaaGreatDoorShelf
import Derived.Lib.SplitLaws
import Derived.StringKeys
namespace Go.Proofs.YtbhafhbaldddiaaGreatDoor
open Go.RowKit Go.Shelf
open Go
set_option linter.unusedVariables false
theorem idx_1 (s : ByteArray) (c : UInt8) : Lib.indexB s ⟨#[c]⟩ = Lib.indexByte s.data.toList c := Lib.index_one _ _
theorem cnt_1 (s : ByteArray) (c : UInt8) : Lib.countB s ⟨#[c]⟩ = s.data.toList.count c := Lib.count_one _ _
theorem sp_step (c : UInt8) : ∀ (l : List UInt8) (i : Nat), Lib.indexByte l c = i → Ml.sp c l = l.take i :: Ml.sp c (l.drop (i + 1))
  | [], i, h => by simp [Lib.indexByte] at h
  | b :: l, i, h => by
    rw [Ml.sp_cons]
    unfold Lib.indexByte at h
    by_cases e : b = c
    · subst e
      simp at h
      have : i = 0 := by omega
      subst this
      simp
    · have e2 : (b == c) = false := by simpa using e
      rw [e2] at h
      rw [if_neg e]
      by_cases hm : Lib.indexByte l c = -1
      · rw [hm] at h
        simp at h
      · have hb : (Lib.indexByte l c == -1) = false := by simpa using hm
        rw [hb] at h
        simp only [Bool.false_eq_true, if_false] at h
        have hg := Lib.indexByte_ge l c
        obtain ⟨j, rfl⟩ : ∃ j, i = j + 1 := ⟨i - 1, by omega⟩
        rw [sp_step c l j (by omega)]
        simp
theorem split_pieces (c : UInt8) : ∀ (k : Nat) (s : ByteArray), k = s.data.toList.count c → Lib.splitB ⟨#[c]⟩ 0 k s = (Ml.sp c s.data.toList).map Ml.mk
  | 0, s, h => by
    have h2 : c ∉ s.data.toList := fun e => by
      have := List.count_pos_iff.2 e
      omega
    rw [Ml.sp_none c _ h2, List.map_singleton, Ml.mk_list]
    rfl
  | k + 1, s, h => by
    rcases Lib.indexB_cases s ⟨#[c]⟩ with hm | ⟨i, hi, hi2⟩
    · have := Lib.countB_miss s ⟨#[c]⟩ hm
      rw [cnt_1] at this
      omega
    · have h3 := Lib.countB_hit s ⟨#[c]⟩ i (Nat.le_refl 1) hi
      rw [cnt_1, cnt_1] at h3
      have h4 : (⟨#[c]⟩ : ByteArray).size = 1 := rfl
      rw [h4] at h3
      rw [Lib.splitB_hit _ _ _ _ i hi, h4, split_pieces c k _ (by omega)]
      rw [idx_1] at hi
      rw [sp_step c _ i hi, List.map_cons, Lib.extract_to_end, Nat.add_zero]
      congr 1
      rw [← Lib.extract_from_zero, Ml.mk_list]
theorem info_str : (Tryz.prog.info? 9).map (fun i => (i.zero, i.size, i.bytes)) = some (some (.string ByteArray.empty), 1, 16) := by kernel_rfl
def SplitPost (s : ByteArray) (c : UInt8) (w : World) (e : Ending) (w' : World) : Prop :=
  e = .returned (.slice (some ⟨w.heap.size, 0, none⟩) (Ml.sp c s.data.toList).length (Ml.sp c s.data.toList).length) ∧ w' = w.alloc (.cells (((Ml.sp c s.data.toList).map Ml.mk).map Value.string).toArray 9)
set_option maxHeartbeats 1000000 in
theorem split_any (s : ByteArray) (c : UInt8) (hs : s.size ≤ 100000) (w : World) : Calls Tryz.prog 77 #[.string s, .string ⟨#[c]⟩] w (SplitPost s c w) := by
  have hle := Lib.countB_le ⟨#[c]⟩ (Nat.le_refl 1) s.size s (Nat.le_refl _)
  have hlen := Lib.splitB_all ⟨#[c]⟩ (Nat.le_refl 1) 0 _ s rfl
  have c1 := Any.strings_genSplit_core Tryz.lays221 info_str s ⟨#[c]⟩ 0 (-1) (Lib.countB s ⟨#[c]⟩ + 1) w (by omega) (Nat.le_refl 1) (Nat.zero_le _)
    (fun x cs hx => (Tryz.strings_Index_one x c _).mono fun e w' ⟨h1, h2⟩ => ⟨by rw [h1, idx_1], h2⟩)
    ((Tryz.strings_Count_one s c w).mono fun e w' ⟨h1, h2⟩ => ⟨by rw [h1, cnt_1]; rfl, h2⟩) (by decide) (by decide) (by rw [if_pos (by decide)]; omega)
  rw [Nat.add_sub_cancel, hlen] at c1
  have e2 : Lib.cellsOf (Lib.splitB ⟨#[c]⟩ 0 (Lib.countB s ⟨#[c]⟩) s) (Lib.countB s ⟨#[c]⟩ + 1) = ((Lib.splitB ⟨#[c]⟩ 0 (Lib.countB s ⟨#[c]⟩) s).map Value.string).toArray := by rw [← hlen]; exact Lib.cellsOf_full _
  rw [e2, split_pieces c _ s (cnt_1 s c)] at c1
  rw [split_pieces c _ s (cnt_1 s c), List.length_map] at hlen
  rw [← hlen] at c1
  clear hlen e2 hle
  go_enter Tryz.func77, Tryz.ntmps77
  go_wp2_with fail
  refine c1.mono ?_
  rintro e w1 ⟨rfl, rfl⟩
  go_wp2_with fail
  go_ret
  exact ⟨rfl, by rw [List.map_map]; rfl⟩
end Go.Proofs.YtbhafhbaldddiaaGreatDoor
namespace Go.Proofs.YtbhafhbaldddiaaGreatDoor
open Go.RowKit
open Go.Maps (Keyed string_keyed)
open Go
set_option linter.unusedVariables false
theorem ks : Keyed Tryz.prog 9 := string_keyed Tryz.underlying9
def okI (v : Value) : Bool := match v with | .int .i64 a => (Lit.int .i64 a).wf | _ => false
theorem okI_inv {v : Value} (h : okI v = true) : ∃ a : Int, v = .int .i64 a := by
  unfold okI at h
  split at h
  · exact ⟨_, rfl⟩
  · cases h
theorem wf_small {a : Int} (h0 : -100000000 ≤ a) (h1 : a ≤ 100000000) : (Lit.int .i64 a).wf = true := by
  simp [Lit.wf, IntKind.min, IntKind.max, IntKind.signed, IntKind.bits]
  omega
theorem okI_small {a : Int} (h0 : -100000000 ≤ a) (h1 : a ≤ 100000000) : okI (.int .i64 a) = true := wf_small h0 h1
theorem zero_int (w : World) : (zeroValue 3).run Tryz.prog w = .ok (.int .i64 0) w := by kernel_rfl
theorem key_str {s : ByteArray} (h : s.size ≤ 1000000) : keyOf Tryz.prog 9 (.string s) = some (.string s.data.toList) := WideMaps.keyOf_string_mk Tryz.underlying9 (by unfold maxLen; omega)
theorem str_key {v : Value} {kl : Lit} (h : keyOf Tryz.prog 9 v = some kl) : ∃ s : ByteArray, v = .string s := by
  cases v <;> simp [keyOf, Tryz.underlying9, mapKey] at h
  exact ⟨_, rfl⟩
noncomputable def upN (p : ByteArray × Int) (f : Value → Option Value) : Value → Option Value := updF f (.string p.1) (.int .i64 p.2)
noncomputable def NF (l : List (ByteArray × Int)) : Value → Option Value := l.foldr upN fun _ => none
theorem NF_str : ∀ (l : List (ByteArray × Int)) (s : ByteArray), NF l (.string s) = (l.find? fun p => decide (p.1 = s)).map fun p => Value.int .i64 p.2
  | [], s => rfl
  | p :: l, s => by
    show updF (NF l) (.string p.1) (.int .i64 p.2) (.string s) = _
    by_cases e : p.1 = s
    · rw [e, updF_same, List.find?_cons]
      simp [e]
    · rw [updF_other (fun h => e (by cases h; rfl)), NF_str l s, List.find?_cons]
      simp [e]
def numL (first : Int) (N : List ByteArray) : Nat → List (ByteArray × Int)
  | 0 => []
  | i + 1 => (N[i]?.getD ByteArray.empty, first + (i : Int)) :: numL first N i
def NumPost (first : Int) (N : List ByteArray) (w : World) (e : Ending) (w' : World) : Prop := ∃ b, e = .returned (.map (some b)) ∧ w.heap.size ≤ b ∧ MapF Tryz.prog 9 okI w' b N.length (NF (numL first N N.length)) ∧ Below w.heap.size w w'
set_option maxHeartbeats 1000000 in
theorem numbers_any (first : Int) (N : List ByteArray) (g : Nat) (w : World) (h0 : 0 ≤ first) (h1 : first ≤ 1) (hN : N.length ≤ 100) (hsz : (N.all fun x => decide (x.size ≤ 100)) = true)
    (hg : ∀ i, i < N.length → w.cell? ⟨g, i, none⟩ = some (.string (N[i]?.getD ByteArray.empty))) (hgl : g < w.heap.size) :
    Calls Tryz.prog 122 #[.int .i64 first, .slice (some ⟨g, 0, none⟩) N.length N.length] w (NumPost first N w) := by
  have hmm := @run_makeMap Tryz.prog
  have HG := Lib.hid hg
  have HS := Lib.hid hsz
  clear hg hsz
  go_enter Tryz.func122, Tryz.ntmps122
  go_wp2
  go_loopw [6, 7, 11] (fun _ _ k wr => ∃ i : Nat, i ≤ N.length ∧ k = .int .i64 i ∧ MapF Tryz.prog 9 okI wr w.heap.size i (NF (numL first N i)) ∧ w.heap.size < wr.heap.size ∧ Below w.heap.size w wr) (fun _ _ k _ => N.length - (intOf k).toNat)
  case atStart => exact ⟨0, by omega, rfl, MapF.made _ _ _ w, by simp, bbox (Below.refl _ _) _⟩
  case round =>
    obtain ⟨i, hi, rfl, hm, hwl, hB⟩ := hrel
    by_cases hlt : i < N.length
    · have hc := (hB.cell (p := ⟨g, i, none⟩) hgl).trans (HG.out i hlt)
      have hsx : (N[i]?.getD ByteArray.empty).size ≤ 100 := by
        rw [List.getElem?_eq_getElem hlt]
        exact of_decide_eq_true (List.all_eq_true.1 HS.out _ (List.getElem_mem hlt))
      have HH : Hid (NF (numL first N (i + 1)) = updF (NF (numL first N i)) (.string (N[i]?.getD ByteArray.empty)) (.int .i64 (first + (i : Int)))) := rfl
      generalize N[i]?.getD ByteArray.empty = s at *
      have hks := key_str (s := s) (by omega)
      have ilt : (i : Int) < (N.length : Int) := by omega
      clear HG HS
      go_wp2_with (at_mapUpdate; refine wpList_store_f _ rfl _ _ _ 101 rfl 9 3 ks Tryz.underlying101 okI w.heap.size i _ rfl hm (by unfold maxLen; omega) _ _ _ rfl rfl hks (okI_small (by omega) (by omega)) ?_; intro w2 hm2 hturn2)
      have hz2 := hturn2.grown.size
      go_roundw
      case rel =>
        refine ⟨i + 1, by omega, by go_num, ?_, by omega, hB.trans (gb_below hturn2.grown _ (Nat.le_refl _) (by omega))⟩
        rw [HH.out]
        exact hm2
      case measure => simp [intOf] <;> omega
    · obtain rfl : i = N.length := by omega
      go_wp2
      go_ret
      exact ⟨_, rfl, Nat.le_refl _, hm, hB⟩
theorem nums_are (first : Int) (N : List ByteArray) (hk : (N.all fun x => decide (((numL first N N.length).find? fun p => decide (p.1 = x)).map (fun p => p.2) = Ml.nmF N first x)) = true) (hi : ((numL first N N.length).all fun p => N.any fun x => decide (x = p.1)) = true) (s : ByteArray) :
    ((numL first N N.length).find? fun p => decide (p.1 = s)).map (fun p => p.2) = Ml.nmF N first s := by
  by_cases hs : s ∈ N
  · exact of_decide_eq_true (List.all_eq_true.1 hk s hs)
  · have h1 : ((numL first N N.length).find? fun p => decide (p.1 = s)) = none := by
      rw [List.find?_eq_none]
      intro p hp
      have := List.all_eq_true.1 hi p hp
      obtain ⟨x, hx, he⟩ := List.any_eq_true.1 this
      have he2 : x = p.1 := of_decide_eq_true he
      simp only [decide_eq_true_eq]
      intro e
      exact hs (by rw [← e, ← he2]; exact hx)
    have h2 : N.findIdx? (fun x => decide (x = s)) = none := by
      rw [List.findIdx?_eq_none_iff]
      intro x hx
      simp only [decide_eq_false_iff_not]
      exact fun e => hs (e ▸ hx)
    rw [h1]
    unfold Ml.nmF
    rw [h2]
    rfl
def NamesPost (N : List ByteArray) (first : Int) (w : World) (e : Ending) (w' : World) : Prop := ∃ b f, e = .returned (.map (some b)) ∧ w.heap.size ≤ b ∧ MapF Tryz.prog 9 okI w' b N.length f ∧ (∀ s, f (.string s) = (Ml.nmF N first s).map fun k => .int .i64 k) ∧ Below w.heap.size w w'
theorem names_of {N : List ByteArray} {first : Int} {w w' : World} {e : Ending} (h : NumPost first N w e w') (hk : ∀ s, ((numL first N N.length).find? fun p => decide (p.1 = s)).map (fun p => p.2) = Ml.nmF N first s) : NamesPost N first w e w' := by
  obtain ⟨b, h1, h2, h3, h4⟩ := h
  refine ⟨b, _, h1, h2, h3, fun s => ?_, h4⟩
  rw [NF_str, ← hk s, Option.map_map]
  rfl
theorem months_nums : ∀ s, ((numL 1 Ml.mths Ml.mths.length).find? fun p => decide (p.1 = s)).map (fun p => p.2) = Ml.nmF Ml.mths 1 s := nums_are 1 Ml.mths (by kernel_rfl) (by kernel_rfl)
theorem days_nums : ∀ s, ((numL 0 Ml.dys Ml.dys.length).find? fun p => decide (p.1 = s)).map (fun p => p.2) = Ml.nmF Ml.dys 0 s := nums_are 0 Ml.dys (by kernel_rfl) (by kernel_rfl)
theorem row_strs (w : World) (N : List ByteArray) (L : Array Value) (T : TypeId) (hL : L = (N.map Value.string).toArray) (i : Nat) (hi : i < N.length) : (w.alloc (.cells L T)).cell? ⟨w.heap.size, i, none⟩ = some (.string (N[i]?.getD ByteArray.empty)) := by
  rw [World.cell?_alloc_mark, hL]
  simp [hi]
set_option maxHeartbeats 1000000 in
theorem months_any (w : World) : Calls Tryz.prog 111 #[] w (NamesPost Ml.mths 1 w) := by
  go_enter Tryz.func111, Tryz.ntmps111
  go_wp2_with fail
  refine (numbers_any 1 Ml.mths w.heap.size _ (by omega) (by omega) (by decide) (by kernel_rfl) (row_strs w Ml.mths _ _ rfl) (by simp)).mono ?_
  rintro e w1 h
  obtain ⟨b, rfl, hb⟩ := h
  go_wp2_with fail
  go_ret
  exact names_of ⟨b, rfl, by have := hb.1; simp at this; omega, hb.2.1, (bbox (Below.refl _ _) _).trans (hb.2.2.mono (by simp))⟩ months_nums
set_option maxHeartbeats 1000000 in
theorem days_any (w : World) : Calls Tryz.prog 110 #[] w (NamesPost Ml.dys 0 w) := by
  go_enter Tryz.func110, Tryz.ntmps110
  go_wp2_with fail
  refine (numbers_any 0 Ml.dys w.heap.size _ (by omega) (by omega) (by decide) (by kernel_rfl) (row_strs w Ml.dys _ _ rfl) (by simp)).mono ?_
  rintro e w1 h
  obtain ⟨b, rfl, hb⟩ := h
  go_wp2_with fail
  go_ret
  exact names_of ⟨b, rfl, by have := hb.1; simp at this; omega, hb.2.1, (bbox (Below.refl _ _) _).trans (hb.2.2.mono (by simp))⟩ days_nums
def optV (o : Option Int) : Value := .tuple #[.int .i64 (o.getD 0), .bool o.isSome]
def OptPost (o : Option Int) (w : World) (e : Ending) (w' : World) : Prop := e = .returned (optV o) ∧ Below w.heap.size w w'
set_option maxHeartbeats 1000000 in
theorem month_any (s : ByteArray) (hs : s.size ≤ 1000000) (w : World) : Calls Tryz.prog 83 #[.string s] w (OptPost (Ml.monF s) w) := by
  have C := months_any
  have hks := key_str hs
  obtain ⟨o, ho⟩ : ∃ o, Ml.monF s = o := ⟨_, rfl⟩
  rw [ho]
  have HO := Lib.hid ho
  clear ho
  go_enter Tryz.func83, Tryz.ntmps83
  go_wp2_with fail
  refine (C _).mono ?_
  rintro e w1 ⟨b, f, rfl, hb1, hm, hf, hB⟩
  have L := hm.look ks Tryz.underlying101 (zero_int w1) (by decide) hks
  rw [hf s, show Ml.nmF Ml.mths 1 s = o from HO.out] at L
  clear C hf hm HO
  cases o with
  | none =>
    simp only [Option.map_none, Option.getD_none, Option.isSome_none] at L
    go_wp2_with fail
    go_ret2
    exact ⟨rfl, hB⟩
  | some x =>
    simp only [Option.map_some, Option.getD_some, Option.isSome_some] at L
    go_wp2_with fail
    go_ret2
    exact ⟨rfl, hB⟩
set_option maxHeartbeats 1000000 in
theorem day_any (s : ByteArray) (hs : s.size ≤ 1000000) (w : World) : Calls Tryz.prog 81 #[.string s] w (OptPost (Ml.dayF s) w) := by
  have C := days_any
  have hks := key_str hs
  obtain ⟨o, ho⟩ : ∃ o, Ml.dayF s = o := ⟨_, rfl⟩
  rw [ho]
  have HO := Lib.hid ho
  clear ho
  go_enter Tryz.func81, Tryz.ntmps81
  go_wp2_with fail
  refine (C _).mono ?_
  rintro e w1 ⟨b, f, rfl, hb1, hm, hf, hB⟩
  have L := hm.look ks Tryz.underlying101 (zero_int w1) (by decide) hks
  rw [hf s, show Ml.nmF Ml.dys 0 s = o from HO.out] at L
  clear C hf hm HO
  cases o with
  | none =>
    simp only [Option.map_none, Option.getD_none, Option.isSome_none] at L
    go_wp2_with fail
    go_ret2
    exact ⟨rfl, hB⟩
  | some x =>
    simp only [Option.map_some, Option.getD_some, Option.isSome_some] at L
    go_wp2_with fail
    go_ret2
    exact ⟨rfl, hB⟩
def StrPost (s : ByteArray) (w : World) (e : Ending) (w' : World) : Prop := e = .returned (.string s) ∧ Below w.heap.size w w'
end Go.Proofs.YtbhafhbaldddiaaGreatDoor
namespace Go.Proofs.YtbhafhbaldddiaaGreatDoor
open Go.RowKit
open Go
set_option linter.unusedVariables false
theorem byte_at (s : ByteArray) (i : Nat) (h : i < s.size) : ((s[i]'h).toNat : Int) = (Sm.B s i : Int) := by rw [Sm.B_at s i h]
def DigPost (s : ByteArray) (n : Nat) (w : World) (e : Ending) (w' : World) : Prop := e = .returned (.tuple #[.int .i64 (Ml.digV s n), .bool (Ml.digO s n)]) ∧ w = w'
theorem dig_no {s : ByteArray} {n : Nat} (h : Ml.digO s n = false) : Ml.digV s n = 0 := by unfold Ml.digV; rw [h]; simp
theorem dig_yes {s : ByteArray} {n : Nat} (h : Ml.digO s n = true) : Ml.digV s n = Sm.numA s 0 n := by unfold Ml.digV; rw [h]; simp
theorem dig_false {s : ByteArray} {n : Nat} (h : ¬ (s.size = n ∧ ∀ i, i < n → Sm.dig s i = true)) : Ml.digO s n = false := by unfold Ml.digO; simpa using h
set_option maxHeartbeats 1000000 in
theorem digits_any (s : ByteArray) (n : Nat) (hn : n ≤ 4) (hs : s.size ≤ 100000) (w : World) : Calls Tryz.prog 82 #[.string s, .int .i64 n] w (DigPost s n w) := by
  obtain ⟨v, hv⟩ : ∃ v, Ml.digV s n = v := ⟨_, rfl⟩
  obtain ⟨o, ho⟩ : ∃ o, Ml.digO s n = o := ⟨_, rfl⟩
  unfold DigPost
  rw [hv, ho]
  have HV := Lib.hid hv
  have HO := Lib.hid ho
  clear hv ho
  by_cases hsz : s.size = n
  · have HS := Lib.hid hsz
    have hne : ((s.size : Int) == (n : Int)) = true := by simp [hsz]
    have hne2 : ((s.size : Int) != (n : Int)) = false := by simp [hsz]
    clear hsz
    go_enter Tryz.func82, Tryz.ntmps82
    go_wp2
    go_loop [4, 13] (fun x k => ∃ i : Nat, i ≤ n ∧ k = .int .i64 i ∧ x = .int .i64 (Sm.numA s 0 i) ∧ ∀ j, j < i → Sm.dig s j = true) (fun _ k => n - (intOf k).toNat)
    case atStart => exact ⟨0, by omega, rfl, rfl, fun j h => absurd h (by omega)⟩
    case round =>
      obtain ⟨i, hi, rfl, rfl, hd⟩ := hrel
      have HD := Lib.hid hd
      clear hd
      have hbd := Sm.numA_small s 0 i (by omega) (fun j hj => by rw [Nat.zero_add]; exact HD.out j hj)
      by_cases hlt : i < n
      · have hin : i < s.size := by have := HS.out; omega
        have hstep : Sm.dig s i = true → Sm.numA s 0 (i + 1) = Sm.numA s 0 i * 10 + ((Sm.B s i : Int) - 48) := fun _ => by
          show Sm.numA s 0 i * 10 + Sm.v s (0 + i) = _
          rw [Nat.zero_add]
          rfl
        have HST := Lib.hid hstep
        clear hstep
        obtain ⟨a, ha⟩ : ∃ a : Int, Sm.numA s 0 i = a := ⟨_, rfl⟩
        rw [ha] at hbd
        have HA := Lib.hid ha
        have hb : Sm.B s i < 256 := Sm.B_lt s i
        have hidx := byte_at s i hin
        have hdi := Sm.dig_iff s i
        have HDI := Lib.hid hdi
        clear hdi
        obtain ⟨c, hc⟩ : ∃ c : Nat, Sm.B s i = c := ⟨_, rfl⟩
        rw [hc] at hidx hb
        have HC := Lib.hid hc
        clear hc
        rw [ha]
        clear ha
        have i1 : (i : Int) < (n : Int) := by omega
        have i2 : (0 : Int) ≤ (i : Int) := by omega
        have i3 : (i : Int) < (s.size : Int) := by omega
        by_cases h1 : 48 ≤ c ∧ c ≤ 57
        · have hw : IntKind.u8.wrap ((c : Int) - 48) = (c : Int) - 48 := by simp [IntKind.wrap, IntKind.bits, IntKind.signed]; omega
          have hg : ¬ (9 : Int) < (c : Int) - 48 := by omega
          have hdig : Sm.dig s i = true := HDI.out.2 (by rw [HC.out]; exact h1)
          have HDG := Lib.hid hdig
          clear hdig
          go_wp2
          go_round
          case rel =>
            refine ⟨i + 1, by omega, by go_num, ?_, fun j hj => ?_⟩
            · rw [HST.out HDG.out, HA.out, HC.out]
            · by_cases e : j = i
              · rw [e]; exact HDG.out
              · exact HD.out j (by omega)
          case measure => simp [intOf] <;> omega
        · have hg : (9 : Int) < IntKind.u8.wrap ((c : Int) - 48) := by
            simp [IntKind.wrap, IntKind.bits, IntKind.signed]
            omega
          have hno : Ml.digO s n = false := dig_false (fun h => h1 (by
            have := (HDI.out).1 (h.2 i hlt)
            rw [HC.out] at this
            exact this))
          have e1 : v = 0 := by rw [← HV.out, dig_no hno]
          have e2 : o = false := by rw [← HO.out, hno]
          subst e1
          subst e2
          clear hno
          go_wp2
          go_ret2
          exact ⟨rfl, rfl⟩
      · obtain rfl : i = n := by omega
        have hyes : Ml.digO s i = true := (Ml.digO_iff s i).2 ⟨HS.out, HD.out⟩
        have e1 : Sm.numA s 0 i = v := by rw [← HV.out, dig_yes hyes]
        have e2 : o = true := by rw [← HO.out, hyes]
        rw [e1]
        subst e2
        clear hyes e1
        go_wp2
        go_ret2
        exact ⟨rfl, rfl⟩
  · have hne : ((s.size : Int) == (n : Int)) = false := by simp; omega
    have hne2 : ((s.size : Int) != (n : Int)) = true := by simp; omega
    have hno : Ml.digO s n = false := dig_false (fun h => hsz h.1)
    have e1 : v = 0 := by rw [← HV.out, dig_no hno]
    have e2 : o = false := by rw [← HO.out, hno]
    subst e1
    subst e2
    clear hno hsz
    go_enter Tryz.func82, Tryz.ntmps82
    go_wp2
    go_ret2
    exact ⟨rfl, rfl⟩
/-- A letter in the block L. -/
def LT (W : World) (L : Nat) (rest : Value) (bad : Bool) : Prop := W.cell? ⟨L, 0, none⟩ = some rest ∧ W.cell? ⟨L, 1, none⟩ = some (.bool bad) ∧ W.frozen? ⟨L, 0, none⟩ = false ∧ W.frozen? ⟨L, 1, none⟩ = false ∧ L < W.heap.size
theorem LT.far {W W' : World} {L : Nat} {rest : Value} {bad : Bool} {row : Option Nat} (h : LT W L rest bad) (hg : W.grownBy W' row) (hne : some L ≠ row) : LT W' L rest bad :=
  ⟨(gb_cell hg h.2.2.2.2 hne).trans h.1, (gb_cell hg h.2.2.2.2 hne).trans h.2.1, (gb_frozen hg h.2.2.2.2 hne).trans h.2.2.1, (gb_frozen hg h.2.2.2.2 hne).trans h.2.2.2.1, by have := hg.size; have := h.2.2.2.2; omega⟩
theorem LT.drew {W : World} {L : Nat} {rest : Value} {bad : Bool} (h : LT W L rest bad) : LT W.drew L rest bad := h
theorem gb_set (w : World) (a : Addr) (v : Value) : w.grownBy (w.setCell a v) (some a.block) := ⟨rfl, rfl, rfl, by simp, fun k _ hk => Below.heap_setCell w a v k (fun e => hk (by rw [e]))⟩
theorem gb_of_below {w w' : World} (h : Below w.heap.size w w') (row : Option Nat) : w.grownBy w' row := ⟨h.os, h.tape, h.output, h.size, fun k hk _ => h.block k hk⟩
def LetPost (v : Value) (L : Nat) (rest : Value) (bad : Bool) (w : World) (e : Ending) (w' : World) : Prop := e = .returned v ∧ LT w' L rest bad ∧ w.grownBy w' (some L)
set_option maxHeartbeats 1000000 in
theorem take_any (w : World) (L : Nat) (rest : Value) (bad ok : Bool) (n : Int) (h : LT w L rest bad) : Calls Tryz.prog 80 #[.pointer (some ⟨L, 0, none⟩), .int .i64 n, .bool ok] w (LetPost (.int .i64 n) L rest (bad || !ok) w) := by
  obtain ⟨k0, k1, f0, f1, hl⟩ := h
  cases bad <;> cases ok
  all_goals
    go_enter Tryz.func80, Tryz.ntmps80
    go_wp2
    go_ret
    exact ⟨rfl, ⟨by go_simp, by go_simp, by rw [World.frozen?_setCell]; exact f0, by rw [World.frozen?_setCell]; exact f1, by simpa using hl⟩, gb_set _ _ _⟩
/-- What is left of a row of n words in the block g behind i of them. -/
def restV (g i n c : Nat) : Value := .slice (some ⟨g, i, none⟩) (n - i) (c - i)
set_option maxHeartbeats 1000000 in
theorem next_any (w : World) (L g i n : Nat) (bad : Bool) (s : ByteArray) (hi : i + 1 < n) (hn : n ≤ 1000000) (h : LT w L (.slice (some ⟨g, i, none⟩) (n - i) (n - i)) bad) (hs : w.cell? ⟨g, i, none⟩ = some (.string s)) :
    Calls Tryz.prog 78 #[.pointer (some ⟨L, 0, none⟩)] w (LetPost (.string s) L (.slice (some ⟨g, i + 1, none⟩) (n - (i + 1)) (n - (i + 1))) bad w) := by
  obtain ⟨k0, k1, f0, f1, hl⟩ := h
  obtain ⟨m, rfl⟩ : ∃ m, n = i + m + 2 := ⟨n - i - 2, by omega⟩
  have e1 : i + m + 2 - i = m + 2 := by omega
  have e2 : i + m + 2 - (i + 1) = m + 1 := by omega
  rw [e1] at k0
  rw [e2]
  clear e1 e2
  go_enter Tryz.func78, Tryz.ntmps78
  go_wp2_with fail
  go_ret
  exact ⟨rfl, ⟨by go_simp, by go_simp, by rw [World.frozen?_setCell]; exact f0, by rw [World.frozen?_setCell]; exact f1, by simpa using hl⟩, gb_set _ _ _⟩
set_option maxHeartbeats 1000000 in
theorem next_last (w : World) (L g i : Nat) (bad : Bool) (s : ByteArray) (h : LT w L (.slice (some ⟨g, i, none⟩) 1 1) bad) (hs : w.cell? ⟨g, i, none⟩ = some (.string s)) :
    Calls Tryz.prog 78 #[.pointer (some ⟨L, 0, none⟩)] w (LetPost (.string s) L (.slice (some ⟨g, i, none⟩) 0 0) bad w) := by
  obtain ⟨k0, k1, f0, f1, hl⟩ := h
  go_enter Tryz.func78, Tryz.ntmps78
  go_wp2_with fail
  go_ret
  exact ⟨rfl, ⟨by go_simp, by go_simp, by rw [World.frozen?_setCell]; exact f0, by rw [World.frozen?_setCell]; exact f1, by simpa using hl⟩, gb_set _ _ _⟩
end Go.Proofs.YtbhafhbaldddiaaGreatDoor
