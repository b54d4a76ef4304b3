/- The walks of the letters' names: numbers, months, days, Month, Day, name. -/
import Derived.Test.YtfgchphadeogpaaDoorMap
import Derived.Test.YtfgchphadeogpaaDoorMl
import Derived.StringKeys
namespace Go.Proofs.YtfgchphadeogpaaDoor
open Go.RowKit
open Go.Maps (Keyed string_keyed)
open Go
set_option linter.unusedVariables false
theorem ks : Keyed Tryd.prog 9 := string_keyed Tryd.underlying9
def okI (v : Value) : Bool := match v with | .int .i64 a => (Lit.int .i64 a).wf | _ => false
theorem okI_inv {v : Value} (h : okI v = true) : ∃ a : Int, v = .int .i64 a := by
  unfold okI at h
  split at h
  · exact ⟨_, rfl⟩
  · cases h
theorem wf_small {a : Int} (h0 : -100000000 ≤ a) (h1 : a ≤ 100000000) : (Lit.int .i64 a).wf = true := by
  simp [Lit.wf, IntKind.min, IntKind.max, IntKind.signed, IntKind.bits]
  omega
theorem okI_small {a : Int} (h0 : -100000000 ≤ a) (h1 : a ≤ 100000000) : okI (.int .i64 a) = true := wf_small h0 h1
theorem zero_int (w : World) : (zeroValue 3).run Tryd.prog w = .ok (.int .i64 0) w := by kernel_rfl
theorem key_str {s : ByteArray} (h : s.size ≤ 1000000) : keyOf Tryd.prog 9 (.string s) = some (.string s.data.toList) := WideMaps.keyOf_string_mk Tryd.underlying9 (by unfold maxLen; omega)
theorem str_key {v : Value} {kl : Lit} (h : keyOf Tryd.prog 9 v = some kl) : ∃ s : ByteArray, v = .string s := by
  cases v <;> simp [keyOf, Tryd.underlying9, mapKey] at h
  exact ⟨_, rfl⟩
noncomputable def upN (p : ByteArray × Int) (f : Value → Option Value) : Value → Option Value := updF f (.string p.1) (.int .i64 p.2)
noncomputable def NF (l : List (ByteArray × Int)) : Value → Option Value := l.foldr upN fun _ => none
theorem NF_str : ∀ (l : List (ByteArray × Int)) (s : ByteArray), NF l (.string s) = (l.find? fun p => decide (p.1 = s)).map fun p => Value.int .i64 p.2
  | [], s => rfl
  | p :: l, s => by
    show updF (NF l) (.string p.1) (.int .i64 p.2) (.string s) = _
    by_cases e : p.1 = s
    · rw [e, updF_same, List.find?_cons]
      simp [e]
    · rw [updF_other (fun h => e (by cases h; rfl)), NF_str l s, List.find?_cons]
      simp [e]
def numL (first : Int) (N : List ByteArray) : Nat → List (ByteArray × Int)
  | 0 => []
  | i + 1 => (N[i]?.getD ByteArray.empty, first + (i : Int)) :: numL first N i
def NumPost (first : Int) (N : List ByteArray) (w : World) (e : Ending) (w' : World) : Prop := ∃ b, e = .returned (.map (some b)) ∧ w.heap.size ≤ b ∧ MapF Tryd.prog 9 okI w' b N.length (NF (numL first N N.length)) ∧ Below w.heap.size w w'
set_option maxHeartbeats 1000000 in
theorem numbers_any (first : Int) (N : List ByteArray) (g : Nat) (w : World) (h0 : 0 ≤ first) (h1 : first ≤ 1) (hN : N.length ≤ 100) (hsz : (N.all fun x => decide (x.size ≤ 100)) = true)
    (hg : ∀ i, i < N.length → w.cell? ⟨g, i, none⟩ = some (.string (N[i]?.getD ByteArray.empty))) (hgl : g < w.heap.size) :
    Calls Tryd.prog 53 #[.int .i64 first, .slice (some ⟨g, 0, none⟩) N.length N.length] w (NumPost first N w) := by
  have hmm := @run_makeMap Tryd.prog
  have HG := Lib.hid hg
  have HS := Lib.hid hsz
  clear hg hsz
  go_enter Tryd.func53, Tryd.ntmps53
  go_wp2
  go_loopw [6, 7, 11] (fun _ _ k wr => ∃ i : Nat, i ≤ N.length ∧ k = .int .i64 i ∧ MapF Tryd.prog 9 okI wr w.heap.size i (NF (numL first N i)) ∧ w.heap.size < wr.heap.size ∧ Below w.heap.size w wr) (fun _ _ k _ => N.length - (intOf k).toNat)
  case atStart => exact ⟨0, by omega, rfl, MapF.made _ _ _ w, by simp, bbox (Below.refl _ _) _⟩
  case round =>
    obtain ⟨i, hi, rfl, hm, hwl, hB⟩ := hrel
    by_cases hlt : i < N.length
    · have hc := (hB.cell (p := ⟨g, i, none⟩) hgl).trans (HG.out i hlt)
      have hsx : (N[i]?.getD ByteArray.empty).size ≤ 100 := by
        rw [List.getElem?_eq_getElem hlt]
        exact of_decide_eq_true (List.all_eq_true.1 HS.out _ (List.getElem_mem hlt))
      have HH : Hid (NF (numL first N (i + 1)) = updF (NF (numL first N i)) (.string (N[i]?.getD ByteArray.empty)) (.int .i64 (first + (i : Int)))) := rfl
      generalize N[i]?.getD ByteArray.empty = s at *
      have hks := key_str (s := s) (by omega)
      have ilt : (i : Int) < (N.length : Int) := by omega
      clear HG HS
      go_wp2_with (at_mapUpdate; refine wpList_store_f _ rfl _ _ _ 54 rfl 9 3 ks Tryd.underlying54 okI w.heap.size i _ rfl hm (by unfold maxLen; omega) _ _ _ rfl rfl hks (okI_small (by omega) (by omega)) ?_; intro w2 hm2 hturn2)
      have hz2 := hturn2.grown.size
      go_roundw
      case rel =>
        refine ⟨i + 1, by omega, by go_num, ?_, by omega, hB.trans (gb_below hturn2.grown _ (Nat.le_refl _) (by omega))⟩
        rw [HH.out]
        exact hm2
      case measure => simp [intOf] <;> omega
    · obtain rfl : i = N.length := by omega
      go_wp2
      go_ret
      exact ⟨_, rfl, Nat.le_refl _, hm, hB⟩
theorem nums_are (first : Int) (N : List ByteArray) (hk : (N.all fun x => decide (((numL first N N.length).find? fun p => decide (p.1 = x)).map (fun p => p.2) = Ml.nmF N first x)) = true) (hi : ((numL first N N.length).all fun p => N.any fun x => decide (x = p.1)) = true) (s : ByteArray) :
    ((numL first N N.length).find? fun p => decide (p.1 = s)).map (fun p => p.2) = Ml.nmF N first s := by
  by_cases hs : s ∈ N
  · exact of_decide_eq_true (List.all_eq_true.1 hk s hs)
  · have h1 : ((numL first N N.length).find? fun p => decide (p.1 = s)) = none := by
      rw [List.find?_eq_none]
      intro p hp
      have := List.all_eq_true.1 hi p hp
      obtain ⟨x, hx, he⟩ := List.any_eq_true.1 this
      have he2 : x = p.1 := of_decide_eq_true he
      simp only [decide_eq_true_eq]
      intro e
      exact hs (by rw [← e, ← he2]; exact hx)
    have h2 : N.findIdx? (fun x => decide (x = s)) = none := by
      rw [List.findIdx?_eq_none_iff]
      intro x hx
      simp only [decide_eq_false_iff_not]
      exact fun e => hs (e ▸ hx)
    rw [h1]
    unfold Ml.nmF
    rw [h2]
    rfl
def NamesPost (N : List ByteArray) (first : Int) (w : World) (e : Ending) (w' : World) : Prop := ∃ b f, e = .returned (.map (some b)) ∧ w.heap.size ≤ b ∧ MapF Tryd.prog 9 okI w' b N.length f ∧ (∀ s, f (.string s) = (Ml.nmF N first s).map fun k => .int .i64 k) ∧ Below w.heap.size w w'
theorem names_of {N : List ByteArray} {first : Int} {w w' : World} {e : Ending} (h : NumPost first N w e w') (hk : ∀ s, ((numL first N N.length).find? fun p => decide (p.1 = s)).map (fun p => p.2) = Ml.nmF N first s) : NamesPost N first w e w' := by
  obtain ⟨b, h1, h2, h3, h4⟩ := h
  refine ⟨b, _, h1, h2, h3, fun s => ?_, h4⟩
  rw [NF_str, ← hk s, Option.map_map]
  rfl
theorem months_nums : ∀ s, ((numL 1 Ml.mths Ml.mths.length).find? fun p => decide (p.1 = s)).map (fun p => p.2) = Ml.nmF Ml.mths 1 s := nums_are 1 Ml.mths (by kernel_rfl) (by kernel_rfl)
theorem days_nums : ∀ s, ((numL 0 Ml.dys Ml.dys.length).find? fun p => decide (p.1 = s)).map (fun p => p.2) = Ml.nmF Ml.dys 0 s := nums_are 0 Ml.dys (by kernel_rfl) (by kernel_rfl)
theorem row_strs (w : World) (N : List ByteArray) (L : Array Value) (T : TypeId) (hL : L = (N.map Value.string).toArray) (i : Nat) (hi : i < N.length) : (w.alloc (.cells L T)).cell? ⟨w.heap.size, i, none⟩ = some (.string (N[i]?.getD ByteArray.empty)) := by
  rw [World.cell?_alloc_mark, hL]
  simp [hi]
set_option maxHeartbeats 1000000 in
theorem months_any (w : World) : Calls Tryd.prog 35 #[] w (NamesPost Ml.mths 1 w) := by
  go_enter Tryd.func35, Tryd.ntmps35
  go_wp2_with fail
  refine (numbers_any 1 Ml.mths w.heap.size _ (by omega) (by omega) (by decide) (by kernel_rfl) (row_strs w Ml.mths _ _ rfl) (by simp)).mono ?_
  rintro e w1 h
  obtain ⟨b, rfl, hb⟩ := h
  go_wp2_with fail
  go_ret
  exact names_of ⟨b, rfl, by have := hb.1; simp at this; omega, hb.2.1, (bbox (Below.refl _ _) _).trans (hb.2.2.mono (by simp))⟩ months_nums
set_option maxHeartbeats 1000000 in
theorem days_any (w : World) : Calls Tryd.prog 37 #[] w (NamesPost Ml.dys 0 w) := by
  go_enter Tryd.func37, Tryd.ntmps37
  go_wp2_with fail
  refine (numbers_any 0 Ml.dys w.heap.size _ (by omega) (by omega) (by decide) (by kernel_rfl) (row_strs w Ml.dys _ _ rfl) (by simp)).mono ?_
  rintro e w1 h
  obtain ⟨b, rfl, hb⟩ := h
  go_wp2_with fail
  go_ret
  exact names_of ⟨b, rfl, by have := hb.1; simp at this; omega, hb.2.1, (bbox (Below.refl _ _) _).trans (hb.2.2.mono (by simp))⟩ days_nums
def optV (o : Option Int) : Value := .tuple #[.int .i64 (o.getD 0), .bool o.isSome]
def OptPost (o : Option Int) (w : World) (e : Ending) (w' : World) : Prop := e = .returned (optV o) ∧ Below w.heap.size w w'
set_option maxHeartbeats 1000000 in
theorem month_any (s : ByteArray) (hs : s.size ≤ 1000000) (w : World) : Calls Tryd.prog 11 #[.string s] w (OptPost (Ml.monF s) w) := by
  have C := months_any
  have hks := key_str hs
  obtain ⟨o, ho⟩ : ∃ o, Ml.monF s = o := ⟨_, rfl⟩
  rw [ho]
  have HO := Lib.hid ho
  clear ho
  go_enter Tryd.func11, Tryd.ntmps11
  go_wp2_with fail
  refine (C _).mono ?_
  rintro e w1 ⟨b, f, rfl, hb1, hm, hf, hB⟩
  have L := hm.look ks Tryd.underlying54 (zero_int w1) (by decide) hks
  rw [hf s, show Ml.nmF Ml.mths 1 s = o from HO.out] at L
  clear C hf hm HO
  cases o with
  | none =>
    simp only [Option.map_none, Option.getD_none, Option.isSome_none] at L
    go_wp2_with fail
    go_ret2
    exact ⟨rfl, hB⟩
  | some x =>
    simp only [Option.map_some, Option.getD_some, Option.isSome_some] at L
    go_wp2_with fail
    go_ret2
    exact ⟨rfl, hB⟩
set_option maxHeartbeats 1000000 in
theorem day_any (s : ByteArray) (hs : s.size ≤ 1000000) (w : World) : Calls Tryd.prog 13 #[.string s] w (OptPost (Ml.dayF s) w) := by
  have C := days_any
  have hks := key_str hs
  obtain ⟨o, ho⟩ : ∃ o, Ml.dayF s = o := ⟨_, rfl⟩
  rw [ho]
  have HO := Lib.hid ho
  clear ho
  go_enter Tryd.func13, Tryd.ntmps13
  go_wp2_with fail
  refine (C _).mono ?_
  rintro e w1 ⟨b, f, rfl, hb1, hm, hf, hB⟩
  have L := hm.look ks Tryd.underlying54 (zero_int w1) (by decide) hks
  rw [hf s, show Ml.nmF Ml.dys 0 s = o from HO.out] at L
  clear C hf hm HO
  cases o with
  | none =>
    simp only [Option.map_none, Option.getD_none, Option.isSome_none] at L
    go_wp2_with fail
    go_ret2
    exact ⟨rfl, hB⟩
  | some x =>
    simp only [Option.map_some, Option.getD_some, Option.isSome_some] at L
    go_wp2_with fail
    go_ret2
    exact ⟨rfl, hB⟩
def StrPost (s : ByteArray) (w : World) (e : Ending) (w' : World) : Prop := e = .returned (.string s) ∧ Below w.heap.size w w'
set_option maxHeartbeats 1000000 in
theorem name_any (b n : Nat) (f : Value → Option Value) (k : Int) (nm : ByteArray) (w : World) (hm : MapF Tryd.prog 9 okI w b n f) (hin : f (.string nm) = some (.int .i64 k)) (hone : ∀ s, f (.string s) = some (.int .i64 k) → s = nm) (hsz : nm.size ≤ 1000) :
    Calls Tryd.prog 39 #[.map (some b), .int .i64 k] w (StrPost nm w) := by
  have HI := Lib.hid hin
  have HO := Lib.hid hone
  have hkn := key_str (s := nm) (by omega)
  have HK := Lib.hid hkn
  have hbl := hm.lt
  clear hin hone hkn
  go_enter Tryd.func39, Tryd.ntmps39
  go_wp2_with (at_range; refine wpList_range_f _ rfl _ 54 rfl 9 3 ks Tryd.underlying54 okI b n f rfl hm ?_; intro w1 cnt hrg hcn hg1 hs1)
  have hB : Below w.heap.size w w1 := (Below.refl _ _).grown hg1 (Nat.le_refl _) (fun k e => nomatch e)
  go_frame
  go_loopw [5, 6] (fun _ _ wr => ∃ left cnt, RangeF Tryd.prog 9 okI wr b w.heap.size n f left cnt ∧ left (.string nm) ∧ Below w.heap.size w wr) (fun _ _ wr => wr.rangeLeft b w.heap.size)
  case atStart => exact ⟨_, cnt, hrg, by rw [HI.out]; simp, hB⟩
  case round =>
    clear hrg hB hg1 hs1 hm
    obtain ⟨left, cnt2, hrg, hleft, hB⟩ := hrel
    have HCM : Hid (wr.rangeLeft b w.heap.size = cnt2) := Lib.hid hrg.left_eq
    have hrl := hrg.rlt
    have HLF := Lib.hid hleft
    clear hleft
    go_wp2_with (at_next; refine wpList_next_f _ rfl _ rfl 9 ks okI (fun s : ByteArray => Value.string s) (fun c : Int => Value.int .i64 c) (fun _ _ hk => str_key hk) (fun _ hv => okI_inv hv) b w.heap.size n f left cnt2 rfl hrg ?_ ?_)
    · intro hc0 hl0
      exact absurd HLF.out (hl0 _ _ HK.out)
    · intro s c kl w2 cnt3 hkx hlx hok hfx hrg2 hlt hg2 hs2 hen
      have hB2 : Below w.heap.size w w2 := hB.trans (gb_below hg2 _ (Nat.le_refl _) (by omega))
      by_cases he : c = k
      · subst he
        obtain rfl := HO.out s hfx
        clear hfx hrg hlx
        go_wp2_with fail
        go_ret
        exact ⟨rfl, hB2⟩
      · have he2 : (c == k) = false := by simpa using he
        have hl2 : left (.string nm) ∧ Value.string nm ≠ .string s := ⟨HLF.out, fun e => by
          cases e
          rw [HI.out] at hfx
          cases hfx
          exact he rfl⟩
        have HL2 := Lib.hid hl2
        clear hl2 hfx hrg hlx he
        go_wp2_with fail
        go_roundw
        case rel => exact ⟨_, cnt3, hrg2, HL2.out, hB2⟩
        case measure =>
          rw [hrg2.left_eq, HCM.out]
          omega
end Go.Proofs.YtfgchphadeogpaaDoor
