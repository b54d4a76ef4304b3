/- The walks of the letters' Zone and of a letter's clock. -/
import Derived.Test.YtfgchphadeogpaaDoorMlC
import Derived.Test.YtfgchphadeogpaaDoorMlP
import Derived.Deep.RegionLaw
namespace Go.Proofs.YtfgchphadeogpaaDoor
open Go.RowKit
open Go
set_option linter.unusedVariables false
theorem znf (s : ByteArray) : NF Ml.znames.reverse (.string s) = (Ml.hourF s).map fun h => .int .i64 h := by
  rw [NF_str, ← Ml.zn_is s, Option.map_map]
  rfl
theorem dig2_any (s : ByteArray) (a b : Nat) (hb : b = a + 2) (h : b ≤ s.size) (hs : s.size ≤ 100000) (w : World) : Calls Tryd.prog 23 #[.string (s.extract a b), .int .i64 2] w fun e w' => e = .returned (.tuple #[.int .i64 (if Sm.d2 s a = true then Sm.n2 s a else 0), .bool (Sm.d2 s a)]) ∧ w = w' := by
  have c := digits_any (s.extract a b) 2 (by omega) (by rw [Sm.size_extract]; omega) w
  unfold DigPost at c
  rw [Ml.digO2 s a b hb h, Ml.digV2 s a b hb h] at c
  exact c
set_option maxRecDepth 100000 in
set_option maxHeartbeats 4000000 in
theorem zone_any (s : ByteArray) (hs : s.size ≤ 100000) (w : World) : Calls Tryd.prog 15 #[.string s] w (OptPost (Ml.zneF s) w) := by
  have hmm := @run_makeMap Tryd.prog
  have hks := key_str (s := s) (by omega)
  obtain ⟨o, ho⟩ : ∃ o, Ml.zneF s = o := ⟨_, rfl⟩
  rw [ho]
  unfold Ml.zneF at ho
  have hm := MapF.made Tryd.prog 9 okI w
  have hB : Below w.heap.size w (w.alloc (.map #[] 0)) := (Below.refl _ _).alloc (Nat.le_refl _) _
  have hz : w.heap.size ≤ (w.alloc (.map #[] 0)).heap.size := by simp
  cases hh : Ml.hourF s with
  | some h =>
    rw [hh] at ho
    simp only at ho
    have hbd := of_decide_eq_true (List.all_eq_true.1 Ml.zn_ok _ (Ml.hour_mem hh))
    simp only at hbd
    obtain ⟨_, _, b1, b2⟩ := hbd
    have hf := znf s
    rw [hh] at hf
    have HF := Lib.hid hf
    clear hh hf
    subst ho
    go_enter Tryd.func15, Tryd.ntmps15
    go_wp2_with (first | (at_lookup; refine wpList_look_f _ rfl _ _ 54 rfl 9 3 ks Tryd.underlying54 okI w.heap.size _ _ rfl hm (zero_int _) (by decide) _ _ rfl hks _ HF.out ?_; clear hm) | (have _t := hm; clear _t; refine wpList_insert_f _ rfl _ _ _ 54 rfl 9 3 ks Tryd.underlying54 okI w.heap.size _ _ rfl hm (by unfold maxLen; omega) _ _ _ rfl rfl (key_str (by decide)) (okI_small (by omega) (by omega)) ?_; clear hm; intro w2 hm hturn2; replace hB := hB.trans (gb_below hturn2.grown w.heap.size (Nat.le_refl _) hz); replace hz := Nat.le_trans hz hturn2.grown.size; clear hturn2))
    go_ret2
    exact ⟨rfl, hB⟩
  | none =>
    rw [hh] at ho
    simp only at ho
    have hf := znf s
    rw [hh] at hf
    have HF := Lib.hid hf
    clear hh hf
    have HO := Lib.hid ho
    clear ho
    by_cases hsz : s.size = 5
    · have h5 : ((s.size : Int) == 5) = true := by simp [hsz]
      have h5' : ((s.size : Int) != 5) = false := by simp [hsz]
      have g1 : 3 ≤ s.size := by omega
      have g2 : 0 < s.size := by omega
      have c1 := fun w => dig2_any s 1 3 rfl (by omega) hs w
      have c2 := fun w => dig2_any s 3 s.size (by omega) (by omega) hs w
      have g3 : (3 : Int) ≤ (s.size : Int) := by omega
      have g4 : (0 : Int) < (s.size : Int) := by omega
      have hb0 := byte_at s 0 (by omega)
      have hbl := Sm.B_lt s 0
      have HSZ := Lib.hid hsz
      clear hsz
      have ho2 : (if Ml.offB s = true then some (Ml.offV s) else none) = o := HO.out
      have hoff : Ml.offB s = true ↔ (Sm.d2 s 1 = true ∧ Sm.d2 s 3 = true ∧ Sm.n2 s 1 ≤ 23 ∧ Sm.n2 s 3 ≤ 59 ∧ (Sm.B s 0 = 43 ∨ Sm.B s 0 = 45)) := by
        rw [Ml.off_iff]
        exact ⟨fun h => h.2, fun h => ⟨HSZ.out, h⟩⟩
      have hbd1 : Sm.d2 s 1 = true → 0 ≤ Sm.n2 s 1 ∧ Sm.n2 s 1 ≤ 99 := fun h => Sm.n2_bd h
      have hbd2 : Sm.d2 s 3 = true → 0 ≤ Sm.n2 s 3 ∧ Sm.n2 s 3 ≤ 99 := fun h => Sm.n2_bd h
      unfold Ml.offV at ho2
      generalize Sm.n2 s 1 = x at *
      generalize Sm.n2 s 3 = y at *
      generalize Sm.d2 s 1 = p1 at *
      generalize Sm.d2 s 3 = p2 at *
      generalize Sm.B s 0 = q at *
      generalize Ml.offB s = ob at *
      clear HO HSZ
      have hno : ¬ (p1 = true ∧ p2 = true ∧ x ≤ 23 ∧ y ≤ 59 ∧ (q = 43 ∨ q = 45)) → none = o := fun h => by
        rw [← ho2, if_neg (fun k => h (hoff.1 k))]
      have hyes : (p1 = true ∧ p2 = true ∧ x ≤ 23 ∧ y ≤ 59 ∧ (q = 43 ∨ q = 45)) → some (if q = 45 then -(x * 60 + y) else x * 60 + y) = o := fun h => by
        rw [← ho2, if_pos (hoff.2 h)]
      clear ho2 hoff
      cases p1 with
      | false =>
        obtain rfl := hno (by simp)
        clear hno hyes hbd1
        cases p2 with
        | false =>
          clear hbd2
          simp only [Bool.false_eq_true, if_false] at c1 c2
          go_enter Tryd.func15, Tryd.ntmps15
          go_wp2_with (first | (go_at_call 23; (first | (with_reducible refine (c1 _).mono ?_) | (with_reducible refine (c2 _).mono ?_)); rintro e w3 ⟨rfl, rfl⟩) | (at_lookup; refine wpList_look_f _ rfl _ _ 54 rfl 9 3 ks Tryd.underlying54 okI w.heap.size _ _ rfl hm (zero_int _) (by decide) _ _ rfl hks _ HF.out ?_; clear hm) | (have _t := hm; clear _t; refine wpList_insert_f _ rfl _ _ _ 54 rfl 9 3 ks Tryd.underlying54 okI w.heap.size _ _ rfl hm (by unfold maxLen; omega) _ _ _ rfl rfl (key_str (by decide)) (okI_small (by omega) (by omega)) ?_; clear hm; intro w2 hm hturn2; replace hB := hB.trans (gb_below hturn2.grown w.heap.size (Nat.le_refl _) hz); replace hz := Nat.le_trans hz hturn2.grown.size; clear hturn2))
          go_ret2
          exact ⟨rfl, hB⟩
        | true =>
          obtain ⟨b1, b2⟩ := hbd2 rfl
          clear hbd2
          simp only [Bool.false_eq_true, if_false, if_true] at c1 c2
          go_enter Tryd.func15, Tryd.ntmps15
          go_wp2_with (first | (go_at_call 23; (first | (with_reducible refine (c1 _).mono ?_) | (with_reducible refine (c2 _).mono ?_)); rintro e w3 ⟨rfl, rfl⟩) | (at_lookup; refine wpList_look_f _ rfl _ _ 54 rfl 9 3 ks Tryd.underlying54 okI w.heap.size _ _ rfl hm (zero_int _) (by decide) _ _ rfl hks _ HF.out ?_; clear hm) | (have _t := hm; clear _t; refine wpList_insert_f _ rfl _ _ _ 54 rfl 9 3 ks Tryd.underlying54 okI w.heap.size _ _ rfl hm (by unfold maxLen; omega) _ _ _ rfl rfl (key_str (by decide)) (okI_small (by omega) (by omega)) ?_; clear hm; intro w2 hm hturn2; replace hB := hB.trans (gb_below hturn2.grown w.heap.size (Nat.le_refl _) hz); replace hz := Nat.le_trans hz hturn2.grown.size; clear hturn2))
          go_ret2
          exact ⟨rfl, hB⟩
      | true =>
        obtain ⟨b1, b2⟩ := hbd1 rfl
        cases p2 with
        | false =>
          obtain rfl := hno (by simp)
          clear hno hyes hbd1 hbd2
          simp only [Bool.false_eq_true, if_false, if_true] at c1 c2
          go_enter Tryd.func15, Tryd.ntmps15
          go_wp2_with (first | (go_at_call 23; (first | (with_reducible refine (c1 _).mono ?_) | (with_reducible refine (c2 _).mono ?_)); rintro e w3 ⟨rfl, rfl⟩) | (at_lookup; refine wpList_look_f _ rfl _ _ 54 rfl 9 3 ks Tryd.underlying54 okI w.heap.size _ _ rfl hm (zero_int _) (by decide) _ _ rfl hks _ HF.out ?_; clear hm) | (have _t := hm; clear _t; refine wpList_insert_f _ rfl _ _ _ 54 rfl 9 3 ks Tryd.underlying54 okI w.heap.size _ _ rfl hm (by unfold maxLen; omega) _ _ _ rfl rfl (key_str (by decide)) (okI_small (by omega) (by omega)) ?_; clear hm; intro w2 hm hturn2; replace hB := hB.trans (gb_below hturn2.grown w.heap.size (Nat.le_refl _) hz); replace hz := Nat.le_trans hz hturn2.grown.size; clear hturn2))
          go_ret2
          exact ⟨rfl, hB⟩
        | true =>
          obtain ⟨b3, b4⟩ := hbd2 rfl
          simp only [if_true] at c1 c2
          by_cases hx : x ≤ 23
          · by_cases hy : y ≤ 59
            · by_cases hq : q = 45
              · obtain rfl := hyes ⟨rfl, rfl, hx, hy, Or.inr hq⟩
                have e1 : ((q : Int) == 45) = true := by simp [hq]
                have e1' : ((q : Int) == 43) = false := by simp [hq]
                rw [if_pos hq]
                clear hno hyes hbd1 hbd2 hq
                go_enter Tryd.func15, Tryd.ntmps15
                go_wp2_with (first | (go_at_call 23; (first | (with_reducible refine (c1 _).mono ?_) | (with_reducible refine (c2 _).mono ?_)); rintro e w3 ⟨rfl, rfl⟩) | (at_lookup; refine wpList_look_f _ rfl _ _ 54 rfl 9 3 ks Tryd.underlying54 okI w.heap.size _ _ rfl hm (zero_int _) (by decide) _ _ rfl hks _ HF.out ?_; clear hm) | (have _t := hm; clear _t; refine wpList_insert_f _ rfl _ _ _ 54 rfl 9 3 ks Tryd.underlying54 okI w.heap.size _ _ rfl hm (by unfold maxLen; omega) _ _ _ rfl rfl (key_str (by decide)) (okI_small (by omega) (by omega)) ?_; clear hm; intro w2 hm hturn2; replace hB := hB.trans (gb_below hturn2.grown w.heap.size (Nat.le_refl _) hz); replace hz := Nat.le_trans hz hturn2.grown.size; clear hturn2))
                go_ret2
                exact ⟨rfl, hB⟩
              · have e1 : ((q : Int) == 45) = false := by simp; omega
                by_cases hq2 : q = 43
                · obtain rfl := hyes ⟨rfl, rfl, hx, hy, Or.inl hq2⟩
                  have e2 : ((q : Int) == 43) = true := by simp [hq2]
                  rw [if_neg hq]
                  clear hno hyes hbd1 hbd2 hq hq2
                  go_enter Tryd.func15, Tryd.ntmps15
                  go_wp2_with (first | (go_at_call 23; (first | (with_reducible refine (c1 _).mono ?_) | (with_reducible refine (c2 _).mono ?_)); rintro e w3 ⟨rfl, rfl⟩) | (at_lookup; refine wpList_look_f _ rfl _ _ 54 rfl 9 3 ks Tryd.underlying54 okI w.heap.size _ _ rfl hm (zero_int _) (by decide) _ _ rfl hks _ HF.out ?_; clear hm) | (have _t := hm; clear _t; refine wpList_insert_f _ rfl _ _ _ 54 rfl 9 3 ks Tryd.underlying54 okI w.heap.size _ _ rfl hm (by unfold maxLen; omega) _ _ _ rfl rfl (key_str (by decide)) (okI_small (by omega) (by omega)) ?_; clear hm; intro w2 hm hturn2; replace hB := hB.trans (gb_below hturn2.grown w.heap.size (Nat.le_refl _) hz); replace hz := Nat.le_trans hz hturn2.grown.size; clear hturn2))
                  go_ret2
                  exact ⟨rfl, hB⟩
                · obtain rfl := hno (fun h => h.2.2.2.2.elim hq2 hq)
                  have e2 : ((q : Int) == 43) = false := by simp; omega
                  clear hno hyes hbd1 hbd2 hq hq2
                  go_enter Tryd.func15, Tryd.ntmps15
                  go_wp2_with (first | (go_at_call 23; (first | (with_reducible refine (c1 _).mono ?_) | (with_reducible refine (c2 _).mono ?_)); rintro e w3 ⟨rfl, rfl⟩) | (at_lookup; refine wpList_look_f _ rfl _ _ 54 rfl 9 3 ks Tryd.underlying54 okI w.heap.size _ _ rfl hm (zero_int _) (by decide) _ _ rfl hks _ HF.out ?_; clear hm) | (have _t := hm; clear _t; refine wpList_insert_f _ rfl _ _ _ 54 rfl 9 3 ks Tryd.underlying54 okI w.heap.size _ _ rfl hm (by unfold maxLen; omega) _ _ _ rfl rfl (key_str (by decide)) (okI_small (by omega) (by omega)) ?_; clear hm; intro w2 hm hturn2; replace hB := hB.trans (gb_below hturn2.grown w.heap.size (Nat.le_refl _) hz); replace hz := Nat.le_trans hz hturn2.grown.size; clear hturn2))
                  go_ret2
                  exact ⟨rfl, hB⟩
            · obtain rfl := hno (fun h => hy h.2.2.2.1)
              have hy2 : 59 < y := by omega
              clear hno hyes hbd1 hbd2 hy
              go_enter Tryd.func15, Tryd.ntmps15
              go_wp2_with (first | (go_at_call 23; (first | (with_reducible refine (c1 _).mono ?_) | (with_reducible refine (c2 _).mono ?_)); rintro e w3 ⟨rfl, rfl⟩) | (at_lookup; refine wpList_look_f _ rfl _ _ 54 rfl 9 3 ks Tryd.underlying54 okI w.heap.size _ _ rfl hm (zero_int _) (by decide) _ _ rfl hks _ HF.out ?_; clear hm) | (have _t := hm; clear _t; refine wpList_insert_f _ rfl _ _ _ 54 rfl 9 3 ks Tryd.underlying54 okI w.heap.size _ _ rfl hm (by unfold maxLen; omega) _ _ _ rfl rfl (key_str (by decide)) (okI_small (by omega) (by omega)) ?_; clear hm; intro w2 hm hturn2; replace hB := hB.trans (gb_below hturn2.grown w.heap.size (Nat.le_refl _) hz); replace hz := Nat.le_trans hz hturn2.grown.size; clear hturn2))
              go_ret2
              exact ⟨rfl, hB⟩
          · obtain rfl := hno (fun h => hx h.2.2.1)
            have hx2 : 23 < x := by omega
            clear hno hyes hbd1 hbd2 hx
            go_enter Tryd.func15, Tryd.ntmps15
            go_wp2_with (first | (go_at_call 23; (first | (with_reducible refine (c1 _).mono ?_) | (with_reducible refine (c2 _).mono ?_)); rintro e w3 ⟨rfl, rfl⟩) | (at_lookup; refine wpList_look_f _ rfl _ _ 54 rfl 9 3 ks Tryd.underlying54 okI w.heap.size _ _ rfl hm (zero_int _) (by decide) _ _ rfl hks _ HF.out ?_; clear hm) | (have _t := hm; clear _t; refine wpList_insert_f _ rfl _ _ _ 54 rfl 9 3 ks Tryd.underlying54 okI w.heap.size _ _ rfl hm (by unfold maxLen; omega) _ _ _ rfl rfl (key_str (by decide)) (okI_small (by omega) (by omega)) ?_; clear hm; intro w2 hm hturn2; replace hB := hB.trans (gb_below hturn2.grown w.heap.size (Nat.le_refl _) hz); replace hz := Nat.le_trans hz hturn2.grown.size; clear hturn2))
            go_ret2
            exact ⟨rfl, hB⟩
    · have h5 : ((s.size : Int) == 5) = false := by simp; omega
      have h5' : ((s.size : Int) != 5) = true := by simp; omega
      have hno : none = o := by
        rw [← HO.out]
        unfold Ml.offB
        simp [hsz]
      subst hno
      clear hsz HO
      go_enter Tryd.func15, Tryd.ntmps15
      go_wp2_with (first | (at_lookup; refine wpList_look_f _ rfl _ _ 54 rfl 9 3 ks Tryd.underlying54 okI w.heap.size _ _ rfl hm (zero_int _) (by decide) _ _ rfl hks _ HF.out ?_; clear hm) | (have _t := hm; clear _t; refine wpList_insert_f _ rfl _ _ _ 54 rfl 9 3 ks Tryd.underlying54 okI w.heap.size _ _ rfl hm (by unfold maxLen; omega) _ _ _ rfl rfl (key_str (by decide)) (okI_small (by omega) (by omega)) ?_; clear hm; intro w2 hm hturn2; replace hB := hB.trans (gb_below hturn2.grown w.heap.size (Nat.le_refl _) hz); replace hz := Nat.le_trans hz hturn2.grown.size; clear hturn2))
      go_ret2
      exact ⟨rfl, hB⟩
end Go.Proofs.YtfgchphadeogpaaDoor
