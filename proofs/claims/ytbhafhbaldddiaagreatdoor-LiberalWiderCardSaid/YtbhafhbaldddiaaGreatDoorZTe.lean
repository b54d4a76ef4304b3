/- The walk of the document's pieces. The walk of the document's liberal Parse. -/
import Derived.Test.YtbhafhbaldddiaaGreatDoorZTd
import Derived.Test.YtbhafhbaldddiaaGreatDoorZLf
namespace Go.Proofs.YtbhafhbaldddiaaGreatDoor
open Go.RowKit
open Go
open Lb (R Wd)
set_option linter.unusedVariables false
theorem rspc_any (c : UInt8) (w : World) : Calls Tryz.prog 38 #[.int .i64 (c.toNat : Int)] w (fun e w' => e = .returned (.bool (Lb.spc c)) ∧ w' = w) := by
  have h : c.toNat < 256 := UInt8.toNat_lt c
  unfold Lb.spc
  generalize c.toNat = n at h
  go_enter Tryz.func38, Tryz.ntmps38
  by_cases h1 : n = 32
  · subst h1; go_wp2; go_ret; exact ⟨rfl, rfl⟩
  by_cases h2 : n = 9
  · subst h2; go_wp2; go_ret; exact ⟨rfl, rfl⟩
  by_cases h3 : n = 10
  · subst h3; go_wp2; go_ret; exact ⟨rfl, rfl⟩
  by_cases h4 : n = 13
  · subst h4; go_wp2; go_ret; exact ⟨rfl, rfl⟩
  have e1 : ((n : Int) == 32) = false := by simp; omega
  have e2 : ((n : Int) == 9) = false := by simp; omega
  have e3 : ((n : Int) == 10) = false := by simp; omega
  have e4 : ((n : Int) == 13) = false := by simp; omega
  have f1 : (n == 32) = false := by simp; omega
  have f2 : (n == 9) = false := by simp; omega
  have f3 : (n == 10) = false := by simp; omega
  have f4 : (n == 13) = false := by simp; omega
  rw [f1, f2, f3, f4]
  go_wp2
  go_ret
  exact ⟨rfl, rfl⟩
theorem mk_sub (l : Wd) (a j : Nat) : (Ml.mk l).extract a (a + j) = Ml.mk ((l.drop a).take j) := by
  apply ByteArray.ext
  rw [ByteArray.data_extract]
  show l.toArray.extract a (a + j) = ((l.drop a).take j).toArray
  simp [List.extract_eq_take_drop]
theorem lsrt3 (c : UInt8) : Lb.srt c = 0 ∨ Lb.srt c = 1 ∨ Lb.srt c = 2 := Lb.all_bytes (p := fun c => Lb.srt c = 0 ∨ Lb.srt c = 1 ∨ Lb.srt c = 2) (by decide +kernel) c
set_option maxRecDepth 100000 in
set_option maxHeartbeats 8000000 in
theorem rpcs_any (l : Wd) (hl : l.length ≤ 100000) (w : World) : Calls Tryz.prog 12 #[.string (Ml.mk l)] w (PcsPost l w) := by
  obtain ⟨L, hL⟩ : ∃ L, Lb.pcs l = L := ⟨_, rfl⟩
  have hLn := (Lb.pcs_len l).1
  unfold PcsPost
  rw [hL]
  rw [hL] at hLn
  have HL := Lib.hid hL
  clear hL
  have hsz : (Ml.mk l).size = l.length := rfl
  have hat := mk_at l
  have hms := mk_sub l
  obtain ⟨T, hT⟩ : ∃ T, Ml.mk l = T := ⟨_, rfl⟩
  rw [hT] at hsz hat hms ⊢
  obtain ⟨z, hz⟩ : ∃ z, l.length = z := ⟨_, rfl⟩
  rw [hz] at hsz hl hLn
  have HZ := Lib.hid hz
  have HAT := Lib.hid hat
  have HMS := Lib.hid hms
  clear hT hz hat hms
  obtain ⟨i0, hi, hi0, hi1, hi2⟩ := info_parts linfo_str
  go_enter Tryz.func12, Tryz.ntmps12
  go_wp2
  go_loopw [3, 4] (fun v at_ wr => ∃ (a : Nat) (out : List Wd), at_ = .int .i64 (a : Int) ∧ a ≤ z ∧ out ++ Lb.pcs (l.drop a) = L ∧ OL wr w.heap.size v out ∧ Below w.heap.size w wr) (fun _ at_ _ => z - (intOf at_).toNat)
  case atStart => exact ⟨0, [], rfl, Nat.zero_le _, HL.out, ⟨none, 0, rfl, World.ownsRow_nil _ _ _ _⟩, Below.refl _ _⟩
  case round =>
    obtain ⟨a, out, rfl, ha, hcat, hOL, hB⟩ := hrel
    have HB := Lib.hid hB
    have HC := Lib.hid hcat
    have hon : out.length ≤ 100000 := by
      have := congrArg List.length hcat
      rw [List.length_append] at this
      omega
    clear hcat hB
    obtain ⟨ad, cap, rfl, hown⟩ := hOL
    have HO := Lib.hid hown
    clear hown
    by_cases haz : a < z
    · have haz2 : (a : Int) < (z : Int) := by omega
      obtain ⟨c, q, hx⟩ : ∃ c q, l.drop a = c :: q := by
        cases e : l.drop a with
        | nil => have := congrArg List.length e; rw [List.length_drop, HZ.out] at this; simp at this; omega
        | cons c q => exact ⟨c, q, rfl⟩
      have hq : a + (q.length + 1) = z := by
        have := congrArg List.length hx
        rw [List.length_drop, HZ.out] at this
        simp at this
        omega
      have hget : ∀ j, l.getD (a + j) 0 = (c :: q).getD j 0 := fun j => by
        rw [← hx]
        simp only [List.getD_eq_getElem?_getD, List.getElem?_drop]
      have hix0 : ∀ h : a < T.size, ((T[a]'h).toNat : Int) = (c.toNat : Int) := fun h => by
        have h1 := HAT.out a h
        have h2 := hget 0
        rw [Nat.add_zero] at h2
        rw [h2] at h1
        exact h1
      have hcut := fun j => cut_of c q j
      have HCUT := Lib.hid hcut
      have HGET := Lib.hid hget
      have HX := Lib.hid hx
      have HQ := Lib.hid hq
      clear hcut hget hx hq
      have hdc := tdigit_any c
      have hlc := tletter_any c
      have hspc := rspc_any c
      have h256 : c.toNat < 256 := UInt8.toNat_lt c
      have hw64 : wrap64 (c.toNat : Int) = (c.toNat : Int) := by unfold wrap64; omega
      clear h256
      rcases lsrt3 c with hk | hk | hk
      · rw [hk] at hdc hlc
        have hc : Cut (c :: q) 1 := HCUT.out 1 (by omega) (by omega) (fun i h1 h2 => by omega) (Or.inl rfl) (Or.inr (Or.inl hk))
        clear hk
        generalize (c.toNat : Int) = cn at *
        obtain ⟨hj1, hj2, hc⟩ := hc
        have hc2 : Lb.pcs (l.drop a) = (if Lb.spc c = true then [] else [((l.drop a).take (1)).map Lb.lw]) ++ Lb.pcs (l.drop (a + (1))) := by
          rw [HX.out, hc, ← List.drop_drop, HX.out]
          rfl
        clear hc
        have hlw := rlow_any ((l.drop a).take (1)) (by rw [List.length_take, List.length_drop, HZ.out]; omega)
        unfold LowPost at hlw
        rw [← HMS.out a (1)] at hlw
        have hcz : a + (1) ≤ z := by have := HQ.out; simp at hj2; omega
        have hcz2 : (a : Int) + ((1 : Nat) : Int) ≤ (z : Int) := by omega
        have hcz3 : (a : Int) ≤ (a : Int) + ((1 : Nat) : Int) := by omega
        cases hsp : Lb.spc c with
        | true =>
          rw [hsp] at hspc hc2
          rw [if_pos rfl, List.nil_append] at hc2
          have hcat : out ++ Lb.pcs (l.drop (a + (1))) = L := by rw [← HC.out, hc2]
          have HCT := Lib.hid hcat
          clear hc2 hcat hlw hsp
          go_wp2_with (first | (go_at_call 36; with_reducible refine (hdc _).mono ?_; rintro e w1 ⟨rfl, rfl⟩) | (go_at_call 37; with_reducible refine (hlc _).mono ?_; rintro e w1 ⟨rfl, rfl⟩) | (go_at_call 38; with_reducible refine (hspc _).mono ?_; rintro e w1 ⟨rfl, rfl⟩))
          go_roundw
          case rel => exact ⟨a + (1), out, by go_num, hcz, HCT.out, ⟨ad, cap, rfl, HO.out⟩, HB.out⟩
          case measure => simp [intOf]; omega
        | false =>
          rw [hsp] at hspc hc2
          rw [if_neg (by decide)] at hc2
          generalize ((l.drop a).take (1)).map Lb.lw = p at *
          have hcat : (out ++ [p]) ++ Lb.pcs (l.drop (a + (1))) = L := by rw [← HC.out, hc2, List.append_assoc]
          have HCT := Lib.hid hcat
          clear hc2 hcat hsp
          go_wp2_with (first | (go_at_call 36; with_reducible refine (hdc _).mono ?_; rintro e w1 ⟨rfl, rfl⟩) | (go_at_call 37; with_reducible refine (hlc _).mono ?_; rintro e w1 ⟨rfl, rfl⟩) | (go_at_call 38; with_reducible refine (hspc _).mono ?_; rintro e w1 ⟨rfl, rfl⟩) | (go_at_call 39; with_reducible refine (hlw _).mono ?_; rintro e w2 ⟨rfl, hB2⟩; have ho2 := HO.out.kept (lgb_of_below hB2 none) (by cases (Value.slice ad out.length cap).ownBlock <;> simp); have HO2 := Lib.hid ho2; have hB3 := bn HB.out hB2; clear ho2) | (at_builtin; refine wpList_append_lies _ rfl (.tmp 52) (.tmp 58) _ rfl w.heap.size 9 i0 _ 1 16 Tryz.underlying26 hi hi0 hi1 hi2 rfl (by omega) _ _ _ (by rfl) (HO2.out.alloc _) ⟨w2.heap.size, 0, none⟩ 1 1 [.string (Ml.mk p)] (by rfl) rfl (World.news_of_block (heap_alloc_new _ _)) (lone_str _) (by omega) (by unfold maxLen; omega) (by omega) (by have := hB3.size; simp; omega) _ rfl ?_; intro g1 cap1 w3 hown2 hgrow2 hat2 hlt2))
          go_roundw
          case rel => exact ⟨a + (1), out ++ [p], by go_num, hcz, HCT.out, ⟨_, _, by rw [List.length_append]; rfl, by rw [List.length_append, List.map_append]; exact hown2⟩, (bbox hB3 _).grown hgrow2 (by have := hB3.size; simp; omega) (fun k hk => (HO2.out.lt k hk).1)⟩
          case measure => simp [intOf]; omega
      · have hk1 : ∀ i, 1 ≤ i → i < 1 → Lb.srt ((c :: q).getD i 0) = 1 := fun i h1 h2 => by omega
        rw [hk] at hdc hlc
        have HK := Lib.hid hk
        clear hk
        generalize hcn : (c.toNat : Int) = cn at *
        clear hcn
        go_wp2_with (first | (go_at_call 36; with_reducible refine (hdc _).mono ?_; rintro e w1 ⟨rfl, rfl⟩) | (go_at_call 37; with_reducible refine (hlc _).mono ?_; rintro e w1 ⟨rfl, rfl⟩) | (go_at_call 38; with_reducible refine (hspc _).mono ?_; rintro e w1 ⟨rfl, rfl⟩))
        go_loop [5] (fun n => ∃ j : Nat, 1 ≤ j ∧ a + j ≤ z ∧ n = .int .i64 ((a + j : Nat) : Int) ∧ (∀ i, 1 ≤ i → i < j → Lb.srt ((c :: q).getD i 0) = 1)) (fun n => z - (intOf n).toNat)
        case atStart => exact ⟨1, by omega, by omega, by go_num, fun i h h' => by omega⟩
        case round =>
          obtain ⟨j, hj1, hjz, rfl, hin⟩ := hrel
          have HIN := Lib.hid hin
          clear hin
          by_cases hjl : a + j < z
          · have hjl2 : ((a + j : Nat) : Int) < (z : Int) := by omega
            have hjl3 : (a : Int) + (j : Int) < (z : Int) := by omega
            have hixj := HAT.out (a + j)
            rw [HGET.out j] at hixj
            have hsd := tdigit_any ((c :: q).getD j 0)
            cases hs : (Lb.srt ((c :: q).getD j 0) == 1) with
            | true =>
              rw [hs] at hsd
              have hnext : ∀ i, 1 ≤ i → i < j + 1 → Lb.srt ((c :: q).getD i 0) = 1 := fun i h1 h2 => by
                by_cases e : i = j
                · rw [e]; exact eq_of_beq hs
                · exact HIN.out i h1 (by omega)
              have HNX := Lib.hid hnext
              clear hnext hs
              generalize (((c :: q).getD j 0).toNat : Int) = dn at *
              go_wp2_with (first | (go_at_call 36; with_reducible refine (hsd _).mono ?_; rintro e w1 ⟨rfl, rfl⟩))
              go_round
              case rel => exact ⟨j + 1, by omega, by omega, by go_num, HNX.out⟩
              case measure => simp [intOf]; omega
            | false =>
              rw [hs] at hsd
              have hc : Cut (c :: q) j := HCUT.out j hj1 (by have := HQ.out; omega) (by rw [HK.out]; exact HIN.out) (Or.inr (by rw [HK.out]; decide)) (Or.inr (Or.inr (by rw [HK.out]; exact ne_of_beq_false hs)))
              clear hs
              generalize (((c :: q).getD j 0).toNat : Int) = dn at *
              obtain ⟨hj1, hj2, hc⟩ := hc
              have hc2 : Lb.pcs (l.drop a) = (if Lb.spc c = true then [] else [((l.drop a).take (j)).map Lb.lw]) ++ Lb.pcs (l.drop (a + (j))) := by
                rw [HX.out, hc, ← List.drop_drop, HX.out]
                rfl
              clear hc
              have hlw := rlow_any ((l.drop a).take (j)) (by rw [List.length_take, List.length_drop, HZ.out]; omega)
              unfold LowPost at hlw
              rw [← HMS.out a (j)] at hlw
              have hcz : a + (j) ≤ z := by have := HQ.out; simp at hj2; omega
              have hcz2 : (a : Int) + ((j : Nat) : Int) ≤ (z : Int) := by omega
              have hcz3 : (a : Int) ≤ (a : Int) + ((j : Nat) : Int) := by omega
              cases hsp : Lb.spc c with
              | true =>
                rw [hsp] at hspc hc2
                rw [if_pos rfl, List.nil_append] at hc2
                have hcat : out ++ Lb.pcs (l.drop (a + (j))) = L := by rw [← HC.out, hc2]
                have HCT := Lib.hid hcat
                clear hc2 hcat hlw hsp
                go_wp2_with (first | (go_at_call 36; with_reducible refine (hdc _).mono ?_; rintro e w1 ⟨rfl, rfl⟩) | (go_at_call 37; with_reducible refine (hlc _).mono ?_; rintro e w1 ⟨rfl, rfl⟩) | (go_at_call 38; with_reducible refine (hspc _).mono ?_; rintro e w1 ⟨rfl, rfl⟩) | (go_at_call 36; with_reducible refine (hsd _).mono ?_; rintro e w1 ⟨rfl, rfl⟩))
                go_roundw
                case rel => exact ⟨a + (j), out, by go_num, hcz, HCT.out, ⟨ad, cap, rfl, HO.out⟩, HB.out⟩
                case measure => simp [intOf]; omega
              | false =>
                rw [hsp] at hspc hc2
                rw [if_neg (by decide)] at hc2
                generalize ((l.drop a).take (j)).map Lb.lw = p at *
                have hcat : (out ++ [p]) ++ Lb.pcs (l.drop (a + (j))) = L := by rw [← HC.out, hc2, List.append_assoc]
                have HCT := Lib.hid hcat
                clear hc2 hcat hsp
                go_wp2_with (first | (go_at_call 36; with_reducible refine (hdc _).mono ?_; rintro e w1 ⟨rfl, rfl⟩) | (go_at_call 37; with_reducible refine (hlc _).mono ?_; rintro e w1 ⟨rfl, rfl⟩) | (go_at_call 38; with_reducible refine (hspc _).mono ?_; rintro e w1 ⟨rfl, rfl⟩) | (go_at_call 36; with_reducible refine (hsd _).mono ?_; rintro e w1 ⟨rfl, rfl⟩) | (go_at_call 39; with_reducible refine (hlw _).mono ?_; rintro e w2 ⟨rfl, hB2⟩; have ho2 := HO.out.kept (lgb_of_below hB2 none) (by cases (Value.slice ad out.length cap).ownBlock <;> simp); have HO2 := Lib.hid ho2; have hB3 := bn HB.out hB2; clear ho2) | (at_builtin; refine wpList_append_lies _ rfl (.tmp 52) (.tmp 58) _ rfl w.heap.size 9 i0 _ 1 16 Tryz.underlying26 hi hi0 hi1 hi2 rfl (by omega) _ _ _ (by rfl) (HO2.out.alloc _) ⟨w2.heap.size, 0, none⟩ 1 1 [.string (Ml.mk p)] (by rfl) rfl (World.news_of_block (heap_alloc_new _ _)) (lone_str _) (by omega) (by unfold maxLen; omega) (by omega) (by have := hB3.size; simp; omega) _ rfl ?_; intro g1 cap1 w3 hown2 hgrow2 hat2 hlt2))
                go_roundw
                case rel => exact ⟨a + (j), out ++ [p], by go_num, hcz, HCT.out, ⟨_, _, by rw [List.length_append]; rfl, by rw [List.length_append, List.map_append]; exact hown2⟩, (bbox hB3 _).grown hgrow2 (by have := hB3.size; simp; omega) (fun k hk => (HO2.out.lt k hk).1)⟩
                case measure => simp [intOf]; omega
          · have hjl2 : ¬ ((a + j : Nat) : Int) < (z : Int) := by omega
            have hjl3 : ¬ (a : Int) + (j : Int) < (z : Int) := by omega
            have hc : Cut (c :: q) j := HCUT.out j hj1 (by have := HQ.out; omega) (by rw [HK.out]; exact HIN.out) (Or.inr (by rw [HK.out]; decide)) (Or.inl (by have := HQ.out; omega))
            obtain ⟨hj1, hj2, hc⟩ := hc
            have hc2 : Lb.pcs (l.drop a) = (if Lb.spc c = true then [] else [((l.drop a).take (j)).map Lb.lw]) ++ Lb.pcs (l.drop (a + (j))) := by
              rw [HX.out, hc, ← List.drop_drop, HX.out]
              rfl
            clear hc
            have hlw := rlow_any ((l.drop a).take (j)) (by rw [List.length_take, List.length_drop, HZ.out]; omega)
            unfold LowPost at hlw
            rw [← HMS.out a (j)] at hlw
            have hcz : a + (j) ≤ z := by have := HQ.out; simp at hj2; omega
            have hcz2 : (a : Int) + ((j : Nat) : Int) ≤ (z : Int) := by omega
            have hcz3 : (a : Int) ≤ (a : Int) + ((j : Nat) : Int) := by omega
            cases hsp : Lb.spc c with
            | true =>
              rw [hsp] at hspc hc2
              rw [if_pos rfl, List.nil_append] at hc2
              have hcat : out ++ Lb.pcs (l.drop (a + (j))) = L := by rw [← HC.out, hc2]
              have HCT := Lib.hid hcat
              clear hc2 hcat hlw hsp
              go_wp2_with (first | (go_at_call 36; with_reducible refine (hdc _).mono ?_; rintro e w1 ⟨rfl, rfl⟩) | (go_at_call 37; with_reducible refine (hlc _).mono ?_; rintro e w1 ⟨rfl, rfl⟩) | (go_at_call 38; with_reducible refine (hspc _).mono ?_; rintro e w1 ⟨rfl, rfl⟩))
              go_roundw
              case rel => exact ⟨a + (j), out, by go_num, hcz, HCT.out, ⟨ad, cap, rfl, HO.out⟩, HB.out⟩
              case measure => simp [intOf]; omega
            | false =>
              rw [hsp] at hspc hc2
              rw [if_neg (by decide)] at hc2
              generalize ((l.drop a).take (j)).map Lb.lw = p at *
              have hcat : (out ++ [p]) ++ Lb.pcs (l.drop (a + (j))) = L := by rw [← HC.out, hc2, List.append_assoc]
              have HCT := Lib.hid hcat
              clear hc2 hcat hsp
              go_wp2_with (first | (go_at_call 36; with_reducible refine (hdc _).mono ?_; rintro e w1 ⟨rfl, rfl⟩) | (go_at_call 37; with_reducible refine (hlc _).mono ?_; rintro e w1 ⟨rfl, rfl⟩) | (go_at_call 38; with_reducible refine (hspc _).mono ?_; rintro e w1 ⟨rfl, rfl⟩) | (go_at_call 39; with_reducible refine (hlw _).mono ?_; rintro e w2 ⟨rfl, hB2⟩; have ho2 := HO.out.kept (lgb_of_below hB2 none) (by cases (Value.slice ad out.length cap).ownBlock <;> simp); have HO2 := Lib.hid ho2; have hB3 := bn HB.out hB2; clear ho2) | (at_builtin; refine wpList_append_lies _ rfl (.tmp 52) (.tmp 58) _ rfl w.heap.size 9 i0 _ 1 16 Tryz.underlying26 hi hi0 hi1 hi2 rfl (by omega) _ _ _ (by rfl) (HO2.out.alloc _) ⟨w2.heap.size, 0, none⟩ 1 1 [.string (Ml.mk p)] (by rfl) rfl (World.news_of_block (heap_alloc_new _ _)) (lone_str _) (by omega) (by unfold maxLen; omega) (by omega) (by have := hB3.size; simp; omega) _ rfl ?_; intro g1 cap1 w3 hown2 hgrow2 hat2 hlt2))
              go_roundw
              case rel => exact ⟨a + (j), out ++ [p], by go_num, hcz, HCT.out, ⟨_, _, by rw [List.length_append]; rfl, by rw [List.length_append, List.map_append]; exact hown2⟩, (bbox hB3 _).grown hgrow2 (by have := hB3.size; simp; omega) (fun k hk => (HO2.out.lt k hk).1)⟩
              case measure => simp [intOf]; omega
      · have hk1 : ∀ i, 1 ≤ i → i < 1 → Lb.srt ((c :: q).getD i 0) = 2 := fun i h1 h2 => by omega
        rw [hk] at hdc hlc
        have HK := Lib.hid hk
        clear hk
        generalize hcn : (c.toNat : Int) = cn at *
        clear hcn
        go_wp2_with (first | (go_at_call 36; with_reducible refine (hdc _).mono ?_; rintro e w1 ⟨rfl, rfl⟩) | (go_at_call 37; with_reducible refine (hlc _).mono ?_; rintro e w1 ⟨rfl, rfl⟩) | (go_at_call 38; with_reducible refine (hspc _).mono ?_; rintro e w1 ⟨rfl, rfl⟩))
        go_loop [5] (fun n => ∃ j : Nat, 1 ≤ j ∧ a + j ≤ z ∧ n = .int .i64 ((a + j : Nat) : Int) ∧ (∀ i, 1 ≤ i → i < j → Lb.srt ((c :: q).getD i 0) = 2)) (fun n => z - (intOf n).toNat)
        case atStart => exact ⟨1, by omega, by omega, by go_num, fun i h h' => by omega⟩
        case round =>
          obtain ⟨j, hj1, hjz, rfl, hin⟩ := hrel
          have HIN := Lib.hid hin
          clear hin
          by_cases hjl : a + j < z
          · have hjl2 : ((a + j : Nat) : Int) < (z : Int) := by omega
            have hjl3 : (a : Int) + (j : Int) < (z : Int) := by omega
            have hixj := HAT.out (a + j)
            rw [HGET.out j] at hixj
            have hsd := tletter_any ((c :: q).getD j 0)
            cases hs : (Lb.srt ((c :: q).getD j 0) == 2) with
            | true =>
              rw [hs] at hsd
              have hnext : ∀ i, 1 ≤ i → i < j + 1 → Lb.srt ((c :: q).getD i 0) = 2 := fun i h1 h2 => by
                by_cases e : i = j
                · rw [e]; exact eq_of_beq hs
                · exact HIN.out i h1 (by omega)
              have HNX := Lib.hid hnext
              clear hnext hs
              generalize (((c :: q).getD j 0).toNat : Int) = dn at *
              go_wp2_with (first | (go_at_call 37; with_reducible refine (hsd _).mono ?_; rintro e w1 ⟨rfl, rfl⟩))
              go_round
              case rel => exact ⟨j + 1, by omega, by omega, by go_num, HNX.out⟩
              case measure => simp [intOf]; omega
            | false =>
              rw [hs] at hsd
              have hc : Cut (c :: q) j := HCUT.out j hj1 (by have := HQ.out; omega) (by rw [HK.out]; exact HIN.out) (Or.inr (by rw [HK.out]; decide)) (Or.inr (Or.inr (by rw [HK.out]; exact ne_of_beq_false hs)))
              clear hs
              generalize (((c :: q).getD j 0).toNat : Int) = dn at *
              obtain ⟨hj1, hj2, hc⟩ := hc
              have hc2 : Lb.pcs (l.drop a) = (if Lb.spc c = true then [] else [((l.drop a).take (j)).map Lb.lw]) ++ Lb.pcs (l.drop (a + (j))) := by
                rw [HX.out, hc, ← List.drop_drop, HX.out]
                rfl
              clear hc
              have hlw := rlow_any ((l.drop a).take (j)) (by rw [List.length_take, List.length_drop, HZ.out]; omega)
              unfold LowPost at hlw
              rw [← HMS.out a (j)] at hlw
              have hcz : a + (j) ≤ z := by have := HQ.out; simp at hj2; omega
              have hcz2 : (a : Int) + ((j : Nat) : Int) ≤ (z : Int) := by omega
              have hcz3 : (a : Int) ≤ (a : Int) + ((j : Nat) : Int) := by omega
              cases hsp : Lb.spc c with
              | true =>
                rw [hsp] at hspc hc2
                rw [if_pos rfl, List.nil_append] at hc2
                have hcat : out ++ Lb.pcs (l.drop (a + (j))) = L := by rw [← HC.out, hc2]
                have HCT := Lib.hid hcat
                clear hc2 hcat hlw hsp
                go_wp2_with (first | (go_at_call 36; with_reducible refine (hdc _).mono ?_; rintro e w1 ⟨rfl, rfl⟩) | (go_at_call 37; with_reducible refine (hlc _).mono ?_; rintro e w1 ⟨rfl, rfl⟩) | (go_at_call 38; with_reducible refine (hspc _).mono ?_; rintro e w1 ⟨rfl, rfl⟩) | (go_at_call 37; with_reducible refine (hsd _).mono ?_; rintro e w1 ⟨rfl, rfl⟩))
                go_roundw
                case rel => exact ⟨a + (j), out, by go_num, hcz, HCT.out, ⟨ad, cap, rfl, HO.out⟩, HB.out⟩
                case measure => simp [intOf]; omega
              | false =>
                rw [hsp] at hspc hc2
                rw [if_neg (by decide)] at hc2
                generalize ((l.drop a).take (j)).map Lb.lw = p at *
                have hcat : (out ++ [p]) ++ Lb.pcs (l.drop (a + (j))) = L := by rw [← HC.out, hc2, List.append_assoc]
                have HCT := Lib.hid hcat
                clear hc2 hcat hsp
                go_wp2_with (first | (go_at_call 36; with_reducible refine (hdc _).mono ?_; rintro e w1 ⟨rfl, rfl⟩) | (go_at_call 37; with_reducible refine (hlc _).mono ?_; rintro e w1 ⟨rfl, rfl⟩) | (go_at_call 38; with_reducible refine (hspc _).mono ?_; rintro e w1 ⟨rfl, rfl⟩) | (go_at_call 37; with_reducible refine (hsd _).mono ?_; rintro e w1 ⟨rfl, rfl⟩) | (go_at_call 39; with_reducible refine (hlw _).mono ?_; rintro e w2 ⟨rfl, hB2⟩; have ho2 := HO.out.kept (lgb_of_below hB2 none) (by cases (Value.slice ad out.length cap).ownBlock <;> simp); have HO2 := Lib.hid ho2; have hB3 := bn HB.out hB2; clear ho2) | (at_builtin; refine wpList_append_lies _ rfl (.tmp 52) (.tmp 58) _ rfl w.heap.size 9 i0 _ 1 16 Tryz.underlying26 hi hi0 hi1 hi2 rfl (by omega) _ _ _ (by rfl) (HO2.out.alloc _) ⟨w2.heap.size, 0, none⟩ 1 1 [.string (Ml.mk p)] (by rfl) rfl (World.news_of_block (heap_alloc_new _ _)) (lone_str _) (by omega) (by unfold maxLen; omega) (by omega) (by have := hB3.size; simp; omega) _ rfl ?_; intro g1 cap1 w3 hown2 hgrow2 hat2 hlt2))
                go_roundw
                case rel => exact ⟨a + (j), out ++ [p], by go_num, hcz, HCT.out, ⟨_, _, by rw [List.length_append]; rfl, by rw [List.length_append, List.map_append]; exact hown2⟩, (bbox hB3 _).grown hgrow2 (by have := hB3.size; simp; omega) (fun k hk => (HO2.out.lt k hk).1)⟩
                case measure => simp [intOf]; omega
          · have hjl2 : ¬ ((a + j : Nat) : Int) < (z : Int) := by omega
            have hjl3 : ¬ (a : Int) + (j : Int) < (z : Int) := by omega
            have hc : Cut (c :: q) j := HCUT.out j hj1 (by have := HQ.out; omega) (by rw [HK.out]; exact HIN.out) (Or.inr (by rw [HK.out]; decide)) (Or.inl (by have := HQ.out; omega))
            obtain ⟨hj1, hj2, hc⟩ := hc
            have hc2 : Lb.pcs (l.drop a) = (if Lb.spc c = true then [] else [((l.drop a).take (j)).map Lb.lw]) ++ Lb.pcs (l.drop (a + (j))) := by
              rw [HX.out, hc, ← List.drop_drop, HX.out]
              rfl
            clear hc
            have hlw := rlow_any ((l.drop a).take (j)) (by rw [List.length_take, List.length_drop, HZ.out]; omega)
            unfold LowPost at hlw
            rw [← HMS.out a (j)] at hlw
            have hcz : a + (j) ≤ z := by have := HQ.out; simp at hj2; omega
            have hcz2 : (a : Int) + ((j : Nat) : Int) ≤ (z : Int) := by omega
            have hcz3 : (a : Int) ≤ (a : Int) + ((j : Nat) : Int) := by omega
            cases hsp : Lb.spc c with
            | true =>
              rw [hsp] at hspc hc2
              rw [if_pos rfl, List.nil_append] at hc2
              have hcat : out ++ Lb.pcs (l.drop (a + (j))) = L := by rw [← HC.out, hc2]
              have HCT := Lib.hid hcat
              clear hc2 hcat hlw hsp
              go_wp2_with (first | (go_at_call 36; with_reducible refine (hdc _).mono ?_; rintro e w1 ⟨rfl, rfl⟩) | (go_at_call 37; with_reducible refine (hlc _).mono ?_; rintro e w1 ⟨rfl, rfl⟩) | (go_at_call 38; with_reducible refine (hspc _).mono ?_; rintro e w1 ⟨rfl, rfl⟩))
              go_roundw
              case rel => exact ⟨a + (j), out, by go_num, hcz, HCT.out, ⟨ad, cap, rfl, HO.out⟩, HB.out⟩
              case measure => simp [intOf]; omega
            | false =>
              rw [hsp] at hspc hc2
              rw [if_neg (by decide)] at hc2
              generalize ((l.drop a).take (j)).map Lb.lw = p at *
              have hcat : (out ++ [p]) ++ Lb.pcs (l.drop (a + (j))) = L := by rw [← HC.out, hc2, List.append_assoc]
              have HCT := Lib.hid hcat
              clear hc2 hcat hsp
              go_wp2_with (first | (go_at_call 36; with_reducible refine (hdc _).mono ?_; rintro e w1 ⟨rfl, rfl⟩) | (go_at_call 37; with_reducible refine (hlc _).mono ?_; rintro e w1 ⟨rfl, rfl⟩) | (go_at_call 38; with_reducible refine (hspc _).mono ?_; rintro e w1 ⟨rfl, rfl⟩) | (go_at_call 39; with_reducible refine (hlw _).mono ?_; rintro e w2 ⟨rfl, hB2⟩; have ho2 := HO.out.kept (lgb_of_below hB2 none) (by cases (Value.slice ad out.length cap).ownBlock <;> simp); have HO2 := Lib.hid ho2; have hB3 := bn HB.out hB2; clear ho2) | (at_builtin; refine wpList_append_lies _ rfl (.tmp 52) (.tmp 58) _ rfl w.heap.size 9 i0 _ 1 16 Tryz.underlying26 hi hi0 hi1 hi2 rfl (by omega) _ _ _ (by rfl) (HO2.out.alloc _) ⟨w2.heap.size, 0, none⟩ 1 1 [.string (Ml.mk p)] (by rfl) rfl (World.news_of_block (heap_alloc_new _ _)) (lone_str _) (by omega) (by unfold maxLen; omega) (by omega) (by have := hB3.size; simp; omega) _ rfl ?_; intro g1 cap1 w3 hown2 hgrow2 hat2 hlt2))
              go_roundw
              case rel => exact ⟨a + (j), out ++ [p], by go_num, hcz, HCT.out, ⟨_, _, by rw [List.length_append]; rfl, by rw [List.length_append, List.map_append]; exact hown2⟩, (bbox hB3 _).grown hgrow2 (by have := hB3.size; simp; omega) (fun k hk => (HO2.out.lt k hk).1)⟩
              case measure => simp [intOf]; omega
    · obtain rfl : a = z := by omega
      have haz2 : ¬ (a : Int) < (a : Int) := by omega
      have hfin : out = L := by
        have := HC.out
        rw [List.drop_eq_nil_of_le (by rw [HZ.out]; exact Nat.le_refl _)] at this
        simpa [Lb.pcs, Lb.raw] using this
      subst hfin
      go_wp2
      go_ret
      exact ⟨_, rfl, ⟨ad, cap, rfl, HO.out⟩, HB.out⟩
end Go.Proofs.YtbhafhbaldddiaaGreatDoor
namespace Go.Proofs.YtbhafhbaldddiaaGreatDoor
open Go.RowKit
open Go
open Lb (R Wd)
set_option linter.unusedVariables false
theorem OL.prow {w : World} {base : Nat} {v : Value} {L : List Wd} (h : OL w base v L) : ∃ p c, v = .slice p L.length c ∧ PRow w w.heap.size (.slice p L.length c) L := by
  have h2 := h.row
  obtain ⟨p, c, rfl, _⟩ := h
  exact ⟨p, c, rfl, h2⟩
def or3L (a b c : Option Int) : Option Int := match a with | some v => some v | none => match b with | some v => some v | none => c
theorem parseL_or3 (L : List Wd) : Lb.parseL L = or3L (Lb.resR (Lb.dform 0 L)) (Lb.resR (Lb.dform 1 L)) (Lb.resR (Lb.dform 2 L)) := by
  rw [Lb.form_eqv 0 L, Lb.form_eqv 1 L, Lb.form_eqv 2 L]
  rfl
set_option maxRecDepth 100000 in
set_option maxHeartbeats 8000000 in
theorem rlparse_any (l : Wd) (hl : l.length ≤ 100000) (w : World) : Calls Tryz.prog 7 #[.string (Ml.mk l)] w (ParPost l w) := by
  have hp := rpcs_any l hl
  have hsz : PSz (Lb.pcs l) := ⟨Nat.le_trans (Lb.pcs_len l).1 hl, fun s hs => Nat.le_trans ((Lb.pcs_len l).2 s hs) hl⟩
  have hpc := Lb.pcs_piece l
  unfold PcsPost at hp
  unfold ParPost Lb.parse
  generalize Lb.pcs l = L at hp hsz hpc ⊢
  rw [parseL_or3]
  obtain ⟨o0, h0⟩ : ∃ o, Lb.resR (Lb.dform 0 L) = o := ⟨_, rfl⟩
  obtain ⟨o1, h1⟩ : ∃ o, Lb.resR (Lb.dform 1 L) = o := ⟨_, rfl⟩
  obtain ⟨o2, h2⟩ : ∃ o, Lb.resR (Lb.dform 2 L) = o := ⟨_, rfl⟩
  rw [h0, h1, h2]
  obtain ⟨res, hres⟩ : ∃ o, or3L o0 o1 o2 = o := ⟨_, rfl⟩
  rw [hres]
  have HRES := Lib.hid hres
  clear hres
  obtain ⟨rv, hrv⟩ : ∃ v, res.getD 0 = v := ⟨_, rfl⟩
  obtain ⟨rb, hrb⟩ : ∃ b, res.isSome = b := ⟨_, rfl⟩
  rw [hrv, hrb]
  have HRV := Lib.hid hrv
  have HRB := Lib.hid hrb
  clear hrv hrb
  have r1 := fun (w : World) p c (hO : PRow w w.heap.size (.slice p L.length c) L) => rfirst_any hO hsz hpc
  have r2 := fun (w : World) p c (hO : PRow w w.heap.size (.slice p L.length c) L) => rsecond_any hO hsz hpc
  have r3 := fun (w : World) p c (hO : PRow w w.heap.size (.slice p L.length c) L) => rthird_any hO hsz hpc
  rw [h0] at r1
  rw [h1] at r2
  rw [h2] at r3
  unfold ResPost at r1 r2 r3
  have R1 := Lib.hid r1
  have R2 := Lib.hid r2
  have R3 := Lib.hid r3
  clear h0 h1 h2 r1 r2 r3 hsz hpc
  go_enter Tryz.func7, Tryz.ntmps7
  go_wp2_with fail
  refine (hp _).mono ?_
  rintro e w1 ⟨v, rfl, hOL, hB⟩
  obtain ⟨p, c, rfl, hrow⟩ := hOL.prow
  have c1 := R1.out w1 p c hrow
  have HO := Lib.hid hOL
  have HB := Lib.hid hB
  clear hp hOL hB hrow
  obtain ⟨n, hn⟩ : ∃ n, L.length = n := ⟨_, rfl⟩
  rw [hn] at c1 R2 R3 ⊢
  go_wp2_with fail
  refine c1.mono ?_
  rintro e w2 ⟨rfl, hb2⟩
  have hB2 := bn HB.out hb2
  have HB2 := Lib.hid hB2
  cases o0 with
  | some v0 =>
    have hr : res = some v0 := HRES.out.symm
    have e1 := HRV.out
    have e2 := HRB.out
    rw [hr] at e1 e2
    have e1' : rv = v0 := e1.symm
    have e2' : rb = true := e2.symm
    subst e1' e2'
    clear c1 hb2 hB2 hr e1 e2 HRES HRV HRB R1
    simp only [Option.getD_some, Option.isSome_some]
    go_wp2_with fail
    go_ret2
    exact ⟨rfl, HB2.out⟩
  | none =>
    simp only [Option.getD_none, Option.isSome_none]
    have hO2 := HO.out.below hb2
    obtain ⟨_, _, e, hrow⟩ := hO2.prow
    injection e with e1 _ e3
    subst e1
    subst e3
    rw [hn] at hrow
    have c2 := R2.out w2 p c hrow
    have HO2 := Lib.hid hO2
    clear c1 hb2 hB2 hO2 hrow HO R1
    go_wp2_with fail
    refine c2.mono ?_
    rintro e w3 ⟨rfl, hb3⟩
    have hB3 := bn HB2.out hb3
    have HB3 := Lib.hid hB3
    cases o1 with
    | some v1 =>
      have hr : res = some v1 := HRES.out.symm
      have e1 := HRV.out
      have e2 := HRB.out
      rw [hr] at e1 e2
      have e1' : rv = v1 := e1.symm
      have e2' : rb = true := e2.symm
      subst e1' e2'
      clear c2 hb3 hB3 hr e1 e2 HRES HRV HRB R2
      simp only [Option.getD_some, Option.isSome_some]
      go_wp2_with fail
      go_ret2
      exact ⟨rfl, HB3.out⟩
    | none =>
      have hr : res = o2 := HRES.out.symm
      subst hr
      simp only [Option.getD_none, Option.isSome_none]
      have hO3 := HO2.out.below hb3
      obtain ⟨_, _, e, hrow⟩ := hO3.prow
      injection e with e1 _ e3
      subst e1
      subst e3
      rw [hn] at hrow
      have c3 := R3.out w3 p c hrow
      rw [HRV.out, HRB.out] at c3
      clear c2 hb3 hB3 hO3 hrow HO2 R2 R3 HRES HRV HRB
      go_wp2_with fail
      refine c3.mono ?_
      rintro e w4 ⟨rfl, hb4⟩
      have HB4 := Lib.hid (bn HB3.out hb4)
      clear c3 hb4
      go_wp2_with fail
      go_ret2
      exact ⟨rfl, HB4.out⟩
end Go.Proofs.YtbhafhbaldddiaaGreatDoor
