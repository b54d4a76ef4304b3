/- The walk of the pieces. -/
import Derived.Test.YtbhafhbaldddiaaLbB
import Derived.Test.YtbhafhbaldddiaaLbC
import Derived.Deep.AppendLies
namespace Go.Proofs.Ytbhafhbaldddiaa
open Go.RowKit
open Go
open Lb (R Wd)
set_option linter.unusedVariables false
/-- A row of pieces that is the call's own. -/
def OL (w : World) (base : Nat) (v : Value) (out : List Wd) : Prop := ∃ a cap, v = .slice a out.length cap ∧ w.ownsRow base 9 1 v out.length (out.map fun p => Value.string (Ml.mk p))
def PcsPost (l : Wd) (w : World) (e : Ending) (w' : World) : Prop := ∃ v, e = .returned v ∧ OL w' w.heap.size v (Lb.pcs l) ∧ Below w.heap.size w w'
theorem lone_str (x : ByteArray) : ∀ u ∈ [Value.string x], u.oneCell' = true := by
  intro u hu
  simp at hu
  subst hu
  rfl
def lenOf : Value → Nat
  | .string s => s.size
  | _ => 0
theorem mk_drop (a : Wd) (n : Nat) : (Ml.mk a).extract n a.length = Ml.mk (a.drop n) := by
  apply ByteArray.ext
  rw [ByteArray.data_extract]
  show a.toArray.extract n a.length = (a.drop n).toArray
  simp
  rw [List.take_of_length_le (by simp)]
theorem mk_take2 (a : Wd) (n : Nat) : (Ml.mk a).extract 0 n = Ml.mk (a.take n) := by
  apply ByteArray.ext
  rw [ByteArray.data_extract]
  show a.toArray.extract 0 n = (a.take n).toArray
  simp
theorem mk_at (x : Wd) (j : Nat) (h : j < (Ml.mk x).size) : (((Ml.mk x)[j]'h).toNat : Int) = ((x.getD j 0).toNat : Int) := by
  have h' : j < x.length := h
  have : (Ml.mk x)[j]'h = x.getD j 0 := by
    show x.toArray[j]'h = _
    simp [List.getD_eq_getElem?_getD, h']
    rfl
  rw [this]
/-- A round of the pieces: what is cut off and what is left. -/
def Cut (x : Wd) (j : Nat) : Prop := 1 ≤ j ∧ j ≤ x.length ∧ Lb.pcs x = (if Lb.spc (x.getD 0 0) = true then [] else [(x.take j).map Lb.lw]) ++ Lb.pcs (x.drop j)
theorem cut_of (c : UInt8) (q : Wd) (j : Nat) (h1 : 1 ≤ j) (h2 : j ≤ q.length + 1) (hk : ∀ i, 1 ≤ i → i < j → Lb.srt ((c :: q).getD i 0) = Lb.srt c) (h0 : j = 1 ∨ Lb.srt c ≠ 0)
    (he : j = q.length + 1 ∨ Lb.srt c = 0 ∨ Lb.srt ((c :: q).getD j 0) ≠ Lb.srt c) : Cut (c :: q) j := by
  obtain ⟨n, rfl⟩ : ∃ n, j = n + 1 := ⟨j - 1, by omega⟩
  refine ⟨h1, by simpa using h2, ?_⟩
  have hg : ∀ i, i < q.length → (c :: q).getD (i + 1) 0 = q.getD i 0 := fun i hi => by simp
  by_cases hn : n < q.length ∨ n = q.length
  · have := Lb.pcs_take n c q (by omega) (fun i d hi hd => by
      have hi2 : i < q.length := by omega
      have e : q.getD i 0 = d := by simp [List.getD_eq_getElem?_getD, hd]
      rw [← e, ← hg i hi2]
      exact hk (i + 1) (by omega) (by omega)) (by rcases h0 with h | h; (· exact Or.inl (by omega)); exact Or.inr h) (by
      rcases he with h | h | h
      · exact Or.inl (by omega)
      · exact Or.inr (Or.inl h)
      · rcases Nat.lt_or_ge n q.length with q1 | q1
        · refine Or.inr (Or.inr ⟨q.getD n 0, ?_, ?_⟩)
          · simp [List.getD_eq_getElem?_getD, q1]
          · rw [hg n q1] at h; exact h
        · exact Or.inl (by omega))
    rw [this]
    rfl
  · omega
theorem OL.below {w w' : World} {base : Nat} {v : Value} {out : List Wd} (h : OL w base v out) (hb : Below w.heap.size w w') : OL w' base v out := by
  obtain ⟨a, cap, hv, ho⟩ := h
  exact ⟨a, cap, hv, ho.kept (lgb_of_below hb none) (by cases v.ownBlock <;> simp)⟩
set_option maxRecDepth 100000 in
set_option maxHeartbeats 4000000 in
theorem pcs_any (l : Wd) (hl : l.length ≤ 100000) (w : World) : Calls Try.prog 10 #[.string (Ml.mk l)] w (PcsPost l w) := by
  obtain ⟨L, hL⟩ : ∃ L, Lb.pcs l = L := ⟨_, rfl⟩
  have hLn := (Lb.pcs_len l).1
  unfold PcsPost
  rw [hL]
  rw [hL] at hLn
  have HL := Lib.hid hL
  clear hL
  obtain ⟨i0, hi, hi0, hi1, hi2⟩ := info_parts linfo_str
  go_enter Try.func10, Try.ntmps10
  go_wp2
  go_loopw [0, 2] (fun s v wr => ∃ (x : Wd) (out : List Wd), s = .string (Ml.mk x) ∧ x.length ≤ 100000 ∧ out ++ Lb.pcs x = L ∧ OL wr w.heap.size v out ∧ Below w.heap.size w wr) (fun s _ _ => lenOf s)
  case atStart => exact ⟨l, [], rfl, hl, HL.out, ⟨none, 0, rfl, World.ownsRow_nil _ _ _ _⟩, Below.refl _ _⟩
  case round =>
    obtain ⟨x, out, rfl, hx, hcat, hOL, hB⟩ := hrel
    have HB := Lib.hid hB
    have HC := Lib.hid hcat
    have hon : out.length ≤ 100000 := by
      have := congrArg List.length hcat
      rw [List.length_append] at this
      omega
    clear hcat hB
    obtain ⟨ad, cap, rfl, hown⟩ := hOL
    have HO := Lib.hid hown
    clear hown
    cases x with
    | nil =>
      have hfin : out = L := by have := HC.out; simpa [Lb.pcs, Lb.raw] using this
      have hem : Ml.mk [] = ⟨#[]⟩ := rfl
      rw [hem]
      subst hfin
      clear hem
      go_wp2
      go_ret
      exact ⟨_, rfl, ⟨ad, cap, rfl, HO.out⟩, HB.out⟩
    | cons c q =>
      obtain ⟨x, hxq⟩ : ∃ x, c :: q = x := ⟨_, rfl⟩
      have hlen : x.length = q.length + 1 := by rw [← hxq]; rfl
      have hsz : (Ml.mk x).size = x.length := rfl
      have hcut := cut_of c q
      rw [hxq] at hcut HC hx ⊢
      rw [← hlen] at hcut
      have h0c : x.getD 0 0 = c := by rw [← hxq]; rfl
      have hne : ((Ml.mk x).toList == []) = false := by
        cases e : (Ml.mk x).toList == [] with
        | false => rfl
        | true =>
          have := congrArg List.length (eq_of_beq e)
          rw [Go.Lib.toList_data, Array.length_toList] at this
          exact absurd (show (Ml.mk x).size = 0 from this) (by rw [hsz]; omega)
      have hat := mk_at x
      have hix0 := hat 0
      rw [h0c] at hix0
      have hpos : 1 ≤ x.length := by omega
      have hmd := mk_drop x
      have hmt := mk_take2 x
      clear hxq hlen
      generalize Ml.mk x = T at *
      obtain ⟨z, hz⟩ : ∃ z, x.length = z := ⟨_, rfl⟩
      rw [hz] at hsz hx hpos hmd hcut
      have HZ := Lib.hid hz
      have HCUT := Lib.hid hcut
      have HAT := Lib.hid hat
      have HMD := Lib.hid hmd
      have HMT := Lib.hid hmt
      have H0C := Lib.hid h0c
      clear hz hcut hat hmd hmt h0c
      have h256 : c.toNat < 256 := UInt8.toNat_lt c
      have hsc := srt_any c
      have hspc := spc_any c
      obtain ⟨k, hk⟩ : ∃ k, Lb.srt c = k := ⟨_, rfl⟩
      rw [hk] at hsc
      have HK := Lib.hid hk
      clear hk
      go_wp2_with (go_at_call 21; refine (hsc _).mono ?_; rintro e w1 ⟨rfl, rfl⟩)
      go_loop [3] (fun n => ∃ j : Nat, 1 ≤ j ∧ j ≤ z ∧ n = .int .i64 j ∧ (∀ i, 1 ≤ i → i < j → Lb.srt (x.getD i 0) = k) ∧ (j = 1 ∨ k ≠ 0)) (fun n => z - (intOf n).toNat)
      case atStart => exact ⟨1, by omega, by omega, rfl, fun i h h' => by omega, Or.inl rfl⟩
      case round =>
        obtain ⟨j, hj1, hjz, rfl, hin, hor⟩ := hrel
        have HIN := Lib.hid hin
        have HOR := Lib.hid hor
        clear hin hor
        by_cases hk0 : k = 0
        · have hc : Cut x j := HCUT.out j hj1 hjz (by rw [HK.out]; exact HIN.out) (by rw [HK.out]; exact HOR.out) (Or.inr (Or.inl (by rw [HK.out]; exact hk0)))
          have hkk : ¬ (0 : Int) < (k : Int) := by omega
          clear hk0
          obtain ⟨-, -, hc⟩ := hc
          rw [H0C.out] at hc
          have hd := HMD.out j
          have hlw := low_any (x.take j) (by rw [List.length_take]; omega)
          unfold LowPost at hlw
          rw [← HMT.out j] at hlw
          have hdl : (x.drop j).length + j = z := by rw [List.length_drop, HZ.out]; omega
          generalize x.drop j = y at *
          have hyl : y.length ≤ 100000 := by omega
          have HYZ : Hid ((Ml.mk y).size = y.length) := Lib.hid rfl
          have HDL := Lib.hid hdl
          have hj2 : (j : Int) ≤ (z : Int) := by omega
          have hj3 : (0 : Int) ≤ (j : Int) := by omega
          clear hdl
          cases hsp : Lb.spc c with
          | true =>
            rw [hsp] at hspc hc
            rw [if_pos rfl, List.nil_append] at hc
            have hcat : out ++ Lb.pcs y = L := by rw [← HC.out, hc]
            have HCT := Lib.hid hcat
            clear hc hcat hlw hsp
            go_wp2_with (first | (go_at_call 21; with_reducible refine (hsd _).mono ?_; rintro e w1 ⟨rfl, rfl⟩) | (go_at_call 22; with_reducible refine (hspc _).mono ?_; rintro e w1 ⟨rfl, rfl⟩))
            go_roundw
            case rel => exact ⟨y, out, rfl, hyl, HCT.out, ⟨ad, cap, rfl, HO.out⟩, HB.out⟩
            case measure => have h1 := HYZ.out; have h2 := HDL.out; simp only [lenOf]; omega
          | false =>
            rw [hsp] at hspc hc
            rw [if_neg (by decide)] at hc
            generalize (x.take j).map Lb.lw = p at *
            have hcat : (out ++ [p]) ++ Lb.pcs y = L := by rw [← HC.out, hc, List.append_assoc]
            have HCT := Lib.hid hcat
            clear hc hcat hsp
            go_wp2_with (first | (go_at_call 21; with_reducible refine (hsd _).mono ?_; rintro e w1 ⟨rfl, rfl⟩) | (go_at_call 22; with_reducible refine (hspc _).mono ?_; rintro e w1 ⟨rfl, rfl⟩) | (go_at_call 23; with_reducible refine (hlw _).mono ?_; rintro e w2 ⟨rfl, hB2⟩; have ho2 := HO.out.kept (lgb_of_below hB2 none) (by cases (Value.slice ad out.length cap).ownBlock <;> simp); have HO2 := Lib.hid ho2; have hB3 := bn HB.out hB2; clear ho2) | (at_builtin; refine wpList_append_lies _ rfl (.tmp 33) (.tmp 38) _ rfl w.heap.size 9 i0 _ 1 16 Try.underlying27 hi hi0 hi1 hi2 rfl (by omega) _ _ _ (by rfl) (HO2.out.alloc _) ⟨w2.heap.size, 0, none⟩ 1 1 [.string (Ml.mk p)] (by rfl) rfl (World.news_of_block (heap_alloc_new _ _)) (lone_str _) (by omega) (by unfold maxLen; omega) (by omega) (by have := hB3.size; simp; omega) _ rfl ?_; intro g1 cap1 w3 hown2 hgrow2 hat2 hlt2))
            go_roundw
            case rel => exact ⟨y, out ++ [p], rfl, hyl, HCT.out, ⟨_, _, by rw [List.length_append]; rfl, by rw [List.length_append, List.map_append]; exact hown2⟩, (bbox hB3 _).grown hgrow2 (by have := hB3.size; simp; omega) (fun k hk => (HO2.out.lt k hk).1)⟩
            case measure => have h1 := HYZ.out; have h2 := HDL.out; simp only [lenOf]; omega
        · have hkk : (0 : Int) < (k : Int) := by omega
          by_cases hjl : j < z
          · have hjl2 : (j : Int) < (z : Int) := by omega
            have hixj := HAT.out j
            have hsd := srt_any (x.getD j 0)
            obtain ⟨kd, hkd⟩ : ∃ kd, Lb.srt (x.getD j 0) = kd := ⟨_, rfl⟩
            rw [hkd] at hsd
            by_cases hs : kd = k
            · subst hs
              have hnext : ∀ i, 1 ≤ i → i < j + 1 → Lb.srt (x.getD i 0) = kd := fun i h1 h2 => by
                by_cases e : i = j
                · rw [e]; exact hkd
                · exact HIN.out i h1 (by omega)
              have HNX := Lib.hid hnext
              clear hnext hkd
              generalize ((x.getD j 0).toNat : Int) = dn at *
              go_wp2_with (first | (go_at_call 21; with_reducible refine (hsd _).mono ?_; rintro e w1 ⟨rfl, rfl⟩))
              go_round
              case rel => exact ⟨j + 1, by omega, by omega, by go_num, HNX.out, Or.inr hk0⟩
              case measure => simp [intOf]; omega
            · have hc : Cut x j := HCUT.out j hj1 hjz (by rw [HK.out]; exact HIN.out) (by rw [HK.out]; exact HOR.out) (Or.inr (Or.inr (by rw [HK.out, hkd]; exact hs)))
              have hsk : ((kd : Int) == (k : Int)) = false := by simp; omega
              clear hkd
              generalize ((x.getD j 0).toNat : Int) = dn at *
              obtain ⟨-, -, hc⟩ := hc
              rw [H0C.out] at hc
              have hd := HMD.out j
              have hlw := low_any (x.take j) (by rw [List.length_take]; omega)
              unfold LowPost at hlw
              rw [← HMT.out j] at hlw
              have hdl : (x.drop j).length + j = z := by rw [List.length_drop, HZ.out]; omega
              generalize x.drop j = y at *
              have hyl : y.length ≤ 100000 := by omega
              have HYZ : Hid ((Ml.mk y).size = y.length) := Lib.hid rfl
              have HDL := Lib.hid hdl
              have hj2 : (j : Int) ≤ (z : Int) := by omega
              have hj3 : (0 : Int) ≤ (j : Int) := by omega
              clear hdl
              cases hsp : Lb.spc c with
              | true =>
                rw [hsp] at hspc hc
                rw [if_pos rfl, List.nil_append] at hc
                have hcat : out ++ Lb.pcs y = L := by rw [← HC.out, hc]
                have HCT := Lib.hid hcat
                clear hc hcat hlw hsp
                go_wp2_with (first | (go_at_call 21; with_reducible refine (hsd _).mono ?_; rintro e w1 ⟨rfl, rfl⟩) | (go_at_call 22; with_reducible refine (hspc _).mono ?_; rintro e w1 ⟨rfl, rfl⟩))
                go_roundw
                case rel => exact ⟨y, out, rfl, hyl, HCT.out, ⟨ad, cap, rfl, HO.out⟩, HB.out⟩
                case measure => have h1 := HYZ.out; have h2 := HDL.out; simp only [lenOf]; omega
              | false =>
                rw [hsp] at hspc hc
                rw [if_neg (by decide)] at hc
                generalize (x.take j).map Lb.lw = p at *
                have hcat : (out ++ [p]) ++ Lb.pcs y = L := by rw [← HC.out, hc, List.append_assoc]
                have HCT := Lib.hid hcat
                clear hc hcat hsp
                go_wp2_with (first | (go_at_call 21; with_reducible refine (hsd _).mono ?_; rintro e w1 ⟨rfl, rfl⟩) | (go_at_call 22; with_reducible refine (hspc _).mono ?_; rintro e w1 ⟨rfl, rfl⟩) | (go_at_call 23; with_reducible refine (hlw _).mono ?_; rintro e w2 ⟨rfl, hB2⟩; have ho2 := HO.out.kept (lgb_of_below hB2 none) (by cases (Value.slice ad out.length cap).ownBlock <;> simp); have HO2 := Lib.hid ho2; have hB3 := bn HB.out hB2; clear ho2) | (at_builtin; refine wpList_append_lies _ rfl (.tmp 33) (.tmp 38) _ rfl w.heap.size 9 i0 _ 1 16 Try.underlying27 hi hi0 hi1 hi2 rfl (by omega) _ _ _ (by rfl) (HO2.out.alloc _) ⟨w2.heap.size, 0, none⟩ 1 1 [.string (Ml.mk p)] (by rfl) rfl (World.news_of_block (heap_alloc_new _ _)) (lone_str _) (by omega) (by unfold maxLen; omega) (by omega) (by have := hB3.size; simp; omega) _ rfl ?_; intro g1 cap1 w3 hown2 hgrow2 hat2 hlt2))
                go_roundw
                case rel => exact ⟨y, out ++ [p], rfl, hyl, HCT.out, ⟨_, _, by rw [List.length_append]; rfl, by rw [List.length_append, List.map_append]; exact hown2⟩, (bbox hB3 _).grown hgrow2 (by have := hB3.size; simp; omega) (fun k hk => (HO2.out.lt k hk).1)⟩
                case measure => have h1 := HYZ.out; have h2 := HDL.out; simp only [lenOf]; omega
          · have hc : Cut x j := HCUT.out j hj1 hjz (by rw [HK.out]; exact HIN.out) (by rw [HK.out]; exact HOR.out) (Or.inl (by omega))
            have hjl2 : ¬ (j : Int) < (z : Int) := by omega
            obtain ⟨-, -, hc⟩ := hc
            rw [H0C.out] at hc
            have hd := HMD.out j
            have hlw := low_any (x.take j) (by rw [List.length_take]; omega)
            unfold LowPost at hlw
            rw [← HMT.out j] at hlw
            have hdl : (x.drop j).length + j = z := by rw [List.length_drop, HZ.out]; omega
            generalize x.drop j = y at *
            have hyl : y.length ≤ 100000 := by omega
            have HYZ : Hid ((Ml.mk y).size = y.length) := Lib.hid rfl
            have HDL := Lib.hid hdl
            have hj2 : (j : Int) ≤ (z : Int) := by omega
            have hj3 : (0 : Int) ≤ (j : Int) := by omega
            clear hdl
            cases hsp : Lb.spc c with
            | true =>
              rw [hsp] at hspc hc
              rw [if_pos rfl, List.nil_append] at hc
              have hcat : out ++ Lb.pcs y = L := by rw [← HC.out, hc]
              have HCT := Lib.hid hcat
              clear hc hcat hlw hsp
              go_wp2_with (first | (go_at_call 21; with_reducible refine (hsd _).mono ?_; rintro e w1 ⟨rfl, rfl⟩) | (go_at_call 22; with_reducible refine (hspc _).mono ?_; rintro e w1 ⟨rfl, rfl⟩))
              go_roundw
              case rel => exact ⟨y, out, rfl, hyl, HCT.out, ⟨ad, cap, rfl, HO.out⟩, HB.out⟩
              case measure => have h1 := HYZ.out; have h2 := HDL.out; simp only [lenOf]; omega
            | false =>
              rw [hsp] at hspc hc
              rw [if_neg (by decide)] at hc
              generalize (x.take j).map Lb.lw = p at *
              have hcat : (out ++ [p]) ++ Lb.pcs y = L := by rw [← HC.out, hc, List.append_assoc]
              have HCT := Lib.hid hcat
              clear hc hcat hsp
              go_wp2_with (first | (go_at_call 21; with_reducible refine (hsd _).mono ?_; rintro e w1 ⟨rfl, rfl⟩) | (go_at_call 22; with_reducible refine (hspc _).mono ?_; rintro e w1 ⟨rfl, rfl⟩) | (go_at_call 23; with_reducible refine (hlw _).mono ?_; rintro e w2 ⟨rfl, hB2⟩; have ho2 := HO.out.kept (lgb_of_below hB2 none) (by cases (Value.slice ad out.length cap).ownBlock <;> simp); have HO2 := Lib.hid ho2; have hB3 := bn HB.out hB2; clear ho2) | (at_builtin; refine wpList_append_lies _ rfl (.tmp 33) (.tmp 38) _ rfl w.heap.size 9 i0 _ 1 16 Try.underlying27 hi hi0 hi1 hi2 rfl (by omega) _ _ _ (by rfl) (HO2.out.alloc _) ⟨w2.heap.size, 0, none⟩ 1 1 [.string (Ml.mk p)] (by rfl) rfl (World.news_of_block (heap_alloc_new _ _)) (lone_str _) (by omega) (by unfold maxLen; omega) (by omega) (by have := hB3.size; simp; omega) _ rfl ?_; intro g1 cap1 w3 hown2 hgrow2 hat2 hlt2))
              go_roundw
              case rel => exact ⟨y, out ++ [p], rfl, hyl, HCT.out, ⟨_, _, by rw [List.length_append]; rfl, by rw [List.length_append, List.map_append]; exact hown2⟩, (bbox hB3 _).grown hgrow2 (by have := hB3.size; simp; omega) (fun k hk => (HO2.out.lt k hk).1)⟩
              case measure => have h1 := HYZ.out; have h2 := HDL.out; simp only [lenOf]; omega
end Go.Proofs.Ytbhafhbaldddiaa
