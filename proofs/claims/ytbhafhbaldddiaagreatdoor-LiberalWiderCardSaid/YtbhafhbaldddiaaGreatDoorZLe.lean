/- The walk of a liberal reader's zone by name, or none. The walk of the pieces. -/
import Derived.Test.YtbhafhbaldddiaaGreatDoorZLd
import Derived.Test.YtbhafhbaldddiaaGreatDoorZLb
import Derived.Deep.AppendLies
namespace Go.Proofs.YtbhafhbaldddiaaGreatDoor
open Go.RowKit
open Go
open Lb (R Wd)
set_option linter.unusedVariables false
section
variable {w0 W : World} {B : Nat} {r : R}
theorem Rd.zone_none (h : Rd w0 W B r) (hx : r.l = []) : Calls Tryz.prog 25 #[.pointer (some ⟨B, 0, none⟩)] W (RdPost (.tuple #[]) w0 B r) := by
  obtain ⟨p, c, ⟨k0, hc⟩, -⟩ := h.open_
  rw [hx] at k0
  have hz : ([] : List Wd).length = 0 := rfl
  rw [hz] at k0
  have H := Lib.hid h
  clear h hx hc
  go_enter Tryz.func25, Tryz.ntmps25
  go_wp2
  refine bodyPost_ret (results_none rfl _ _ _) rfl ?_
  exact ⟨rfl, H.out⟩
theorem Rd.named {W : World} {r : R} {bd : Bool} (h : Rd w0 W B r) (hb : r.bad = bd) (x : Int) (ok b : Bool) (v : Value) (hp : PRow W B v r.l.tail) (e : b = (bd || !ok)) :
    Rd w0 (((W.setCell ⟨B, 8, none⟩ (.int .i64 x)).setCell ⟨B, 1, none⟩ (.bool b)).setCell ⟨B, 0, none⟩ v) B (Lb.tl (Lb.sE x (Lb.orB (!ok) r))) := by
  subst e
  have h2 := ((h.sE x).bad1 (bd || !ok)).tl v ((hp.setB 8 (.int .i64 x)).setB 1 (.bool (bd || !ok)))
  have e : Lb.orB (!ok) r = { r with bad := bd || !ok } := by unfold Lb.orB; rw [hb]
  rw [e]
  exact h2
set_option maxHeartbeats 4000000 in
set_option maxRecDepth 100000 in
theorem Rd.zone_name (h : Rd w0 W B r) (hl : r.l ≠ []) (h43 : Lb.nx r ≠ [43]) (h45 : Lb.nx r ≠ [45]) : Calls Tryz.prog 25 #[.pointer (some ⟨B, 0, none⟩)] W (RdPost (.tuple #[]) w0 B (Lb.tl (Lb.sE ((Lb.hrF (Lb.nx r)).1 * 60) (Lb.orB (!(Lb.hrF (Lb.nx r)).2) r)))) := by
  have hb43 : Lb.mbB [43] r = false := by unfold Lb.mbB; exact decide_eq_false h43
  have hb45 : Lb.mbB [45] r = false := by unfold Lb.mbB; exact decide_eq_false h45
  have hs := h.2.2.2.2.2.nx
  obtain ⟨g, i, n', c', k0, hc, -⟩ := h.head_ hl
  have H := Lib.hid h
  have HL := Lib.hid hl
  clear h h43 h45 hl
  have hh := hr_any (Lb.nx r) hs
  unfold HrPost at hh
  have hbd : -8 ≤ (Lb.hrF (Lb.nx r)).1 ∧ (Lb.hrF (Lb.nx r)).1 ≤ 0 := hr_bd _
  generalize (Lb.hrF (Lb.nx r)).1 = hv at hh hbd ⊢
  generalize (Lb.hrF (Lb.nx r)).2 = ok at hh ⊢
  obtain ⟨hv1, hv2⟩ := hbd
  unfold RdPost
  go_enter Tryz.func25, Tryz.ntmps25
  go_wp2_with fail
  have hm := H.out.mb43
  rw [hb43, mb_no hb43] at hm
  refine hm.mono ?_
  clear hm
  rintro e w1 ⟨rfl, h1⟩
  obtain ⟨_, _, -, -, ⟨k1, k2, k3, k4, k5, k6, k7, k8⟩, f0, f1, f2, f3, f4, f5, f6, f7, f8⟩ := h1.open_
  have H1 : Hid (Rd w0 _ B (r)) := Lib.hid (h1)
  clear H h1
  go_wp2_with fail
  have hm := H1.out.mb45
  rw [hb45, mb_no hb45] at hm
  refine hm.mono ?_
  clear hm
  rintro e w2 ⟨rfl, h1⟩
  clear k1 k2 k3 k4 k5 k6 k7 k8 f0 f1 f2 f3 f4 f5 f6 f7 f8
  obtain ⟨_, _, -, -, ⟨k1, k2, k3, k4, k5, k6, k7, k8⟩, f0, f1, f2, f3, f4, f5, f6, f7, f8⟩ := h1.open_
  have H2 : Hid (Rd w0 _ B (r)) := Lib.hid (h1)
  clear H1 h1
  go_wp2_with fail
  refine H2.out.next.mono ?_
  rintro e w3 ⟨rfl, h1⟩
  have ht := h1.tail2 HL.out
  clear k1 k2 k3 k4 k5 k6 k7 k8 f0 f1 f2 f3 f4 f5 f6 f7 f8
  obtain ⟨_, _, -, -, ⟨k1, k2, k3, k4, k5, k6, k7, k8⟩, f0, f1, f2, f3, f4, f5, f6, f7, f8⟩ := h1.open_
  have H3 := Lib.hid h1
  clear H2 h1
  clear hc hs hb43 hb45 HL k0
  go_wp2_with fail
  refine (hh _).mono ?_
  rintro e w4 ⟨rfl, rfl⟩
  clear hh
  obtain ⟨bd, hbd⟩ : ∃ bd, r.bad = bd := ⟨_, rfl⟩
  rw [hbd] at k1
  have HBD := Lib.hid hbd
  clear hbd f0
  unfold Tail2 at ht
  rcases ht with ⟨g, i, k0, kx, f0, hp⟩ | ⟨g, i, n, c, k0, hc, kx, f0, hp⟩
  all_goals clear kx
  all_goals cases bd
  all_goals cases ok
  all_goals go_wp2_with fail
  all_goals go_region
  all_goals go_wp2
  all_goals
    refine bodyPost_ret (results_none rfl _ _ _) rfl ?_
    refine ⟨rfl, Rd.drew ?_⟩
    with_reducible refine Rd.named H3.out HBD.out _ _ _ _ hp.out ?_
    rfl
theorem Rd.zone (h : Rd w0 W B r) : Calls Tryz.prog 25 #[.pointer (some ⟨B, 0, none⟩)] W (RdPost (.tuple #[]) w0 B (Lb.znR r)) := by
  unfold Lb.znR
  by_cases h0 : r.l = []
  · rw [if_pos h0]
    exact h.zone_none h0
  · rw [if_neg h0]
    by_cases h1 : Lb.nx r = [43]
    · rw [if_pos h1]
      exact h.zone_plus h1
    · rw [if_neg h1]
      by_cases h2 : Lb.nx r = [45]
      · rw [if_pos h2]
        exact h.zone_minus h2
      · rw [if_neg h2]
        exact h.zone_name h0 h1 h2
end
end Go.Proofs.YtbhafhbaldddiaaGreatDoor
namespace Go.Proofs.YtbhafhbaldddiaaGreatDoor
open Go.RowKit
open Go
open Lb (R Wd)
set_option linter.unusedVariables false
/-- A row of pieces that is the call's own. -/
def OL (w : World) (base : Nat) (v : Value) (out : List Wd) : Prop := ∃ a cap, v = .slice a out.length cap ∧ w.ownsRow base 9 1 v out.length (out.map fun p => Value.string (Ml.mk p))
def PcsPost (l : Wd) (w : World) (e : Ending) (w' : World) : Prop := ∃ v, e = .returned v ∧ OL w' w.heap.size v (Lb.pcs l) ∧ Below w.heap.size w w'
theorem lone_str (x : ByteArray) : ∀ u ∈ [Value.string x], u.oneCell' = true := by
  intro u hu
  simp at hu
  subst hu
  rfl
def lenOf : Value → Nat
  | .string s => s.size
  | _ => 0
theorem mk_drop (a : Wd) (n : Nat) : (Ml.mk a).extract n a.length = Ml.mk (a.drop n) := by
  apply ByteArray.ext
  rw [ByteArray.data_extract]
  show a.toArray.extract n a.length = (a.drop n).toArray
  simp
  rw [List.take_of_length_le (by simp)]
theorem mk_take2 (a : Wd) (n : Nat) : (Ml.mk a).extract 0 n = Ml.mk (a.take n) := by
  apply ByteArray.ext
  rw [ByteArray.data_extract]
  show a.toArray.extract 0 n = (a.take n).toArray
  simp
theorem mk_at (x : Wd) (j : Nat) (h : j < (Ml.mk x).size) : (((Ml.mk x)[j]'h).toNat : Int) = ((x.getD j 0).toNat : Int) := by
  have h' : j < x.length := h
  have : (Ml.mk x)[j]'h = x.getD j 0 := by
    show x.toArray[j]'h = _
    simp [List.getD_eq_getElem?_getD, h']
    rfl
  rw [this]
/-- A round of the pieces: what is cut off and what is left. -/
def Cut (x : Wd) (j : Nat) : Prop := 1 ≤ j ∧ j ≤ x.length ∧ Lb.pcs x = (if Lb.spc (x.getD 0 0) = true then [] else [(x.take j).map Lb.lw]) ++ Lb.pcs (x.drop j)
theorem cut_of (c : UInt8) (q : Wd) (j : Nat) (h1 : 1 ≤ j) (h2 : j ≤ q.length + 1) (hk : ∀ i, 1 ≤ i → i < j → Lb.srt ((c :: q).getD i 0) = Lb.srt c) (h0 : j = 1 ∨ Lb.srt c ≠ 0)
    (he : j = q.length + 1 ∨ Lb.srt c = 0 ∨ Lb.srt ((c :: q).getD j 0) ≠ Lb.srt c) : Cut (c :: q) j := by
  obtain ⟨n, rfl⟩ : ∃ n, j = n + 1 := ⟨j - 1, by omega⟩
  refine ⟨h1, by simpa using h2, ?_⟩
  have hg : ∀ i, i < q.length → (c :: q).getD (i + 1) 0 = q.getD i 0 := fun i hi => by simp
  by_cases hn : n < q.length ∨ n = q.length
  · have := Lb.pcs_take n c q (by omega) (fun i d hi hd => by
      have hi2 : i < q.length := by omega
      have e : q.getD i 0 = d := by simp [List.getD_eq_getElem?_getD, hd]
      rw [← e, ← hg i hi2]
      exact hk (i + 1) (by omega) (by omega)) (by rcases h0 with h | h; (· exact Or.inl (by omega)); exact Or.inr h) (by
      rcases he with h | h | h
      · exact Or.inl (by omega)
      · exact Or.inr (Or.inl h)
      · rcases Nat.lt_or_ge n q.length with q1 | q1
        · refine Or.inr (Or.inr ⟨q.getD n 0, ?_, ?_⟩)
          · simp [List.getD_eq_getElem?_getD, q1]
          · rw [hg n q1] at h; exact h
        · exact Or.inl (by omega))
    rw [this]
    rfl
  · omega
theorem OL.below {w w' : World} {base : Nat} {v : Value} {out : List Wd} (h : OL w base v out) (hb : Below w.heap.size w w') : OL w' base v out := by
  obtain ⟨a, cap, hv, ho⟩ := h
  exact ⟨a, cap, hv, ho.kept (lgb_of_below hb none) (by cases v.ownBlock <;> simp)⟩
set_option maxRecDepth 100000 in
set_option maxHeartbeats 4000000 in
theorem pcs_any (l : Wd) (hl : l.length ≤ 100000) (w : World) : Calls Tryz.prog 11 #[.string (Ml.mk l)] w (PcsPost l w) := by
  obtain ⟨L, hL⟩ : ∃ L, Lb.pcs l = L := ⟨_, rfl⟩
  have hLn := (Lb.pcs_len l).1
  unfold PcsPost
  rw [hL]
  rw [hL] at hLn
  have HL := Lib.hid hL
  clear hL
  obtain ⟨i0, hi, hi0, hi1, hi2⟩ := info_parts linfo_str
  go_enter Tryz.func11, Tryz.ntmps11
  go_wp2
  go_loopw [0, 2] (fun s v wr => ∃ (x : Wd) (out : List Wd), s = .string (Ml.mk x) ∧ x.length ≤ 100000 ∧ out ++ Lb.pcs x = L ∧ OL wr w.heap.size v out ∧ Below w.heap.size w wr) (fun s _ _ => lenOf s)
  case atStart => exact ⟨l, [], rfl, hl, HL.out, ⟨none, 0, rfl, World.ownsRow_nil _ _ _ _⟩, Below.refl _ _⟩
  case round =>
    obtain ⟨x, out, rfl, hx, hcat, hOL, hB⟩ := hrel
    have HB := Lib.hid hB
    have HC := Lib.hid hcat
    have hon : out.length ≤ 100000 := by
      have := congrArg List.length hcat
      rw [List.length_append] at this
      omega
    clear hcat hB
    obtain ⟨ad, cap, rfl, hown⟩ := hOL
    have HO := Lib.hid hown
    clear hown
    cases x with
    | nil =>
      have hfin : out = L := by have := HC.out; simpa [Lb.pcs, Lb.raw] using this
      have hem : Ml.mk [] = ⟨#[]⟩ := rfl
      rw [hem]
      subst hfin
      clear hem
      go_wp2
      go_ret
      exact ⟨_, rfl, ⟨ad, cap, rfl, HO.out⟩, HB.out⟩
    | cons c q =>
      obtain ⟨x, hxq⟩ : ∃ x, c :: q = x := ⟨_, rfl⟩
      have hlen : x.length = q.length + 1 := by rw [← hxq]; rfl
      have hsz : (Ml.mk x).size = x.length := rfl
      have hcut := cut_of c q
      rw [hxq] at hcut HC hx ⊢
      rw [← hlen] at hcut
      have h0c : x.getD 0 0 = c := by rw [← hxq]; rfl
      have hne : ((Ml.mk x).toList == []) = false := by
        cases e : (Ml.mk x).toList == [] with
        | false => rfl
        | true =>
          have := congrArg List.length (eq_of_beq e)
          rw [Go.Lib.toList_data, Array.length_toList] at this
          exact absurd (show (Ml.mk x).size = 0 from this) (by rw [hsz]; omega)
      have hat := mk_at x
      have hix0 := hat 0
      rw [h0c] at hix0
      have hpos : 1 ≤ x.length := by omega
      have hmd := mk_drop x
      have hmt := mk_take2 x
      clear hxq hlen
      generalize Ml.mk x = T at *
      obtain ⟨z, hz⟩ : ∃ z, x.length = z := ⟨_, rfl⟩
      rw [hz] at hsz hx hpos hmd hcut
      have HZ := Lib.hid hz
      have HCUT := Lib.hid hcut
      have HAT := Lib.hid hat
      have HMD := Lib.hid hmd
      have HMT := Lib.hid hmt
      have H0C := Lib.hid h0c
      clear hz hcut hat hmd hmt h0c
      have h256 : c.toNat < 256 := UInt8.toNat_lt c
      have hsc := srt_any c
      have hspc := spc_any c
      obtain ⟨k, hk⟩ : ∃ k, Lb.srt c = k := ⟨_, rfl⟩
      rw [hk] at hsc
      have HK := Lib.hid hk
      clear hk
      go_wp2_with (go_at_call 33; refine (hsc _).mono ?_; rintro e w1 ⟨rfl, rfl⟩)
      go_loop [3] (fun n => ∃ j : Nat, 1 ≤ j ∧ j ≤ z ∧ n = .int .i64 j ∧ (∀ i, 1 ≤ i → i < j → Lb.srt (x.getD i 0) = k) ∧ (j = 1 ∨ k ≠ 0)) (fun n => z - (intOf n).toNat)
      case atStart => exact ⟨1, by omega, by omega, rfl, fun i h h' => by omega, Or.inl rfl⟩
      case round =>
        obtain ⟨j, hj1, hjz, rfl, hin, hor⟩ := hrel
        have HIN := Lib.hid hin
        have HOR := Lib.hid hor
        clear hin hor
        by_cases hk0 : k = 0
        · have hc : Cut x j := HCUT.out j hj1 hjz (by rw [HK.out]; exact HIN.out) (by rw [HK.out]; exact HOR.out) (Or.inr (Or.inl (by rw [HK.out]; exact hk0)))
          have hkk : ¬ (0 : Int) < (k : Int) := by omega
          clear hk0
          obtain ⟨-, -, hc⟩ := hc
          rw [H0C.out] at hc
          have hd := HMD.out j
          have hlw := low_any (x.take j) (by rw [List.length_take]; omega)
          unfold LowPost at hlw
          rw [← HMT.out j] at hlw
          have hdl : (x.drop j).length + j = z := by rw [List.length_drop, HZ.out]; omega
          generalize x.drop j = y at *
          have hyl : y.length ≤ 100000 := by omega
          have HYZ : Hid ((Ml.mk y).size = y.length) := Lib.hid rfl
          have HDL := Lib.hid hdl
          have hj2 : (j : Int) ≤ (z : Int) := by omega
          have hj3 : (0 : Int) ≤ (j : Int) := by omega
          clear hdl
          cases hsp : Lb.spc c with
          | true =>
            rw [hsp] at hspc hc
            rw [if_pos rfl, List.nil_append] at hc
            have hcat : out ++ Lb.pcs y = L := by rw [← HC.out, hc]
            have HCT := Lib.hid hcat
            clear hc hcat hlw hsp
            go_wp2_with (first | (go_at_call 33; with_reducible refine (hsd _).mono ?_; rintro e w1 ⟨rfl, rfl⟩) | (go_at_call 34; with_reducible refine (hspc _).mono ?_; rintro e w1 ⟨rfl, rfl⟩))
            go_roundw
            case rel => exact ⟨y, out, rfl, hyl, HCT.out, ⟨ad, cap, rfl, HO.out⟩, HB.out⟩
            case measure => have h1 := HYZ.out; have h2 := HDL.out; simp only [lenOf]; omega
          | false =>
            rw [hsp] at hspc hc
            rw [if_neg (by decide)] at hc
            generalize (x.take j).map Lb.lw = p at *
            have hcat : (out ++ [p]) ++ Lb.pcs y = L := by rw [← HC.out, hc, List.append_assoc]
            have HCT := Lib.hid hcat
            clear hc hcat hsp
            go_wp2_with (first | (go_at_call 33; with_reducible refine (hsd _).mono ?_; rintro e w1 ⟨rfl, rfl⟩) | (go_at_call 34; with_reducible refine (hspc _).mono ?_; rintro e w1 ⟨rfl, rfl⟩) | (go_at_call 35; with_reducible refine (hlw _).mono ?_; rintro e w2 ⟨rfl, hB2⟩; have ho2 := HO.out.kept (lgb_of_below hB2 none) (by cases (Value.slice ad out.length cap).ownBlock <;> simp); have HO2 := Lib.hid ho2; have hB3 := bn HB.out hB2; clear ho2) | (at_builtin; refine wpList_append_lies _ rfl (.tmp 33) (.tmp 38) _ rfl w.heap.size 9 i0 _ 1 16 Tryz.underlying26 hi hi0 hi1 hi2 rfl (by omega) _ _ _ (by rfl) (HO2.out.alloc _) ⟨w2.heap.size, 0, none⟩ 1 1 [.string (Ml.mk p)] (by rfl) rfl (World.news_of_block (heap_alloc_new _ _)) (lone_str _) (by omega) (by unfold maxLen; omega) (by omega) (by have := hB3.size; simp; omega) _ rfl ?_; intro g1 cap1 w3 hown2 hgrow2 hat2 hlt2))
            go_roundw
            case rel => exact ⟨y, out ++ [p], rfl, hyl, HCT.out, ⟨_, _, by rw [List.length_append]; rfl, by rw [List.length_append, List.map_append]; exact hown2⟩, (bbox hB3 _).grown hgrow2 (by have := hB3.size; simp; omega) (fun k hk => (HO2.out.lt k hk).1)⟩
            case measure => have h1 := HYZ.out; have h2 := HDL.out; simp only [lenOf]; omega
        · have hkk : (0 : Int) < (k : Int) := by omega
          by_cases hjl : j < z
          · have hjl2 : (j : Int) < (z : Int) := by omega
            have hixj := HAT.out j
            have hsd := srt_any (x.getD j 0)
            obtain ⟨kd, hkd⟩ : ∃ kd, Lb.srt (x.getD j 0) = kd := ⟨_, rfl⟩
            rw [hkd] at hsd
            by_cases hs : kd = k
            · subst hs
              have hnext : ∀ i, 1 ≤ i → i < j + 1 → Lb.srt (x.getD i 0) = kd := fun i h1 h2 => by
                by_cases e : i = j
                · rw [e]; exact hkd
                · exact HIN.out i h1 (by omega)
              have HNX := Lib.hid hnext
              clear hnext hkd
              generalize ((x.getD j 0).toNat : Int) = dn at *
              go_wp2_with (first | (go_at_call 33; with_reducible refine (hsd _).mono ?_; rintro e w1 ⟨rfl, rfl⟩))
              go_round
              case rel => exact ⟨j + 1, by omega, by omega, by go_num, HNX.out, Or.inr hk0⟩
              case measure => simp [intOf]; omega
            · have hc : Cut x j := HCUT.out j hj1 hjz (by rw [HK.out]; exact HIN.out) (by rw [HK.out]; exact HOR.out) (Or.inr (Or.inr (by rw [HK.out, hkd]; exact hs)))
              have hsk : ((kd : Int) == (k : Int)) = false := by simp; omega
              clear hkd
              generalize ((x.getD j 0).toNat : Int) = dn at *
              obtain ⟨-, -, hc⟩ := hc
              rw [H0C.out] at hc
              have hd := HMD.out j
              have hlw := low_any (x.take j) (by rw [List.length_take]; omega)
              unfold LowPost at hlw
              rw [← HMT.out j] at hlw
              have hdl : (x.drop j).length + j = z := by rw [List.length_drop, HZ.out]; omega
              generalize x.drop j = y at *
              have hyl : y.length ≤ 100000 := by omega
              have HYZ : Hid ((Ml.mk y).size = y.length) := Lib.hid rfl
              have HDL := Lib.hid hdl
              have hj2 : (j : Int) ≤ (z : Int) := by omega
              have hj3 : (0 : Int) ≤ (j : Int) := by omega
              clear hdl
              cases hsp : Lb.spc c with
              | true =>
                rw [hsp] at hspc hc
                rw [if_pos rfl, List.nil_append] at hc
                have hcat : out ++ Lb.pcs y = L := by rw [← HC.out, hc]
                have HCT := Lib.hid hcat
                clear hc hcat hlw hsp
                go_wp2_with (first | (go_at_call 33; with_reducible refine (hsd _).mono ?_; rintro e w1 ⟨rfl, rfl⟩) | (go_at_call 34; with_reducible refine (hspc _).mono ?_; rintro e w1 ⟨rfl, rfl⟩))
                go_roundw
                case rel => exact ⟨y, out, rfl, hyl, HCT.out, ⟨ad, cap, rfl, HO.out⟩, HB.out⟩
                case measure => have h1 := HYZ.out; have h2 := HDL.out; simp only [lenOf]; omega
              | false =>
                rw [hsp] at hspc hc
                rw [if_neg (by decide)] at hc
                generalize (x.take j).map Lb.lw = p at *
                have hcat : (out ++ [p]) ++ Lb.pcs y = L := by rw [← HC.out, hc, List.append_assoc]
                have HCT := Lib.hid hcat
                clear hc hcat hsp
                go_wp2_with (first | (go_at_call 33; with_reducible refine (hsd _).mono ?_; rintro e w1 ⟨rfl, rfl⟩) | (go_at_call 34; with_reducible refine (hspc _).mono ?_; rintro e w1 ⟨rfl, rfl⟩) | (go_at_call 35; with_reducible refine (hlw _).mono ?_; rintro e w2 ⟨rfl, hB2⟩; have ho2 := HO.out.kept (lgb_of_below hB2 none) (by cases (Value.slice ad out.length cap).ownBlock <;> simp); have HO2 := Lib.hid ho2; have hB3 := bn HB.out hB2; clear ho2) | (at_builtin; refine wpList_append_lies _ rfl (.tmp 33) (.tmp 38) _ rfl w.heap.size 9 i0 _ 1 16 Tryz.underlying26 hi hi0 hi1 hi2 rfl (by omega) _ _ _ (by rfl) (HO2.out.alloc _) ⟨w2.heap.size, 0, none⟩ 1 1 [.string (Ml.mk p)] (by rfl) rfl (World.news_of_block (heap_alloc_new _ _)) (lone_str _) (by omega) (by unfold maxLen; omega) (by omega) (by have := hB3.size; simp; omega) _ rfl ?_; intro g1 cap1 w3 hown2 hgrow2 hat2 hlt2))
                go_roundw
                case rel => exact ⟨y, out ++ [p], rfl, hyl, HCT.out, ⟨_, _, by rw [List.length_append]; rfl, by rw [List.length_append, List.map_append]; exact hown2⟩, (bbox hB3 _).grown hgrow2 (by have := hB3.size; simp; omega) (fun k hk => (HO2.out.lt k hk).1)⟩
                case measure => have h1 := HYZ.out; have h2 := HDL.out; simp only [lenOf]; omega
          · have hc : Cut x j := HCUT.out j hj1 hjz (by rw [HK.out]; exact HIN.out) (by rw [HK.out]; exact HOR.out) (Or.inl (by omega))
            have hjl2 : ¬ (j : Int) < (z : Int) := by omega
            obtain ⟨-, -, hc⟩ := hc
            rw [H0C.out] at hc
            have hd := HMD.out j
            have hlw := low_any (x.take j) (by rw [List.length_take]; omega)
            unfold LowPost at hlw
            rw [← HMT.out j] at hlw
            have hdl : (x.drop j).length + j = z := by rw [List.length_drop, HZ.out]; omega
            generalize x.drop j = y at *
            have hyl : y.length ≤ 100000 := by omega
            have HYZ : Hid ((Ml.mk y).size = y.length) := Lib.hid rfl
            have HDL := Lib.hid hdl
            have hj2 : (j : Int) ≤ (z : Int) := by omega
            have hj3 : (0 : Int) ≤ (j : Int) := by omega
            clear hdl
            cases hsp : Lb.spc c with
            | true =>
              rw [hsp] at hspc hc
              rw [if_pos rfl, List.nil_append] at hc
              have hcat : out ++ Lb.pcs y = L := by rw [← HC.out, hc]
              have HCT := Lib.hid hcat
              clear hc hcat hlw hsp
              go_wp2_with (first | (go_at_call 33; with_reducible refine (hsd _).mono ?_; rintro e w1 ⟨rfl, rfl⟩) | (go_at_call 34; with_reducible refine (hspc _).mono ?_; rintro e w1 ⟨rfl, rfl⟩))
              go_roundw
              case rel => exact ⟨y, out, rfl, hyl, HCT.out, ⟨ad, cap, rfl, HO.out⟩, HB.out⟩
              case measure => have h1 := HYZ.out; have h2 := HDL.out; simp only [lenOf]; omega
            | false =>
              rw [hsp] at hspc hc
              rw [if_neg (by decide)] at hc
              generalize (x.take j).map Lb.lw = p at *
              have hcat : (out ++ [p]) ++ Lb.pcs y = L := by rw [← HC.out, hc, List.append_assoc]
              have HCT := Lib.hid hcat
              clear hc hcat hsp
              go_wp2_with (first | (go_at_call 33; with_reducible refine (hsd _).mono ?_; rintro e w1 ⟨rfl, rfl⟩) | (go_at_call 34; with_reducible refine (hspc _).mono ?_; rintro e w1 ⟨rfl, rfl⟩) | (go_at_call 35; with_reducible refine (hlw _).mono ?_; rintro e w2 ⟨rfl, hB2⟩; have ho2 := HO.out.kept (lgb_of_below hB2 none) (by cases (Value.slice ad out.length cap).ownBlock <;> simp); have HO2 := Lib.hid ho2; have hB3 := bn HB.out hB2; clear ho2) | (at_builtin; refine wpList_append_lies _ rfl (.tmp 33) (.tmp 38) _ rfl w.heap.size 9 i0 _ 1 16 Tryz.underlying26 hi hi0 hi1 hi2 rfl (by omega) _ _ _ (by rfl) (HO2.out.alloc _) ⟨w2.heap.size, 0, none⟩ 1 1 [.string (Ml.mk p)] (by rfl) rfl (World.news_of_block (heap_alloc_new _ _)) (lone_str _) (by omega) (by unfold maxLen; omega) (by omega) (by have := hB3.size; simp; omega) _ rfl ?_; intro g1 cap1 w3 hown2 hgrow2 hat2 hlt2))
              go_roundw
              case rel => exact ⟨y, out ++ [p], rfl, hyl, HCT.out, ⟨_, _, by rw [List.length_append]; rfl, by rw [List.length_append, List.map_append]; exact hown2⟩, (bbox hB3 _).grown hgrow2 (by have := hB3.size; simp; omega) (fun k hk => (HO2.out.lt k hk).1)⟩
              case measure => have h1 := HYZ.out; have h2 := HDL.out; simp only [lenOf]; omega
end Go.Proofs.YtbhafhbaldddiaaGreatDoor
