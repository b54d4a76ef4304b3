/- Parse on any text. -/
import Derived.Test.YtfgchphadeogpaaDoorMlH
import Derived.Test.YtfgchphadeogpaaDoorMlPb
namespace Go.Proofs.YtfgchphadeogpaaDoor
open Go.RowKit
open Go
set_option linter.unusedVariables false
set_option maxHeartbeats 1000000 in
theorem p_else (s : ByteArray) (hs : s.size ≤ 100000) (n : Nat) (hn : (Ml.sp 32 s.data.toList).length = n) (h5 : n ≠ 5) (h6 : n ≠ 6) (w : World) :
    Calls Tryd.prog 9 #[.string s] w (ErrPost none 70 w) := by
  have C := fun w => split_any s 32 hs w
  unfold SplitPost at C
  rw [hn] at C
  have hlen : n = ((Ml.sp 32 s.data.toList).map Ml.mk).length := by rw [List.length_map, hn]
  generalize (Ml.sp 32 s.data.toList).map Ml.mk = l at C hlen
  clear hn
  have e6 : ((n : Int) == 6) = false := by simp; omega
  have e5 : ((n : Int) != 5) = true := by simp; omega
  have H5 := Lib.hid h5
  have H6 := Lib.hid h6
  clear h5 h6
  go_enter Tryd.func9, Tryd.ntmps9
  go_wp2_with fail
  refine (C _).mono ?_
  rintro e w1 ⟨rfl, hw1⟩
  have hmf : ∀ (fn : Fn) (first cap : Array Value) (w : World), (Instr.makeFunc fn first cap).run Tryd.prog w = .ok (.func fn first cap) w := fun _ _ _ _ => rfl
  have hp := Pl.made w l n 9 38 false hlen
  rw [← hw1] at hp
  have hsz : w1.heap.size = w.heap.size + 1 := by rw [hw1]; simp
  clear hw1 C
  rw [← hsz] at hp
  go_wp2_with fail
  go_ret2
  have hb := hp.2.2.2.2
  rw [hlen] at hb
  exact ⟨rfl, hb⟩
theorem five_sec {d m y c z : ByteArray} {week : Option Int} (h : Ml.bad5 false d m y c z = false) : Ml.five d m y c z week =
    if Cv.secOk (Ml.digV y 4) ((Ml.monF m).getD 0) (Ml.digV d (lenN d)) (ckV c).1 (ckV c).2.1 (ckV c).2.2 ((Ml.zneF z).getD 0) = true ∧ (week = none ∨ week = some (Cv.wday (Cv.num (Ml.digV y 4) ((Ml.monF m).getD 0) (Ml.digV d (lenN d))))) then
      some (Cv.secV (Ml.digV y 4) ((Ml.monF m).getD 0) (Ml.digV d (lenN d)) (ckV c).1 (ckV c).2.1 (ckV c).2.2 ((Ml.zneF z).getD 0)) else none := by
  obtain ⟨h1, ⟨mm, h2⟩, h3, h4, ⟨e, h5⟩⟩ := (Ml.bad5_iff d m y c z).1 h
  have hd : Ml.digV d (lenN d) = Ml.digV d (Ml.dyn d) := Ml.digV_len d
  rw [hd, ck_is h4]
  unfold Ml.five
  rw [h2, h5]
  simp only [Option.getD_some, h1, h3, h4, true_and]
theorem five_calls (s d m y c z : ByteArray) (hs : s.size ≤ 100000) (hd : d.size ≤ 100000) (hm : m.size ≤ 100000) (hy : y.size ≤ 100000) (hc : c.size ≤ 100000) (hz : z.size ≤ 100000) (hw : (Ml.sp 32 s.data.toList).map Ml.mk = [d, m, y, c, z]) (w : World) :
    Calls Tryd.prog 9 #[.string s] w (ErrPost (Ml.five d m y c z none) 70 w) := by
  cases hk : Cv.secOk (Ml.digV y 4) ((Ml.monF m).getD 0) (Ml.digV d (lenN d)) (ckV c).1 (ckV c).2.1 (ckV c).2.2 ((Ml.zneF z).getD 0) with
  | false =>
    have e : Ml.five d m y c z none = none := by
      cases hb : Ml.bad5 false d m y c z with
      | true => exact Ml.five_bad hb
      | false => rw [five_sec hb, hk]; simp
    rw [e]
    exact p5_a s d m y c z hs hd hm hy hc hz hw w _ rfl hk
  | true =>
    refine p5_b s d m y c z hs hd hm hy hc hz hw w (Ml.bad5 false d m y c z) rfl hk _ ?_
    cases hb : Ml.bad5 false d m y c z with
    | true => rw [Ml.five_bad hb]; rfl
    | false => rw [five_sec hb, hk]; simp
theorem six_calls (s a d m y c z : ByteArray) (hs : s.size ≤ 100000) (ha : a.size ≤ 100000) (hd : d.size ≤ 100000) (hm : m.size ≤ 100000) (hy : y.size ≤ 100000) (hc : c.size ≤ 100000) (hz : z.size ≤ 100000) (hw : (Ml.sp 32 s.data.toList).map Ml.mk = [a, d, m, y, c, z]) (w : World) :
    Calls Tryd.prog 9 #[.string s] w (ErrPost (Ml.prs [a, d, m, y, c, z]) 70 w) := by
  have CS : ∀ w, Calls Tryd.prog 21 #[.string a, .string ⟨#[44]⟩] w fun e w' => e = .returned (.tuple #[.string (Ml.cutQ a), .bool (Ml.cutO a)]) ∧ w' = w := fun w => Tryd.strings_CutSuffix a ⟨#[44]⟩ w (by omega)
  have hq : (Ml.cutQ a).size ≤ 1000000 := by have := Ml.cut_le a; omega
  cases hk : Cv.secOk (Ml.digV y 4) ((Ml.monF m).getD 0) (Ml.digV d (lenN d)) (ckV c).1 (ckV c).2.1 (ckV c).2.2 ((Ml.zneF z).getD 0) with
  | false =>
    have e : Ml.prs [a, d, m, y, c, z] = none := by
      cases hb : Ml.bad5 ((!Ml.cutO a) || !(Ml.dayF (Ml.cutQ a)).isSome) d m y c z with
      | true => exact Ml.six_bad hb
      | false =>
        obtain ⟨k, h1, h2, h3⟩ := Ml.six_good hb
        rw [h3, five_sec h2, hk]
        simp
    rw [e]
    exact p6_a s a d m y c z (Ml.cutQ a) (Ml.cutO a) hs hq CS hd hm hy hc hz hw w _ rfl hk
  | true =>
    cases hb : Ml.bad5 ((!Ml.cutO a) || !(Ml.dayF (Ml.cutQ a)).isSome) d m y c z with
    | true =>
      rw [Ml.six_bad hb]
      exact p6_b s a d m y c z (Ml.cutQ a) (Ml.cutO a) hs hq CS hd hm hy hc hz hw w hb hk
    | false =>
      obtain ⟨k, h1, h2, h3⟩ := Ml.six_good hb
      refine p6_c s a d m y c z (Ml.cutQ a) (Ml.cutO a) hs hq CS hd hm hy hc hz hw w hb hk k h1 _ ?_
      rw [h3, five_sec h2, hk]
      by_cases hwk : Cv.wday (Cv.num (Ml.digV y 4) ((Ml.monF m).getD 0) (Ml.digV d (lenN d))) = k
      · simp [hwk]
      · rw [if_neg hwk, if_neg]
        rintro ⟨_, h⟩
        rcases h with h | h
        · cases h
        · exact hwk (Option.some.inj h).symm
theorem parse_any (s : ByteArray) (hs : s.size ≤ 100000) (w : World) : Calls Tryd.prog 9 #[.string s] w (ErrPost (Ml.parseF s) 70 w) := by
  have hle : ∀ x ∈ Ml.sp 32 s.data.toList, (Ml.mk x).size ≤ 100000 := fun x hx => by
    have h1 := Ml.sp_tot 32 s.data.toList
    have h2 := Ml.tot_mem hx
    have h3 : s.data.toList.length = s.size := by simp
    rw [Ml.mk_size]
    omega
  unfold Ml.parseF Ml.wds
  match hw : Ml.sp 32 s.data.toList with
  | [d, m, y, c, z] =>
    rw [hw] at hle
    show Calls _ _ _ _ (ErrPost (Ml.five (Ml.mk d) (Ml.mk m) (Ml.mk y) (Ml.mk c) (Ml.mk z) none) 70 w)
    have hw2 : (Ml.sp 32 s.data.toList).map Ml.mk = [Ml.mk d, Ml.mk m, Ml.mk y, Ml.mk c, Ml.mk z] := by rw [hw]; rfl
    have a1 := hle d (by simp)
    have a2 := hle m (by simp)
    have a3 := hle y (by simp)
    have a4 := hle c (by simp)
    have a5 := hle z (by simp)
    generalize Ml.mk d = d at *
    generalize Ml.mk m = m at *
    generalize Ml.mk y = y at *
    generalize Ml.mk c = c at *
    generalize Ml.mk z = z at *
    clear hle hw
    exact five_calls s d m y c z hs a1 a2 a3 a4 a5 hw2 w
  | [a, d, m, y, c, z] =>
    rw [hw] at hle
    show Calls _ _ _ _ (ErrPost (Ml.prs [Ml.mk a, Ml.mk d, Ml.mk m, Ml.mk y, Ml.mk c, Ml.mk z]) 70 w)
    have hw2 : (Ml.sp 32 s.data.toList).map Ml.mk = [Ml.mk a, Ml.mk d, Ml.mk m, Ml.mk y, Ml.mk c, Ml.mk z] := by rw [hw]; rfl
    have a0 := hle a (by simp)
    have a1 := hle d (by simp)
    have a2 := hle m (by simp)
    have a3 := hle y (by simp)
    have a4 := hle c (by simp)
    have a5 := hle z (by simp)
    generalize Ml.mk a = a at *
    generalize Ml.mk d = d at *
    generalize Ml.mk m = m at *
    generalize Ml.mk y = y at *
    generalize Ml.mk c = c at *
    generalize Ml.mk z = z at *
    clear hle hw
    exact six_calls s a d m y c z hs a0 a1 a2 a3 a4 a5 hw2 w
  | [] => exact p_else s hs 0 (by rw [hw]; rfl) (by omega) (by omega) w
  | [_] => exact p_else s hs 1 (by rw [hw]; rfl) (by omega) (by omega) w
  | [_, _] => exact p_else s hs 2 (by rw [hw]; rfl) (by omega) (by omega) w
  | [_, _, _] => exact p_else s hs 3 (by rw [hw]; rfl) (by omega) (by omega) w
  | [_, _, _, _] => exact p_else s hs 4 (by rw [hw]; rfl) (by omega) (by omega) w
  | _ :: _ :: _ :: _ :: _ :: _ :: _ :: t => exact p_else s hs (t.length + 7) (by rw [hw]; rfl) (by omega) (by omega) w
end Go.Proofs.YtfgchphadeogpaaDoor
