/- The document's Parse on any text; the walk of MailReads. -/
import Derived.Test.YtfgchphadeogpaaDoorMlX
import Derived.Test.YtfgchphadeogpaaDoorMlY
namespace Go.Proofs.YtfgchphadeogpaaDoor
open Go.RowKit
open Go
set_option linter.unusedVariables false
theorem wds_le {s x : ByteArray} (h : x ∈ Ml.wds s) : x.size ≤ s.size := by
  unfold Ml.wds at h
  obtain ⟨l, hl, rfl⟩ := List.mem_map.1 h
  have h1 := Ml.sp_tot 32 s.data.toList
  have h2 := Ml.tot_mem hl
  have h3 : s.data.toList.length = s.size := by simp
  rw [Ml.mk_size]
  omega
theorem five_g {l : List ByteArray} (h : l.length = 5) : ∃ a b c d e, l = [a, b, c, d, e] := by
  match l, h with
  | [a, b, c, d, e], _ => exact ⟨a, b, c, d, e, rfl⟩
theorem six_g {l : List ByteArray} (h : l.length = 6) : ∃ a b c d e f, l = [a, b, c, d, e, f] := by
  match l, h with
  | [a, b, c, d, e, f], _ => exact ⟨a, b, c, d, e, f, rfl⟩
theorem dyn_le (d : ByteArray) : Ml.dyn d ≤ 4 := by unfold Ml.dyn; split <;> omega
theorem c3_doc (y : ByteArray) (hy : y.size ≤ 100000) (w : World) : Calls Tryd.prog 30 #[.string y, .int .i64 4] w (SamePost (.tuple #[.int .i64 (numV y), .bool (Ml.digO y 4)]) w) := number_any y 4 (by omega) hy w
theorem rparse5 (s d m y c z : ByteArray) (hs : s.size ≤ 60) (hw : Ml.wds s = [d, m, y, c, z]) (w : World) : Calls Tryd.prog 10 #[.string s] w (ErrPost (Ml.five d m y c z none) 70 w) := by
  have hle : ∀ x ∈ [d, m, y, c, z], x.size ≤ s.size := fun x hx => wds_le (hw ▸ hx)
  have l1 := hle d (by simp)
  have l2 := hle m (by simp)
  have l3 := hle y (by simp)
  have l4 := hle c (by simp)
  have l5 := hle z (by simp)
  have C1 := rdyn_any d (by omega)
  have C2 := rmonth_any m (by omega)
  have C3 := c3_doc y (by omega)
  have C5 := rzone_any z (by omega)
  cases hb : Ml.bad5 false d m y c z with
  | true =>
    rw [Ml.five_bad hb]
    exact rp5_bad s d m y c z hs hw (by omega) _ _ _ _ _ _ _ _ _ (rbad_or hb) C1 C2 C3 (rclock_t c (by omega) _ rfl) C5 w
  | false =>
    obtain ⟨h1, ⟨mm, h2⟩, h3, h4, ⟨ee, h5⟩⟩ := (Ml.bad5_iff d m y c z).1 hb
    rw [five_doc h1 h2 h3 h4 h5]
    rw [h1, numV_is (dyn_le d) h1] at C1
    rw [h2] at C2
    rw [h3, numV_is (by omega) h3] at C3
    rw [h5] at C5
    exact rp5_good s d m y c z hs hw mm ee C1 C2 C3 (rclock_g c (by omega) h4) C5 _ (by simp) w
theorem rparse6 (s a d m y c z : ByteArray) (hs : s.size ≤ 60) (hw : Ml.wds s = [a, d, m, y, c, z]) (w : World) : Calls Tryd.prog 10 #[.string s] w (ErrPost (Ml.prs [a, d, m, y, c, z]) 70 w) := by
  have hle : ∀ x ∈ [a, d, m, y, c, z], x.size ≤ s.size := fun x hx => wds_le (hw ▸ hx)
  have l0 := hle a (by simp)
  have l1 := hle d (by simp)
  have l2 := hle m (by simp)
  have l3 := hle y (by simp)
  have l4 := hle c (by simp)
  have l5 := hle z (by simp)
  show Calls _ _ _ _ (ErrPost (if Ml.commaB a = true then (match Ml.dayF (a.extract 0 3) with | some k => Ml.five d m y c z (some k) | none => none) else none) 70 w)
  cases hc : Ml.commaB a with
  | false => exact rp6_comma s a d m y c z hs hw hc w
  | true =>
    rw [if_pos rfl]
    have hc2 := hc
    unfold Ml.commaB at hc2
    rw [Bool.and_eq_true, decide_eq_true_iff, beq_iff_eq] at hc2
    obtain ⟨ha4, ha44⟩ := hc2
    have n4 : ((a.size : Int) == 4) = true := by simp [ha4]
    have h3 : 3 < a.size := by omega
    have hb3 : ((a[3]'h3).toNat : Int) = 44 := by rw [byte_at a 3 h3, ha44]; rfl
    have i3 : (3 : Int) ≤ (a.size : Int) := by omega
    have C0 := rday_any (a.extract 0 3) (by rw [Sm.size_extract]; omega)
    cases hd : Ml.dayF (a.extract 0 3) with
    | none =>
      rw [hd] at C0
      exact rp6_noday s a d m y c z hs hw n4 h3 hb3 i3 _ C0 w
    | some k =>
      rw [hd] at C0
      have hk := Ml.day_size hd
      have C1 := rdyn_any d (by omega)
      have C2 := rmonth_any m (by omega)
      have C3 := c3_doc y (by omega)
      have C5 := rzone_any z (by omega)
      show Calls _ _ _ _ (ErrPost (Ml.five d m y c z (some k)) 70 w)
      cases hb : Ml.bad5 false d m y c z with
      | true =>
        rw [Ml.five_bad hb]
        exact rp6_bad s a d m y c z hs n4 h3 hb3 i3 k hk.2.1 C0 hw (by omega) _ _ _ _ _ _ _ _ _ (rbad_or hb) C1 C2 C3 (rclock_t c (by omega) _ rfl) C5 w
      | false =>
        obtain ⟨h1, ⟨mm, h2⟩, h3', h4, ⟨ee, h5⟩⟩ := (Ml.bad5_iff d m y c z).1 hb
        rw [five_doc h1 h2 h3' h4 h5]
        rw [h1, numV_is (dyn_le d) h1] at C1
        rw [h2] at C2
        rw [h3', numV_is (by omega) h3'] at C3
        rw [h5] at C5
        refine rp6_good s a d m y c z hs n4 h3 hb3 i3 k hk.2.1 C0 hw mm ee C1 C2 C3 (rclock_g c (by omega) h4) C5 _ ?_ w
        congr 1
        simp only [reduceCtorEq, false_or, Option.some.injEq, eq_iff_iff]
        exact ⟨fun h => ⟨h.1, h.2.symm⟩, fun h => ⟨h.1, h.2.symm⟩⟩
set_option maxHeartbeats 1000000 in
theorem rparse_any (s : ByteArray) (hs : s.size ≤ 100000) (w : World) : Calls Tryd.prog 10 #[.string s] w (ErrPost (Ml.parseF s) 70 w) := by
  by_cases h60 : s.size ≤ 60
  · by_cases h5 : (Ml.wds s).length = 5
    · obtain ⟨d, m, y, c, z, hw⟩ := five_g h5
      have e : Ml.parseF s = Ml.five d m y c z none := by unfold Ml.parseF; rw [hw]; rfl
      rw [e]
      exact rparse5 s d m y c z h60 hw w
    · by_cases h6 : (Ml.wds s).length = 6
      · obtain ⟨a, d, m, y, c, z, hw⟩ := six_g h6
        have e : Ml.parseF s = Ml.prs [a, d, m, y, c, z] := by unfold Ml.parseF; rw [hw]
        rw [e]
        exact rparse6 s a d m y c z h60 hw w
      · have e : Ml.parseF s = none := by
          unfold Ml.parseF
          generalize Ml.wds s = W at h5 h6
          match W with
          | [] => rfl
          | [_] => rfl
          | [_, _] => rfl
          | [_, _, _] => rfl
          | [_, _, _, _] => rfl
          | [_, _, _, _, _] => exact absurd rfl h5
          | [_, _, _, _, _, _] => exact absurd rfl h6
          | _ :: _ :: _ :: _ :: _ :: _ :: _ :: _ => rfl
        rw [e]
        exact rp_else s h60 h5 h6 w
  · have e : Ml.parseF s = none := by
      cases h : Ml.parseF s with
      | none => rfl
      | some v => have := Ml.parse_short h; omega
    rw [e]
    clear e
    have g1 : (60 : Int) < (s.size : Int) := by omega
    go_enter Tryd.func10, Tryd.ntmps10
    go_wp2_with fail
    go_ret2
    exact ⟨rfl, Below.refl _ _⟩
set_option maxRecDepth 100000 in
set_option maxHeartbeats 2000000 in
theorem mailReads_walk {w : World} (s : ByteArray) (_ : s.size ≤ Go.maxLen) : Calls Tryd.prog 3 #[.string s] w (LawTrue w) := by
  have W := wakes_any
  by_cases hs : s.size ≤ 2000
  · have P := parse_any s (by omega)
    have R := rparse_any s (by omega)
    have M := month_any s (by omega)
    have RM := rmonth_any s (by omega)
    have D := day_any s (by omega)
    have RD := rday_any s (by omega)
    have Z := zone_any s (by omega)
    have RZ := rzone_any s (by omega)
    unfold ErrPost at P R
    unfold OptPost optV at M D Z
    generalize Ml.parseF s = o at P R
    generalize Ml.monF s = om at M RM
    generalize Ml.dayF s = od at D RD
    generalize Ml.zneF s = oz at Z RZ
    generalize o.getD 0 = v1 at P R
    generalize (if o.isSome = true then (0 : Int) else 70) = v2 at P R
    generalize om.getD 0 = m1 at M RM
    generalize om.isSome = m2 at M RM
    generalize od.getD 0 = d1 at D RD
    generalize od.isSome = d2 at D RD
    unfold ZnPost at RZ
    generalize oz.getD 0 = z1 at Z RZ
    generalize oz.isSome = z2 at Z RZ
    have hz : w.heap.size ≤ w.heap.size := Nat.le_refl _
    have hB : Below w.heap.size w w := Below.refl _ _
    go_enter Tryd.func3, Tryd.ntmps3
    go_wp2_with (first | (go_at_call 9; (with_reducible refine (P _).mono ?_); rintro e w9 ⟨rfl, hb9⟩; replace hB := hB.trans (hb9.mono hz); replace hz := Nat.le_trans hz hb9.size; clear hb9) | (go_at_call 10; (with_reducible refine (R _).mono ?_); rintro e w9 ⟨rfl, hb9⟩; replace hB := hB.trans (hb9.mono hz); replace hz := Nat.le_trans hz hb9.size; clear hb9) | (go_at_call 11; (with_reducible refine (M _).mono ?_); rintro e w9 ⟨rfl, hb9⟩; replace hB := hB.trans (hb9.mono hz); replace hz := Nat.le_trans hz hb9.size; clear hb9) | (go_at_call 13; (with_reducible refine (D _).mono ?_); rintro e w9 ⟨rfl, hb9⟩; replace hB := hB.trans (hb9.mono hz); replace hz := Nat.le_trans hz hb9.size; clear hb9) | (go_at_call 15; (with_reducible refine (Z _).mono ?_); rintro e w9 ⟨rfl, hb9⟩; replace hB := hB.trans (hb9.mono hz); replace hz := Nat.le_trans hz hb9.size; clear hb9) | (go_at_call 12; (with_reducible refine (RM _).mono ?_); rintro e w9 ⟨rfl, rfl⟩) | (go_at_call 14; (with_reducible refine (RD _).mono ?_); rintro e w9 ⟨rfl, rfl⟩) | (go_at_call 16; (with_reducible refine (RZ _).mono ?_); rintro e w9 ⟨rfl, rfl⟩) | (go_at_call 8; (with_reducible refine (W _).mono ?_); rintro e w9 ⟨rfl, hb9⟩; replace hB := hB.trans (hb9.mono hz); replace hz := Nat.le_trans hz hb9.size; clear hb9))
    all_goals
      go_ret
      exact ⟨rfl, hB⟩
  · go_enter Tryd.func3, Tryd.ntmps3
    go_wp2_with fail
    refine (W _).mono ?_
    rintro e w1 ⟨rfl, b1⟩
    go_wp2_with fail
    go_ret
    exact ⟨rfl, b1⟩
end Go.Proofs.YtfgchphadeogpaaDoor
