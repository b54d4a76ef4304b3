/- The walk of the statement on three forms of one day. -/
import Derived.Test.YtbhafhbaldddiaaLbO
import Derived.Test.YtbhafhbaldddiaaLbT
import Derived.Test.YtbhafhbaldddiaaLbU
import Derived.Test.YtbhafhbaldddiaaLbV
namespace Go.Proofs.Ytbhafhbaldddiaa
open Go.RowKit
open Go
open Lb (R Wd)
set_option linter.unusedVariables false
theorem ext_mid (A B C : Wd) (i j : Nat) (hi : i = A.length) (hj : j = A.length + B.length) : (Ml.mk (A ++ (B ++ C))).extract i j = Ml.mk B := by
  subst hi; subst hj
  apply ByteArray.ext
  rw [ByteArray.data_extract]
  show (A ++ (B ++ C)).toArray.extract A.length (A.length + B.length) = B.toArray
  simp
theorem tw_len (n : Int) : (Ml.tw n).length = 2 := rfl
theorem yr_len (n : Int) : (Lb.yr n).length = 4 := rfl
theorem text_10 (y m d h mi x : Int) : (Sm.textB y m d h mi x).extract 0 10 = Ml.mk (Lb.t1 y m d) := by
  have e : Sm.textB y m d h mi x = Ml.mk (Lb.t1 y m d ++ ([84] ++ Ml.tw h ++ [58] ++ Ml.tw mi ++ [58] ++ Ml.tw x ++ [90])) := by
    have : y / 100 / 10 = y / 1000 := by omega
    show Ml.mk (Sm.textL y m d h mi x) = _
    unfold Lb.t1 Lb.yr Ml.tw Sm.textL
    rw [this]
    rfl
  rw [e]
  exact ext_mid [] (Lb.t1 y m d) _ 0 10 rfl rfl
theorem tx_parts (y m d h mi s : Int) (k : Nat) (hk : k < 7) (hw : Cv.wday (Cv.num y m d) = k) (m0 : 1 ≤ m) (m1 : m ≤ 12) :
    (Ml.txB y m d h mi s).extract 0 16 = Ml.mk (Lb.t2 k y m d) ∧ (Ml.txB y m d h mi s).extract 8 11 = Ml.moN m ∧ (Ml.txB y m d h mi s).extract 5 7 = Ml.mk (Ml.tw d) ∧ (Ml.txB y m d h mi s).extract 12 16 = Ml.mk (Lb.yr y) ∧ (Ml.txB y m d h mi s).size = 29 ∧ (Ml.moN m).size = 3 := by
  have hm3 := (Ml.mo_is m0 m1).2
  have hd3 := (Ml.dy_is (k := (k : Int)) (by omega) (by omega)).2
  have l1 : (Lb.dyl k).length = 3 := by unfold Lb.dyl; rw [Array.length_toList]; exact hd3
  have l2 : (Ml.moN m).data.toList.length = 3 := by rw [Array.length_toList]; exact hm3
  have hmo : Ml.moN m = Ml.mk (Ml.moN m).data.toList := (Ml.mk_list _).symm
  have hsz : (Ml.txB y m d h mi s).size = 29 := by
    have := Ml.tx_len y m d h mi s (by rw [hw]; omega) (by rw [hw]; omega) m0 m1
    show (Go.Lib.join _ [32]).toArray.size = 29
    rw [List.size_toArray, this]
  have e : Ml.txB y m d h mi s = Ml.mk (Ml.txL y m d h mi s) := by
    unfold Ml.txB
    rw [Ml.tx_join]
    rfl
  obtain ⟨R, hR⟩ : ∃ R, [32] ++ (Ml.tw h ++ ([58] ++ (Ml.tw mi ++ ([58] ++ (Ml.tw s ++ [32, 71, 77, 84]))))) = R := ⟨_, rfl⟩
  have hL : Ml.txL y m d h mi s = Lb.dyl k ++ ([44, 32] ++ (Ml.tw d ++ ([32] ++ ((Ml.moN m).data.toList ++ ([32] ++ (Lb.yr y ++ R)))))) := by
    unfold Ml.txL Lb.dyl Lb.yr
    rw [hw, hR]
    simp only [List.append_assoc]
  rw [hsz]
  rw [e, hL]
  obtain ⟨mo, hmo2⟩ : ∃ mo, (Ml.moN m).data.toList = mo := ⟨_, rfl⟩
  have ht2 : Lb.t2 k y m d = Lb.dyl k ++ ([44, 32] ++ (Ml.tw d ++ ([32] ++ (mo ++ ([32] ++ Lb.yr y))))) := by
    unfold Lb.t2
    rw [hmo2]
    rfl
  rw [ht2]
  rw [hmo2] at hmo l2
  rw [hmo2]
  have hmoe : Ml.moN m = Ml.mk mo := by rw [← hmo2]; exact (Ml.mk_list _).symm
  generalize Lb.dyl k = A at l1 ⊢
  have ltw : (Ml.tw d).length = 2 := rfl
  have lyr : (Lb.yr y).length = 4 := rfl
  generalize Ml.tw d = D at *
  generalize Lb.yr y = Y at *
  refine ⟨?_, ?_, ?_, ?_, rfl, hm3⟩
  · have := ext_mid [] (A ++ ([44, 32] ++ (D ++ ([32] ++ (mo ++ ([32] ++ Y)))))) R 0 16 rfl (by simp [l1, l2, ltw, lyr])
    simpa only [List.nil_append, List.append_assoc] using this
  · have := ext_mid (A ++ ([44, 32] ++ (D ++ [32]))) mo ([32] ++ (Y ++ R)) 8 11 (by simp [l1, ltw]) (by simp [l1, l2, ltw])
    rw [hmoe]
    simpa only [List.append_assoc] using this
  · have := ext_mid (A ++ [44, 32]) D ([32] ++ (mo ++ ([32] ++ (Y ++ R)))) 5 7 (by simp [l1]) (by simp [l1, ltw])
    simpa only [List.append_assoc] using this
  · have := ext_mid (A ++ ([44, 32] ++ (D ++ ([32] ++ (mo ++ [32]))))) Y R 12 16 (by simp [l1, l2, ltw]) (by simp [l1, l2, ltw, lyr])
    simpa only [List.append_assoc] using this
theorem day_of (sec : Int) (h0 : -62135596800 ≤ sec) (h1 : sec ≤ 253402300799) : ∃ q : Int, IntKind.i64.wrap (sec.tmod 86400 + 86400) = sec.tmod 86400 + 86400 ∧ (sec.tmod 86400 + 86400).tmod 86400 = q ∧ IntKind.i64.wrap (sec - q) = sec - q ∧ q = sec % 86400 := by
  have h2 : -86400 < sec.tmod 86400 ∧ sec.tmod 86400 < 86400 ∧ (sec.tmod 86400 + 86400) % 86400 = sec % 86400 := by
    have := Int.tmod_eq_emod (a := sec) (b := 86400)
    split at this <;> omega
  have h3 : (sec.tmod 86400 + 86400).tmod 86400 = (sec.tmod 86400 + 86400) % 86400 := Int.tmod_eq_emod_of_nonneg (by omega)
  refine ⟨sec % 86400, ?_, ?_, ?_, rfl⟩
  · rw [IntKind.wrap_i64]; omega
  · rw [h3]; omega
  · rw [IntKind.wrap_i64]; omega
set_option maxRecDepth 100000 in
set_option maxHeartbeats 4000000 in
theorem forms_in {w : World} (y m d h mi x : Int) (hm : Cv.mayB y m d h mi x = true) (sec : Int) (hsec : Cv.secV y m d h mi x 0 = sec) : Calls Try.prog 4 #[.int .i64 sec] w (LawTrue w) := by
  have C19 := fun w => T19.rtext_any sec (Sm.textB y m d h mi x, true) (Or.inr ⟨y, m, d, h, mi, x, hm, hsec, rfl⟩) w
  have C20 := fun w => T20.rtext_yes y m d h mi x hm w
  rw [hsec] at C20
  obtain ⟨hv, hb⟩ := (Cv.may_iff y m d h mi x).1 hm
  have hm0 : Cv.mayB y m d 0 0 0 = true := (Cv.may_iff y m d 0 0 0).2 ⟨hv, by omega⟩
  obtain ⟨y0, y1, m0, m1, d0, d1⟩ := Cv.vld_bd hv
  have hnum := Cv.num_bd hv
  obtain ⟨k, hk⟩ := Int.eq_ofNat_of_zero_le (show 0 ≤ Cv.wday (Cv.num y m d) by unfold Cv.wday; omega)
  have hk7 : k < 7 := by
    have : Cv.wday (Cv.num y m d) ≤ 6 := by unfold Cv.wday; omega
    omega
  obtain ⟨e2, e3, e4, e5, z29, z3⟩ := tx_parts y m d h mi x k hk7 hk m0 m1
  have e1 := text_10 y m d h mi x
  have z20 : (Sm.textB y m d h mi x).size = 20 := rfl
  have hsv : Cv.secV y m d h mi x 0 = Cv.num y m d * 86400 + h * 3600 + mi * 60 + x := by unfold Cv.secV; omega
  obtain ⟨q, w1, w2, w3, hq⟩ := day_of sec (by omega) (by omega)
  have hday : sec - q = Cv.secV y m d 0 0 0 0 := by
    have : Cv.secV y m d 0 0 0 0 = Cv.num y m d * 86400 := by unfold Cv.secV; omega
    omega
  have q1 := fun w => lparse_any (Lb.t1 y m d) (by show 10 ≤ 100000; decide) w
  have q2 := fun w => lparse_any (Lb.t2 k y m d) (by
    have h1 : (Ml.mk (Lb.t2 k y m d)).size ≤ 29 := by rw [← e2, Sm.size_extract]; omega
    have h2 : (Lb.t2 k y m d).length ≤ 29 := h1
    omega) w
  have hl3 : (Lb.t3 y m d).length = 12 := by
    have h1 : (Ml.moN m).data.toList.length = 3 := by rw [Array.length_toList]; exact z3
    unfold Lb.t3
    simp only [List.length_append, List.length_cons, h1, tw_len, yr_len]
  have q3 := fun w => lparse_any (Lb.t3 y m d) (by omega) w
  unfold ParPost at q1 q2 q3
  rw [Lb.parse_t1 hm0, ← hday] at q1
  rw [Lb.parse_t2 hk7 hm0, ← hday] at q2
  rw [Lb.parse_t3 hm0, ← hday] at q3
  have n1 : Ml.moN m ++ Ml.mk [32] = Ml.mk ((Ml.moN m).data.toList ++ [32]) := by
    rw [← mk_app, Ml.mk_list]
  have n2 : Ml.mk ((Ml.moN m).data.toList ++ [32]) ++ Ml.mk (Ml.tw d) = Ml.mk ((Ml.moN m).data.toList ++ [32] ++ Ml.tw d) := mk_app _ _
  have n3 : Ml.mk ((Ml.moN m).data.toList ++ [32] ++ Ml.tw d) ++ Ml.mk [44, 32] = Ml.mk ((Ml.moN m).data.toList ++ [32] ++ Ml.tw d ++ [44, 32]) := mk_app _ _
  have n4 : Ml.mk ((Ml.moN m).data.toList ++ [32] ++ Ml.tw d ++ [44, 32]) ++ Ml.mk (Lb.yr y) = Ml.mk (Lb.t3 y m d) := by
    rw [mk_app]
    unfold Lb.t3
    congr 1
    simp only [List.append_assoc, List.cons_append, List.nil_append]
  have s1 : (Ml.mk ((Ml.moN m).data.toList ++ [32])).size = 4 := by rw [← n1, ByteArray.size_append, z3]; rfl
  have s2 : (Ml.mk ((Ml.moN m).data.toList ++ [32] ++ Ml.tw d)).size = 6 := by rw [← n2, ByteArray.size_append, s1]; rfl
  have s3 : (Ml.mk ((Ml.moN m).data.toList ++ [32] ++ Ml.tw d ++ [44, 32])).size = 8 := by rw [← n3, ByteArray.size_append, s2]; rfl
  have s4 : (Ml.mk (Ml.tw d)).size = 2 := rfl
  have s5 : (Ml.mk (Lb.yr y)).size = 4 := rfl
  have n1' : Ml.moN m ++ ⟨#[32]⟩ = Ml.mk ((Ml.moN m).data.toList ++ [32]) := n1
  have n3' : Ml.mk ((Ml.moN m).data.toList ++ [32] ++ Ml.tw d) ++ ⟨#[44, 32]⟩ = Ml.mk ((Ml.moN m).data.toList ++ [32] ++ Ml.tw d ++ [44, 32]) := n3
  have k9 := lwakes_any
  unfold T19.TexPost at C19
  unfold T20.TxtPost at C20
  clear n1 n3 hsv hq hday hl3 hnum hv hb hm hm0 hk hsec
  generalize Sm.textB y m d h mi x = T at *
  generalize Ml.txB y m d h mi x = U at *
  generalize Ml.mk (Lb.t1 y m d) = T1 at *
  generalize Ml.mk (Lb.t2 k y m d) = T2 at *
  generalize Ml.mk (Lb.t3 y m d) = T3 at *
  generalize Ml.mk ((Ml.moN m).data.toList ++ [32] ++ Ml.tw d ++ [44, 32]) = N3 at *
  generalize Ml.mk ((Ml.moN m).data.toList ++ [32] ++ Ml.tw d) = N2 at *
  generalize Ml.mk ((Ml.moN m).data.toList ++ [32]) = N1 at *
  generalize Ml.moN m = M1 at *
  generalize Ml.mk (Ml.tw d) = D1 at *
  generalize Ml.mk (Lb.yr y) = Y1 at *
  obtain ⟨dv, hdv⟩ : ∃ dv, sec - q = dv := ⟨_, rfl⟩
  rw [hdv] at w3 q1 q2 q3
  unfold LawTrue
  go_enter Try.func4, Try.ntmps4
  go_wp2_with fail
  refine (C19 _).mono ?_
  rintro e v1 ⟨rfl, b1⟩
  have B1 := Lib.hid b1
  clear b1 C19
  go_wp2_with fail
  refine (C20 _).mono ?_
  rintro e v2 ⟨rfl, b2⟩
  have B2 := Lib.hid (bn B1.out b2)
  clear b2 C20 B1
  go_wp2_with fail
  refine (q1 _).mono ?_
  rintro e v3 ⟨rfl, b3⟩
  have B3 := Lib.hid (bn B2.out b3)
  clear b3 q1 B2
  go_wp2_with fail
  refine (q2 _).mono ?_
  rintro e v4 ⟨rfl, b4⟩
  have B4 := Lib.hid (bn B3.out b4)
  clear b4 q2 B3
  go_wp2_with fail
  have k7 := rg (W := v4) q3
  clear q3
  refine wp_region_quiet_below (by kernel_rfl) (by kernel_rfl) ?_
  repeat (quiet_step (first | (go_at_call 8; exact k7 _ _)))
  refine wpQuiet_nil ?_
  intro _ hw'
  obtain ⟨⟨dq, osq⟩, hw''⟩ := hw'
  subst hw''
  have hB := bn B4.out (below_regrown v4 dq osq)
  simp only at hB ⊢
  generalize «Sort».grow (redrawn v4 dq) osq = v5 at *
  have B5 := Lib.hid hB
  clear hB k7 B4
  go_wp2_with fail
  refine (k9 _).mono ?_
  rintro e v6 ⟨rfl, b6⟩
  go_wp2
  go_ret
  exact ⟨rfl, bn B5.out b6⟩
theorem forms_out {w : World} (sec : Int) (h : sec < -62135596800 ∨ 253402300799 < sec) : Calls Try.prog 4 #[.int .i64 sec] w (LawTrue w) := by
  have C19 := fun w => T19.rtext_any sec (⟨#[]⟩, false) (Or.inl ⟨h, rfl⟩) w
  have C20 := fun w => T20.rtext_no sec h w
  have k9 := lwakes_any
  unfold T19.TexPost at C19
  unfold T20.TxtPost at C20
  clear h
  unfold LawTrue
  go_enter Try.func4, Try.ntmps4
  go_wp2_with fail
  refine (C19 _).mono ?_
  rintro e v1 ⟨rfl, b1⟩
  go_wp2_with fail
  refine (C20 _).mono ?_
  rintro e v2 ⟨rfl, b2⟩
  go_wp2_with fail
  refine (k9 _).mono ?_
  rintro e v6 ⟨rfl, b6⟩
  go_wp2
  go_ret
  exact ⟨rfl, bn (bn b1 b2) b6⟩
theorem liberalForms_walk {w : World} (sec : Int) (_ : Is64 sec) : Calls Try.prog 4 #[.int .i64 sec] w (LawTrue w) := by
  by_cases h : sec < -62135596800 ∨ 253402300799 < sec
  · exact forms_out sec h
  · obtain ⟨y, m, d, _, _, h1, h2⟩ := Cv.sec_split sec (by omega) (by omega)
    exact forms_in y m d _ _ _ h1 sec h2
end Go.Proofs.Ytbhafhbaldddiaa
