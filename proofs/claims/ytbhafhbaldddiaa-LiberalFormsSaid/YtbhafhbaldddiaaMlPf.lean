/- Plain laws on letters' dates: a written date is read as its second. No program in sight. -/
import Derived.Test.YtbhafhbaldddiaaMlPe
namespace Ml
open Sm
theorem c32 (n : Int) : (32 : UInt8) ≠ c n := fun e => (c_ne n).2 e.symm
theorem mo_list {m : Int} (h0 : 1 ≤ m) (h1 : m ≤ 12) : ∃ a b e, moN m = mk [a, b, e] ∧ (32 : UInt8) ∉ [a, b, e] := by
  obtain ⟨k1, k2⟩ := mo_is h0 h1
  have hl : (moN m).data.toList.length = 3 := by simpa using k2
  obtain ⟨a, b, e, h⟩ := list3 hl
  have hm := (nm_mem k1).1
  have := of_decide_eq_true (List.all_eq_true.1 mo_32 _ hm)
  rw [h] at this
  exact ⟨a, b, e, of_list h, this⟩
theorem dy_list {k : Int} (h0 : 0 ≤ k) (h1 : k ≤ 6) : ∃ a b e, dyN k = mk [a, b, e] := by
  have hl : (dyN k).data.toList.length = 3 := by simpa using (dy_is h0 h1).2
  obtain ⟨a, b, e, h⟩ := list3 hl
  exact ⟨a, b, e, of_list h⟩
def bytes (a b e m1 m2 m3 : UInt8) (y d h mi s : Int) : List UInt8 := [a, b, e, 44, 32, c (d / 10), c d, 32, m1, m2, m3, 32, c (y / 100 / 10), c (y / 100), c (y / 10), c y, 32, c (h / 10), c h, 58, c (mi / 10), c mi, 58, c (s / 10), c s, 32, 71, 77, 84]
theorem tx_bytes {y m d h mi s : Int} {a b e m1 m2 m3 : UInt8} (hd : dyN (Cv.wday (Cv.num y m d)) = mk [a, b, e]) (hm : moN m = mk [m1, m2, m3]) : txB y m d h mi s = mk (bytes a b e m1 m2 m3 y d h mi s) := by
  unfold txB
  rw [tx_join]
  unfold txL
  rw [hd, hm]
  rfl
theorem mk_app (x y : List UInt8) : mk x ++ mk y = mk (x ++ y) := of_list (by rw [len_app]; simp [mk])
theorem ext_mk (l : List UInt8) (i j : Nat) : (mk l).extract i j = mk ((l.drop i).take (j - i)) := of_list (by simp [mk])
theorem wds5 {D M Y C : List UInt8} {l : List UInt8} (hl : l = D ++ 32 :: (M ++ 32 :: (Y ++ 32 :: (C ++ 32 :: [71, 77, 84])))) (q1 : (32 : UInt8) ∉ D) (q2 : (32 : UInt8) ∉ M) (q3 : (32 : UInt8) ∉ Y) (q4 : (32 : UInt8) ∉ C) : wds (mk l) = [mk D, mk M, mk Y, mk C, mk [71, 77, 84]] := by
  unfold wds
  rw [show (mk l).data.toList = l from by simp [mk], hl, sp5 D M Y C _ q1 q2 q3 q4 (by decide)]
  rfl
structure Back (S : ByteArray) (v v0 : Int) : Prop where
  size : S.size = 29
  all : parseF S = some v
  five : parseF (S.extract 5 29) = some v
  six : B S 5 = 48 → parseF (S.extract 6 29) = some v
  less : parseF (S.extract 0 22 ++ S.extract 25 29) = some v0
theorem back_all {y m d h mi s : Int} (hm : Cv.mayB y m d h mi s = true) : Back (txB y m d h mi s) (Cv.secV y m d h mi s 0) (Cv.secV y m d h mi 0 0) := by
  obtain ⟨hv, hb⟩ := (Cv.may_iff y m d h mi s).1 hm
  have hvb := Cv.vld_bd hv
  have hm0 : Cv.mayB y m d h mi 0 = true := (Cv.may_iff y m d h mi 0).2 ⟨hv, by omega⟩
  have w0 : 0 ≤ Cv.wday (Cv.num y m d) ∧ Cv.wday (Cv.num y m d) ≤ 6 := by unfold Cv.wday; omega
  obtain ⟨m1, m2, m3, em, q2⟩ := mo_list (m := m) (by omega) (by omega)
  obtain ⟨a, b, e, ed⟩ := dy_list w0.1 w0.2
  have hmo : monF (mk [m1, m2, m3]) = some m := by rw [← em]; exact (mo_is (by omega) (by omega)).1
  have D2 := dd_is (n := d) (by omega) (by omega)
  have Y4 := d4_is (n := y) (by omega) (by omega)
  have C8 := ck8 (h := h) (mi := mi) (s := s) hb
  have C5 := ck5 (h := h) (mi := mi) (by omega)
  have qD : (32 : UInt8) ∉ [c (d / 10), c d] := by simp [c32]
  have qD1 : (32 : UInt8) ∉ [c d] := by simp [c32]
  have qY : (32 : UInt8) ∉ [c (y / 100 / 10), c (y / 100), c (y / 10), c y] := by simp [c32]
  have qC : (32 : UInt8) ∉ [c (h / 10), c h, 58, c (mi / 10), c mi, 58, c (s / 10), c s] := by simp [c32]
  have qC5 : (32 : UInt8) ∉ [c (h / 10), c h, 58, c (mi / 10), c mi] := by simp [c32]
  have F5 : five (mk [c (d / 10), c d]) (mk [m1, m2, m3]) (mk [c (y / 100 / 10), c (y / 100), c (y / 10), c y]) (mk [c (h / 10), c h, 58, c (mi / 10), c mi, 58, c (s / 10), c s]) (mk [71, 77, 84]) (some (Cv.wday (Cv.num y m d))) = some (Cv.secV y m d h mi s 0) :=
    five_mk hm hmo gmt_is D2.1 D2.2 Y4.1 Y4.2 C8.1 C8.2.1 C8.2.2.1 C8.2.2.2 (Or.inr rfl)
  rw [tx_bytes ed em]
  have W5 := wds5 (l := [c (d / 10), c d, 32, m1, m2, m3, 32, c (y / 100 / 10), c (y / 100), c (y / 10), c y, 32, c (h / 10), c h, 58, c (mi / 10), c mi, 58, c (s / 10), c s, 32, 71, 77, 84]) rfl qD q2 qY qC
  have W5b := wds5 (l := [c (d / 10), c d, 32, m1, m2, m3, 32, c (y / 100 / 10), c (y / 100), c (y / 10), c y, 32, c (h / 10), c h, 58, c (mi / 10), c mi, 32, 71, 77, 84]) rfl qD q2 qY qC5
  have W1 := wds5 (l := [c d, 32, m1, m2, m3, 32, c (y / 100 / 10), c (y / 100), c (y / 10), c y, 32, c (h / 10), c h, 58, c (mi / 10), c mi, 58, c (s / 10), c s, 32, 71, 77, 84]) rfl qD1 q2 qY qC
  have hWk : ∀ l : List UInt8, parseF (mk ([a, b, e] ++ [44, 32] ++ l)) = prs ((dyN (Cv.wday (Cv.num y m d)) ++ ⟨#[44]⟩) :: wds (mk l)) := fun l => by
    rw [← mk_app, ← mk_app, ← ed]
    unfold parseF
    rw [← wds_week w0.1 w0.2]
    rfl
  refine ⟨rfl, ?_, ?_, ?_, ?_⟩
  · refine (hWk [c (d / 10), c d, 32, m1, m2, m3, 32, c (y / 100 / 10), c (y / 100), c (y / 10), c y, 32, c (h / 10), c h, 58, c (mi / 10), c mi, 58, c (s / 10), c s, 32, 71, 77, 84]).trans ?_
    rw [W5, prs_week w0.1 w0.2]
    exact F5
  · rw [ext_mk]
    have e : ((bytes a b e m1 m2 m3 y d h mi s).drop 5).take (29 - 5) = [c (d / 10), c d, 32, m1, m2, m3, 32, c (y / 100 / 10), c (y / 100), c (y / 10), c y, 32, c (h / 10), c h, 58, c (mi / 10), c mi, 58, c (s / 10), c s, 32, 71, 77, 84] := rfl
    rw [e]
    unfold parseF
    rw [W5]
    exact five_mk (wk := none) hm hmo gmt_is D2.1 D2.2 Y4.1 Y4.2 C8.1 C8.2.1 C8.2.2.1 C8.2.2.2 (Or.inl rfl)
  · intro h5
    have h9 : d ≤ 9 := by
      have := c_nat (d / 10)
      rw [B_mk] at h5
      have h5 : (c (d / 10)).toNat = 48 := h5
      omega
    have D1 := d1_is (n := d) (by omega) h9
    rw [ext_mk]
    have e : ((bytes a b e m1 m2 m3 y d h mi s).drop 6).take (29 - 6) = [c d, 32, m1, m2, m3, 32, c (y / 100 / 10), c (y / 100), c (y / 10), c y, 32, c (h / 10), c h, 58, c (mi / 10), c mi, 58, c (s / 10), c s, 32, 71, 77, 84] := rfl
    rw [e]
    unfold parseF
    rw [W1]
    exact five_mk (wk := none) hm hmo gmt_is D1.1 D1.2 Y4.1 Y4.2 C8.1 C8.2.1 C8.2.2.1 C8.2.2.2 (Or.inl rfl)
  · rw [ext_mk, ext_mk, mk_app]
    refine (hWk [c (d / 10), c d, 32, m1, m2, m3, 32, c (y / 100 / 10), c (y / 100), c (y / 10), c y, 32, c (h / 10), c h, 58, c (mi / 10), c mi, 32, 71, 77, 84]).trans ?_
    rw [W5b, prs_week w0.1 w0.2]
    exact five_mk hm0 hmo gmt_is D2.1 D2.2 Y4.1 Y4.2 C5.1 C5.2.1 C5.2.2.1 C5.2.2.2 (Or.inr rfl)
end Ml
