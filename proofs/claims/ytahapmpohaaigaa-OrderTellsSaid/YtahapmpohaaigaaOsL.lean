/- The walks of Same, the program's and the document's. -/
import Derived.Test.YtahapmpohaaigaaOsK
namespace Go.Proofs.Ytahapmpohaaigaa
open Go.RowKit Go.Shelf
open Go
set_option linter.unusedVariables false
set_option maxRecDepth 100000
def EqPost (b : Bool) (w : World) (e : Ending) (w' : World) : Prop := e = .returned (.bool b) ∧ ∃ n, w' = w.drewN n
theorem eqL_no {L M : List Int} {i : Nat} {x y : Int} (hx : L[i]? = some x) (hy : M[i]? = some y) (h : x ≠ y) : decide (L = M) = false := by
  rw [decide_eq_false_iff_not]
  intro e
  rw [e, hy] at hx
  exact h (Option.some.inj hx).symm
theorem eqL_yes {L M : List Int} (hl : L.length = M.length) (h : ∀ (j : Nat) (x y : Int), j < L.length → L[j]? = some x → M[j]? = some y → x = y) : decide (L = M) = true := by
  rw [decide_eq_true_iff]
  apply List.ext_getElem? 
  intro i
  by_cases hi : i < L.length
  · rw [List.getElem?_eq_getElem hi, List.getElem?_eq_getElem (show i < M.length by omega)]
    congr 1
    exact h i _ _ hi (List.getElem?_eq_getElem hi) (List.getElem?_eq_getElem (by omega))
  · rw [List.getElem?_eq_none (by omega), List.getElem?_eq_none (by omega)]
set_option maxHeartbeats 4000000 in
theorem equal_any (p q : Option Addr) (c d : Nat) (L M : List Int) (W : World) (hL : L.length ≤ 10000000) (hM : M.length ≤ 10000000) (h1 : RowP W p c L) (h2 : RowP W q d M) :
    Calls Try.prog 34 #[.slice p L.length c, .slice q M.length d] W (EqPost (decide (L = M)) W) := by
  have H1 := Lib.hid h1.2
  have H2 := Lib.hid h2.2
  clear h1 h2
  by_cases hl : L.length = M.length
  · obtain ⟨n, hn⟩ : ∃ n, L.length = n := ⟨_, rfl⟩
    rw [← hl, hn]
    rw [hn] at hL
    have HN := Lib.hid hn
    have HNM := Lib.hid hl
    clear hn hl hM
    go_enter Try.func34, Try.ntmps34
    go_wp2_with fail
    go_loopw [5, 13] (fun v5 vi wr => ∃ i : Nat, vi = .int .i64 (i : Int) ∧ i ≤ n ∧ (∀ (j : Nat) (x y : Int), j < i → L[j]? = some x → M[j]? = some y → x = y) ∧ ∃ k, wr = W.drewN k) (fun _ vi _ => n - (intOf vi).toNat)
    case atStart => exact ⟨0, rfl, Nat.zero_le _, fun j x y hj => absurd hj (Nat.not_lt_zero _), 0, rfl⟩
    case round =>
      obtain ⟨i, rfl, hi, hall, k, hk⟩ := hrel
      have HALL := Lib.hid hall
      have HK := Lib.hid hk
      by_cases hlt : i < n
      · have hl1 : i < L.length := by have := HN.out; omega
        have hl2 : i < M.length := by have := HNM.out; omega
        obtain ⟨g1, o1, rfl, I1⟩ := H1.out.resolve_left (fun e => by rw [e] at hl1; exact absurd hl1 (Nat.not_lt_zero _))
        obtain ⟨g2, o2, rfl, I2⟩ := H2.out.resolve_left (fun e => by rw [e] at hl2; exact absurd hl2 (Nat.not_lt_zero _))
        have hx := List.getElem?_eq_getElem hl1
        have hy := List.getElem?_eq_getElem hl2
        have k1 : wr.cell? ⟨g1, o1 + i, none⟩ = some (.int .i64 L[i]) := by rw [hk]; exact I1.2 i _ hx
        have k2 : wr.cell? ⟨g2, o2 + i, none⟩ = some (.int .i64 M[i]) := by rw [hk]; exact I2.2 i _ hy
        have HX := Lib.hid hx
        have HY := Lib.hid hy
        have q1 : (i : Int) < (n : Int) := by omega
        clear hx hy hall hk I1 I2
        generalize L[i] = x at *
        generalize M[i] = y at *
        by_cases hxy : x = y
        · subst hxy
          go_wp2_with fail
          go_quiet (fail)
          go_wp2_with fail
          go_roundw
          case rel =>
            refine ⟨i + 1, by go_num, by omega, fun j u v hj hu hv => ?_, k + nq, by rw [HK.out, World.drewN_drewN]⟩
            by_cases e : j = i
            · subst e
              rw [HX.out] at hu
              rw [HY.out] at hv
              cases hu
              cases hv
              rfl
            · exact HALL.out j u v (by omega) hu hv
          case measure => simp [intOf]; omega
        · have hne : (x == y) = false := by simpa using hxy
          have hne2 : (x != y) = true := by simpa using hxy
          have hB := eqL_no HX.out HY.out hxy
          have HB := Lib.hid hB
          clear hB
          go_wp2_with fail
          go_quiet (fail)
          go_wp2_with fail
          go_ret
          exact ⟨by rw [HB.out]; rfl, k + nq, by rw [HK.out, World.drewN_drewN]⟩
      · obtain rfl : i = n := by omega
        have hB : decide (L = M) = true := eqL_yes HNM.out (fun j x y hj hx hy => HALL.out j x y (by have := HN.out; omega) hx hy)
        have HB := Lib.hid hB
        have q1 : ¬ (i : Int) < (i : Int) := by omega
        clear hB hall hk
        go_wp2_with fail
        go_ret
        exact ⟨by rw [HB.out]; rfl, k, HK.out⟩
  · have hB : decide (L = M) = false := by
      rw [decide_eq_false_iff_not]
      intro e
      exact hl (by rw [e])
    have HB := Lib.hid hB
    have hl1 : ((L.length : Int) == (M.length : Int)) = false := by simp; omega
    clear hB
    generalize L.length = n at *
    generalize M.length = m at *
    go_enter Try.func34, Try.ntmps34
    go_wp2_with fail
    go_ret
    exact ⟨by rw [HB.out]; rfl, 0, rfl⟩
theorem psame_any (p q : Option Addr) (c d : Nat) (L M : List Int) (W : World) (hL : L.length ≤ 10000000) (hM : M.length ≤ 10000000) (h1 : RowP W p c L) (h2 : RowP W q d M) :
    Calls Try.prog 24 #[.slice p L.length c, .slice q M.length d] W (EqPost (decide (L = M)) W) := by
  have hcl := equal_any p q c d L M W hL hM h1 h2
  clear h1 h2
  go_enter Try.func24, Try.ntmps24
  go_wp2_with fail
  refine hcl.mono ?_
  rintro e w ⟨rfl, n, rfl⟩
  go_wp2_with fail
  go_ret
  exact ⟨rfl, n, rfl⟩
set_option maxHeartbeats 4000000 in
theorem rsame_any (p q : Option Addr) (c d : Nat) (L M : List Int) (W : World) (hL : L.length ≤ 10000000) (hM : M.length ≤ 10000000) (h1 : RowP W p c L) (h2 : RowP W q d M) :
    Calls Try.prog 11 #[.slice p L.length c, .slice q M.length d] W (EqPost (decide (L = M)) W) := by
  have H1 := Lib.hid h1.2
  have H2 := Lib.hid h2.2
  clear h1 h2
  by_cases hl : L.length = M.length
  · obtain ⟨n, hn⟩ : ∃ n, L.length = n := ⟨_, rfl⟩
    rw [← hl, hn]
    rw [hn] at hL
    have HN := Lib.hid hn
    have HNM := Lib.hid hl
    clear hn hl hM
    go_enter Try.func11, Try.ntmps11
    go_wp2_with fail
    go_loopw [5] (fun vi wr => ∃ i : Nat, vi = .int .i64 (i : Int) ∧ i ≤ n ∧ (∀ (j : Nat) (x y : Int), j < i → L[j]? = some x → M[j]? = some y → x = y) ∧ ∃ k, wr = W.drewN k) (fun vi _ => n - (intOf vi).toNat)
    case atStart => exact ⟨0, rfl, Nat.zero_le _, fun j x y hj => absurd hj (Nat.not_lt_zero _), 0, rfl⟩
    case round =>
      obtain ⟨i, rfl, hi, hall, k, hk⟩ := hrel
      have HALL := Lib.hid hall
      have HK := Lib.hid hk
      by_cases hlt : i < n
      · have hl1 : i < L.length := by have := HN.out; omega
        have hl2 : i < M.length := by have := HNM.out; omega
        obtain ⟨g1, o1, rfl, I1⟩ := H1.out.resolve_left (fun e => by rw [e] at hl1; exact absurd hl1 (Nat.not_lt_zero _))
        obtain ⟨g2, o2, rfl, I2⟩ := H2.out.resolve_left (fun e => by rw [e] at hl2; exact absurd hl2 (Nat.not_lt_zero _))
        have hx := List.getElem?_eq_getElem hl1
        have hy := List.getElem?_eq_getElem hl2
        have k1 : wr.cell? ⟨g1, o1 + i, none⟩ = some (.int .i64 L[i]) := by rw [hk]; exact I1.2 i _ hx
        have k2 : wr.cell? ⟨g2, o2 + i, none⟩ = some (.int .i64 M[i]) := by rw [hk]; exact I2.2 i _ hy
        have HX := Lib.hid hx
        have HY := Lib.hid hy
        have q1 : (i : Int) < (n : Int) := by omega
        clear hx hy hall hk I1 I2
        generalize L[i] = x at *
        generalize M[i] = y at *
        by_cases hxy : x = y
        · subst hxy
          go_wp2_with fail
          go_quiet (fail)
          go_wp2_with fail
          go_roundw
          case rel =>
            refine ⟨i + 1, by go_num, by omega, fun j u v hj hu hv => ?_, k + nq, by rw [HK.out, World.drewN_drewN]⟩
            by_cases e : j = i
            · subst e
              rw [HX.out] at hu
              rw [HY.out] at hv
              cases hu
              cases hv
              rfl
            · exact HALL.out j u v (by omega) hu hv
          case measure => simp [intOf]; omega
        · have hne : (x == y) = false := by simpa using hxy
          have hne2 : (x != y) = true := by simpa using hxy
          have hB := eqL_no HX.out HY.out hxy
          have HB := Lib.hid hB
          clear hB
          go_wp2_with fail
          go_quiet (fail)
          go_wp2_with fail
          go_ret
          exact ⟨by rw [HB.out]; rfl, k + nq, by rw [HK.out, World.drewN_drewN]⟩
      · obtain rfl : i = n := by omega
        have hB : decide (L = M) = true := eqL_yes HNM.out (fun j x y hj hx hy => HALL.out j x y (by have := HN.out; omega) hx hy)
        have HB := Lib.hid hB
        have q1 : ¬ (i : Int) < (i : Int) := by omega
        clear hB hall hk
        go_wp2_with fail
        go_ret
        exact ⟨by rw [HB.out]; rfl, k, HK.out⟩
  · have hB : decide (L = M) = false := by
      rw [decide_eq_false_iff_not]
      intro e
      exact hl (by rw [e])
    have HB := Lib.hid hB
    have hl1 : ((L.length : Int) == (M.length : Int)) = false := by simp; omega
    clear hB
    generalize L.length = n at *
    generalize M.length = m at *
    go_enter Try.func11, Try.ntmps11
    go_wp2_with fail
    go_ret
    exact ⟨by rw [HB.out]; rfl, 0, rfl⟩
end Go.Proofs.Ytahapmpohaaigaa
