/- The walks of the document's Ordered and Sort. -/
import Derived.Test.YtahapmpohaaigaaOsL
namespace Go.Proofs.Ytahapmpohaaigaa
open Go.RowKit Go.Shelf
open Go
set_option linter.unusedVariables false
set_option maxRecDepth 100000
def SamePost (b : Bool) (w : World) (e : Ending) (w' : World) : Prop := e = .returned (.bool b) ∧ w = w'
set_option maxHeartbeats 4000000 in
theorem rordered_any (p : Option Addr) (c : Nat) (L : List Int) (W : World) (hL : L.length ≤ 10000000) (h1 : RowP W p c L) :
    Calls Try.prog 23 #[.slice p L.length c] W (SamePost (Ordl.ordB Tb.classI L) W) := by
  have H1 := Lib.hid h1.2
  clear h1
  obtain ⟨n, hn⟩ : ∃ n, L.length = n := ⟨_, rfl⟩
  rw [hn]
  rw [hn] at hL
  have HN := Lib.hid hn
  clear hn
  go_enter Try.func23, Try.ntmps23
  go_wp2_with fail
  go_loopw [3, 4] (fun vi v4 wr => ∃ i : Nat, vi = .int .i64 (i : Int) ∧ 1 ≤ i ∧ (i ≤ n ∨ i = 1) ∧ (∀ (j : Nat) (x y : Int), j + 1 < i → L[j]? = some x → L[j + 1]? = some y → ¬ (0 < Tb.classI y ∧ Tb.classI y < Tb.classI x)) ∧ W = wr) (fun vi _ _ => n + 1 - (intOf vi).toNat)
  case atStart => exact ⟨1, rfl, Nat.le_refl _, Or.inr rfl, (fun j x y hj => by omega), rfl⟩
  case round =>
    obtain ⟨i, rfl, hi1, hi2, hall, rfl⟩ := hrel
    have HALL := Lib.hid hall
    clear hall
    by_cases hlt : i < n
    · have hl1 : i < L.length := by have := HN.out; omega
      obtain ⟨k, hk⟩ : ∃ k, i = k + 1 := ⟨i - 1, by omega⟩
      have hl2 : k < L.length := by omega
      obtain ⟨g1, o1, rfl, I1⟩ := H1.out.resolve_left (fun e => by rw [e] at hl1; exact absurd hl1 (Nat.not_lt_zero _))
      obtain ⟨y, hy⟩ : ∃ y, L[i]? = some y := ⟨_, List.getElem?_eq_getElem hl1⟩
      obtain ⟨x, hx⟩ : ∃ x, L[k]? = some x := ⟨_, List.getElem?_eq_getElem hl2⟩
      have k1 := I1.2 i y hy
      have k2 := I1.2 k x hx
      have c1 := fun w => rclass_any y w
      have c2 := fun w => rclass_any x w
      have b1 := Tb.class_bd y
      have b2 := Tb.class_bd x
      have q1 : (i : Int) < (n : Int) := by omega
      have q2 : (i : Int) - 1 < (n : Int) := by omega
      have q3 : (0 : Int) ≤ (i : Int) - 1 := by omega
      have q4 : (1 : Int) ≤ (i : Int) := by omega
      have q6 : ((i : Int) - 1).toNat = k := by omega
      have HX := Lib.hid hx
      have HY := Lib.hid hy
      have HK := Lib.hid hk
      clear hx hy hk hl1 hl2
      have hno : 0 < Tb.classI y → Tb.classI y < Tb.classI x → Ordl.ordB Tb.classI L = false := fun p1 p2 => by
        rw [Bool.eq_false_iff]
        intro h
        exact (Ordl.ord_iff_at L).1 h k x y HX.out (by rw [← HK.out]; exact HY.out) ⟨p1, p2⟩
      have hyes : ¬ (0 < Tb.classI y ∧ Tb.classI y < Tb.classI x) → (∀ (j : Nat) (x y : Int), j + 1 < i + 1 → L[j]? = some x → L[j + 1]? = some y → ¬ (0 < Tb.classI y ∧ Tb.classI y < Tb.classI x)) := fun hn j u v hj hu hv => by
        by_cases e : j = k
        · subst e
          rw [HX.out] at hu
          rw [← HK.out, HY.out] at hv
          cases hu
          cases hv
          exact hn
        · exact HALL.out j u v (by have := HK.out; omega) hu hv
      have HNO := Lib.hid hno
      have HYES := Lib.hid hyes
      clear hno hyes
      generalize Tb.classI y = cy at *
      generalize Tb.classI x = cx at *
      by_cases p1 : 0 < cy
      · by_cases p2 : cy < cx
        · have hB := HNO.out p1 p2
          have HB := Lib.hid hB
          clear hB
          go_wp2_with fail
          refine (c1 _).mono ?_
          rintro e w1 ⟨rfl, rfl⟩
          go_wp2_with fail
          refine (c2 _).mono ?_
          rintro e w1 ⟨rfl, rfl⟩
          go_wp2_with fail
          go_ret
          exact ⟨by rw [HB.out]; rfl, rfl⟩
        · go_wp2_with fail
          refine (c1 _).mono ?_
          rintro e w1 ⟨rfl, rfl⟩
          go_wp2_with fail
          refine (c2 _).mono ?_
          rintro e w1 ⟨rfl, rfl⟩
          go_wp2_with fail
          go_roundw
          case rel => exact ⟨i + 1, by go_num, by omega, by omega, HYES.out (fun h => by omega), by first | rfl | trivial⟩
          case measure => simp [intOf]; omega
      · go_wp2_with fail
        refine (c1 _).mono ?_
        rintro e w1 ⟨rfl, rfl⟩
        go_wp2_with fail
        go_roundw
        case rel => exact ⟨i + 1, by go_num, by omega, by omega, HYES.out (fun h => by omega), by first | rfl | trivial⟩
        case measure => simp [intOf]; omega
    · have hB : Ordl.ordB Tb.classI L = true := (Ordl.ord_iff_at L).2 fun j x y hx hy => HALL.out j x y (by
        have := (List.getElem?_eq_some_iff.1 hy).1
        have := HN.out
        omega) hx hy
      have HB := Lib.hid hB
      have q1 : ¬ (i : Int) < (n : Int) := by omega
      clear hB
      go_wp2_with fail
      go_ret
      exact ⟨by rw [HB.out]; rfl, rfl⟩
theorem OwnL.spot {W : World} {base g n cap : Nat} {L : List Int} (h : OwnL W base (.slice (some ⟨g, 0, none⟩) n cap) L) : (∀ (j : Nat) (x : Int), L[j]? = some x → W.cell? ⟨g, j, none⟩ = some (.int .i64 x) ∧ W.frozen? ⟨g, j, none⟩ = false) ∧ g < W.heap.size ∧ base ≤ g ∧ n = L.length := by
  rcases h.2 with ⟨h3, _⟩ | ⟨g', cap', cur, hv, hb, hg, hle, hmx, hcs, htk⟩
  · cases h3
  · injection hv with hp hn hc
    injection hp with hp
    injection hp with hp1 hp2 hp3
    subst hp1 hc
    rw [Nat.mul_one] at hcs htk
    refine ⟨fun i x hx => ?_, (Array.getElem?_eq_some_iff.1 hg).1, hb, hn⟩
    have h5 := congrArg (fun l : List Value => l[i]?) htk
    have hi : i < L.length := (List.getElem?_eq_some_iff.1 hx).1
    simp only [List.getElem?_map, hx, Option.map_some] at h5
    rw [List.getElem?_take_of_lt hi, Array.getElem?_toList] at h5
    exact ⟨by simp [World.cell?, hg, h5, encI], by simp [World.frozen?, hg]⟩
theorem OwnL.set {W : World} {base g n cap : Nat} {L : List Int} (h : OwnL W base (.slice (some ⟨g, 0, none⟩) n cap) L) (j : Nat) (y : Int) : OwnL (W.setCell ⟨g, j, none⟩ (.int .i64 y)) base (.slice (some ⟨g, 0, none⟩) n cap) (L.set j y) := by
  refine ⟨by simp, Or.inr ?_⟩
  rcases h.2 with ⟨h3, _⟩ | ⟨g', cap', cur, hv, hb, hg, hle, hmx, hcs, htk⟩
  · cases h3
  · refine ⟨g', cap', cur.setIfInBounds j (.int .i64 y), by rw [hv, List.length_set], hb, ?_, by rw [List.length_set]; exact hle, hmx, by simpa using hcs, ?_⟩
    · injection hv with hp _ _
      injection hp with hp
      injection hp with hp1
      subst hp1
      exact heap_setCell_same _ _ _ _ _ _ hg
    · rw [List.length_set, Array.toList_setIfInBounds, List.take_set, htk, List.map_set]
      rfl
theorem OwnL.row {W : World} {base g n cap : Nat} {L : List Int} (h : OwnL W base (.slice (some ⟨g, 0, none⟩) n cap) L) : RowP W (some ⟨g, 0, none⟩) cap L := by
  obtain ⟨h1, h2, _, _⟩ := h.spot
  refine ⟨?_, Or.inr ⟨g, 0, rfl, h2, fun j x hj => by rw [Nat.zero_add]; exact (h1 j x hj).1⟩⟩
  rcases h.2 with ⟨h3, _⟩ | ⟨g', cap', cur, hv, hb, hg, hle, _⟩
  · cases h3
  · injection hv with _ _ hc
    rw [hc]; exact hle
theorem set_two (a : List Int) (x y : Int) (r : List Int) : ((a ++ x :: y :: r).set (a.length + 1) x).set a.length y = a ++ y :: x :: r := by
  rw [List.set_append_right _ _ (by omega), List.set_append_right _ _ (by omega)]
  simp
set_option maxHeartbeats 8000000 in
theorem rsort_some (g o c : Nat) (L : List Int) (w : World) (hL : L.length ≤ 100000) (hx : 0 < L.length) (hI : Ints w g o L) :
    Calls Try.prog 22 #[.slice (some ⟨g, o, none⟩) L.length c] w (OutPost (Ordl.sortL Tb.classI L) w) := by
  obtain ⟨i0, hi, hz0, hz1, hz2⟩ := info_parts infoI
  have hnews : ∀ (j : Nat) (u : Value), (L.map encI)[j]? = some u → w.cell? (Addr.add ⟨g, o, none⟩ j) = some u := fun j u hj => by
    rw [List.getElem?_map] at hj
    cases hj2 : L[j]? with
    | none => rw [hj2] at hj; cases hj
    | some y =>
      rw [hj2] at hj
      cases hj
      rw [Go.WideShapes.add_plain]
      exact hI.2 j y hj2
  have hone : ∀ u ∈ L.map encI, u.oneCell' = true := fun u hu => by
    obtain ⟨y, _, rfl⟩ := List.mem_map.1 hu
    rfl
  have hlen : (L.map encI).length = L.length * 1 := by simp
  have b1 : 0 + L.length ≤ maxLen := by unfold maxLen; omega
  have b2 : (0 + L.length) * 8 ≤ 140737488355328 := by omega
  obtain ⟨n, hn⟩ : ∃ n, L.length = n := ⟨_, rfl⟩
  rw [hn] at hlen b1 b2 hL hx ⊢
  have HN := Lib.hid hn
  clear hn
  go_enter Try.func22, Try.ntmps22
  go_wp2_with (at_builtin; refine wpList_append_own _ rfl _ _ 22 rfl w.heap.size 3 i0 (.int .i64 0) 1 8 Try.underlying22 hi hz0 hz1 hz2 rfl (by decide) (.slice none 0 0) 0 [] rfl (World.ownsRow_nil _ _ _ _) ⟨g, o, none⟩ n c (L.map encI) rfl hlen hnews hone b1 b2 (Nat.le_refl _) ?_; intro v' w1 hown' hgrow hnil)
  obtain ⟨g', cap', rfl, hgb, hcp, -⟩ := row_pos hown' (by omega)
  have hO : OwnL w1 w.heap.size (.slice (some ⟨g', 0, none⟩) n cap') (Ordl.itr (Ordl.pass Tb.classI) 0 L) := by
    unfold OwnL
    have := hown'
    rw [Nat.zero_add, List.nil_append] at this
    show w1.ownsRow w.heap.size 3 1 _ L.length (L.map encI)
    rw [HN.out]
    exact this
  have hB : Below w.heap.size w w1 := (Below.refl _ w).grown hgrow (Nat.le_refl _) (fun r e => by cases e)
  have HO := Lib.hid hO
  have HB := Lib.hid hB
  clear hown' hO hB hgrow hnil hnews hone hlen b1 b2 hI
  rw [Nat.zero_add] at hcp ⊢
  go_wp2_with fail
  go_loopw [4, 5, 6, 7] (fun v4 _ _ _ wr => ∃ m : Nat, v4 = .int .i64 (m : Int) ∧ m ≤ n ∧ OwnL wr w.heap.size (.slice (some ⟨g', 0, none⟩) n cap') (Ordl.itr (Ordl.pass Tb.classI) m L) ∧ Below w.heap.size w wr) (fun v4 _ _ _ _ => n - (intOf v4).toNat)
  case atStart => exact ⟨0, rfl, Nat.zero_le _, HO.out, HB.out⟩
  case round =>
    clear HO HB
    obtain ⟨m, rfl, hm, hO, hB⟩ := hrel
    by_cases hlt : m < n
    · have q1 : (m : Int) < (n : Int) := by omega
      have hsn := Ordl.itr_snoc (Ordl.pass Tb.classI) m L
      have hln : (Ordl.itr (Ordl.pass Tb.classI) m L).length = n := by rw [Ordl.itr_len]; exact HN.out
      generalize hMM : Ordl.itr (Ordl.pass Tb.classI) m L = M at *
      obtain ⟨x0, T, rfl⟩ : ∃ x T, M = x :: T := by
        cases M with
        | nil => simp at hln; omega
        | cons x T => exact ⟨x, T, rfl⟩
      have HSN := Lib.hid hsn
      have HLN := Lib.hid hln
      have HO := Lib.hid hO
      have HB := Lib.hid hB
      clear hsn hln hO hB hMM
      go_wp2_with fail
      go_loopw [5, 6, 7] (fun v5 _ _ wr => ∃ (i : Nat) (a : List Int) (x : Int) (r : List Int), v5 = .int .i64 (i : Int) ∧ 1 ≤ i ∧ a.length + 1 = i ∧ (a ++ x :: r).length = n ∧ OwnL wr w.heap.size (.slice (some ⟨g', 0, none⟩) n cap') (a ++ x :: r) ∧ a ++ Ordl.bub Tb.classI x r = Ordl.pass Tb.classI (x0 :: T) ∧ Below w.heap.size w wr) (fun v5 _ _ _ => n + 1 - (intOf v5).toNat)
      case atStart => exact ⟨1, [], x0, T, rfl, Nat.le_refl _, rfl, HLN.out, HO.out, rfl, HB.out⟩
      case round =>
        clear HO HB
        obtain ⟨i, a, x, r, rfl, hi, ha, hl, hO, hbub, hB⟩ := hrel
        obtain ⟨hat, hgl, -, -⟩ := hO.spot
        cases r with
        | nil =>
          have hin : ¬ (i : Int) < (n : Int) := by
            simp at hl
            omega
          have HO := Lib.hid hO
          have HB := Lib.hid hB
          have HBU := Lib.hid hbub
          clear hO hB hbub hat
          go_wp2_with fail
          go_roundw
          case rel => exact ⟨m + 1, by go_num, by omega, by rw [HSN.out, ← HBU.out]; exact HO.out, HB.out⟩
          case measure => simp [intOf]; omega
        | cons y r =>
          have hin : (i : Int) < (n : Int) := by
            simp at hl
            omega
          obtain ⟨k, hk⟩ : ∃ k, a.length = k := ⟨_, rfl⟩
          have k1 := (hat i y (by rw [List.getElem?_append_right (by omega), show i - a.length = 1 by omega]; rfl)).1
          have k2 := (hat k x (by rw [List.getElem?_append_right (by omega), show k - a.length = 0 by omega]; rfl)).1
          have f1 := (hat i y (by rw [List.getElem?_append_right (by omega), show i - a.length = 1 by omega]; rfl)).2
          have f2 := (hat k x (by rw [List.getElem?_append_right (by omega), show k - a.length = 0 by omega]; rfl)).2
          have c1 := fun w => rclass_any y w
          have c2 := fun w => rclass_any x w
          have hset := (hO.set i x).set k y
          rw [show i = a.length + 1 by omega, ← hk, set_two] at hset
          rw [show a.length + 1 = i by omega, hk] at hset
          have e1 : a ++ Ordl.bub Tb.classI x (y :: r) = if 0 < Tb.classI y ∧ Tb.classI y < Tb.classI x then (a ++ [y]) ++ Ordl.bub Tb.classI x r else (a ++ [x]) ++ Ordl.bub Tb.classI y r := by
            conv => lhs; unfold Ordl.bub
            split <;> simp
          rw [hbub] at e1
          have q2 : (i : Int) - 1 < (n : Int) := by omega
          have q3 : (0 : Int) ≤ (i : Int) - 1 := by omega
          have q4 : (1 : Int) ≤ (i : Int) := by omega
          have q6 : ((i : Int) - 1).toNat = k := by omega
          have q5 : (0 : Int) ≤ (i : Int) := by omega
          have HK := Lib.hid hk
          have HSET := Lib.hid hset
          have HE := Lib.hid e1
          have HO := Lib.hid hO
          have HB := Lib.hid hB
          have HA := Lib.hid ha
          have HLL := Lib.hid hl
          clear hk hset e1 hO hB ha hl hbub hat
          by_cases p1 : 0 < Tb.classI y
          · by_cases p2 : Tb.classI y < Tb.classI x
            · have hE2 : (a ++ [y]) ++ Ordl.bub Tb.classI x r = Ordl.pass Tb.classI (x0 :: T) := by rw [HE.out, if_pos ⟨p1, p2⟩]
              have HE2 := Lib.hid hE2
              clear hE2 HE
              generalize Tb.classI y = cy at *
              generalize Tb.classI x = cx at *
              go_wp2_with fail
              refine (c1 _).mono ?_
              rintro e w1 ⟨rfl, rfl⟩
              go_wp2_with fail
              refine (c2 _).mono ?_
              rintro e w1 ⟨rfl, rfl⟩
              go_wp2_with fail
              go_roundw
              case rel =>
                refine ⟨i + 1, a ++ [y], x, r, by go_num, by omega, by have := HA.out; simp; omega, by have := HLL.out; simp at this ⊢; omega, by rw [List.append_assoc]; exact HSET.out, HE2.out, (HB.out.setCell (p := ⟨g', i, none⟩) hgb _).setCell (p := ⟨g', k, none⟩) hgb _⟩
              case measure => simp [intOf]; omega
            · have hE2 : (a ++ [x]) ++ Ordl.bub Tb.classI y r = Ordl.pass Tb.classI (x0 :: T) := by rw [HE.out, if_neg (fun h => p2 h.2)]
              have HE2 := Lib.hid hE2
              clear hE2 HE
              generalize Tb.classI y = cy at *
              generalize Tb.classI x = cx at *
              go_wp2_with fail
              refine (c1 _).mono ?_
              rintro e w1 ⟨rfl, rfl⟩
              go_wp2_with fail
              refine (c2 _).mono ?_
              rintro e w1 ⟨rfl, rfl⟩
              go_wp2_with fail
              go_roundw
              case rel =>
                refine ⟨i + 1, a ++ [x], y, r, by go_num, by omega, by have := HA.out; simp; omega, by have := HLL.out; simp at this ⊢; omega, by rw [List.append_assoc]; exact HO.out, HE2.out, HB.out⟩
              case measure => simp [intOf]; omega
          · have hE2 : (a ++ [x]) ++ Ordl.bub Tb.classI y r = Ordl.pass Tb.classI (x0 :: T) := by rw [HE.out, if_neg (fun h => p1 h.1)]
            have HE2 := Lib.hid hE2
            clear hE2 HE
            generalize Tb.classI y = cy at *
            generalize Tb.classI x = cx at *
            go_wp2_with fail
            refine (c1 _).mono ?_
            rintro e w1 ⟨rfl, rfl⟩
            go_wp2_with fail
            go_roundw
            case rel =>
              refine ⟨i + 1, a ++ [x], y, r, by go_num, by omega, by have := HA.out; simp; omega, by have := HLL.out; simp at this ⊢; omega, by rw [List.append_assoc]; exact HO.out, HE2.out, HB.out⟩
            case measure => simp [intOf]; omega
    · obtain rfl : m = n := by omega
      have hO2 : OwnL wr w.heap.size (.slice (some ⟨g', 0, none⟩) m cap') (Ordl.sortL Tb.classI L) := by
        rw [← Ordl.itr_pass cls0 (n := m) (l := L) (by have := HN.out; omega)]
        exact hO
      have HO := Lib.hid hO2
      have HB := Lib.hid hB
      have q1 : ¬ (m : Int) < (m : Int) := by omega
      clear hO hO2 hB
      go_wp2_with fail
      go_ret
      exact ⟨_, rfl, HO.out, HB.out⟩
theorem rsort_none (p : Option Addr) (c : Nat) (w : World) :
    Calls Try.prog 22 #[.slice p 0 c] w (OutPost [] w) := by
  have e0 : OwnL w w.heap.size (.slice none 0 0) [] := ⟨rfl, Or.inl ⟨rfl, rfl⟩⟩
  have HE := Lib.hid e0
  clear e0
  cases p with
  | none =>
    go_enter Try.func22, Try.ntmps22
    go_wp2_with fail
    go_loopw [4, 5, 6, 7] (fun v4 _ _ _ wr => v4 = .int .i64 0 ∧ wr = w) (fun _ _ _ _ _ => 0)
    case atStart => exact ⟨rfl, rfl⟩
    case round =>
      obtain ⟨rfl, rfl⟩ := hrel
      go_wp2_with fail
      go_ret
      exact ⟨_, rfl, HE.out, Below.refl _ _⟩
  | some a =>
    go_enter Try.func22, Try.ntmps22
    go_wp2_with fail
    go_loopw [4, 5, 6, 7] (fun v4 _ _ _ wr => v4 = .int .i64 0 ∧ wr = w) (fun _ _ _ _ _ => 0)
    case atStart => exact ⟨rfl, rfl⟩
    case round =>
      obtain ⟨rfl, rfl⟩ := hrel
      go_wp2_with fail
      go_ret
      exact ⟨_, rfl, HE.out, Below.refl _ _⟩
theorem rsort_any (p : Option Addr) (c : Nat) (L : List Int) (w : World) (hL : L.length ≤ 100000) (h : RowP w p c L) :
    Calls Try.prog 22 #[.slice p L.length c] w (OutPost (Ordl.sortL Tb.classI L) w) := by
  by_cases hn : L = []
  · subst hn
    exact rsort_none p c w
  · obtain ⟨g, o, rfl, hI⟩ := h.2.resolve_left hn
    exact rsort_some g o c L w hL (List.length_pos_iff.2 hn) hI
end Go.Proofs.Ytahapmpohaaigaa
