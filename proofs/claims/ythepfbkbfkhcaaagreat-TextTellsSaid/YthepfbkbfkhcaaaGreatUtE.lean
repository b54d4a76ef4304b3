/- The walks of utf8: Is, Len, Put. The walk of utf8.Put. -/
import Derived.Test.YthepfbkbfkhcaaaGreatUtB
import Derived.Test.YthepfbkbfkhcaaaGreatUtP
namespace Ut
def mk (l : List Nat) : ByteArray := ⟨(l.map UInt8.ofNat).toArray⟩
theorem mk_bytes {l : List Nat} (h : ∀ b ∈ l, b < 256) : bsL (mk l) = l := by
  unfold bsL mk
  show (l.map UInt8.ofNat).map UInt8.toNat = l
  rw [List.map_map]
  conv => rhs; rw [← List.map_id l]
  apply List.map_congr_left
  intro b hb
  have := h b hb
  show (UInt8.ofNat b).toNat = b
  rw [UInt8.toNat_ofNat']
  omega
theorem mk_size (l : List Nat) : (mk l).size = l.length := by
  show ((l.map UInt8.ofNat).toArray).size = l.length
  simp
theorem mk_of (s : ByteArray) : mk (bsL s) = s := bsL_inj (mk_bytes (bsL_lt s))
theorem mk_app (a b : List Nat) : mk (a ++ b) = mk a ++ mk b := by
  apply ByteArray.ext
  show ((a ++ b).map UInt8.ofNat).toArray = _
  rw [ByteArray.data_append]
  show _ = (a.map UInt8.ofNat).toArray ++ (b.map UInt8.ofNat).toArray
  simp
def lenI (r : Int) : Int := if isSc r then ((encI r).length : Int) else 0
/-- The bytes of a scalar by number. -/
theorem enc_two {r : Nat} (h1 : ¬ r < 128) (h2 : r < 2048) : enc r = [192 + r / 64, 128 + r % 64] := by unfold enc; rw [if_neg h1, if_pos h2]
theorem enc_three {r : Nat} (h1 : ¬ r < 128) (h2 : ¬ r < 2048) (h3 : r < 65536) : enc r = [224 + r / 4096, 128 + r / 64 % 64, 128 + r % 64] := by unfold enc; rw [if_neg h1, if_neg h2, if_pos h3]
theorem enc_four {r : Nat} (h1 : ¬ r < 128) (h2 : ¬ r < 2048) (h3 : ¬ r < 65536) : enc r = [240 + r / 262144, 128 + r / 4096 % 64, 128 + r / 64 % 64, 128 + r % 64] := by unfold enc; rw [if_neg h1, if_neg h2, if_neg h3]
end Ut
namespace Go.Proofs.YthepfbkbfkhcaaaGreat
open Go.RowKit
open Go
set_option linter.unusedVariables false
set_option maxRecDepth 100000
theorem uis_any (r : Int) (w : World) : Calls Tryz.prog 94 #[.int .i64 r] w fun e w' => e = .returned (.bool (decide (Ut.isSc r))) ∧ w = w' := by
  by_cases h1 : 0 ≤ r
  · by_cases h2 : r ≤ 1114111
    · by_cases h3 : r < 55296
      · have e : decide (Ut.isSc r) = true := decide_eq_true ⟨h1, h2, Or.inl h3⟩
        rw [e]
        clear e
        go_enter Tryz.func94, Tryz.ntmps94
        go_wp2
        go_ret
        exact ⟨rfl, rfl⟩
      · by_cases h4 : 57343 < r
        · have e : decide (Ut.isSc r) = true := decide_eq_true ⟨h1, h2, Or.inr h4⟩
          rw [e]
          clear e
          go_enter Tryz.func94, Tryz.ntmps94
          go_wp2
          go_ret
          exact ⟨rfl, rfl⟩
        · have e : decide (Ut.isSc r) = false := decide_eq_false (fun k => by obtain ⟨_, _, k⟩ := k; omega)
          rw [e]
          clear e
          go_enter Tryz.func94, Tryz.ntmps94
          go_wp2
          go_ret
          exact ⟨rfl, rfl⟩
    · have e : decide (Ut.isSc r) = false := decide_eq_false (fun k => by obtain ⟨_, _, k⟩ := k; omega)
      rw [e]
      have h2' : decide (r ≤ 1114111) = false := decide_eq_false h2
      clear e
      go_enter Tryz.func94, Tryz.ntmps94
      go_wp2
      go_ret
      exact ⟨rfl, rfl⟩
  · have e : decide (Ut.isSc r) = false := decide_eq_false (fun k => by obtain ⟨_, _, k⟩ := k; omega)
    rw [e]
    have h1' : decide (0 ≤ r) = false := decide_eq_false h1
    clear e
    go_enter Tryz.func94, Tryz.ntmps94
    go_wp2
    go_ret
    exact ⟨rfl, rfl⟩
theorem ix_len0 (w : World) : (Instr.index 102 (.agg #[.int .i64 128, .int .i64 2048, .int .i64 65536, .int .i64 1114112]) (.int .i64 0)).run Tryz.prog w = .ok (.int .i64 128) w := by kernel_rfl
theorem ix_len1 (w : World) : (Instr.index 102 (.agg #[.int .i64 128, .int .i64 2048, .int .i64 65536, .int .i64 1114112]) (.int .i64 1)).run Tryz.prog w = .ok (.int .i64 2048) w := by kernel_rfl
theorem ix_len2 (w : World) : (Instr.index 102 (.agg #[.int .i64 128, .int .i64 2048, .int .i64 65536, .int .i64 1114112]) (.int .i64 2)).run Tryz.prog w = .ok (.int .i64 65536) w := by kernel_rfl
theorem ix_len3 (w : World) : (Instr.index 102 (.agg #[.int .i64 128, .int .i64 2048, .int .i64 65536, .int .i64 1114112]) (.int .i64 3)).run Tryz.prog w = .ok (.int .i64 1114112) w := by kernel_rfl
def LenPost (n : Int) (w : World) (e : Ending) (w' : World) : Prop := e = .returned (.int .i64 n) ∧ Below w.heap.size w w'
set_option maxHeartbeats 4000000 in
theorem ulen_any (r : Int) (w : World) : Calls Tryz.prog 82 #[.int .i64 r] w (LenPost (Ut.lenI r) w) := by
  have C := uis_any r
  by_cases hs : Ut.isSc r
  · rw [decide_eq_true hs] at C
    obtain ⟨n, hn⟩ : ∃ n : Nat, r = (n : Int) := Ut.sc_nat hs
    have e : Ut.lenI r = ((Ut.enc n).length : Int) := by unfold Ut.lenI; rw [if_pos hs, hn]; rfl
    have e1 : n < 128 → ((Ut.enc n).length : Int) = 1 := fun h => by unfold Ut.enc; rw [if_pos h]; rfl
    have e2 : ¬ n < 128 → n < 2048 → ((Ut.enc n).length : Int) = 2 := fun h h2 => by rw [Ut.enc_two h h2]; rfl
    have e3 : ¬ n < 128 → ¬ n < 2048 → n < 65536 → ((Ut.enc n).length : Int) = 3 := fun h h2 h3 => by rw [Ut.enc_three h h2 h3]; rfl
    have e4 : ¬ n < 128 → ¬ n < 2048 → ¬ n < 65536 → ((Ut.enc n).length : Int) = 4 := fun h h2 h3 => by rw [Ut.enc_four h h2 h3]; rfl
    have hr := hs.2.1
    have h0 := hs.1
    rw [e]
    have E1 := Lib.hid e1
    have E2 := Lib.hid e2
    have E3 := Lib.hid e3
    have E4 := Lib.hid e4
    have HN := Lib.hid hn
    generalize ((Ut.enc n).length : Int) = z at *
    clear e e1 e2 e3 e4 hs hn
    have hb : Below w.heap.size w w := Below.refl _ _
    have x0 := ix_len0
    have x1 := ix_len1
    have x2 := ix_len2
    have x3 := ix_len3
    go_enter Tryz.func82, Tryz.ntmps82
    go_wp2_with (go_at_call 94; refine (C _).mono ?_; rintro e w' ⟨rfl, rfl⟩)
    go_loop [11] (fun k => k = .int .i64 0 ∨ (k = .int .i64 1 ∧ 128 ≤ r) ∨ (k = .int .i64 2 ∧ 2048 ≤ r) ∨ (k = .int .i64 3 ∧ 65536 ≤ r)) (fun k => 4 - (intOf k).toNat)
    case atStart => exact Or.inl rfl
    case round =>
      rcases hrel with rfl | ⟨rfl, hx⟩ | ⟨rfl, hx⟩ | ⟨rfl, hx⟩
      · by_cases q : r < 128
        · go_wp2
          go_ret
          exact ⟨by rw [E1.out (by have := HN.out; omega)]; rfl, bbox hb _⟩
        · go_wp2
          go_round
          case rel => exact Or.inr (Or.inl ⟨rfl, by omega⟩)
          case measure => simp [intOf]
      · by_cases q : r < 2048
        · go_wp2
          go_ret
          exact ⟨by rw [E2.out (by have := HN.out; omega) (by have := HN.out; omega)]; rfl, bbox hb _⟩
        · go_wp2
          go_round
          case rel => exact Or.inr (Or.inr (Or.inl ⟨rfl, by omega⟩))
          case measure => simp [intOf]
      · by_cases q : r < 65536
        · go_wp2
          go_ret
          exact ⟨by rw [E3.out (by have := HN.out; omega) (by have := HN.out; omega) (by have := HN.out; omega)]; rfl, bbox hb _⟩
        · go_wp2
          go_round
          case rel => exact Or.inr (Or.inr (Or.inr ⟨rfl, by omega⟩))
          case measure => simp [intOf]
      · have q : r < 1114112 := by omega
        go_wp2
        go_ret
        exact ⟨by rw [E4.out (by have := HN.out; omega) (by have := HN.out; omega) (by have := HN.out; omega)]; rfl, bbox hb _⟩
  · rw [decide_eq_false hs] at C
    have e : Ut.lenI r = 0 := by unfold Ut.lenI; rw [if_neg hs]
    rw [e]
    clear e hs
    go_enter Tryz.func82, Tryz.ntmps82
    go_wp2_with (go_at_call 94; refine (C _).mono ?_; rintro e w' ⟨rfl, rfl⟩)
    go_ret
    exact ⟨rfl, Below.refl _ _⟩
end Go.Proofs.YthepfbkbfkhcaaaGreat
namespace Ut
def hdN (k : Nat) : Nat := if k = 2 then 192 else if k = 3 then 224 else 240
def F (n j : Nat) : Nat := ((enc n)[j]?).getD 0
theorem big_bytes {n : Nat} (h1 : ¬ n < 128) (h2 : n ≤ 1114111) : 2 ≤ (enc n).length ∧ (enc n).length ≤ 4 ∧ (∀ j, 1 ≤ j → j < (enc n).length → F n j = 128 + n / 64 ^ ((enc n).length - 1 - j) % 64) ∧ F n 0 = hdN (enc n).length + n / 64 ^ ((enc n).length - 1) ∧ ((enc n).length = 2 ∧ n / 64 ^ ((enc n).length - 1) < 32 ∨ (enc n).length = 3 ∧ n / 64 ^ ((enc n).length - 1) < 16 ∨ (enc n).length = 4 ∧ n / 64 ^ ((enc n).length - 1) < 8) := by
  by_cases q2 : n < 2048
  · have e := enc_two h1 q2
    have l : (enc n).length = 2 := by rw [e]; rfl
    rw [l]
    refine ⟨by omega, by omega, fun j a b => ?_, ?_, Or.inl ⟨rfl, ?_⟩⟩
    · have : j = 1 := by omega
      subst this
      unfold F; rw [e]; simp
    · unfold F; rw [e]; rfl
    · simp; omega
  · by_cases q3 : n < 65536
    · have e := enc_three h1 q2 q3
      have l : (enc n).length = 3 := by rw [e]; rfl
      rw [l]
      refine ⟨by omega, by omega, fun j a b => ?_, ?_, Or.inr (Or.inl ⟨rfl, ?_⟩)⟩
      · have : j = 1 ∨ j = 2 := by omega
        rcases this with rfl | rfl <;> (unfold F; rw [e]; simp)
      · unfold F; rw [e]; rfl
      · simp; omega
    · have e := enc_four h1 q2 q3
      have l : (enc n).length = 4 := by rw [e]; rfl
      rw [l]
      refine ⟨by omega, by omega, fun j a b => ?_, ?_, Or.inr (Or.inr ⟨rfl, ?_⟩)⟩
      · have : j = 1 ∨ j = 2 ∨ j = 3 := by omega
        rcases this with rfl | rfl | rfl <;> (unfold F; rw [e]; simp)
      · unfold F; rw [e]; rfl
      · simp; omega
theorem F_at {n j : Nat} (h : j < (enc n).length) : (enc n)[j] = F n j := by
  unfold F
  rw [List.getElem?_eq_getElem h]
  rfl
theorem F_lt {n j : Nat} (hs : isSc (n : Int)) (h : j < (enc n).length) : F n j < 256 := by
  rw [← F_at h]
  exact enc_bytes hs _ (List.getElem_mem h)
end Ut
namespace Go.Proofs.YthepfbkbfkhcaaaGreat
open Go.RowKit
open Go
set_option linter.unusedVariables false
set_option maxRecDepth 100000
def putV (r : Int) : Value := if Ut.isSc r then .tuple #[.string (Ut.mk (Ut.encI r)), .bool true] else .tuple #[.string ⟨#[]⟩, .bool false]
def UPutPost (r : Int) (w : World) (e : Ending) (w' : World) : Prop := e = .returned (putV r) ∧ Below w.heap.size w w'
theorem one_cell (w : World) (n : Nat) (h : n < 256) : (convert 29 9 (.slice (some ⟨w.heap.size, 0, none⟩) 1 1)).run Tryz.prog (w.alloc (.cells #[.int .u8 (n : Int)] 5)) = .ok (.string (Ut.mk [n])) (w.alloc (.cells #[.int .u8 (n : Int)] 5)) :=
  run_convert_bytes_back (P := Tryz.prog) (w.alloc (.cells #[.int .u8 (n : Int)] 5)) 29 9 5 ⟨w.heap.size, 0, none⟩ 1 [UInt8.ofNat n] Tryz.underlying29 Tryz.underlying5 Tryz.underlying9 (fun j hj => by
    have : j = 0 := by simpa using hj
    subst this
    rw [Go.WideShapes.add_plain, World.cell?_alloc_mark]
    show some (Value.int .u8 (n : Int)) = some (Value.int .u8 (((UInt8.ofNat n).toNat : Nat) : Int))
    rw [UInt8.toNat_ofNat', Nat.mod_eq_of_lt h])
/-- The bytes behind place t are written. -/
def URow (g k : Nat) (W : World) (n t : Nat) : Prop := g < W.heap.size ∧ ∀ j, j < k → W.frozen? ⟨g, j, none⟩ = false ∧ (∃ v, W.cell? ⟨g, j, none⟩ = some v) ∧ (t < j → W.cell? ⟨g, j, none⟩ = some (.int .u8 (Ut.F n j : Int)))
theorem URow.put {g k n t : Nat} {W : World} (h : URow g k W n t) (ht : t < k) (ht1 : 1 ≤ t) : URow g k (W.setCell ⟨g, t, none⟩ (.int .u8 (Ut.F n t : Int))) n (t - 1) := by
  obtain ⟨h1, h2⟩ := h
  refine ⟨by simpa using h1, fun j hj => ?_⟩
  obtain ⟨a, ⟨v, b⟩, c⟩ := h2 j hj
  refine ⟨by rw [World.frozen?_setCell]; exact a, ?_, fun hl => ?_⟩
  · by_cases e : j = t
    · subst e
      exact ⟨_, World.cell?_setCell_same _ _ _ b⟩
    · exact ⟨v, by rw [World.cell?_setCell_other _ _ _ _ (by intro k; injection k with _ k _; exact e k.symm)]; exact b⟩
  · by_cases e : j = t
    · subst e
      exact World.cell?_setCell_same _ _ _ b
    · rw [World.cell?_setCell_other _ _ _ _ (by intro k; injection k with _ k _; exact e k.symm)]
      exact c (by omega)
theorem back_row {g k n : Nat} {W : World} {cap : Nat} (hk : (Ut.enc n).length = k) (hs : Ut.isSc (n : Int)) (h : ∀ j, j < k → W.cell? ⟨g, j, none⟩ = some (.int .u8 (Ut.F n j : Int))) : (convert 29 9 (.slice (some ⟨g, 0, none⟩) k cap)).run Tryz.prog W = .ok (.string (Ut.mk (Ut.enc n))) W := by
  have hl : ((Ut.enc n).map UInt8.ofNat).length = k := by rw [List.length_map, hk]
  have := run_convert_bytes_back (P := Tryz.prog) W 29 9 5 ⟨g, 0, none⟩ cap ((Ut.enc n).map UInt8.ofNat) Tryz.underlying29 Tryz.underlying5 Tryz.underlying9 (fun j hj => by
    have hj2 : j < (Ut.enc n).length := by simpa using hj
    rw [Go.WideShapes.add_plain, Nat.zero_add, h j (by omega), List.getElem_map, Ut.F_at hj2, UInt8.toNat_ofNat', Nat.mod_eq_of_lt (Ut.F_lt hs hj2)])
  rw [hl] at this
  exact this
def zs (k : Nat) : Array Value := Array.replicate k (.int .u8 0)
theorem mk_2 (W : World) : (Instr.makeSlice 29 (.int .i64 2) (.int .i64 2)).run Tryz.prog W = .ok (.slice (some ⟨W.heap.size, 0, none⟩) 2 2) (W.alloc (.cells (zs 2) 5)) := by kernel_rfl
theorem mk_3 (W : World) : (Instr.makeSlice 29 (.int .i64 3) (.int .i64 3)).run Tryz.prog W = .ok (.slice (some ⟨W.heap.size, 0, none⟩) 3 3) (W.alloc (.cells (zs 3) 5)) := by kernel_rfl
theorem mk_4 (W : World) : (Instr.makeSlice 29 (.int .i64 4) (.int .i64 4)).run Tryz.prog W = .ok (.slice (some ⟨W.heap.size, 0, none⟩) 4 4) (W.alloc (.cells (zs 4) 5)) := by kernel_rfl
theorem mk_slice (k : Nat) (h1 : 2 ≤ k) (h2 : k ≤ 4) (W : World) : (Instr.makeSlice 29 (.int .i64 (k : Int)) (.int .i64 (k : Int))).run Tryz.prog W = .ok (.slice (some ⟨W.heap.size, 0, none⟩) k k) (W.alloc (.cells (zs k) 5)) := by
  have : k = 2 ∨ k = 3 ∨ k = 4 := by omega
  rcases this with rfl | rfl | rfl
  · exact mk_2 W
  · exact mk_3 W
  · exact mk_4 W
theorem urow_made {W : World} {cs : Array Value} {k n : Nat} (h : cs.size = k) : URow W.heap.size k (W.alloc (.cells cs 5)) n (k - 1) := by
  refine ⟨by simp, fun j hj => ⟨?_, ?_, fun h => by omega⟩⟩
  · simp [go_sem]
  · rw [World.cell?_alloc_mark]
    exact ⟨cs[j]'(by omega), Array.getElem?_eq_getElem (by omega)⟩
theorem pow_step (n e : Nat) : n / 64 ^ (e + 1) = n / 64 ^ e / 64 := by rw [Nat.pow_succ, Nat.div_div_eq_div_mul]
set_option maxHeartbeats 8000000 in
theorem put_any (r : Int) (w : World) : Calls Tryz.prog 60 #[.int .i64 r] w (UPutPost r w) := by
  have C := ulen_any r
  by_cases hs : Ut.isSc r
  · obtain ⟨n, rfl⟩ : ∃ n : Nat, r = (n : Int) := Ut.sc_nat hs
    have e : Ut.lenI (n : Int) = ((Ut.enc n).length : Int) := by unfold Ut.lenI; rw [if_pos hs]; rfl
    have ev : putV (n : Int) = .tuple #[.string (Ut.mk (Ut.enc n)), .bool true] := by unfold putV; rw [if_pos hs]; rfl
    rw [e] at C
    unfold UPutPost
    rw [ev]
    have HS := Lib.hid hs
    have hr := hs.2.1
    clear e ev hs
    by_cases q : n < 128
    · have e1 : Ut.enc n = [n] := by unfold Ut.enc; rw [if_pos q]
      rw [e1] at C ⊢
      have C1 : ∀ w : World, Calls Tryz.prog 82 #[.int .i64 (n : Int)] w (LenPost 1 w) := C
      have hw1 : IntKind.u8.wrap (n : Int) = (n : Int) := by rw [IntKind.wrap_u8]; omega
      have hone := fun w => one_cell w n (by omega)
      clear C e1
      go_enter Tryz.func60, Tryz.ntmps60
      go_wp2_with (go_at_call 82; refine (C1 _).mono ?_; rintro e w1 ⟨rfl, hb⟩)
      go_ret2
      exact ⟨rfl, bbox hb _⟩
    · obtain ⟨b1, b2, b3, b4, b5⟩ := Ut.big_bytes (n := n) q (by omega)
      have HB0 := Lib.hid b4
      obtain ⟨k, hk⟩ : ∃ k, (Ut.enc n).length = k := ⟨_, rfl⟩
      rw [hk] at b1 b2 b5 C
      have HK := Lib.hid hk
      have HF : Hid (∀ j, 1 ≤ j → j < k → Ut.F n j = 128 + n / 64 ^ (k - 1 - j) % 64) := Lib.hid (by rw [← hk]; exact b3)
      have HB : Hid (Ut.F n 0 = Ut.hdN k + n / 64 ^ (k - 1)) := Lib.hid (by rw [← hk]; exact b4)
      have HX := Lib.hid b5
      have k0 : ¬ (k : Int) = 0 := by omega
      have k1 : ¬ (k : Int) = 1 := by omega
      have k2 : (0 : Int) ≤ (k : Int) := by omega
      have k3 : (k : Int) ≤ maxLen := by unfold maxLen; omega
      have k4 : k ≤ maxLen := by unfold maxLen; omega
      clear b3 b4 b5 hk HB0
      have hmk := mk_slice k b1 b2
      have hcs : (zs k).size = k := by unfold zs; simp
      generalize zs k = cs at *
      go_enter Tryz.func60, Tryz.ntmps60
      go_wp2_with (go_at_call 82; refine (C _).mono ?_; rintro e w1 ⟨rfl, hb⟩)
      have hhd : (w1.alloc (.cells #[.int .u8 0, .int .u8 0, .int .u8 192, .int .u8 224, .int .u8 240] 85)).cell? ⟨w1.heap.size, k, none⟩ = some (.int .u8 (Ut.hdN k : Int)) := by
        rw [World.cell?_alloc_mark]
        have : k = 2 ∨ k = 3 ∨ k = 4 := by omega
        rcases this with rfl | rfl | rfl <;> rfl
      have hB1 : Below w.heap.size w (w1.alloc (.cells #[.int .u8 0, .int .u8 0, .int .u8 192, .int .u8 224, .int .u8 240] 85)) := bbox hb _
      have hz1 : (w1.alloc (.cells #[.int .u8 0, .int .u8 0, .int .u8 192, .int .u8 224, .int .u8 240] 85)).heap.size = w1.heap.size + 1 := by simp
      generalize w1.alloc (.cells #[.int .u8 0, .int .u8 0, .int .u8 192, .int .u8 224, .int .u8 240] 85) = W1 at *
      have hrow := urow_made (W := W1) (n := n) hcs
      have hhd2 : (W1.alloc (.cells cs 5)).cell? ⟨w1.heap.size, k, none⟩ = some (.int .u8 (Ut.hdN k : Int)) := by
        rw [World.cell?_alloc_lt _ _ _ (by simp; omega)]
        exact hhd
      have hB2 : Below w.heap.size w (W1.alloc (.cells cs 5)) := bbox hB1 _
      have hsz := hb.size
      generalize W1.alloc (.cells cs 5) = W2 at *
      rw [hz1] at hrow
      have HR := Lib.hid hrow
      clear hmk hrow hB1 hhd hcs
      go_loopw [0, 7] (fun rv iv wr => ∃ t : Nat, t < k ∧ rv = .int .i64 ((n / 64 ^ (k - 1 - t) : Nat) : Int) ∧ iv = .int .i64 (t : Int) ∧ Hid (URow (w1.heap.size + 1) k wr n t) ∧ wr.cell? ⟨w1.heap.size, k, none⟩ = some (.int .u8 (Ut.hdN k : Int)) ∧ Below w.heap.size w wr) (fun _ iv _ => (intOf iv).toNat)
      case atStart => exact ⟨k - 1, by omega, by simp, by go_num, HR, hhd2, hB2⟩
      case round =>
        obtain ⟨t, ht, rfl, rfl, HR2, hh, hB3⟩ := hrel
        clear hhd2 hB2 HR
        have hgW : w1.heap.size < W1.heap.size := by omega
        by_cases h0 : 0 < t
        · have hst := (HR2.out).2 t ht
          obtain ⟨f0, ⟨v0, c0⟩, -⟩ := hst
          have hv := HF.out t (by omega) ht
          have key : n / 64 ^ (k - 1 - (t - 1)) = n / 64 ^ (k - 1 - t) / 64 := by
            rw [show k - 1 - (t - 1) = k - 1 - t + 1 by omega, pow_step]
          have hput := HR2.out.put ht (by omega)
          rw [hv] at hput
          have hm : n / 64 ^ (k - 1 - t) ≤ 1114111 := Nat.le_trans (Nat.div_le_self _ _) (by omega)
          have KEY := Lib.hid key
          have HP := Lib.hid hput
          clear key hput hv HF HB HX
          generalize n / 64 ^ (k - 1 - t) = m at *
          have t1 : IntKind.u8.wrap (m : Int) = (m : Int) % 256 := IntKind.wrap_u8 _
          have t2 : bits .and .u8 ((m : Int) % 256) 63 = (m : Int) % 64 := by have := u8_and63 (x := (m : Int) % 256) (by omega) (by omega); rw [this]; omega
          have t3 : bits .or .u8 128 ((m : Int) % 64) = ((128 + m % 64 : Nat) : Int) := by have := u8_or128 (y := (m : Int) % 64) (by omega) (by omega); rw [this]; omega
          have t4 : (t : Int) < (k : Int) := by omega
          have t5 : (0 : Int) < (t : Int) := by omega
          go_wp2
          go_roundw
          case rel => exact ⟨t - 1, by omega, by rw [KEY.out]; go_num, by go_num, (show Hid (URow (w1.heap.size + 1) k (wr.setCell ⟨w1.heap.size + 1, t, none⟩ (.int .u8 (128 + (m : Int) % 64))) n (t - 1)) from HP), by rw [World.cell?_setCell_other _ _ _ _ (by intro e; injection e with e _ _; omega)]; exact hh, hB3.setCell (by simp only; omega) _⟩
          case measure => simp [intOf] <;> omega
        · obtain rfl : t = 0 := by omega
          have hhd0 := HB.out
          have hx := HX.out
          have hrw := HR2.out
          have ht2 : (0 : Int) < (k : Int) := by omega
          have ek : k - 1 - 0 = k - 1 := rfl
          rw [ek]
          obtain ⟨f0, ⟨v0, c0⟩, -⟩ := hrw.2 0 (by omega)
          have hfin : ∀ j, j < k → (wr.setCell ⟨w1.heap.size + 1, 0, none⟩ (.int .u8 (Ut.F n 0 : Int))).cell? ⟨w1.heap.size + 1, j, none⟩ = some (.int .u8 (Ut.F n j : Int)) := fun j hj => by
            by_cases e : j = 0
            · subst e
              exact World.cell?_setCell_same _ _ _ c0
            · rw [World.cell?_setCell_other _ _ _ _ (by intro e2; injection e2 with _ e2 _; omega)]
              exact (hrw.2 j hj).2.2 (by omega)
          have hback := back_row (cap := k) HK.out HS.out hfin
          rw [hhd0] at hback
          have HBS : Below w.heap.size w (wr.setCell ⟨w1.heap.size + 1, 0, none⟩ (.int .u8 ((Ut.hdN k + n / 64 ^ (k - 1) : Nat) : Int))) := hB3.setCell (by simp only; omega) _
          have k5 : (k : Int) < 5 := by omega
          have hm : n / 64 ^ (k - 1) < 256 := by omega
          have t3 : bits .or .u8 (Ut.hdN k : Int) ((n / 64 ^ (k - 1) : Nat) : Int) = ((Ut.hdN k + n / 64 ^ (k - 1) : Nat) : Int) := by
            rcases hx with ⟨rfl, hx⟩ | ⟨rfl, hx⟩ | ⟨rfl, hx⟩
            · have := u8_or192 (y := ((n / 64 ^ (2 - 1) : Nat) : Int)) (by omega) (by omega)
              exact this
            · have := u8_or224 (y := ((n / 64 ^ (3 - 1) : Nat) : Int)) (by omega) (by omega)
              exact this
            · have := u8_or240 (y := ((n / 64 ^ (4 - 1) : Nat) : Int)) (by omega) (by omega)
              exact this
          have t4 : ((Ut.hdN k + n / 64 ^ (k - 1) : Nat) : Int) = (Ut.hdN k : Int) + ((n / 64 ^ (k - 1) : Nat) : Int) := by push_cast; rfl
          clear hhd0 hx hrw HF HB HX HR2 hB3 hfin
          generalize n / 64 ^ (k - 1) = m at *
          generalize Ut.hdN k = hdk at *
          have t1 : IntKind.u8.wrap (m : Int) = (m : Int) := by rw [IntKind.wrap_u8]; omega
          generalize hs2 : hdk + m = sm at *
          clear t4
          go_wp2
          go_ret2
          exact ⟨rfl, HBS⟩
  · have e : Ut.lenI r = 0 := by unfold Ut.lenI; rw [if_neg hs]
    have ev : putV r = .tuple #[.string ⟨#[]⟩, .bool false] := by unfold putV; rw [if_neg hs]
    rw [e] at C
    unfold UPutPost
    rw [ev]
    clear e ev hs
    go_enter Tryz.func60, Tryz.ntmps60
    go_wp2_with (go_at_call 82; refine (C _).mono ?_; rintro e w1 ⟨rfl, hb⟩)
    go_ret2
    exact ⟨rfl, hb⟩
end Go.Proofs.YthepfbkbfkhcaaaGreat
