/- The walks of cardingref02: Is, Len, Put, Text. -/
import Derived.Test.YtmpoeeioeimmfaaR2B
namespace Go.Proofs.Ytmpoeeioeimmfaa
open Go.RowKit Go.Shelf
open Go
set_option linter.unusedVariables false
set_option maxRecDepth 100000
theorem ruis_any (r : Int) (w : World) : Calls Try.prog 68 #[.int .i64 r] w fun e w' => e = .returned (.bool (decide (Ut.isSc r))) ∧ w = w' := by
  by_cases h1 : 0 ≤ r
  · by_cases h2 : r ≤ 1114111
    · by_cases h3 : r < 55296
      · have e : decide (Ut.isSc r) = true := decide_eq_true ⟨h1, h2, Or.inl h3⟩
        rw [e]
        clear e
        go_enter Try.func68, Try.ntmps68
        go_wp2
        go_ret
        exact ⟨rfl, rfl⟩
      · by_cases h4 : 57343 < r
        · have e : decide (Ut.isSc r) = true := decide_eq_true ⟨h1, h2, Or.inr h4⟩
          rw [e]
          clear e
          go_enter Try.func68, Try.ntmps68
          go_wp2
          go_ret
          exact ⟨rfl, rfl⟩
        · have e : decide (Ut.isSc r) = false := decide_eq_false (fun k => by obtain ⟨_, _, k⟩ := k; omega)
          rw [e]
          clear e
          go_enter Try.func68, Try.ntmps68
          go_wp2
          go_ret
          exact ⟨rfl, rfl⟩
    · have e : decide (Ut.isSc r) = false := decide_eq_false (fun k => by obtain ⟨_, _, k⟩ := k; omega)
      rw [e]
      have h2' : decide (r ≤ 1114111) = false := decide_eq_false h2
      clear e
      go_enter Try.func68, Try.ntmps68
      go_wp2
      go_ret
      exact ⟨rfl, rfl⟩
  · have e : decide (Ut.isSc r) = false := decide_eq_false (fun k => by obtain ⟨_, _, k⟩ := k; omega)
    rw [e]
    have h1' : decide (0 ≤ r) = false := decide_eq_false h1
    clear e
    go_enter Try.func68, Try.ntmps68
    go_wp2
    go_ret
    exact ⟨rfl, rfl⟩
theorem rulen_any (r : Int) (w : World) : Calls Try.prog 51 #[.int .i64 r] w fun e w' => e = .returned (.int .i64 (Ut.lenI r)) ∧ w = w' := by
  have C := ruis_any r
  by_cases hs : Ut.isSc r
  · rw [decide_eq_true hs] at C
    obtain ⟨n, hn⟩ : ∃ n : Nat, r = (n : Int) := Ut.sc_nat hs
    have e : Ut.lenI r = ((Ut.enc n).length : Int) := by unfold Ut.lenI; rw [if_pos hs, hn]; rfl
    rw [e]
    clear e hs
    by_cases q1 : n < 128
    · have e : ((Ut.enc n).length : Int) = 1 := by unfold Ut.enc; rw [if_pos q1]; rfl
      rw [e]
      have i1 : r < 128 := by omega
      clear e q1 hn
      go_enter Try.func51, Try.ntmps51
      go_wp2_with (go_at_call 68; refine (C _).mono ?_; rintro e w' ⟨rfl, rfl⟩)
      go_ret
      exact ⟨rfl, rfl⟩
    · have i1 : ¬ r < 128 := by omega
      by_cases q2 : n < 2048
      · have e : ((Ut.enc n).length : Int) = 2 := by rw [Ut.enc_two q1 q2]; rfl
        rw [e]
        have i2 : r < 2048 := by omega
        clear e q1 q2 hn
        go_enter Try.func51, Try.ntmps51
        go_wp2_with (go_at_call 68; refine (C _).mono ?_; rintro e w' ⟨rfl, rfl⟩)
        go_ret
        exact ⟨rfl, rfl⟩
      · have i2 : ¬ r < 2048 := by omega
        by_cases q3 : n < 65536
        · have e : ((Ut.enc n).length : Int) = 3 := by rw [Ut.enc_three q1 q2 q3]; rfl
          rw [e]
          have i3 : r < 65536 := by omega
          clear e q3 q2 q1 hn
          go_enter Try.func51, Try.ntmps51
          go_wp2_with (go_at_call 68; refine (C _).mono ?_; rintro e w' ⟨rfl, rfl⟩)
          go_ret
          exact ⟨rfl, rfl⟩
        · have e : ((Ut.enc n).length : Int) = 4 := by rw [Ut.enc_four q1 q2 q3]; rfl
          rw [e]
          have i3 : ¬ r < 65536 := by omega
          clear e q3 q2 q1 hn
          go_enter Try.func51, Try.ntmps51
          go_wp2_with (go_at_call 68; refine (C _).mono ?_; rintro e w' ⟨rfl, rfl⟩)
          go_ret
          exact ⟨rfl, rfl⟩
  · rw [decide_eq_false hs] at C
    have e : Ut.lenI r = 0 := by unfold Ut.lenI; rw [if_neg hs]
    rw [e]
    clear e hs
    go_enter Try.func51, Try.ntmps51
    go_wp2_with (go_at_call 68; refine (C _).mono ?_; rintro e w' ⟨rfl, rfl⟩)
    go_ret
    exact ⟨rfl, rfl⟩
theorem cells_conv (w : World) (l : List Nat) (h : ∀ b ∈ l, b < 256) : (convert 47 9 (.slice (some ⟨w.heap.size, 0, none⟩) l.length l.length)).run Try.prog (w.alloc (.cells (l.map fun b : Nat => Value.int .u8 (b : Int)).toArray 5)) = .ok (.string (Ut.mk l)) (w.alloc (.cells (l.map fun b : Nat => Value.int .u8 (b : Int)).toArray 5)) := by
  have := run_convert_bytes_back (P := Try.prog) (w.alloc (.cells (l.map fun b : Nat => Value.int .u8 (b : Int)).toArray 5)) 47 9 5 ⟨w.heap.size, 0, none⟩ l.length (l.map UInt8.ofNat) Try.underlying47 Try.underlying5 Try.underlying9 (fun j hj => by
    have hj2 : j < l.length := by simpa using hj
    rw [Go.WideShapes.add_plain, Nat.zero_add, World.cell?_alloc_mark]
    have hb := h _ (List.getElem_mem hj2)
    simp only [List.getElem_map]
    rw [List.getElem?_toArray, List.getElem?_map, List.getElem?_eq_getElem hj2, UInt8.toNat_ofNat', Nat.mod_eq_of_lt hb]
    rfl)
  rw [List.length_map] at this
  exact this
theorem r_or192 (y : Int) (h0 : 0 ≤ y) (h1 : y < 32) : bits .or .i64 192 y = 192 + y := bits_join .i64 63 (by decide) wraps_i64 5 192 y (by omega) (by omega) (by omega) h0 (by omega) (by omega)
theorem r_or224 (y : Int) (h0 : 0 ≤ y) (h1 : y < 16) : bits .or .i64 224 y = 224 + y := bits_join .i64 63 (by decide) wraps_i64 4 224 y (by omega) (by omega) (by omega) h0 (by omega) (by omega)
theorem r_or240 (y : Int) (h0 : 0 ≤ y) (h1 : y < 8) : bits .or .i64 240 y = 240 + y := bits_join .i64 63 (by decide) wraps_i64 3 240 y (by omega) (by omega) (by omega) h0 (by omega) (by omega)
theorem r_or128 (y : Int) (h0 : 0 ≤ y) (h1 : y < 64) : bits .or .i64 128 y = 128 + y := bits_join .i64 63 (by decide) wraps_i64 6 128 y (by omega) (by omega) (by omega) h0 (by omega) (by omega)
theorem r_and63 (x : Int) (h0 : 0 ≤ x) (h1 : x < 2 ^ 63) : bits .and .i64 x 63 = x % 64 := bits_mask .i64 63 (by decide) wraps_i64 6 (by decide) x h0 h1
theorem r_tail (x : Nat) (hx : x < 2 ^ 40) : bits .or .i64 128 (bits .and .i64 (x : Int) 63) = ((128 + x % 64 : Nat) : Int) := by
  rw [r_and63 _ (by omega) (by omega), r_or128 _ (by omega) (by omega)]
  omega
set_option maxHeartbeats 4000000 in
theorem rput_any (r : Int) (w : World) : Calls Try.prog 32 #[.int .i64 r] w (UPutPost r w) := by
  have C := rulen_any r
  by_cases hs : Ut.isSc r
  · obtain ⟨n, rfl⟩ : ∃ n : Nat, r = (n : Int) := Ut.sc_nat hs
    have e : Ut.lenI (n : Int) = ((Ut.enc n).length : Int) := by unfold Ut.lenI; rw [if_pos hs]; rfl
    have ev : putV (n : Int) = .tuple #[.string (Ut.mk (Ut.enc n)), .bool true] := by unfold putV; rw [if_pos hs]; rfl
    have hby := Ut.enc_bytes hs
    rw [e] at C
    unfold UPutPost
    rw [ev]
    have hr := hs.2.1
    clear e ev hs
    by_cases q1 : n < 128
    · have e1 : Ut.enc n = [n] := by unfold Ut.enc; rw [if_pos q1]
      rw [e1] at C ⊢
      have C1 : ∀ w : World, Calls Try.prog 51 #[.int .i64 (n : Int)] w (fun e w' => e = .returned (.int .i64 1) ∧ w = w') := C
      have hw1 : IntKind.u8.wrap (n : Int) = (n : Int) := by rw [IntKind.wrap_u8]; omega
      have hone := fun w => one_cell w n (by omega)
      clear C e1 hby
      go_enter Try.func32, Try.ntmps32
      go_wp2_with (go_at_call 51; refine (C1 _).mono ?_; rintro e w1 ⟨rfl, rfl⟩)
      go_ret2
      exact ⟨rfl, bbox (Below.refl _ _) _⟩
    · by_cases q2 : n < 2048
      · have e1 := Ut.enc_two q1 q2
        rw [e1] at C hby ⊢
        have C1 : ∀ w : World, Calls Try.prog 51 #[.int .i64 (n : Int)] w (fun e w' => e = .returned (.int .i64 2) ∧ w = w') := C
        have hcv := fun w => cells_conv w _ hby
        have t1 : bits .or .i64 192 ((n : Int) / 64) = ((192 + n / 64 : Nat) : Int) := by rw [r_or192 _ (by omega) (by omega)]; omega
        have t2 := r_tail n (by omega)
        have b1 : 192 + n / 64 < 256 := by omega
        have b2 : 128 + n % 64 < 256 := by omega
        clear C e1 hby
        generalize 192 + n / 64 = x1 at *
        generalize 128 + n % 64 = x2 at *
        have u1 : IntKind.u8.wrap (x1 : Int) = (x1 : Int) := by rw [IntKind.wrap_u8]; omega
        have u2 : IntKind.u8.wrap (x2 : Int) = (x2 : Int) := by rw [IntKind.wrap_u8]; omega
        have hcv2 : ∀ w : World, (convert 47 9 (.slice (some ⟨w.heap.size, 0, none⟩) 2 2)).run Try.prog (w.alloc (.cells #[.int .u8 (x1 : Int), .int .u8 (x2 : Int)] 5)) = .ok (.string (Ut.mk [x1, x2])) (w.alloc (.cells #[.int .u8 (x1 : Int), .int .u8 (x2 : Int)] 5)) := hcv
        clear hcv
        go_enter Try.func32, Try.ntmps32
        go_wp2_with (go_at_call 51; refine (C1 _).mono ?_; rintro e w1 ⟨rfl, rfl⟩)
        go_ret2
        exact ⟨rfl, bbox (Below.refl _ _) _⟩
      · by_cases q3 : n < 65536
        · have e1 := Ut.enc_three q1 q2 q3
          rw [e1] at C hby ⊢
          have C1 : ∀ w : World, Calls Try.prog 51 #[.int .i64 (n : Int)] w (fun e w' => e = .returned (.int .i64 3) ∧ w = w') := C
          have hcv := fun w => cells_conv w _ hby
          have t1 : bits .or .i64 224 ((n : Int) / 4096) = ((224 + n / 4096 : Nat) : Int) := by rw [r_or224 _ (by omega) (by omega)]; omega
          have t2 : bits .or .i64 128 (bits .and .i64 ((n : Int) / 64) 63) = ((128 + n / 64 % 64 : Nat) : Int) := r_tail (n / 64) (by omega)
          have t3 := r_tail n (by omega)
          have b1 : 224 + n / 4096 < 256 := by omega
          have b2 : 128 + n / 64 % 64 < 256 := by omega
          have b3 : 128 + n % 64 < 256 := by omega
          clear C e1 hby
          generalize 224 + n / 4096 = x1 at *
          generalize 128 + n / 64 % 64 = x2 at *
          generalize 128 + n % 64 = x3 at *
          have u1 : IntKind.u8.wrap (x1 : Int) = (x1 : Int) := by rw [IntKind.wrap_u8]; omega
          have u2 : IntKind.u8.wrap (x2 : Int) = (x2 : Int) := by rw [IntKind.wrap_u8]; omega
          have u3 : IntKind.u8.wrap (x3 : Int) = (x3 : Int) := by rw [IntKind.wrap_u8]; omega
          have hcv2 : ∀ w : World, (convert 47 9 (.slice (some ⟨w.heap.size, 0, none⟩) 3 3)).run Try.prog (w.alloc (.cells #[.int .u8 (x1 : Int), .int .u8 (x2 : Int), .int .u8 (x3 : Int)] 5)) = .ok (.string (Ut.mk [x1, x2, x3])) (w.alloc (.cells #[.int .u8 (x1 : Int), .int .u8 (x2 : Int), .int .u8 (x3 : Int)] 5)) := hcv
          clear hcv
          go_enter Try.func32, Try.ntmps32
          go_wp2_with (go_at_call 51; refine (C1 _).mono ?_; rintro e w1 ⟨rfl, rfl⟩)
          go_ret2
          exact ⟨rfl, bbox (Below.refl _ _) _⟩
        · have e1 := Ut.enc_four q1 q2 q3
          rw [e1] at C hby ⊢
          have C1 : ∀ w : World, Calls Try.prog 51 #[.int .i64 (n : Int)] w (fun e w' => e = .returned (.int .i64 4) ∧ w = w') := C
          have hcv := fun w => cells_conv w _ hby
          have t1 : bits .or .i64 240 ((n : Int) / 262144) = ((240 + n / 262144 : Nat) : Int) := by rw [r_or240 _ (by omega) (by omega)]; omega
          have t2 : bits .or .i64 128 (bits .and .i64 ((n : Int) / 4096) 63) = ((128 + n / 4096 % 64 : Nat) : Int) := r_tail (n / 4096) (by omega)
          have t3 : bits .or .i64 128 (bits .and .i64 ((n : Int) / 64) 63) = ((128 + n / 64 % 64 : Nat) : Int) := r_tail (n / 64) (by omega)
          have t4 := r_tail n (by omega)
          have b1 : 240 + n / 262144 < 256 := by omega
          have b2 : 128 + n / 4096 % 64 < 256 := by omega
          have b3 : 128 + n / 64 % 64 < 256 := by omega
          have b4 : 128 + n % 64 < 256 := by omega
          clear C e1 hby
          generalize 240 + n / 262144 = x1 at *
          generalize 128 + n / 4096 % 64 = x2 at *
          generalize 128 + n / 64 % 64 = x3 at *
          generalize 128 + n % 64 = x4 at *
          have u1 : IntKind.u8.wrap (x1 : Int) = (x1 : Int) := by rw [IntKind.wrap_u8]; omega
          have u2 : IntKind.u8.wrap (x2 : Int) = (x2 : Int) := by rw [IntKind.wrap_u8]; omega
          have u3 : IntKind.u8.wrap (x3 : Int) = (x3 : Int) := by rw [IntKind.wrap_u8]; omega
          have u4 : IntKind.u8.wrap (x4 : Int) = (x4 : Int) := by rw [IntKind.wrap_u8]; omega
          have hcv2 : ∀ w : World, (convert 47 9 (.slice (some ⟨w.heap.size, 0, none⟩) 4 4)).run Try.prog (w.alloc (.cells #[.int .u8 (x1 : Int), .int .u8 (x2 : Int), .int .u8 (x3 : Int), .int .u8 (x4 : Int)] 5)) = .ok (.string (Ut.mk [x1, x2, x3, x4])) (w.alloc (.cells #[.int .u8 (x1 : Int), .int .u8 (x2 : Int), .int .u8 (x3 : Int), .int .u8 (x4 : Int)] 5)) := hcv
          clear hcv
          go_enter Try.func32, Try.ntmps32
          go_wp2_with (go_at_call 51; refine (C1 _).mono ?_; rintro e w1 ⟨rfl, rfl⟩)
          go_ret2
          exact ⟨rfl, bbox (Below.refl _ _) _⟩
  · have e : Ut.lenI r = 0 := by unfold Ut.lenI; rw [if_neg hs]
    have ev : putV r = .tuple #[.string ⟨#[]⟩, .bool false] := by unfold putV; rw [if_neg hs]
    rw [e] at C
    unfold UPutPost
    rw [ev]
    clear e ev hs
    go_enter Try.func32, Try.ntmps32
    go_wp2_with (go_at_call 51; refine (C _).mono ?_; rintro e w1 ⟨rfl, rfl⟩)
    go_ret2
    exact ⟨rfl, Below.refl _ _⟩
set_option maxHeartbeats 4000000 in
theorem rtext_any (p : Option Addr) (c : Nat) (L : List Int) (w : World) (hrp : RowP w p c L) (hL : L.length ≤ 100000) (hA : Ut.AllSc L) :
    Calls Try.prog 19 #[.slice p L.length c] w fun e w' => e = .returned (.tuple #[.string (Ut.mk (Ut.text L)), .bool true]) ∧ Below w.heap.size w w' := by
  have C := rput_any
  obtain ⟨g, o, hgo⟩ := rowP_at hrp 0
  have hcell : ∀ j (h : j < L.length), p = some ⟨g, o, none⟩ ∧ w.cell? ⟨g, o + j, none⟩ = some (.int .i64 L[j]) ∧ g < w.heap.size := fun j h => by
    rcases hgo with ⟨e, _⟩ | ⟨e, hI, hl⟩
    · subst e; exact absurd h (Nat.not_lt_zero _)
    · exact ⟨e, hI.2 j _ (List.getElem?_eq_getElem h), hl⟩
  have hlc := hrp.1
  have HC := Lib.hid hcell
  have HA := Lib.hid hA
  obtain ⟨n, hn⟩ : ∃ n, L.length = n := ⟨_, rfl⟩
  rw [hn] at hlc hL ⊢
  have HN := Lib.hid hn
  obtain ⟨i0, hi, hz0, hz1, hz2⟩ := info_parts infoU
  clear hcell hgo hrp hA hn
  go_enter Try.func19, Try.ntmps19
  go_wp2_with fail
  go_loopw [4, 5] (fun v k wr => ∃ j : Nat, j ≤ n ∧ k = .int .i64 (j : Int) ∧ Hid (OB w.heap.size v (Ut.mk (Ut.text (L.take j))) w wr)) (fun _ k _ => n - (intOf k).toNat)
  case atStart => exact ⟨0, Nat.zero_le _, rfl, Lib.hid OB.nil⟩
  case round =>
    obtain ⟨j, hj, rfl, HO⟩ := hrel
    by_cases hlt : j < n
    · have hjl : j < L.length := by rw [HN.out]; exact hlt
      obtain ⟨hp, hc, hg⟩ := HC.out j hjl
      have hc2 := (HO.out.2.1.cell (p := ⟨g, o + j, none⟩) hg).trans hc
      have htk := text_take hjl
      have hsc := HA.out _ (List.getElem_mem hjl)
      have hlen := (Ut.text_len (L.take j)).2
      rw [List.length_take, HN.out] at hlen
      have hv : putV L[j] = .tuple #[.string (Ut.mk (Ut.encI L[j])), .bool true] := by unfold putV; rw [if_pos hsc]
      have c1 := C L[j] wr
      unfold UPutPost at c1
      rw [hv] at c1
      have hsz : (Ut.mk (Ut.encI L[j])).size ≤ 4 := by rw [Ut.mk_size]; exact (Ut.enc_len _).2
      have hsz2 : (Ut.mk (Ut.text (L.take j))).size ≤ 400000 := by rw [Ut.mk_size]; omega
      have HT := Lib.hid htk
      have ji : (j : Int) < (n : Int) := by omega
      have j0 : (0 : Int) ≤ (j : Int) := by omega
      clear hc hv htk hsc hlen C
      subst hp
      generalize L[j] = x at *
      generalize Ut.mk (Ut.encI x) = t at *
      generalize hs : Ut.mk (Ut.text (L.take j)) = s at *
      obtain ⟨pv, cv, rfl⟩ := HO.out.shape
      go_wp2_with (first | (go_at_call 32; refine c1.mono ?_; rintro e w1 ⟨rfl, hb1⟩; have hO1 := HO.out.below hb1; have HO1 := Lib.hid hO1; clear hO1 hb1 c1 hc2) | (at_builtin; refine Lib.wpList_append_text rfl _ _ 47 9 rfl w.heap.size 5 i0 Try.underlying47 Try.underlying9 hi hz0 hz1 hz2 (.slice pv s.size cv) s.size (Lib.strCells s) rfl w HO1.out t rfl (by omega) ?_; intro v' w2 hown; have HO2 := Lib.hid (OB.app hown); clear hown))
      go_roundw
      case rel => exact ⟨j + 1, by omega, by go_num, by rw [HT.out]; exact HO2⟩
      case measure => simp [intOf]; omega
    · obtain rfl : j = n := by omega
      have hv := HO.out.conv
      have hb := HO.out.2.1
      rw [← HN.out, List.take_length] at hv
      clear HO HC HA
      go_wp2_with fail
      go_ret2
      exact ⟨rfl, hb⟩
end Go.Proofs.Ytmpoeeioeimmfaa
