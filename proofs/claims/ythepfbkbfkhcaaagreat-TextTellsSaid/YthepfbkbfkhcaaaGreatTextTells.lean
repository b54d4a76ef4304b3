/- The statement TextTells of cardinglaw22: for every input the law returns true, and its arguments read afterwards as they did. Conditions: none beside the statement's own. The document's Cut; the walk of the statement TextTells. -/
import Derived.Test.YthepfbkbfkhcaaaGreatR22
namespace Go.Proofs.YthepfbkbfkhcaaaGreat
open Go.RowKit Go.Shelf
open Go
set_option linter.unusedVariables false
set_option maxRecDepth 100000
theorem pos_mono (u : List Nat) : ∀ k j, j ≤ k → k ≤ (Ut.pcs u).length → Ut.posP u j ≤ Ut.posP u k
  | 0, j, h, _ => by
    have e : j = 0 := by omega
    rw [e]
    exact Nat.le_refl _
  | k + 1, j, h, hk => by
    by_cases e : j = k + 1
    · rw [e]; exact Nat.le_refl _
    · have h1 := pos_mono u k j (by omega) (by omega)
      have h2 := (Ut.posP_at (u := u) (k := k) (by omega)).2.2
      omega
def cutA (s : ByteArray) (most : Int) : ByteArray :=
  if (decide (most < 0) || (Ut.scal (Ut.bsL s)).isNone) = true then ⟨#[]⟩ else if (s.size : Int) ≤ most then s else match (List.range (Ut.pcs (Ut.bsL s)).length).find? (fun j => decide (most < (Ut.posP (Ut.bsL s) (j + 1) : Int))) with | some j => s.extract 0 (Ut.posP (Ut.bsL s) j) | none => s
theorem cutA_none {s : ByteArray} {most : Int} (h : most < 0 ∨ Ut.scal (Ut.bsL s) = none) : cutA s most = ⟨#[]⟩ := by
  unfold cutA
  rw [if_pos]
  rcases h with h | h
  · simp [h]
  · rw [h]; simp
theorem cutA_if {s : ByteArray} {most : Int} {L : List Int} (h0 : ¬ most < 0) (hv : Ut.scal (Ut.bsL s) = some L) : ¬ (decide (most < 0) || (Ut.scal (Ut.bsL s)).isNone) = true := by
  rw [hv, decide_eq_false h0]
  simp
theorem cutA_all {s : ByteArray} {most : Int} {L : List Int} (h0 : ¬ most < 0) (hv : Ut.scal (Ut.bsL s) = some L) (h : (s.size : Int) ≤ most) : cutA s most = s := by
  unfold cutA
  rw [if_neg (cutA_if h0 hv), if_pos h]
theorem cutA_at {s : ByteArray} {most : Int} {L : List Int} (h0 : ¬ most < 0) (hv : Ut.scal (Ut.bsL s) = some L) (h : ¬ (s.size : Int) ≤ most) {j : Nat} (hj : CutAt s most j) : s.extract 0 (Ut.posP (Ut.bsL s) j) = cutA s most := by
  obtain ⟨a1, a2, a3⟩ := hj
  have hl : j < (List.range (Ut.pcs (Ut.bsL s)).length).length := by rw [List.length_range]; exact a1
  have hf : (List.range (Ut.pcs (Ut.bsL s)).length).find? (fun j => decide (most < (Ut.posP (Ut.bsL s) (j + 1) : Int))) = some j := by
    have := find_at (l := List.range (Ut.pcs (Ut.bsL s)).length) (p := fun j => decide (most < (Ut.posP (Ut.bsL s) (j + 1) : Int))) hl (by rw [List.getElem_range]; exact decide_eq_true a3) (fun i hi hij => by
      rw [List.getElem_range]
      have := pos_mono (Ut.bsL s) j (i + 1) (by omega) (by omega)
      exact decide_eq_false (by omega))
    rw [List.getElem_range] at this
    exact this
  unfold cutA
  rw [if_neg (cutA_if h0 hv), if_neg h, hf]
theorem tcutA_any (s : ByteArray) (hs : s.size ≤ 100000) (most : Int) (w : World) : Calls Tryz.prog 19 #[.string s, .int .i64 most] w (StrPost (cutA s most) w) := by
  by_cases h0 : most < 0
  · rw [cutA_none (Or.inl h0)]
    go_enter Tryz.func19, Tryz.ntmps19
    go_wp2
    go_ret
    exact ⟨rfl, Below.refl _ _⟩
  · cases hv : Ut.scal (Ut.bsL s) with
    | none =>
      rw [cutA_none (Or.inr hv)]
      have c1 := fun w => valid_any s hs w
      rw [hv] at c1
      have c1' : ∀ w : World, Calls Tryz.prog 32 #[.string s] w (fun e w' => e = .returned (.bool false) ∧ Below w.heap.size w w') := c1
      clear c1 hv
      go_enter Tryz.func19, Tryz.ntmps19
      go_wp2_with (go_at_call 32; refine (c1' _).mono ?_; rintro e w1 ⟨rfl, hb1⟩)
      go_ret
      exact ⟨rfl, hb1⟩
    | some L =>
      by_cases hm : (s.size : Int) ≤ most
      · rw [cutA_all h0 hv hm]
        exact tcut_all s hs L hv most hm w
      · refine (tcut_any s hs L hv most (by omega) (by omega) w).mono ?_
        rintro e w' ⟨⟨j, hj, rfl⟩, hb⟩
        exact ⟨by rw [cutA_at h0 hv hm hj], hb⟩
set_option maxHeartbeats 8000000 in
theorem r22cut_any (s : ByteArray) (hs : s.size ≤ 100000) (most : Int) (hmost : Is64 most) (w : World) : Calls Tryz.prog 20 #[.string s, .int .i64 most] w (StrPost (cutA s most) w) := by
  by_cases h0 : most < 0
  · rw [cutA_none (Or.inl h0)]
    go_enter Tryz.func20, Tryz.ntmps20
    go_wp2
    go_ret
    exact ⟨rfl, Below.refl _ _⟩
  · cases hv : Ut.scal (Ut.bsL s) with
    | none =>
      rw [cutA_none (Or.inr hv)]
      have c1 := fun w => rvalid_any s hs w
      rw [hv] at c1
      have c1' : ∀ w : World, Calls Tryz.prog 33 #[.string s] w (fun e w' => e = .returned (.bool false) ∧ Below w.heap.size w w') := c1
      clear c1 hv
      go_enter Tryz.func20, Tryz.ntmps20
      go_wp2_with (go_at_call 33; refine (c1' _).mono ?_; rintro e w1 ⟨rfl, hb1⟩)
      go_ret
      exact ⟨rfl, hb1⟩
    | some L =>
      have c1 := fun w => rvalid_any s hs w
      rw [hv] at c1
      have c1' : ∀ w : World, Calls Tryz.prog 33 #[.string s] w (fun e w' => e = .returned (.bool true) ∧ Below w.heap.size w w') := c1
      have C := rnext_any s (by omega)
      have HG := Lib.hid (val_good hv)
      have hpos := Ut.posP_zero (Ut.bsL s)
      have hend := Ut.posP_end (Ut.bsL s)
      rw [Ut.bsL_len] at hend
      have HE := Lib.hid hend
      have hcut : ∀ j, CutAt s most j → ¬ (s.size : Int) ≤ most → s.extract 0 (Ut.posP (Ut.bsL s) j) = cutA s most := fun j hj hm => cutA_at h0 hv hm hj
      have hall : (s.size : Int) ≤ most → s.extract 0 s.size = cutA s most := fun hm => by rw [cutA_all h0 hv hm]; exact ext_all s
      have HC := Lib.hid hcut
      have HA := Lib.hid hall
      obtain ⟨z, hz⟩ : ∃ z, cutA s most = z := ⟨_, rfl⟩
      have HZ := Lib.hid hz
      rw [hz]
      clear c1 hv hend hcut hall hz
      go_enter Tryz.func20, Tryz.ntmps20
      go_wp2_with (go_at_call 33; refine (c1' _).mono ?_; rintro e w1 ⟨rfl, hb1⟩)
      go_loop [5] (fun av => ∃ k : Nat, k ≤ (Ut.pcs (Ut.bsL s)).length ∧ av = .int .i64 (Ut.posP (Ut.bsL s) k : Int) ∧ Hid ((Ut.posP (Ut.bsL s) k : Int) ≤ most ∧ Ut.posP (Ut.bsL s) k ≤ s.size)) (fun av => s.size - (intOf av).toNat)
      case atStart => exact ⟨0, Nat.zero_le _, by rw [hpos]; rfl, Lib.hid (by rw [hpos]; omega)⟩
      case round =>
        obtain ⟨k, hk, rfl, HK⟩ := hrel
        by_cases hlt : k < (Ut.pcs (Ut.bsL s)).length
        · obtain ⟨p1, -, p3⟩ := Ut.posP_at hlt
          rw [Ut.bsL_len] at p1
          have hr := HG.out k hlt
          rw [Ut.rP_at hlt] at hr
          have hwid := Ut.piece_wid p1
          have c2 := fun w => C _ p1 w
          have hcutk : most < (Ut.posP (Ut.bsL s) (k + 1) : Int) → Hid (CutAt s most k) := fun h => Lib.hid ⟨hlt, HK.out.1, h⟩
          generalize Ut.piece ((Ut.bsL s).drop (Ut.posP (Ut.bsL s) k)) = p at *
          obtain ⟨x, n⟩ := p
          simp only at hr hwid p3
          have e2 : rnextV (x, n) = .tuple #[.int .i64 x, .int .i64 (n : Int), .bool true] := by unfold rnextV; rw [if_neg (by show ¬ x < 0; omega)]
          unfold RNextPost at c2
          rw [e2] at c2
          have hq1 : Ut.posP (Ut.bsL s) (k + 1) ≤ s.size := by omega
          rw [p3] at hq1 hcutk
          have P3 := Lib.hid p3
          have hkk := HK.out
          clear hr p3 e2 HK
          generalize hq : Ut.posP (Ut.bsL s) k = q at *
          have HQ := Lib.hid hq
          clear hq
          have g1 : (q : Int) < (s.size : Int) := by omega
          have g2 : (0 : Int) ≤ (q : Int) := by omega
          have g3 : (q : Int) ≤ (s.size : Int) := by omega
          have g4 : IntKind.i64.wrap ((q : Int) + (n : Int)) = (q : Int) + (n : Int) := by rw [IntKind.wrap_i64]; omega
          by_cases hgt : most < (q : Int) + (n : Int)
          · have HCUT := hcutk (by omega)
            have hres : Hid (s.extract 0 q = z) := Lib.hid (by rw [← HZ.out, ← HC.out k HCUT.out (by omega), HQ.out])
            clear hcutk hpos C HG HC HA
            go_wp2_with (go_at_call 34; refine (c2 _).mono ?_; rintro e w2 ⟨rfl, rfl⟩)
            go_ret
            exact ⟨by rw [← hres.out]; rfl, hb1⟩
          · clear hcutk
            go_wp2_with (go_at_call 34; refine (c2 _).mono ?_; rintro e w2 ⟨rfl, rfl⟩)
            go_round
            case rel => exact ⟨k + 1, by omega, by rw [P3.out, ← HQ.out]; go_num, Lib.hid (by rw [P3.out]; omega)⟩
            case measure => simp [intOf]; omega
        · obtain rfl : k = (Ut.pcs (Ut.bsL s)).length := by omega
          have hkk := HK.out
          rw [HE.out] at hkk ⊢
          have hres : Hid (s = z) := Lib.hid (by rw [← HZ.out, ← HA.out hkk.1, ext_all])
          have q1 : ¬ (s.size : Int) < (s.size : Int) := by omega
          clear HK hpos C HG HC HA
          go_wp2_with fail
          go_ret
          exact ⟨by rw [← hres.out]; rfl, hb1⟩
set_option maxHeartbeats 8000000 in
theorem textTells_walk {w : World} (s : ByteArray) (hs : s.size ≤ maxLen) (most : Int) (hmost : Is64 most) : Calls Tryz.prog 3 #[.string s, .int .i64 most] w (LawT w) := by
  have k9 := twakes_any
  unfold LawT at k9 ⊢
  have hb0 : Below w.heap.size w w := Below.refl _ _
  by_cases hlen : 600 < s.size
  · have hl : (600 : Int) < (s.size : Int) := by omega
    go_enter Tryz.func3, Tryz.ntmps3
    go_wp2_with (go_at_call 4; refine (k9 _).mono ?_; rintro e w1 ⟨rfl, hb1⟩; replace hb0 := bl hb0 hb1; clear hb1)
    go_ret
    exact ⟨rfl, hb0⟩
  · have hl : ¬ (600 : Int) < (s.size : Int) := by omega
    have hs6 : s.size ≤ 620 := by omega
    have c1 := fun w => tline_any s (by omega) (good_one hs6) w
    have c2 := fun w => tblock_any s (by omega) (good_trim hs6) w
    have c3 := fun w => tisline_any s (by omega) (good_one hs6) w
    have c4 := fun w => tisblock_any s (by omega) (good_trim hs6) w
    have c5 := fun w => tempty_any s (by omega) w
    have c6 := fun w => tcutA_any s (by omega) most w
    have c7 : ∀ w, Calls Tryz.prog 5 #[.string s] w (fun e w' => e = .returned (.string (trimB s)) ∧ w = w') := fun w => ttrim_any s (by omega) w
    have c8 : ∀ w, Calls Tryz.prog 7 #[.string s] w (fun e w' => e = .returned (.string (oneB s)) ∧ Below w.heap.size w w') := fun w => tone_any s (by omega) w
    have d1 := fun w => r22line_any s (by omega) (good_one hs6) w
    have d2 := fun w => r22block_any s (by omega) (good_trim hs6) w
    have d3 := fun w => r22isline_any s (by omega) (good_one hs6) w
    have d4 := fun w => r22isblock_any s (by omega) (good_trim hs6) w
    have d5 := fun w => r22empty_any s (by omega) w
    have d6 := fun w => r22cut_any s (by omega) most hmost w
    have d7 : ∀ w, Calls Tryz.prog 6 #[.string s] w (fun e w' => e = .returned (.string (trimB s)) ∧ w = w') := fun w => r22trim_any s (by omega) w
    have d8 := fun w => r22one_any s (by omega) w
    generalize (rightB s && decide (lineB s = s)) = x3 at *
    generalize (rightB s && decide (blockB s = s)) = x4 at *
    generalize lineB s = x1 at *
    generalize blockB s = x2 at *
    generalize emptyF s = x5 at *
    generalize cutA s most = x6 at *
    generalize trimB s = x7 at *
    generalize oneB s = x8 at *
    go_enter Tryz.func3, Tryz.ntmps3
    go_wp2_with (first | (go_at_call 11; refine (c1 _).mono ?_; rintro e w2 ⟨rfl, hb2⟩; replace hb0 := bl hb0 hb2; clear hb2) | (go_at_call 12; refine (d1 _).mono ?_; rintro e w2 ⟨rfl, hb2⟩; replace hb0 := bl hb0 hb2; clear hb2) | (go_at_call 13; refine (c2 _).mono ?_; rintro e w2 ⟨rfl, hb2⟩; replace hb0 := bl hb0 hb2; clear hb2) | (go_at_call 14; refine (d2 _).mono ?_; rintro e w2 ⟨rfl, hb2⟩; replace hb0 := bl hb0 hb2; clear hb2) | (go_at_call 15; refine (c3 _).mono ?_; rintro e w2 ⟨rfl, hb2⟩; replace hb0 := bl hb0 hb2; clear hb2) | (go_at_call 16; refine (d3 _).mono ?_; rintro e w2 ⟨rfl, hb2⟩; replace hb0 := bl hb0 hb2; clear hb2) | (go_at_call 17; refine (c4 _).mono ?_; rintro e w2 ⟨rfl, hb2⟩; replace hb0 := bl hb0 hb2; clear hb2) | (go_at_call 18; refine (d4 _).mono ?_; rintro e w2 ⟨rfl, hb2⟩; replace hb0 := bl hb0 hb2; clear hb2) | (go_at_call 9; refine (c5 _).mono ?_; rintro e w2 ⟨rfl, hb2⟩; replace hb0 := bl hb0 hb2; clear hb2) | (go_at_call 10; refine (d5 _).mono ?_; rintro e w2 ⟨rfl, hb2⟩; replace hb0 := bl hb0 hb2; clear hb2) | (go_at_call 19; refine (c6 _).mono ?_; rintro e w2 ⟨rfl, hb2⟩; replace hb0 := bl hb0 hb2; clear hb2) | (go_at_call 20; refine (d6 _).mono ?_; rintro e w2 ⟨rfl, hb2⟩; replace hb0 := bl hb0 hb2; clear hb2) | (go_at_call 5; refine (c7 _).mono ?_; rintro e w2 ⟨rfl, rfl⟩) | (go_at_call 6; refine (d7 _).mono ?_; rintro e w2 ⟨rfl, rfl⟩) | (go_at_call 7; refine (c8 _).mono ?_; rintro e w2 ⟨rfl, hb2⟩; replace hb0 := bl hb0 hb2; clear hb2) | (go_at_call 8; refine (d8 _).mono ?_; rintro e w2 ⟨rfl, hb2⟩; replace hb0 := bl hb0 hb2; clear hb2) | (go_at_call 4; refine (k9 _).mono ?_; rintro e w5 ⟨rfl, hb5⟩; replace hb0 := bl hb0 hb5; clear hb5))
    go_ret
    exact ⟨rfl, hb0⟩
end Go.Proofs.YthepfbkbfkhcaaaGreat
namespace Go.Proofs.YthepfbkbfkhcaaaGreat
open Go.ChangeShapes Go.WideShapes Go.ChangeAt Go.RowKit
open Go.ChangeMaps (open_string)
open Go
set_option maxRecDepth 100000 in
theorem textTells_lifted (os : Os) (started : os.Started) (H : Type) (enc : TypeId × Value → H) :
    ReturnsInHanded {} Tryz.checked os 3 .any (Rows.textTellsSpec.pre6 enc Tryz.prog Tryz.f3 Rows.textTellsRow.domain false) (Rows.textTellsSpec.post enc Tryz.prog Tryz.f3 false true false false) := by
  refine returnsInHanded_of_change (C := Tryz.checked) own started (by kernel_rfl) Tryz.func3
    (ChangeSpec.witness6 (enc := enc) (C := Tryz.checked) false ⟨#[], #[.string ⟨#[]⟩, .int .i64 0], []⟩ 8 (by kernel_rfl) (by kernel_rfl) (by kernel_rfl) (by kernel_rfl)) ?_
  intro W base args ds gs before hval0 hW hcnd _
  have hval : ∀ (j : Nat) t v, Tryz.f3.params[j]? = some t → args[j]? = some v → Value.okWide Tryz.prog W .any base t v := hval0
  have hW' := hW
  obtain ⟨p, q, hA0, hV, rfl, hfz, hnd⟩ := hW
  have hA : DataW.TrodAll enc Tryz.prog W 0 (fun _ => true) true Tryz.f3.params.toList args.toList ds p := hA0
  rw [Tryz.params3] at hA hval
  obtain ⟨v0, vs0, d0x, ds0, p0, q0, hargs, rfl, rfl, h0, r0⟩ := trodAll_cons hA
  obtain ⟨v1, vs1, d1x, ds1, p1, q1, rfl, rfl, rfl, h1, r1⟩ := trodAll_cons r0
  obtain ⟨rfl, rfl, rfl⟩ := trodAll_nil r1
  obtain rfl : args = #[v0, v1] := by cases args; simp_all
  obtain ⟨rfl, rfl⟩ := trodVars_none hV
  obtain ⟨a0, rfl, rfl, rfl, w0⟩ := open_string Tryz.underlying9 (hval 0 9 v0 rfl rfl) h0
  obtain ⟨a1, rfl, rfl, rfl, w1⟩ := open_int Tryz.underlying3 (hval 1 3 v1 rfl rfl) h1
  clear hval0
  simp only [List.append_nil] at hW'
  refine (textTells_walk (w := W) a0 w0 a1 (is64_wf w1)).mono fun e W' ⟨he, hb⟩ => ?_
  subst he
  exact ⟨_, rfl, law_post (bt := 4) laidOut (by kernel_rfl) (by simpa only [List.append_nil] using hA0) hW' rfl rfl rfl rfl (by kernel_rfl) Tryz.underlying4 hb⟩
theorem textTells_holds : Rows.TextTellsSaid :=
  OpenClaim.holds_of_wide 3 Tryz.f3 rfl rfl rfl rfl rfl rfl rfl ⟨rfl, rfl, rfl, rfl, rfl⟩ rfl rfl rfl rfl rfl (by kernel_rfl) Tryz.func3 (by kernel_rfl)
    (of_decide_eq_true (by kernel_rfl)) (by unfold Func.isWrapper; first | (rw [if_pos (by decide +kernel)]; kernel_rfl) | (rw [if_neg (by decide +kernel)]; exact ⟨rfl, rfl⟩))
    (fun os started H enc _ => textTells_lifted os started H enc)
#print axioms textTells_holds
end Go.Proofs.YthepfbkbfkhcaaaGreat
