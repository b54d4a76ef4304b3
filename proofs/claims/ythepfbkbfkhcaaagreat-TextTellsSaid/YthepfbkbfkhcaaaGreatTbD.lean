/- The walks of the tables' Made and Whole. -/
import Derived.Test.YthepfbkbfkhcaaaGreatTbC
namespace Go.Proofs.YthepfbkbfkhcaaaGreat
open Go.RowKit
open Go
set_option linter.unusedVariables false
set_option maxRecDepth 100000
def madeV (o : Option (Int × Int)) : Value := .tuple #[.int .i64 (o.getD (0, 0)).1, .int .i64 (o.getD (0, 0)).2, .bool o.isSome]
theorem fld0 (b1 b2 : Nat) (w : World) : (Instr.field 89 (.agg #[.map (some b1), .map (some b2)]) 0).run Tryz.prog w = .ok (.map (some b1)) w := by kernel_rfl
theorem fld1 (b1 b2 : Nat) (w : World) : (Instr.field 89 (.agg #[.map (some b1), .map (some b2)]) 1).run Tryz.prog w = .ok (.map (some b2)) w := by kernel_rfl
def MadePost (o : Option (Int × Int)) (w : World) (e : Ending) (w' : World) : Prop := e = .returned (madeV o) ∧ Below w.heap.size w w'
theorem zero_pair (w : World) : (zeroValue 91).run Tryz.prog w = .ok (.agg #[.int .i64 0, .int .i64 0]) w := by kernel_rfl
theorem zero_int (w : World) : (zeroValue 3).run Tryz.prog w = .ok (.int .i64 0) w := by kernel_rfl
set_option maxHeartbeats 1000000 in
theorem made_hang (r : Int) (h : Tb.hangB r = true) (w : World) : Calls Tryz.prog 104 #[.int .i64 r] w (MadePost (Tb.madeF r) w) := by
  have hh := (Tb.hang_iff r).1 h
  have c := fun w => hang_any r w
  rw [h] at c
  unfold Tb.madeF
  rw [if_pos h]
  obtain ⟨h1, h2⟩ := hh
  clear h
  by_cases ht : 0 < (r - 44032) % 28
  · rw [if_pos ht]
    go_enter Tryz.func104, Tryz.ntmps104
    go_wp2_with fail
    refine (c _).mono ?_
    rintro e w1 ⟨rfl, rfl⟩
    go_wp2
    go_ret3
    exact ⟨rfl, Below.refl _ _⟩
  · rw [if_neg ht]
    go_enter Tryz.func104, Tryz.ntmps104
    go_wp2_with fail
    refine (c _).mono ?_
    rintro e w1 ⟨rfl, rfl⟩
    go_wp2
    go_ret3
    exact ⟨rfl, Below.refl _ _⟩
theorem is_wf {r : Int} (h : Is64 r) : (Lit.int .i64 r).wf = true := by
  unfold Is64 at h
  simp [Lit.wf, IntKind.min, IntKind.max, IntKind.signed, IntKind.bits]
  omega
set_option maxHeartbeats 1000000 in
theorem made_look (r : Int) (h : Tb.hangB r = false) (hw : Is64 r) (o : Option (Int × Int)) (ho : Tb.madeF r = o) (w : World) : Calls Tryz.prog 104 #[.int .i64 r] w (MadePost o w) := by
  have c := fun w => hang_any r w
  rw [h] at c
  unfold Tb.madeF at ho
  rw [if_neg (by rw [h]; simp), Tb.tbl_made] at ho
  have HO := Lib.hid ho
  clear ho
  go_enter Tryz.func104, Tryz.ntmps104
  go_wp2_with fail
  refine (c _).mono ?_
  rintro e w1 ⟨rfl, rfl⟩
  go_wp2_with fail
  refine (table_any _).mono ?_
  rintro e w1 ⟨b1, b2, f, g, rfl, hb1, hb2, hf, hg, hf2, hg2, hB⟩
  have wr := is_wf hw
  have F1 := fld1
  have L := hg.look ki Tryz.underlying87 (zero_pair w1) (by decide) (key_int wr)
  rw [hg2] at L
  cases hm : Tb.madeT r with
  | some x =>
    obtain ⟨x, y⟩ := x
    rw [hm] at L
    simp only [Option.map_some, Option.getD_some, Option.isSome_some, pairV] at L
    obtain rfl : some (x, y) = o := by
      rw [← HO.out, hm]
    clear hg2 hf2 hg hf
    go_wp2_with fail
    go_region
    all_goals
      go_wp2_with fail
      go_ret3
      exact ⟨rfl, (bbox hB _).drew⟩
  | none =>
    rw [hm] at L
    simp only [Option.map_none, Option.getD_none, Option.isSome_none] at L
    have HO2 : Hid ((Tb.dblT r).map (fun a => (a, (0 : Int))) = o) := by
      have := HO.out
      rw [hm] at this
      exact this
    clear hg2 hf2 hg hf HO
    go_wp2_with fail
    refine (dbl_any _).mono ?_
    rintro e w2 ⟨b3, g3, rfl, hb3, hg3, hd3, hB2⟩
    have hB3 := bn (bbox hB _) hB2
    have L2 := hg3.look ki Tryz.underlying118 (zero_int w2) (by decide) (key_int wr)
    rw [hd3] at L2
    clear L
    cases hd : Tb.dblT r with
    | some x =>
      rw [hd] at L2
      simp only [Option.map_some, Option.getD_some, Option.isSome_some] at L2
      obtain rfl : some (x, 0) = o := by
        rw [← HO2.out, hd]
        rfl
      go_wp2_with fail
      go_ret3
      exact ⟨rfl, hB3⟩
    | none =>
      rw [hd] at L2
      simp only [Option.map_none, Option.getD_none, Option.isSome_none] at L2
      obtain rfl : none = o := by
        rw [← HO2.out, hd]
        rfl
      go_wp2_with fail
      go_ret3
      exact ⟨rfl, hB3⟩
theorem made_any (r : Int) (hw : Is64 r) (w : World) : Calls Tryz.prog 104 #[.int .i64 r] w (MadePost (Tb.madeF r) w) := by
  cases h : Tb.hangB r with
  | true => exact made_hang r h w
  | false => exact made_look r h hw _ rfl w
def wholeV (o : Option Int) : Value := .tuple #[.int .i64 (o.getD 0), .bool o.isSome]
def WholePost (o : Option Int) (w : World) (e : Ending) (w' : World) : Prop := e = .returned (wholeV o) ∧ Below w.heap.size w w'
theorem key_pair_ex (a b : Int) (ha : Is64 a) (hb : Is64 b) : ∃ kl, keyOf Tryz.prog 91 (.agg #[.int .i64 a, .int .i64 b]) = some kl := key_pair a b (is_wf ha) (is_wf hb)
set_option maxHeartbeats 2000000 in
theorem whole_any (a b : Int) (ha : Is64 a) (hb : Is64 b) (w : World) : Calls Tryz.prog 65 #[.int .i64 a, .int .i64 b] w (WholePost (Tb.wholeF a b) w) := by
  obtain ⟨kl, hkl⟩ := key_pair_ex a b ha hb
  have c0 := fun w => in_any a 4352 19 (by omega) (by omega) (by omega) (by omega) w
  have c1 := fun w => in_any b 4449 21 (by omega) (by omega) (by omega) (by omega) w
  have c2 := fun w => in_any b 4520 27 (by omega) (by omega) (by omega) (by omega) w
  have c3 := fun w => hang_any a w
  obtain ⟨o, ho⟩ : ∃ o, Tb.wholeF a b = o := ⟨_, rfl⟩
  rw [ho]
  have F0 := fld0
  unfold Tb.wholeF at ho
  by_cases h1 : 4352 ≤ a ∧ a < 4371
  · have e0 : inB a 4352 19 = true := by unfold inB; simp; omega
    rw [e0] at c0
    by_cases h2 : 4449 ≤ b ∧ b < 4470
    · have e1 : inB b 4449 21 = true := by unfold inB; simp; omega
      rw [e1] at c1
      rw [if_pos (by omega)] at ho
      obtain ⟨h3, h4⟩ := h1
      obtain ⟨h5, h6⟩ := h2
      subst ho
      go_enter Tryz.func65, Tryz.ntmps65
      go_wp2_with fail
      refine (c0 _).mono ?_
      rintro e w1 ⟨rfl, rfl⟩
      go_wp2_with fail
      refine (c1 _).mono ?_
      rintro e w1 ⟨rfl, rfl⟩
      go_wp2_with fail
      go_ret2
      exact ⟨rfl, Below.refl _ _⟩
    · have e1 : inB b 4449 21 = false := by unfold inB; simp; omega
      rw [e1] at c1
      have e3 : Tb.hangB a = false := (Tb.hang_no a).2 (by omega)
      rw [e3] at c3
      rw [if_neg (by omega), if_neg (by rw [e3]; simp)] at ho
      have HO := Lib.hid ho
      clear ho h1 h2
      go_enter Tryz.func65, Tryz.ntmps65
      go_wp2_with fail
      refine (c0 _).mono ?_
      rintro e w1 ⟨rfl, rfl⟩
      go_wp2_with fail
      refine (c1 _).mono ?_
      rintro e w1 ⟨rfl, rfl⟩
      go_wp2_with fail
      refine (c3 _).mono ?_
      rintro e w1 ⟨rfl, rfl⟩
      go_wp2_with fail
      refine (table_any _).mono ?_
      rintro e w1 ⟨p1, p2, f, g, rfl, hb1, hb2, hf, hg, hf2, hg2, hB⟩
      have L := hf.look kp Tryz.underlying86 (zero_int w1) (by decide) hkl
      have hf3 := hf2 a b
      unfold pairV at hf3
      rw [hf3, HO.out] at L
      clear hf3 hf2 hg2 hf hg HO
      cases o with
      | some x =>
        simp only [Option.map_some, Option.getD_some, Option.isSome_some] at L
        go_wp2_with fail
        go_ret2
        exact ⟨rfl, hB⟩
      | none =>
        simp only [Option.map_none, Option.getD_none, Option.isSome_none] at L
        go_wp2_with fail
        go_ret2
        exact ⟨rfl, hB⟩
  · have e0 : inB a 4352 19 = false := by unfold inB; simp; omega
    rw [e0] at c0
    rw [if_neg (by omega)] at ho
    by_cases h3 : Tb.hangB a = true
    · rw [h3] at c3
      have h4 := (Tb.hang_iff a).1 h3
      obtain ⟨h5, h6⟩ := h4
      by_cases hm : (a - 44032) % 28 = 0
      · have hmb : ((a - 44032) % 28 == 0) = true := by simp [hm]
        by_cases h2 : 4520 ≤ b ∧ b < 4547
        · have e2 : inB b 4520 27 = true := by unfold inB; simp; omega
          rw [e2] at c2
          rw [if_pos ⟨h3, hm, h2⟩] at ho
          obtain ⟨h7, h8⟩ := h2
          subst ho
          clear hm h1 h3
          go_enter Tryz.func65, Tryz.ntmps65
          go_wp2_with fail
          refine (c0 _).mono ?_
          rintro e w1 ⟨rfl, rfl⟩
          go_wp2_with fail
          refine (c3 _).mono ?_
          rintro e w1 ⟨rfl, rfl⟩
          go_wp2_with fail
          refine (c2 _).mono ?_
          rintro e w1 ⟨rfl, rfl⟩
          go_wp2_with fail
          go_ret2
          exact ⟨rfl, Below.refl _ _⟩
        · have e2 : inB b 4520 27 = false := by unfold inB; simp; omega
          rw [e2] at c2
          rw [if_neg (by omega)] at ho
          have HO := Lib.hid ho
          clear ho h1 h2 h3 hm
          go_enter Tryz.func65, Tryz.ntmps65
          go_wp2_with fail
          refine (c0 _).mono ?_
          rintro e w1 ⟨rfl, rfl⟩
          go_wp2_with fail
          refine (c3 _).mono ?_
          rintro e w1 ⟨rfl, rfl⟩
          go_wp2_with fail
          refine (c2 _).mono ?_
          rintro e w1 ⟨rfl, rfl⟩
          go_wp2_with fail
          refine (table_any _).mono ?_
          rintro e w1 ⟨p1, p2, f, g, rfl, hb1, hb2, hf, hg, hf2, hg2, hB⟩
          have L := hf.look kp Tryz.underlying86 (zero_int w1) (by decide) hkl
          have hf3 := hf2 a b
          unfold pairV at hf3
          rw [hf3, HO.out] at L
          clear hf3 hf2 hg2 hf hg HO
          cases o with
          | some x =>
            simp only [Option.map_some, Option.getD_some, Option.isSome_some] at L
            go_wp2_with fail
            go_ret2
            exact ⟨rfl, hB⟩
          | none =>
            simp only [Option.map_none, Option.getD_none, Option.isSome_none] at L
            go_wp2_with fail
            go_ret2
            exact ⟨rfl, hB⟩
      · have hmb : ((a - 44032) % 28 == 0) = false := by simp [hm]
        rw [if_neg (by omega)] at ho
        have HO := Lib.hid ho
        clear ho h1 h3 hm
        go_enter Tryz.func65, Tryz.ntmps65
        go_wp2_with fail
        refine (c0 _).mono ?_
        rintro e w1 ⟨rfl, rfl⟩
        go_wp2_with fail
        refine (c3 _).mono ?_
        rintro e w1 ⟨rfl, rfl⟩
        go_wp2_with fail
        refine (table_any _).mono ?_
        rintro e w1 ⟨p1, p2, f, g, rfl, hb1, hb2, hf, hg, hf2, hg2, hB⟩
        have L := hf.look kp Tryz.underlying86 (zero_int w1) (by decide) hkl
        have hf3 := hf2 a b
        unfold pairV at hf3
        rw [hf3, HO.out] at L
        clear hf3 hf2 hg2 hf hg HO
        cases o with
        | some x =>
          simp only [Option.map_some, Option.getD_some, Option.isSome_some] at L
          go_wp2_with fail
          go_ret2
          exact ⟨rfl, hB⟩
        | none =>
          simp only [Option.map_none, Option.getD_none, Option.isSome_none] at L
          go_wp2_with fail
          go_ret2
          exact ⟨rfl, hB⟩
    · have e3 : Tb.hangB a = false := by simpa using h3
      rw [e3] at c3
      rw [if_neg (by rw [e3]; simp)] at ho
      have HO := Lib.hid ho
      clear ho h1 h3
      go_enter Tryz.func65, Tryz.ntmps65
      go_wp2_with fail
      refine (c0 _).mono ?_
      rintro e w1 ⟨rfl, rfl⟩
      go_wp2_with fail
      refine (c3 _).mono ?_
      rintro e w1 ⟨rfl, rfl⟩
      go_wp2_with fail
      refine (table_any _).mono ?_
      rintro e w1 ⟨p1, p2, f, g, rfl, hb1, hb2, hf, hg, hf2, hg2, hB⟩
      have L := hf.look kp Tryz.underlying86 (zero_int w1) (by decide) hkl
      have hf3 := hf2 a b
      unfold pairV at hf3
      rw [hf3, HO.out] at L
      clear hf3 hf2 hg2 hf hg HO
      cases o with
      | some x =>
        simp only [Option.map_some, Option.getD_some, Option.isSome_some] at L
        go_wp2_with fail
        go_ret2
        exact ⟨rfl, hB⟩
      | none =>
        simp only [Option.map_none, Option.getD_none, Option.isSome_none] at L
        go_wp2_with fail
        go_ret2
        exact ⟨rfl, hB⟩
end Go.Proofs.YthepfbkbfkhcaaaGreat
