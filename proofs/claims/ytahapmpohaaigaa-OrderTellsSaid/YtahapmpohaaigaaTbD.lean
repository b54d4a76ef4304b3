/- The walks of the tables' Made and Whole. -/
import Derived.Test.YtahapmpohaaigaaTbC
namespace Go.Proofs.Ytahapmpohaaigaa
open Go.RowKit
open Go
set_option linter.unusedVariables false
set_option maxRecDepth 100000
def madeV (o : Option (Int × Int)) : Value := .tuple #[.int .i64 (o.getD (0, 0)).1, .int .i64 (o.getD (0, 0)).2, .bool o.isSome]
theorem fld0 (b1 b2 : Nat) (w : World) : (Instr.field 69 (.agg #[.map (some b1), .map (some b2)]) 0).run Try.prog w = .ok (.map (some b1)) w := by kernel_rfl
theorem fld1 (b1 b2 : Nat) (w : World) : (Instr.field 69 (.agg #[.map (some b1), .map (some b2)]) 1).run Try.prog w = .ok (.map (some b2)) w := by kernel_rfl
def MadePost (o : Option (Int × Int)) (w : World) (e : Ending) (w' : World) : Prop := e = .returned (madeV o) ∧ Below w.heap.size w w'
theorem zero_pair (w : World) : (zeroValue 64).run Try.prog w = .ok (.agg #[.int .i64 0, .int .i64 0]) w := by kernel_rfl
theorem zero_int (w : World) : (zeroValue 3).run Try.prog w = .ok (.int .i64 0) w := by kernel_rfl
set_option maxHeartbeats 1000000 in
theorem made_hang (r : Int) (h : Tb.hangB r = true) (w : World) : Calls Try.prog 38 #[.int .i64 r] w (MadePost (Tb.madeF r) w) := by
  have hh := (Tb.hang_iff r).1 h
  have c := fun w => hang_any r w
  rw [h] at c
  unfold Tb.madeF
  rw [if_pos h]
  obtain ⟨h1, h2⟩ := hh
  clear h
  by_cases ht : 0 < (r - 44032) % 28
  · rw [if_pos ht]
    go_enter Try.func38, Try.ntmps38
    go_wp2_with fail
    refine (c _).mono ?_
    rintro e w1 ⟨rfl, rfl⟩
    go_wp2
    go_ret3
    exact ⟨rfl, Below.refl _ _⟩
  · rw [if_neg ht]
    go_enter Try.func38, Try.ntmps38
    go_wp2_with fail
    refine (c _).mono ?_
    rintro e w1 ⟨rfl, rfl⟩
    go_wp2
    go_ret3
    exact ⟨rfl, Below.refl _ _⟩
theorem is_wf {r : Int} (h : Is64 r) : (Lit.int .i64 r).wf = true := by
  unfold Is64 at h
  simp [Lit.wf, IntKind.min, IntKind.max, IntKind.signed, IntKind.bits]
  omega
set_option maxHeartbeats 1000000 in
theorem made_look (r : Int) (h : Tb.hangB r = false) (hw : Is64 r) (o : Option (Int × Int)) (ho : Tb.madeF r = o) (w : World) : Calls Try.prog 38 #[.int .i64 r] w (MadePost o w) := by
  have c := fun w => hang_any r w
  rw [h] at c
  unfold Tb.madeF at ho
  rw [if_neg (by rw [h]; simp), Tb.tbl_made] at ho
  have HO := Lib.hid ho
  clear ho
  go_enter Try.func38, Try.ntmps38
  go_wp2_with fail
  refine (c _).mono ?_
  rintro e w1 ⟨rfl, rfl⟩
  go_wp2_with fail
  refine (table_any _).mono ?_
  rintro e w1 ⟨b1, b2, f, g, rfl, hb1, hb2, hf, hg, hf2, hg2, hB⟩
  have wr := is_wf hw
  have F1 := fld1
  have L := hg.look ki Try.underlying67 (zero_pair w1) (by decide) (key_int wr)
  rw [hg2] at L
  cases hm : Tb.madeT r with
  | some x =>
    obtain ⟨x, y⟩ := x
    rw [hm] at L
    simp only [Option.map_some, Option.getD_some, Option.isSome_some, pairV] at L
    obtain rfl : some (x, y) = o := by
      rw [← HO.out, hm]
    clear hg2 hf2 hg hf
    go_wp2_with fail
    go_region
    all_goals
      go_wp2_with fail
      go_ret3
      exact ⟨rfl, (bbox hB _).drew⟩
  | none =>
    rw [hm] at L
    simp only [Option.map_none, Option.getD_none, Option.isSome_none] at L
    have HO2 : Hid ((Tb.dblT r).map (fun a => (a, (0 : Int))) = o) := by
      have := HO.out
      rw [hm] at this
      exact this
    clear hg2 hf2 hg hf HO
    go_wp2_with fail
    refine (dbl_any _).mono ?_
    rintro e w2 ⟨b3, g3, rfl, hb3, hg3, hd3, hB2⟩
    have hB3 := bn (bbox hB _) hB2
    have L2 := hg3.look ki Try.underlying72 (zero_int w2) (by decide) (key_int wr)
    rw [hd3] at L2
    clear L
    cases hd : Tb.dblT r with
    | some x =>
      rw [hd] at L2
      simp only [Option.map_some, Option.getD_some, Option.isSome_some] at L2
      obtain rfl : some (x, 0) = o := by
        rw [← HO2.out, hd]
        rfl
      go_wp2_with fail
      go_ret3
      exact ⟨rfl, hB3⟩
    | none =>
      rw [hd] at L2
      simp only [Option.map_none, Option.getD_none, Option.isSome_none] at L2
      obtain rfl : none = o := by
        rw [← HO2.out, hd]
        rfl
      go_wp2_with fail
      go_ret3
      exact ⟨rfl, hB3⟩
theorem made_any (r : Int) (hw : Is64 r) (w : World) : Calls Try.prog 38 #[.int .i64 r] w (MadePost (Tb.madeF r) w) := by
  cases h : Tb.hangB r with
  | true => exact made_hang r h w
  | false => exact made_look r h hw _ rfl w
def wholeV (o : Option Int) : Value := .tuple #[.int .i64 (o.getD 0), .bool o.isSome]
def WholePost (o : Option Int) (w : World) (e : Ending) (w' : World) : Prop := e = .returned (wholeV o) ∧ Below w.heap.size w w'
theorem key_pair_ex (a b : Int) (ha : Is64 a) (hb : Is64 b) : ∃ kl, keyOf Try.prog 64 (.agg #[.int .i64 a, .int .i64 b]) = some kl := key_pair a b (is_wf ha) (is_wf hb)
end Go.Proofs.Ytahapmpohaaigaa
