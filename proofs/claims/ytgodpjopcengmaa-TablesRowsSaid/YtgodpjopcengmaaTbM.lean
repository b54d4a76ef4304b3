/- The walk of the statement on the table, pair by pair. -/
import Derived.Test.YtgodpjopcengmaaTbL
import Derived.Laws.StructEq
import Derived.Lib.QuietBelow
namespace Go.Proofs.Ytgodpjopcengmaa
open Go.RowKit
open Go
set_option linter.unusedVariables false
theorem pair_eq (x y z : Int) (w : World) : (Op.equalIn 10000 33 (.agg #[.int .i64 x, .int .i64 y, .int .i64 z]) (.agg #[.int .i64 x, .int .i64 y, .int .i64 z])).run Try.prog w = .ok true w := by
  have u3 := Try.underlying3
  have a3 := Try.isAgg3
  have z3 := Try.sizeOf3
  have hS : Try.prog.underlying 33 = some (.struct (Try.prog.fieldsOf 33)) := by kernel_rfl
  have hp : Try.prog.stoodInHeld 33 = false := by kernel_rfl
  rw [show (10000 : Nat) = 9999 + 1 from rfl, run_equalIn_agg w 9999 33 _ _ hS hp]
  simp only [Program.fieldsOf, Try.underlying33]
  go_simp
theorem pair_gd (op : BinOp) (a b : Operand) (xs ys : Array Value) (w : World) : (eqGuard op 33 a b (.agg xs) (.agg ys)).run Try.prog w = .ok () w := run_eqGuard_agg w op 33 a b xs ys (by kernel_rfl)
theorem mod73 (n : Int) : ∃ k : Nat, IntKind.i64.wrap (n.tmod 73 + 73) = n.tmod 73 + 73 ∧ (n.tmod 73 + 73).tmod 73 = (k : Int) ∧ n.tmod 73 % 73 = (k : Int) ∧ (n.tmod 73 + 73) % 73 = (k : Int) ∧ k < 73 := by
  have h1 : -73 < n.tmod 73 ∧ n.tmod 73 < 73 := by
    have := Int.tmod_eq_emod (a := n) (b := 73)
    split at this <;> omega
  have h2 : (n.tmod 73 + 73).tmod 73 = (n.tmod 73 + 73) % 73 := Int.tmod_eq_emod_of_nonneg (by omega)
  refine ⟨((n.tmod 73 + 73) % 73).toNat, ?_, ?_, ?_, ?_, ?_⟩
  · rw [IntKind.wrap_i64]; omega
  · rw [h2]; omega
  · omega
  · omega
  · omega
theorem row3_at {W : World} {g : Nat} {j : Nat} {x y z : Int} (h : Row3 W g Tb.prs) (e : Tb.prs[j]? = some (x, y, z)) : W.cell? ⟨g, j * 3, none⟩ = some (.int .i64 x) ∧ W.cell? ⟨g, j * 3 + 1, none⟩ = some (.int .i64 y) ∧ W.cell? ⟨g, j * 3 + 2, none⟩ = some (.int .i64 z) := by
  obtain ⟨h1, h2, h3⟩ := cells3_at Tb.prs j (x, y, z) e
  rw [Nat.mul_comm] at h1 h2 h3
  exact ⟨h.2 _ _ h1, h.2 _ _ h2, h.2 _ _ h3⟩
set_option maxRecDepth 100000 in
set_option maxHeartbeats 4000000 in
theorem tablesRows_walk {w : World} (k : Int) (_ : Is64 k) : Calls Try.prog 6 #[.int .i64 k] w (LawTrue w) := by
  obtain ⟨j, m1, m2, m3, m4, m5⟩ := mod73 k
  obtain ⟨x, y, z, hxyz⟩ : ∃ x y z : Int, Tb.prs[j]? = some (x, y, z) := by
    have : j < Tb.prs.length := by rw [prs_len73]; exact m5
    exact ⟨_, _, _, List.getElem?_eq_getElem this⟩
  have HX := Lib.hid hxyz
  clear hxyz
  have k9 := fun w => wakes_any w
  have hq := pair_eq x y z
  have hgd := pair_gd
  unfold LawTrue at k9 ⊢
  go_enter Try.func6, Try.ntmps6
  go_wp2_with fail
  refine (pairs_any _).mono ?_
  rintro e w1 ⟨g1, cap1, rfl, hc1, -, hr1, hB1⟩
  have HR1 := Lib.hid hr1
  have HB1 := Lib.hid hB1
  clear hr1 hB1
  go_wp2_with fail
  refine (rpairs_any _).mono ?_
  rintro e w2 ⟨g2, cap2, rfl, hc2, -, hr2, hB2⟩
  have hr1 : Row3 w2 g1 Tb.prs := ⟨Nat.lt_of_lt_of_le HR1.out.1 hB2.size, fun i u hu => (hB2.cell (p := ⟨g1, i, none⟩) HR1.out.1).trans (HR1.out.2 i u hu)⟩
  obtain ⟨p0, p1, p2⟩ := row3_at hr1 HX.out
  obtain ⟨q0, q1, q2⟩ := row3_at hr2 HX.out
  have HB2 := Lib.hid (bn HB1.out hB2)
  clear hr1 hr2 hB2 HR1 HB1
  rw [prs_len73] at hc1 hc2 ⊢
  have i1 : (0 : Int) ≤ (j : Int) := by omega
  have i2 : (j : Int) < 73 := by omega
  go_wp2_with fail
  have kS := rg (W := w2) k9
  replace p0 := cell_regrown p0
  replace p1 := cell_regrown p1
  replace p2 := cell_regrown p2
  replace q0 := cell_regrown q0
  replace q1 := cell_regrown q1
  replace q2 := cell_regrown q2
  clear k9
  refine wp_region_quiet_below (by kernel_rfl) (by kernel_rfl) ?_
  repeat (quiet_step (first | (go_at_call 8; exact kS _ _)))
  refine wpQuiet_nil ?_
  intro _ hw'
  obtain ⟨⟨dq, osq⟩, hw''⟩ := hw'
  subst hw''
  go_wp2
  go_ret
  exact ⟨rfl, bn HB2.out (below_regrown _ dq osq)⟩
end Go.Proofs.Ytgodpjopcengmaa
