/- Two disks held against each other. -/
import Derived.Test.YtehgnlocekcakaaDkF
namespace Go.Proofs.Ytehgnlocekcakaa
open Go.RowKit
open Go
def zEq (a b : ByteArray) (s t : Int) : Bool := a.toList == b.toList && s == t
theorem eq_zone (d : Nat) (a b : ByteArray) (s t : Int) (w : World) : (Op.equalIn (d + 2) 23 (.agg #[.string a, .int .i64 s]) (.agg #[.string b, .int .i64 t])).run Try.prog w = .ok (zEq a b s t) w := by
  go_simp
  unfold zEq
  by_cases h : a.toList = b.toList <;> by_cases k : s = t <;> simp [h, k]
theorem part0 (x0 x1 x2 x3 : Value) : ∀ w, (Sem.run Try.prog (part 23 #[x0, x1, x2, x3] 0) w) = .ok (.agg #[x0, x1]) w := fun _ => by kernel_rfl
theorem part1 (x0 x1 x2 x3 : Value) : ∀ w, (Sem.run Try.prog (part 23 #[x0, x1, x2, x3] 2) w) = .ok (.agg #[x2, x3]) w := fun _ => by kernel_rfl
theorem eq_arr (d : Nat) (a0 b0 a1 b1 : ByteArray) (s0 t0 s1 t1 : Int) (w : World) :
    (Op.equalIn (d + 3) 24 (.agg #[.string a0, .int .i64 s0, .string a1, .int .i64 s1]) (.agg #[.string b0, .int .i64 t0, .string b1, .int .i64 t1])).run Try.prog w = .ok (zEq a0 b0 s0 t0 && zEq a1 b1 s1 t1) w := by
  unfold Op.equalIn
  simp [run_underlying Try.underlying24, List.range', part0, part1, eq_zone]
  cases zEq a0 b0 s0 t0 <;> cases zEq a1 b1 s1 t1 <;> simp
theorem eq_arr' (a0 b0 a1 b1 : ByteArray) (s0 t0 s1 t1 : Int) (w : World) :
    (Op.equalIn 9999 24 (.agg #[.string a0, .int .i64 s0, .string a1, .int .i64 s1]) (.agg #[.string b0, .int .i64 t0, .string b1, .int .i64 t1])).run Try.prog w = .ok (zEq a0 b0 s0 t0 && zEq a1 b1 s1 t1) w :=
  eq_arr 9996 a0 b0 a1 b1 s0 t0 s1 t1 w
def sameB (d o : Dm.Dk) : Bool := zEq d.b0 o.b0 d.s0 o.s0 && zEq d.b1 o.b1 d.s1 o.s1 && (d.cap == o.cap && d.left == o.left && d.down == o.down)
theorem zEq_refl (a : ByteArray) (s : Int) : zEq a a s s = true := by simp [zEq]
theorem sameB_refl (d : Dm.Dk) : sameB d d = true := by simp [sameB, zEq_refl]
set_option maxHeartbeats 400000 in
theorem same_any (d o : Dm.Dk) (w : World) : Calls Try.prog 18 #[dv d, dv o] w fun e w' => e = .returned (.bool (sameB d o)) ∧ Below w.heap.size w w' := by
  obtain ⟨b0, s0, b1, s1, cap, left, down⟩ := d
  obtain ⟨c0, t0, c1, t1, cap', left', down'⟩ := o
  show Calls Try.prog 18 #[.agg #[.string b0, .int .i64 s0, .string b1, .int .i64 s1, .int .i64 cap, .int .i64 left, .bool down], .agg #[.string c0, .int .i64 t0, .string c1, .int .i64 t1, .int .i64 cap', .int .i64 left', .bool down']] w _
  have he := eq_arr' b0 c0 b1 c1 s0 t0 s1 t1
  show Calls _ _ _ _ fun e w' => e = .returned (.bool ((zEq b0 c0 s0 t0 && zEq b1 c1 s1 t1) && (cap == cap' && left == left' && down == down'))) ∧ _
  generalize (zEq b0 c0 s0 t0 && zEq b1 c1 s1 t1) = q at *
  go_enter Try.func18, Try.ntmps18
  go_wp2
  all_goals go_ret
  all_goals (refine ⟨ret_bool ?_, bbox (bbox (Below.refl _ _) _) _⟩; simp_all)
end Go.Proofs.Ytehgnlocekcakaa
