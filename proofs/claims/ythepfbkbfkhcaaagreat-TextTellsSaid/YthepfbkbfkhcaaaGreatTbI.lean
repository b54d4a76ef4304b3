/- The walks of the tables' statements. -/
import Derived.Test.YthepfbkbfkhcaaaGreatTbH
namespace Go.Proofs.YthepfbkbfkhcaaaGreat
open Go.RowKit
open Go
set_option linter.unusedVariables false
def LawTrue (w : World) (e : Ending) (w' : World) : Prop := e = .returned (.bool true) ∧ Below w.heap.size w w'
theorem wk1 : madeV (Tb.madeF 7879) = .tuple #[.int .i64 7865, .int .i64 770, .bool true] := by kernel_rfl
theorem wk2 : madeV (Tb.madeF 44033) = .tuple #[.int .i64 44032, .int .i64 4520, .bool true] := by kernel_rfl
theorem wk3 : Tb.classI 769 = 230 := by kernel_rfl
theorem small64 {a : Int} (h0 : -100000000 ≤ a) (h1 : a ≤ 100000000) : Is64 a := by unfold Is64; omega
end Go.Proofs.YthepfbkbfkhcaaaGreat
