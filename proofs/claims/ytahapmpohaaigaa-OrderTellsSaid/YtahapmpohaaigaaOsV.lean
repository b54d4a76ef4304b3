/- Appending a row of ints that may be nil or empty to a row of one's own. -/
import Derived.Test.YtahapmpohaaigaaOsO
namespace Go.Proofs.Ytahapmpohaaigaa
open Go.RowKit
open Go
set_option linter.unusedVariables false
theorem app_none {W : World} {base : Nat} {v : Value} {S : List Int} (h : OwnL W base v S) (ty : TypeId) (d : Nat) : (Builtin.append_ #[22, 22] ty #[v, .slice none 0 d]).run Try.prog W = .ok v W := by
  obtain ⟨i0, hi, hz0, hz1, hz2⟩ := info_parts infoI
  rcases h.2 with ⟨rfl, hn⟩ | ⟨g', cap', cur, rfl, hb, hg, hle, _⟩
  · simp [Builtin.append_, run_underlying Try.underlying22, sizeOf, typeInfo, hi, Builtin.lenOf, Builtin.firstCells]
  · simp [Builtin.append_, run_underlying Try.underlying22, sizeOf, typeInfo, hi, Builtin.lenOf, Builtin.firstCells, hle, storeCells]
theorem run_app {W : World} {base : Nat} {v : Value} {S M : List Int} (h : OwnL W base v S) (ty : TypeId) {q : Option Addr} {d : Nat} (hM : RowP W q d M) (b1 : S.length + M.length ≤ 10000000) (hb : base ≤ W.heap.size) :
    ∃ v' W', (Builtin.append_ #[22, 22] ty #[v, .slice q M.length d]).run Try.prog W = .ok v' W' ∧ OwnL W' base v' (S ++ M) ∧ W.grownBy W' v.ownBlock := by
  obtain ⟨i0, hi, hz0, hz1, hz2⟩ := info_parts infoI
  by_cases hn : M = []
  · subst hn
    cases q with
    | none => exact ⟨v, W, app_none h ty d, by simpa using h, gb_refl _ _⟩
    | some ad =>
      obtain ⟨v', W', hr, h2, h3, _⟩ := run_append_own_at (P := Try.prog) W base 22 ty 3 i0 (.int .i64 0) 1 8 Try.underlying22 hi hz0 hz1 hz2 rfl (by decide) v S.length (S.map encI) h ad 0 d [] rfl (fun j u hj => by simp at hj) (fun u hu => by cases hu) (by unfold maxLen; simp at b1 ⊢; omega) (by simp at b1 ⊢; omega) hb
      exact ⟨v', W', hr, by unfold OwnL; simpa using h2, h3⟩
  · obtain ⟨g, o, rfl, hI⟩ := hM.2.resolve_left hn
    obtain ⟨hnews, hone, hlen⟩ := row_news hI
    obtain ⟨v', W', hr, h2, h3, _⟩ := run_append_own_at (P := Try.prog) W base 22 ty 3 i0 (.int .i64 0) 1 8 Try.underlying22 hi hz0 hz1 hz2 rfl (by decide) v S.length (S.map encI) h ⟨g, o, none⟩ M.length d (M.map encI) hlen hnews hone (by unfold maxLen; omega) (by omega) hb
    exact ⟨v', W', hr, by unfold OwnL; rw [List.length_append, List.map_append]; exact h2, h3⟩
theorem wpList_app {ops : Array Oper} {rest : List Oper} {o : Oper} {a : Act} {Q : Exit → Act → World → Prop} (w : World) (hg : o.guard = none) (s x : Operand)
    (hop : o.op = Op.call { callee := .builtin .append, args := #[s, x], argTypes := #[22, 22] }) (base : Nat) (v : Value) (S : List Int) (hs : a.eval s = v) (hown : OwnL w base v S)
    (q : Option Addr) (n d : Nat) (M : List Int) (hn : M.length = n) (hx : a.eval x = .slice q n d) (hM : RowP w q d M) (b1 : S.length + M.length ≤ 10000000) (hb : base ≤ w.heap.size)
    (h : ∀ v' w', OwnL w' base v' (S ++ M) → w.grownBy w' v.ownBlock → wpList Try.prog ops Q rest (a.put o.dst v') w') : wpList Try.prog ops Q (o :: rest) a w := by
  subst hn
  refine wpList_plain hg fun K hK => ?_
  obtain ⟨v', w', hrun, h2, h3⟩ := run_app hown o.type hM b1 hb
  unfold Oper.wp
  simp [execOp, hop, resolve, invoke, builtin, hs, hx, hrun, Result.andThen]
  exact hK _ _ (h v' w' h2 h3)
theorem own_empty (w : World) : OwnL (w.alloc (.cells #[] 3)) w.heap.size (.slice (some ⟨w.heap.size, 0, none⟩) 0 0) [] :=
  ⟨rfl, Or.inr ⟨w.heap.size, 0, #[], rfl, Nat.le_refl _, World.alloc_heap_new _ _, Nat.le_refl _, Nat.zero_le _, rfl, rfl⟩⟩
/-- A row of one's own that has grown: nothing old has turned. -/
theorem own_grown {W W' : World} {base n : Nat} {v : Value} {S : List Int} (h : OwnL W base v S) (hg : W.grownBy W' v.ownBlock) (hn : n ≤ base) (hb : base ≤ W.heap.size) : Below n W W' :=
  (Below.refl n W).grown hg (by omega) (fun r e => by
    have := ((row_shape h).2 r e).1
    omega)
end Go.Proofs.Ytahapmpohaaigaa
