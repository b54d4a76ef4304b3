/-
  No cell of these rows narrows 'for every input' (looked for: loops, veiled, ifaces, maps, wideKeys, modest, calm, conditions, laid).
  DERIVED. THE GIVEN ROWS OF THIS SEAT. 6 by the template 'for every input the law returns true; each argument reads behind the call as it read before'; 0 by the template 'total and deterministic' (their statements: YtconknlaaleckaaTotals.lean).
  GIVEN WITH THE SEED: the statements are not yours to turn. If you find one false, say at which input.
  Laid BY PROGRAM, IN A SANDBOX (cutbox-rows.mjs): the forced cells as the released guide's own fill.sh prints them over the translation 0b3434742d0cb6ff… (all of the seat's roots in one cut). By AI agents, Wed Nov 11 2026. No macro, syntax, notation, axiom, sorry.
-/
import Derived.Test.YtconknlaaleckaaChecked
import GoSem.Claim
import GoSem.ClaimJoined
import GoSem.ClaimMapViews
import Derived.JoinedTies
import Derived.KernelRfl
namespace Go.Proofs.Ytconknlaaleckaa
/- THE CELL 'sum', in the pinned program and in every row, IS THE sha256 OF THE DUMP (.gsa) THAT YtconknlaaleckaaProg.lean LOADS. Nothing in Lean hashes anything: it is a label: what it is worth is what the hold of that sum in a sandbox is worth. -/
noncomputable def Try.pinned : Pinned := { name := "ytconknlaaleckaa", sum := "0b3434742d0cb6ff5d70037e241c7bd2a62adaee0dc8802fbc8e7bead05549a6", checked := Try.checked }
namespace Rows
def none {H : Type} : Left H := { results := [], args := [] }

/-- 'cardinglaw18.CivilYears': WHATEVER THE INPUT: true; the input reads as it did. -/
def civilYearsSpec : ChangeSpec := { name := "civilYears", fn := fun _ => fun
  | [d1, d2, d3] => { results := [.lit (.bool true)], args := [d1, d2, d3] }
  | _ => none }
def civilYearsRow : OpenClaim := { program := "ytconknlaaleckaa", sum := "0b3434742d0cb6ff5d70037e241c7bd2a62adaee0dc8802fbc8e7bead05549a6", func := "carding/cardinglaw18.CivilYears", spec := "civilYears", apart := false }
def CivilYearsSaid : Prop := civilYearsRow.holds Try.pinned (OpenSpec.ofChange civilYearsSpec)

/-- ITS FALSE NEIGHBOUR: 'it returns false'. Refute it at one input. -/
def civilYearsWrong : ChangeSpec := { name := "civilYears", fn := fun _ => fun
  | [d1, d2, d3] => { results := [.lit (.bool false)], args := [d1, d2, d3] }
  | _ => none }
def CivilYearsWrongFalsely : Prop := civilYearsRow.holds Try.pinned (OpenSpec.ofChange civilYearsWrong)

/-- 'cardinglaw18.CivilTells': WHATEVER THE INPUT: true; the input reads as it did. -/
def civilTellsSpec : ChangeSpec := { name := "civilTells", fn := fun _ => fun
  | [d1, d2, d3, d4] => { results := [.lit (.bool true)], args := [d1, d2, d3, d4] }
  | _ => none }
def civilTellsRow : OpenClaim := { program := "ytconknlaaleckaa", sum := "0b3434742d0cb6ff5d70037e241c7bd2a62adaee0dc8802fbc8e7bead05549a6", func := "carding/cardinglaw18.CivilTells", spec := "civilTells", apart := false }
def CivilTellsSaid : Prop := civilTellsRow.holds Try.pinned (OpenSpec.ofChange civilTellsSpec)

/-- ITS FALSE NEIGHBOUR: 'it returns false'. Refute it at one input. -/
def civilTellsWrong : ChangeSpec := { name := "civilTells", fn := fun _ => fun
  | [d1, d2, d3, d4] => { results := [.lit (.bool false)], args := [d1, d2, d3, d4] }
  | _ => none }
def CivilTellsWrongFalsely : Prop := civilTellsRow.holds Try.pinned (OpenSpec.ofChange civilTellsWrong)

/-- 'cardinglaw18.CivilCounts': WHATEVER THE INPUT: true; the input reads as it did. -/
def civilCountsSpec : ChangeSpec := { name := "civilCounts", fn := fun _ => fun
  | [d1, d2, d3, d4] => { results := [.lit (.bool true)], args := [d1, d2, d3, d4] }
  | _ => none }
def civilCountsRow : OpenClaim := { program := "ytconknlaaleckaa", sum := "0b3434742d0cb6ff5d70037e241c7bd2a62adaee0dc8802fbc8e7bead05549a6", func := "carding/cardinglaw18.CivilCounts", spec := "civilCounts", apart := false }
def CivilCountsSaid : Prop := civilCountsRow.holds Try.pinned (OpenSpec.ofChange civilCountsSpec)

/-- ITS FALSE NEIGHBOUR: 'it returns false'. Refute it at one input. -/
def civilCountsWrong : ChangeSpec := { name := "civilCounts", fn := fun _ => fun
  | [d1, d2, d3, d4] => { results := [.lit (.bool false)], args := [d1, d2, d3, d4] }
  | _ => none }
def CivilCountsWrongFalsely : Prop := civilCountsRow.holds Try.pinned (OpenSpec.ofChange civilCountsWrong)

/-- 'cardinglaw18.CivilBack': WHATEVER THE INPUT: true; the input reads as it did. -/
def civilBackSpec : ChangeSpec := { name := "civilBack", fn := fun _ => fun
  | [d1, d2, d3, d4] => { results := [.lit (.bool true)], args := [d1, d2, d3, d4] }
  | _ => none }
def civilBackRow : OpenClaim := { program := "ytconknlaaleckaa", sum := "0b3434742d0cb6ff5d70037e241c7bd2a62adaee0dc8802fbc8e7bead05549a6", func := "carding/cardinglaw18.CivilBack", spec := "civilBack", apart := false }
def CivilBackSaid : Prop := civilBackRow.holds Try.pinned (OpenSpec.ofChange civilBackSpec)

/-- ITS FALSE NEIGHBOUR: 'it returns false'. Refute it at one input. -/
def civilBackWrong : ChangeSpec := { name := "civilBack", fn := fun _ => fun
  | [d1, d2, d3, d4] => { results := [.lit (.bool false)], args := [d1, d2, d3, d4] }
  | _ => none }
def CivilBackWrongFalsely : Prop := civilBackRow.holds Try.pinned (OpenSpec.ofChange civilBackWrong)

/-- 'cardinglaw18.CivilSeconds': WHATEVER THE INPUT: true; the input reads as it did. -/
def civilSecondsSpec : ChangeSpec := { name := "civilSeconds", fn := fun _ => fun
  | [d1, d2, d3] => { results := [.lit (.bool true)], args := [d1, d2, d3] }
  | _ => none }
def civilSecondsRow : OpenClaim := { program := "ytconknlaaleckaa", sum := "0b3434742d0cb6ff5d70037e241c7bd2a62adaee0dc8802fbc8e7bead05549a6", func := "carding/cardinglaw18.CivilSeconds", spec := "civilSeconds", apart := false }
def CivilSecondsSaid : Prop := civilSecondsRow.holds Try.pinned (OpenSpec.ofChange civilSecondsSpec)

/-- ITS FALSE NEIGHBOUR: 'it returns false'. Refute it at one input. -/
def civilSecondsWrong : ChangeSpec := { name := "civilSeconds", fn := fun _ => fun
  | [d1, d2, d3] => { results := [.lit (.bool false)], args := [d1, d2, d3] }
  | _ => none }
def CivilSecondsWrongFalsely : Prop := civilSecondsRow.holds Try.pinned (OpenSpec.ofChange civilSecondsWrong)

/-- 'cardinglaw18.CivilMoves': WHATEVER THE INPUT: true; the input reads as it did. -/
def civilMovesSpec : ChangeSpec := { name := "civilMoves", fn := fun _ => fun
  | [d1, d2, d3] => { results := [.lit (.bool true)], args := [d1, d2, d3] }
  | _ => none }
def civilMovesRow : OpenClaim := { program := "ytconknlaaleckaa", sum := "0b3434742d0cb6ff5d70037e241c7bd2a62adaee0dc8802fbc8e7bead05549a6", func := "carding/cardinglaw18.CivilMoves", spec := "civilMoves", apart := false }
def CivilMovesSaid : Prop := civilMovesRow.holds Try.pinned (OpenSpec.ofChange civilMovesSpec)

/-- ITS FALSE NEIGHBOUR: 'it returns false'. Refute it at one input. -/
def civilMovesWrong : ChangeSpec := { name := "civilMoves", fn := fun _ => fun
  | [d1, d2, d3] => { results := [.lit (.bool false)], args := [d1, d2, d3] }
  | _ => none }
def CivilMovesWrongFalsely : Prop := civilMovesRow.holds Try.pinned (OpenSpec.ofChange civilMovesWrong)

/- THE SECOND FORM. 'bulk': how many values and letters a reading holds, each counted each time it is reached (what is shared counts as often as it is met; a slice's spare places count too). A statement '..UptoSaid' is the law's where the arguments, and the package variables that the reading takes, are together of bulk at most 1048576: NARROWER than '..Said'. Prove '..Said' where nothing that the law and all that it calls make is longer than what came in: it says more and counts as full. Else prove '..UptoSaid'. A law counts once. -/
mutual
def uptoBulk {H : Type} : DataW H → Nat
  | .lit (.string bytes) => bytes.length + 1
  | .lit _ => 1
  | .nil => 1
  | .ptr d => uptoBulk d + 1
  | .slice elems spare => uptoBulkAll elems + uptoBulkAll spare + 1
  | .agg parts => uptoBulkAll parts + 1
  | .iface _ d => uptoBulk d + 1
  | .map entries => uptoBulkEntries entries + 1
  | .held _ => 1
def uptoBulkAll {H : Type} : List (DataW H) → Nat
  | [] => 0
  | d :: r => uptoBulk d + uptoBulkAll r
def uptoBulkEntries {H : Type} : List (Lit × DataW H) → Nat
  | [] => 0
  | x :: r => uptoBulkEntry x + uptoBulkEntries r
def uptoBulkEntry {H : Type} : Lit × DataW H → Nat
  | (.string bytes, d) => bytes.length + uptoBulk d + 1
  | (_, d) => uptoBulk d + 1
 end
def uptoSmall : (H : Type) → List (DataW H) → Bool := fun _ ds => decide (uptoBulkAll ds ≤ 1048576)
def OpenSpec.upto (s : _root_.Go.ChangeSpec) : _root_.Go.OpenSpec := { _root_.Go.OpenSpec.ofChange s with cond := some uptoSmall }

/-- 'cardinglaw18.CivilYears', WHERE WHAT IT READS IS OF BULK AT MOST 1048576: true; the input reads as it did. -/
def civilYearsUptoRow : OpenClaim := { program := "ytconknlaaleckaa", sum := "0b3434742d0cb6ff5d70037e241c7bd2a62adaee0dc8802fbc8e7bead05549a6", func := "carding/cardinglaw18.CivilYears", spec := "civilYears", apart := false, narrowed := true }
def CivilYearsUptoSaid : Prop := civilYearsUptoRow.holds Try.pinned (OpenSpec.upto civilYearsSpec)

/-- 'cardinglaw18.CivilTells', WHERE WHAT IT READS IS OF BULK AT MOST 1048576: true; the input reads as it did. -/
def civilTellsUptoRow : OpenClaim := { program := "ytconknlaaleckaa", sum := "0b3434742d0cb6ff5d70037e241c7bd2a62adaee0dc8802fbc8e7bead05549a6", func := "carding/cardinglaw18.CivilTells", spec := "civilTells", apart := false, narrowed := true }
def CivilTellsUptoSaid : Prop := civilTellsUptoRow.holds Try.pinned (OpenSpec.upto civilTellsSpec)

/-- 'cardinglaw18.CivilCounts', WHERE WHAT IT READS IS OF BULK AT MOST 1048576: true; the input reads as it did. -/
def civilCountsUptoRow : OpenClaim := { program := "ytconknlaaleckaa", sum := "0b3434742d0cb6ff5d70037e241c7bd2a62adaee0dc8802fbc8e7bead05549a6", func := "carding/cardinglaw18.CivilCounts", spec := "civilCounts", apart := false, narrowed := true }
def CivilCountsUptoSaid : Prop := civilCountsUptoRow.holds Try.pinned (OpenSpec.upto civilCountsSpec)

/-- 'cardinglaw18.CivilBack', WHERE WHAT IT READS IS OF BULK AT MOST 1048576: true; the input reads as it did. -/
def civilBackUptoRow : OpenClaim := { program := "ytconknlaaleckaa", sum := "0b3434742d0cb6ff5d70037e241c7bd2a62adaee0dc8802fbc8e7bead05549a6", func := "carding/cardinglaw18.CivilBack", spec := "civilBack", apart := false, narrowed := true }
def CivilBackUptoSaid : Prop := civilBackUptoRow.holds Try.pinned (OpenSpec.upto civilBackSpec)

/-- 'cardinglaw18.CivilSeconds', WHERE WHAT IT READS IS OF BULK AT MOST 1048576: true; the input reads as it did. -/
def civilSecondsUptoRow : OpenClaim := { program := "ytconknlaaleckaa", sum := "0b3434742d0cb6ff5d70037e241c7bd2a62adaee0dc8802fbc8e7bead05549a6", func := "carding/cardinglaw18.CivilSeconds", spec := "civilSeconds", apart := false, narrowed := true }
def CivilSecondsUptoSaid : Prop := civilSecondsUptoRow.holds Try.pinned (OpenSpec.upto civilSecondsSpec)

/-- 'cardinglaw18.CivilMoves', WHERE WHAT IT READS IS OF BULK AT MOST 1048576: true; the input reads as it did. -/
def civilMovesUptoRow : OpenClaim := { program := "ytconknlaaleckaa", sum := "0b3434742d0cb6ff5d70037e241c7bd2a62adaee0dc8802fbc8e7bead05549a6", func := "carding/cardinglaw18.CivilMoves", spec := "civilMoves", apart := false, narrowed := true }
def CivilMovesUptoSaid : Prop := civilMovesUptoRow.holds Try.pinned (OpenSpec.upto civilMovesSpec)

end Rows
end Go.Proofs.Ytconknlaaleckaa
