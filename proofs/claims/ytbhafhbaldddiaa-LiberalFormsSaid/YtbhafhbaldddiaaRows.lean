/-
  No cell of these rows narrows 'for every input' (looked for: loops, veiled, ifaces, maps, wideKeys, modest, calm, conditions, laid).
  DERIVED. THE GIVEN ROWS OF THIS SEAT. 3 by the template 'for every input the law returns true; each argument reads behind the call as it read before'; 0 by the template 'total and deterministic' (their statements: YtbhafhbaldddiaaTotals.lean).
  GIVEN WITH THE SEED: the statements are not yours to turn. If you find one false, say at which input.
  Laid BY PROGRAM, IN A SANDBOX (cutbox-rows.mjs): the forced cells as the released guide's own fill.sh prints them over the translation 3f76cb87ddfbf198… (all of the seat's roots in one cut). By AI agents, Wed Nov 11 2026. No macro, syntax, notation, axiom, sorry.
-/
import Derived.Test.YtbhafhbaldddiaaChecked
import GoSem.Claim
import GoSem.ClaimJoined
import GoSem.ClaimMapViews
import Derived.JoinedTies
import Derived.KernelRfl
namespace Go.Proofs.Ytbhafhbaldddiaa
/- THE CELL 'sum', in the pinned program and in every row, IS THE sha256 OF THE DUMP (.gsa) THAT YtbhafhbaldddiaaProg.lean LOADS. Nothing in Lean hashes anything: it is a label: what it is worth is what the hold of that sum in a sandbox is worth. -/
noncomputable def Try.pinned : Pinned := { name := "ytbhafhbaldddiaa", sum := "3f76cb87ddfbf198dd6c7162e12ae58f45ed0c265a9caed2b08c804ae6f8c59f", checked := Try.checked }
namespace Rows
def none {H : Type} : Left H := { results := [], args := [] }

/-- 'cardinglaw21.LiberalCase': WHATEVER THE INPUT: true; the input reads as it did. -/
def liberalCaseSpec : ChangeSpec := { name := "liberalCase", fn := fun _ => fun
  | [d1, d2, d3] => { results := [.lit (.bool true)], args := [d1, d2, d3] }
  | _ => none }
def liberalCaseRow : OpenClaim := { program := "ytbhafhbaldddiaa", sum := "3f76cb87ddfbf198dd6c7162e12ae58f45ed0c265a9caed2b08c804ae6f8c59f", func := "carding/cardinglaw21.LiberalCase", spec := "liberalCase", unfollowed := true, recurses := true, apart := false }
def LiberalCaseSaid : Prop := liberalCaseRow.holds Try.pinned (OpenSpec.ofChange liberalCaseSpec)

/-- ITS FALSE NEIGHBOUR: 'it returns false'. Refute it at one input. -/
def liberalCaseWrong : ChangeSpec := { name := "liberalCase", fn := fun _ => fun
  | [d1, d2, d3] => { results := [.lit (.bool false)], args := [d1, d2, d3] }
  | _ => none }
def LiberalCaseWrongFalsely : Prop := liberalCaseRow.holds Try.pinned (OpenSpec.ofChange liberalCaseWrong)

/-- 'cardinglaw21.LiberalForms': WHATEVER THE INPUT: true; the input reads as it did. -/
def liberalFormsSpec : ChangeSpec := { name := "liberalForms", fn := fun _ => fun
  | [d] => { results := [.lit (.bool true)], args := [d] }
  | _ => none }
def liberalFormsRow : OpenClaim := { program := "ytbhafhbaldddiaa", sum := "3f76cb87ddfbf198dd6c7162e12ae58f45ed0c265a9caed2b08c804ae6f8c59f", func := "carding/cardinglaw21.LiberalForms", spec := "liberalForms", unfollowed := true, recurses := true, apart := false }
def LiberalFormsSaid : Prop := liberalFormsRow.holds Try.pinned (OpenSpec.ofChange liberalFormsSpec)

/-- ITS FALSE NEIGHBOUR: 'it returns false'. Refute it at one input. -/
def liberalFormsWrong : ChangeSpec := { name := "liberalForms", fn := fun _ => fun
  | [d] => { results := [.lit (.bool false)], args := [d] }
  | _ => none }
def LiberalFormsWrongFalsely : Prop := liberalFormsRow.holds Try.pinned (OpenSpec.ofChange liberalFormsWrong)

/-- 'cardinglaw21.LiberalPieces': WHATEVER THE INPUT: true; the input reads as it did. -/
def liberalPiecesSpec : ChangeSpec := { name := "liberalPieces", fn := fun _ => fun
  | [d1, d2] => { results := [.lit (.bool true)], args := [d1, d2] }
  | _ => none }
def liberalPiecesRow : OpenClaim := { program := "ytbhafhbaldddiaa", sum := "3f76cb87ddfbf198dd6c7162e12ae58f45ed0c265a9caed2b08c804ae6f8c59f", func := "carding/cardinglaw21.LiberalPieces", spec := "liberalPieces", unfollowed := true, recurses := true, apart := false }
def LiberalPiecesSaid : Prop := liberalPiecesRow.holds Try.pinned (OpenSpec.ofChange liberalPiecesSpec)

/-- ITS FALSE NEIGHBOUR: 'it returns false'. Refute it at one input. -/
def liberalPiecesWrong : ChangeSpec := { name := "liberalPieces", fn := fun _ => fun
  | [d1, d2] => { results := [.lit (.bool false)], args := [d1, d2] }
  | _ => none }
def LiberalPiecesWrongFalsely : Prop := liberalPiecesRow.holds Try.pinned (OpenSpec.ofChange liberalPiecesWrong)

/- THE SECOND FORM. 'bulk': how many values and letters a reading holds, each counted each time it is reached (what is shared counts as often as it is met; a slice's spare places count too). A statement '..UptoSaid' is the law's where the arguments, and the package variables that the reading takes, are together of bulk at most 1048576: NARROWER than '..Said'. Prove '..Said' where nothing that the law and all that it calls make is longer than what came in: it says more and counts as full. Else prove '..UptoSaid'. A law counts once. -/
mutual
def uptoBulk {H : Type} : DataW H → Nat
  | .lit (.string bytes) => bytes.length + 1
  | .lit _ => 1
  | .nil => 1
  | .ptr d => uptoBulk d + 1
  | .slice elems spare => uptoBulkAll elems + uptoBulkAll spare + 1
  | .agg parts => uptoBulkAll parts + 1
  | .iface _ d => uptoBulk d + 1
  | .map entries => uptoBulkEntries entries + 1
  | .held _ => 1
def uptoBulkAll {H : Type} : List (DataW H) → Nat
  | [] => 0
  | d :: r => uptoBulk d + uptoBulkAll r
def uptoBulkEntries {H : Type} : List (Lit × DataW H) → Nat
  | [] => 0
  | x :: r => uptoBulkEntry x + uptoBulkEntries r
def uptoBulkEntry {H : Type} : Lit × DataW H → Nat
  | (.string bytes, d) => bytes.length + uptoBulk d + 1
  | (_, d) => uptoBulk d + 1
 end
def uptoSmall : (H : Type) → List (DataW H) → Bool := fun _ ds => decide (uptoBulkAll ds ≤ 1048576)
def OpenSpec.upto (s : _root_.Go.ChangeSpec) : _root_.Go.OpenSpec := { _root_.Go.OpenSpec.ofChange s with cond := some uptoSmall }

/-- 'cardinglaw21.LiberalCase', WHERE WHAT IT READS IS OF BULK AT MOST 1048576: true; the input reads as it did. -/
def liberalCaseUptoRow : OpenClaim := { program := "ytbhafhbaldddiaa", sum := "3f76cb87ddfbf198dd6c7162e12ae58f45ed0c265a9caed2b08c804ae6f8c59f", func := "carding/cardinglaw21.LiberalCase", spec := "liberalCase", unfollowed := true, recurses := true, apart := false, narrowed := true }
def LiberalCaseUptoSaid : Prop := liberalCaseUptoRow.holds Try.pinned (OpenSpec.upto liberalCaseSpec)

/-- 'cardinglaw21.LiberalForms', WHERE WHAT IT READS IS OF BULK AT MOST 1048576: true; the input reads as it did. -/
def liberalFormsUptoRow : OpenClaim := { program := "ytbhafhbaldddiaa", sum := "3f76cb87ddfbf198dd6c7162e12ae58f45ed0c265a9caed2b08c804ae6f8c59f", func := "carding/cardinglaw21.LiberalForms", spec := "liberalForms", unfollowed := true, recurses := true, apart := false, narrowed := true }
def LiberalFormsUptoSaid : Prop := liberalFormsUptoRow.holds Try.pinned (OpenSpec.upto liberalFormsSpec)

/-- 'cardinglaw21.LiberalPieces', WHERE WHAT IT READS IS OF BULK AT MOST 1048576: true; the input reads as it did. -/
def liberalPiecesUptoRow : OpenClaim := { program := "ytbhafhbaldddiaa", sum := "3f76cb87ddfbf198dd6c7162e12ae58f45ed0c265a9caed2b08c804ae6f8c59f", func := "carding/cardinglaw21.LiberalPieces", spec := "liberalPieces", unfollowed := true, recurses := true, apart := false, narrowed := true }
def LiberalPiecesUptoSaid : Prop := liberalPiecesUptoRow.holds Try.pinned (OpenSpec.upto liberalPiecesSpec)

end Rows
end Go.Proofs.Ytbhafhbaldddiaa
