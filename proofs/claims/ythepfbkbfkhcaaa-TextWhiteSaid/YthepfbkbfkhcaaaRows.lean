/-
  No cell of these rows narrows 'for every input' (looked for: loops, veiled, ifaces, maps, wideKeys, modest, calm, conditions, laid).
  DERIVED. THE GIVEN ROWS OF THIS SEAT. 5 by the template 'for every input the law returns true; each argument reads behind the call as it read before'; 0 by the template 'total and deterministic' (their statements: YthepfbkbfkhcaaaTotals.lean).
  GIVEN WITH THE SEED: the statements are not yours to turn. If you find one false, say at which input.
  Laid BY PROGRAM, IN A SANDBOX (cutbox-rows.mjs): the forced cells as the released guide's own fill.sh prints them over the translation 22393ff24000a438… (all of the seat's roots in one cut). By AI agents, Wed Nov 11 2026. No macro, syntax, notation, axiom, sorry.
-/
import Derived.Test.YthepfbkbfkhcaaaChecked
import GoSem.Claim
import GoSem.ClaimJoined
import GoSem.ClaimMapViews
import Derived.JoinedTies
import Derived.KernelRfl
namespace Go.Proofs.Ythepfbkbfkhcaaa
/- THE CELL 'sum', in the pinned program and in every row, IS THE sha256 OF THE DUMP (.gsa) THAT YthepfbkbfkhcaaaProg.lean LOADS. Nothing in Lean hashes anything: it is a label: what it is worth is what the hold of that sum in a sandbox is worth. -/
noncomputable def Try.pinned : Pinned := { name := "ythepfbkbfkhcaaa", sum := "22393ff24000a4389247de1ca92f236dc919f01f235ab4f142df7e175074a847", checked := Try.checked }
namespace Rows
def none {H : Type} : Left H := { results := [], args := [] }

/-- 'cardinglaw22.TextTurns': WHATEVER THE INPUT: true; the input reads as it did. -/
def textTurnsSpec : ChangeSpec := { name := "textTurns", fn := fun _ => fun
  | [d] => { results := [.lit (.bool true)], args := [d] }
  | _ => none }
def textTurnsRow : OpenClaim := { program := "ythepfbkbfkhcaaa", sum := "22393ff24000a4389247de1ca92f236dc919f01f235ab4f142df7e175074a847", func := "carding/cardinglaw22.TextTurns", spec := "textTurns", inPlace := ["internal/abi.NoEscape"], unfollowed := true, recurses := true, plainKeys := false, apart := false }
def TextTurnsSaid : Prop := textTurnsRow.holds Try.pinned (OpenSpec.ofChange textTurnsSpec)

/-- ITS FALSE NEIGHBOUR: 'it returns false'. Refute it at one input. -/
def textTurnsWrong : ChangeSpec := { name := "textTurns", fn := fun _ => fun
  | [d] => { results := [.lit (.bool false)], args := [d] }
  | _ => none }
def TextTurnsWrongFalsely : Prop := textTurnsRow.holds Try.pinned (OpenSpec.ofChange textTurnsWrong)

/-- 'cardinglaw22.TextWhite': WHATEVER THE INPUT: true; the input reads as it did. -/
def textWhiteSpec : ChangeSpec := { name := "textWhite", fn := fun _ => fun
  | [d1, d2, d3] => { results := [.lit (.bool true)], args := [d1, d2, d3] }
  | _ => none }
def textWhiteRow : OpenClaim := { program := "ythepfbkbfkhcaaa", sum := "22393ff24000a4389247de1ca92f236dc919f01f235ab4f142df7e175074a847", func := "carding/cardinglaw22.TextWhite", spec := "textWhite", inPlace := ["internal/abi.NoEscape"], unfollowed := true, recurses := true, plainKeys := false, apart := false }
def TextWhiteSaid : Prop := textWhiteRow.holds Try.pinned (OpenSpec.ofChange textWhiteSpec)

/-- ITS FALSE NEIGHBOUR: 'it returns false'. Refute it at one input. -/
def textWhiteWrong : ChangeSpec := { name := "textWhite", fn := fun _ => fun
  | [d1, d2, d3] => { results := [.lit (.bool false)], args := [d1, d2, d3] }
  | _ => none }
def TextWhiteWrongFalsely : Prop := textWhiteRow.holds Try.pinned (OpenSpec.ofChange textWhiteWrong)

/-- 'cardinglaw22.TextCut': WHATEVER THE INPUT: true; the input reads as it did. -/
def textCutSpec : ChangeSpec := { name := "textCut", fn := fun _ => fun
  | [d1, d2] => { results := [.lit (.bool true)], args := [d1, d2] }
  | _ => none }
def textCutRow : OpenClaim := { program := "ythepfbkbfkhcaaa", sum := "22393ff24000a4389247de1ca92f236dc919f01f235ab4f142df7e175074a847", func := "carding/cardinglaw22.TextCut", spec := "textCut", inPlace := ["internal/abi.NoEscape"], unfollowed := true, recurses := true, plainKeys := false, apart := false }
def TextCutSaid : Prop := textCutRow.holds Try.pinned (OpenSpec.ofChange textCutSpec)

/-- ITS FALSE NEIGHBOUR: 'it returns false'. Refute it at one input. -/
def textCutWrong : ChangeSpec := { name := "textCut", fn := fun _ => fun
  | [d1, d2] => { results := [.lit (.bool false)], args := [d1, d2] }
  | _ => none }
def TextCutWrongFalsely : Prop := textCutRow.holds Try.pinned (OpenSpec.ofChange textCutWrong)

/-- 'cardinglaw22.TextOnce': WHATEVER THE INPUT: true; the input reads as it did. -/
def textOnceSpec : ChangeSpec := { name := "textOnce", fn := fun _ => fun
  | [d] => { results := [.lit (.bool true)], args := [d] }
  | _ => none }
def textOnceRow : OpenClaim := { program := "ythepfbkbfkhcaaa", sum := "22393ff24000a4389247de1ca92f236dc919f01f235ab4f142df7e175074a847", func := "carding/cardinglaw22.TextOnce", spec := "textOnce", inPlace := ["internal/abi.NoEscape"], unfollowed := true, recurses := true, plainKeys := false, apart := false }
def TextOnceSaid : Prop := textOnceRow.holds Try.pinned (OpenSpec.ofChange textOnceSpec)

/-- ITS FALSE NEIGHBOUR: 'it returns false'. Refute it at one input. -/
def textOnceWrong : ChangeSpec := { name := "textOnce", fn := fun _ => fun
  | [d] => { results := [.lit (.bool false)], args := [d] }
  | _ => none }
def TextOnceWrongFalsely : Prop := textOnceRow.holds Try.pinned (OpenSpec.ofChange textOnceWrong)

/-- 'cardinglaw22.TextJoins': WHATEVER THE INPUT: true; the input reads as it did. -/
def textJoinsSpec : ChangeSpec := { name := "textJoins", fn := fun _ => fun
  | [d1, d2] => { results := [.lit (.bool true)], args := [d1, d2] }
  | _ => none }
def textJoinsRow : OpenClaim := { program := "ythepfbkbfkhcaaa", sum := "22393ff24000a4389247de1ca92f236dc919f01f235ab4f142df7e175074a847", func := "carding/cardinglaw22.TextJoins", spec := "textJoins", inPlace := ["internal/abi.NoEscape"], unfollowed := true, recurses := true, plainKeys := false, apart := false }
def TextJoinsSaid : Prop := textJoinsRow.holds Try.pinned (OpenSpec.ofChange textJoinsSpec)

/-- ITS FALSE NEIGHBOUR: 'it returns false'. Refute it at one input. -/
def textJoinsWrong : ChangeSpec := { name := "textJoins", fn := fun _ => fun
  | [d1, d2] => { results := [.lit (.bool false)], args := [d1, d2] }
  | _ => none }
def TextJoinsWrongFalsely : Prop := textJoinsRow.holds Try.pinned (OpenSpec.ofChange textJoinsWrong)

/- THE SECOND FORM. 'bulk': how many values and letters a reading holds, each counted each time it is reached (what is shared counts as often as it is met; a slice's spare places count too). A statement '..UptoSaid' is the law's where the arguments, and the package variables that the reading takes, are together of bulk at most 1048576: NARROWER than '..Said'. Prove '..Said' where nothing that the law and all that it calls make is longer than what came in: it says more and counts as full. Else prove '..UptoSaid'. A law counts once. -/
mutual
def uptoBulk {H : Type} : DataW H → Nat
  | .lit (.string bytes) => bytes.length + 1
  | .lit _ => 1
  | .nil => 1
  | .ptr d => uptoBulk d + 1
  | .slice elems spare => uptoBulkAll elems + uptoBulkAll spare + 1
  | .agg parts => uptoBulkAll parts + 1
  | .iface _ d => uptoBulk d + 1
  | .map entries => uptoBulkEntries entries + 1
  | .held _ => 1
def uptoBulkAll {H : Type} : List (DataW H) → Nat
  | [] => 0
  | d :: r => uptoBulk d + uptoBulkAll r
def uptoBulkEntries {H : Type} : List (Lit × DataW H) → Nat
  | [] => 0
  | x :: r => uptoBulkEntry x + uptoBulkEntries r
def uptoBulkEntry {H : Type} : Lit × DataW H → Nat
  | (.string bytes, d) => bytes.length + uptoBulk d + 1
  | (_, d) => uptoBulk d + 1
 end
def uptoSmall : (H : Type) → List (DataW H) → Bool := fun _ ds => decide (uptoBulkAll ds ≤ 1048576)
def OpenSpec.upto (s : _root_.Go.ChangeSpec) : _root_.Go.OpenSpec := { _root_.Go.OpenSpec.ofChange s with cond := some uptoSmall }

/-- 'cardinglaw22.TextTurns', WHERE WHAT IT READS IS OF BULK AT MOST 1048576: true; the input reads as it did. -/
def textTurnsUptoRow : OpenClaim := { program := "ythepfbkbfkhcaaa", sum := "22393ff24000a4389247de1ca92f236dc919f01f235ab4f142df7e175074a847", func := "carding/cardinglaw22.TextTurns", spec := "textTurns", inPlace := ["internal/abi.NoEscape"], unfollowed := true, recurses := true, plainKeys := false, apart := false, narrowed := true }
def TextTurnsUptoSaid : Prop := textTurnsUptoRow.holds Try.pinned (OpenSpec.upto textTurnsSpec)

/-- 'cardinglaw22.TextWhite', WHERE WHAT IT READS IS OF BULK AT MOST 1048576: true; the input reads as it did. -/
def textWhiteUptoRow : OpenClaim := { program := "ythepfbkbfkhcaaa", sum := "22393ff24000a4389247de1ca92f236dc919f01f235ab4f142df7e175074a847", func := "carding/cardinglaw22.TextWhite", spec := "textWhite", inPlace := ["internal/abi.NoEscape"], unfollowed := true, recurses := true, plainKeys := false, apart := false, narrowed := true }
def TextWhiteUptoSaid : Prop := textWhiteUptoRow.holds Try.pinned (OpenSpec.upto textWhiteSpec)

/-- 'cardinglaw22.TextCut', WHERE WHAT IT READS IS OF BULK AT MOST 1048576: true; the input reads as it did. -/
def textCutUptoRow : OpenClaim := { program := "ythepfbkbfkhcaaa", sum := "22393ff24000a4389247de1ca92f236dc919f01f235ab4f142df7e175074a847", func := "carding/cardinglaw22.TextCut", spec := "textCut", inPlace := ["internal/abi.NoEscape"], unfollowed := true, recurses := true, plainKeys := false, apart := false, narrowed := true }
def TextCutUptoSaid : Prop := textCutUptoRow.holds Try.pinned (OpenSpec.upto textCutSpec)

/-- 'cardinglaw22.TextOnce', WHERE WHAT IT READS IS OF BULK AT MOST 1048576: true; the input reads as it did. -/
def textOnceUptoRow : OpenClaim := { program := "ythepfbkbfkhcaaa", sum := "22393ff24000a4389247de1ca92f236dc919f01f235ab4f142df7e175074a847", func := "carding/cardinglaw22.TextOnce", spec := "textOnce", inPlace := ["internal/abi.NoEscape"], unfollowed := true, recurses := true, plainKeys := false, apart := false, narrowed := true }
def TextOnceUptoSaid : Prop := textOnceUptoRow.holds Try.pinned (OpenSpec.upto textOnceSpec)

/-- 'cardinglaw22.TextJoins', WHERE WHAT IT READS IS OF BULK AT MOST 1048576: true; the input reads as it did. -/
def textJoinsUptoRow : OpenClaim := { program := "ythepfbkbfkhcaaa", sum := "22393ff24000a4389247de1ca92f236dc919f01f235ab4f142df7e175074a847", func := "carding/cardinglaw22.TextJoins", spec := "textJoins", inPlace := ["internal/abi.NoEscape"], unfollowed := true, recurses := true, plainKeys := false, apart := false, narrowed := true }
def TextJoinsUptoSaid : Prop := textJoinsUptoRow.holds Try.pinned (OpenSpec.upto textJoinsSpec)

end Rows
end Go.Proofs.Ythepfbkbfkhcaaa
