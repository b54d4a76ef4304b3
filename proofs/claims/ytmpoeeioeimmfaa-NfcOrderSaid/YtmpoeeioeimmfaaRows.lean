/-
  No cell of these rows narrows 'for every input' (looked for: loops, veiled, ifaces, maps, wideKeys, modest, calm, conditions, laid).
  DERIVED. THE GIVEN ROWS OF THIS SEAT. 6 by the template 'for every input the law returns true; each argument reads behind the call as it read before'; 0 by the template 'total and deterministic' (their statements: YtmpoeeioeimmfaaTotals.lean).
  GIVEN WITH THE SEED: the statements are not yours to turn. If you find one false, say at which input.
  Laid BY PROGRAM, IN A SANDBOX (cutbox-rows.mjs): the forced cells as the released guide's own fill.sh prints them over the translation ba4ed3f94371e109… (all of the seat's roots in one cut). By AI agents, Wed Nov 11 2026. No macro, syntax, notation, axiom, sorry.
-/
import Derived.Test.YtmpoeeioeimmfaaChecked
import GoSem.Claim
import GoSem.ClaimJoined
import GoSem.ClaimMapViews
import Derived.JoinedTies
import Derived.KernelRfl
namespace Go.Proofs.Ytmpoeeioeimmfaa
/- THE CELL 'sum', in the pinned program and in every row, IS THE sha256 OF THE DUMP (.gsa) THAT YtmpoeeioeimmfaaProg.lean LOADS. Nothing in Lean hashes anything: it is a label: what it is worth is what the hold of that sum in a sandbox is worth. -/
noncomputable def Try.pinned : Pinned := { name := "ytmpoeeioeimmfaa", sum := "ba4ed3f94371e10914c0263797bcfa1bb6a49e22f69e3cc20a8d2232e7b58d80", checked := Try.checked }
namespace Rows
def none {H : Type} : Left H := { results := [], args := [] }

/-- 'cardinglaw12.NfcOnce': WHATEVER THE INPUT: true; the input reads as it did. -/
def nfcOnceSpec : ChangeSpec := { name := "nfcOnce", fn := fun _ => fun
  | [d] => { results := [.lit (.bool true)], args := [d] }
  | _ => none }
def nfcOnceRow : OpenClaim := { program := "ytmpoeeioeimmfaa", sum := "ba4ed3f94371e10914c0263797bcfa1bb6a49e22f69e3cc20a8d2232e7b58d80", func := "carding/cardinglaw12.NfcOnce", spec := "nfcOnce", unfollowed := true, recurses := true, plainKeys := false, apart := false }
def NfcOnceSaid : Prop := nfcOnceRow.holds Try.pinned (OpenSpec.ofChange nfcOnceSpec)

/-- ITS FALSE NEIGHBOUR: 'it returns false'. Refute it at one input. -/
def nfcOnceWrong : ChangeSpec := { name := "nfcOnce", fn := fun _ => fun
  | [d] => { results := [.lit (.bool false)], args := [d] }
  | _ => none }
def NfcOnceWrongFalsely : Prop := nfcOnceRow.holds Try.pinned (OpenSpec.ofChange nfcOnceWrong)

/-- 'cardinglaw12.NfcLike': WHATEVER THE INPUT: true; the input reads as it did. -/
def nfcLikeSpec : ChangeSpec := { name := "nfcLike", fn := fun _ => fun
  | [d1, d2] => { results := [.lit (.bool true)], args := [d1, d2] }
  | _ => none }
def nfcLikeRow : OpenClaim := { program := "ytmpoeeioeimmfaa", sum := "ba4ed3f94371e10914c0263797bcfa1bb6a49e22f69e3cc20a8d2232e7b58d80", func := "carding/cardinglaw12.NfcLike", spec := "nfcLike", unfollowed := true, recurses := true, plainKeys := false, apart := false }
def NfcLikeSaid : Prop := nfcLikeRow.holds Try.pinned (OpenSpec.ofChange nfcLikeSpec)

/-- ITS FALSE NEIGHBOUR: 'it returns false'. Refute it at one input. -/
def nfcLikeWrong : ChangeSpec := { name := "nfcLike", fn := fun _ => fun
  | [d1, d2] => { results := [.lit (.bool false)], args := [d1, d2] }
  | _ => none }
def NfcLikeWrongFalsely : Prop := nfcLikeRow.holds Try.pinned (OpenSpec.ofChange nfcLikeWrong)

/-- 'cardinglaw12.NfcQuick': WHATEVER THE INPUT: true; the input reads as it did. -/
def nfcQuickSpec : ChangeSpec := { name := "nfcQuick", fn := fun _ => fun
  | [d] => { results := [.lit (.bool true)], args := [d] }
  | _ => none }
def nfcQuickRow : OpenClaim := { program := "ytmpoeeioeimmfaa", sum := "ba4ed3f94371e10914c0263797bcfa1bb6a49e22f69e3cc20a8d2232e7b58d80", func := "carding/cardinglaw12.NfcQuick", spec := "nfcQuick", unfollowed := true, recurses := true, plainKeys := false, apart := false }
def NfcQuickSaid : Prop := nfcQuickRow.holds Try.pinned (OpenSpec.ofChange nfcQuickSpec)

/-- ITS FALSE NEIGHBOUR: 'it returns false'. Refute it at one input. -/
def nfcQuickWrong : ChangeSpec := { name := "nfcQuick", fn := fun _ => fun
  | [d] => { results := [.lit (.bool false)], args := [d] }
  | _ => none }
def NfcQuickWrongFalsely : Prop := nfcQuickRow.holds Try.pinned (OpenSpec.ofChange nfcQuickWrong)

/-- 'cardinglaw12.NfcJoins': WHATEVER THE INPUT: true; the input reads as it did. -/
def nfcJoinsSpec : ChangeSpec := { name := "nfcJoins", fn := fun _ => fun
  | [d1, d2] => { results := [.lit (.bool true)], args := [d1, d2] }
  | _ => none }
def nfcJoinsRow : OpenClaim := { program := "ytmpoeeioeimmfaa", sum := "ba4ed3f94371e10914c0263797bcfa1bb6a49e22f69e3cc20a8d2232e7b58d80", func := "carding/cardinglaw12.NfcJoins", spec := "nfcJoins", unfollowed := true, recurses := true, plainKeys := false, apart := false }
def NfcJoinsSaid : Prop := nfcJoinsRow.holds Try.pinned (OpenSpec.ofChange nfcJoinsSpec)

/-- ITS FALSE NEIGHBOUR: 'it returns false'. Refute it at one input. -/
def nfcJoinsWrong : ChangeSpec := { name := "nfcJoins", fn := fun _ => fun
  | [d1, d2] => { results := [.lit (.bool false)], args := [d1, d2] }
  | _ => none }
def NfcJoinsWrongFalsely : Prop := nfcJoinsRow.holds Try.pinned (OpenSpec.ofChange nfcJoinsWrong)

/-- 'cardinglaw12.NfcOrder': WHATEVER THE INPUT: true; the input reads as it did. -/
def nfcOrderSpec : ChangeSpec := { name := "nfcOrder", fn := fun _ => fun
  | [d1, d2] => { results := [.lit (.bool true)], args := [d1, d2] }
  | _ => none }
def nfcOrderRow : OpenClaim := { program := "ytmpoeeioeimmfaa", sum := "ba4ed3f94371e10914c0263797bcfa1bb6a49e22f69e3cc20a8d2232e7b58d80", func := "carding/cardinglaw12.NfcOrder", spec := "nfcOrder", unfollowed := true, recurses := true, plainKeys := false, apart := false }
def NfcOrderSaid : Prop := nfcOrderRow.holds Try.pinned (OpenSpec.ofChange nfcOrderSpec)

/-- ITS FALSE NEIGHBOUR: 'it returns false'. Refute it at one input. -/
def nfcOrderWrong : ChangeSpec := { name := "nfcOrder", fn := fun _ => fun
  | [d1, d2] => { results := [.lit (.bool false)], args := [d1, d2] }
  | _ => none }
def NfcOrderWrongFalsely : Prop := nfcOrderRow.holds Try.pinned (OpenSpec.ofChange nfcOrderWrong)

/-- 'cardinglaw12.NfcShort': WHATEVER THE INPUT: true; the input reads as it did. -/
def nfcShortSpec : ChangeSpec := { name := "nfcShort", fn := fun _ => fun
  | [d] => { results := [.lit (.bool true)], args := [d] }
  | _ => none }
def nfcShortRow : OpenClaim := { program := "ytmpoeeioeimmfaa", sum := "ba4ed3f94371e10914c0263797bcfa1bb6a49e22f69e3cc20a8d2232e7b58d80", func := "carding/cardinglaw12.NfcShort", spec := "nfcShort", unfollowed := true, recurses := true, plainKeys := false, apart := false }
def NfcShortSaid : Prop := nfcShortRow.holds Try.pinned (OpenSpec.ofChange nfcShortSpec)

/-- ITS FALSE NEIGHBOUR: 'it returns false'. Refute it at one input. -/
def nfcShortWrong : ChangeSpec := { name := "nfcShort", fn := fun _ => fun
  | [d] => { results := [.lit (.bool false)], args := [d] }
  | _ => none }
def NfcShortWrongFalsely : Prop := nfcShortRow.holds Try.pinned (OpenSpec.ofChange nfcShortWrong)

/- THE SECOND FORM. 'bulk': how many values and letters a reading holds, each counted each time it is reached (what is shared counts as often as it is met; a slice's spare places count too). A statement '..UptoSaid' is the law's where the arguments, and the package variables that the reading takes, are together of bulk at most 1048576: NARROWER than '..Said'. Prove '..Said' where nothing that the law and all that it calls make is longer than what came in: it says more and counts as full. Else prove '..UptoSaid'. A law counts once. -/
mutual
def uptoBulk {H : Type} : DataW H → Nat
  | .lit (.string bytes) => bytes.length + 1
  | .lit _ => 1
  | .nil => 1
  | .ptr d => uptoBulk d + 1
  | .slice elems spare => uptoBulkAll elems + uptoBulkAll spare + 1
  | .agg parts => uptoBulkAll parts + 1
  | .iface _ d => uptoBulk d + 1
  | .map entries => uptoBulkEntries entries + 1
  | .held _ => 1
def uptoBulkAll {H : Type} : List (DataW H) → Nat
  | [] => 0
  | d :: r => uptoBulk d + uptoBulkAll r
def uptoBulkEntries {H : Type} : List (Lit × DataW H) → Nat
  | [] => 0
  | x :: r => uptoBulkEntry x + uptoBulkEntries r
def uptoBulkEntry {H : Type} : Lit × DataW H → Nat
  | (.string bytes, d) => bytes.length + uptoBulk d + 1
  | (_, d) => uptoBulk d + 1
 end
def uptoSmall : (H : Type) → List (DataW H) → Bool := fun _ ds => decide (uptoBulkAll ds ≤ 1048576)
def OpenSpec.upto (s : _root_.Go.ChangeSpec) : _root_.Go.OpenSpec := { _root_.Go.OpenSpec.ofChange s with cond := some uptoSmall }

/-- 'cardinglaw12.NfcOnce', WHERE WHAT IT READS IS OF BULK AT MOST 1048576: true; the input reads as it did. -/
def nfcOnceUptoRow : OpenClaim := { program := "ytmpoeeioeimmfaa", sum := "ba4ed3f94371e10914c0263797bcfa1bb6a49e22f69e3cc20a8d2232e7b58d80", func := "carding/cardinglaw12.NfcOnce", spec := "nfcOnce", unfollowed := true, recurses := true, plainKeys := false, apart := false, narrowed := true }
def NfcOnceUptoSaid : Prop := nfcOnceUptoRow.holds Try.pinned (OpenSpec.upto nfcOnceSpec)

/-- 'cardinglaw12.NfcLike', WHERE WHAT IT READS IS OF BULK AT MOST 1048576: true; the input reads as it did. -/
def nfcLikeUptoRow : OpenClaim := { program := "ytmpoeeioeimmfaa", sum := "ba4ed3f94371e10914c0263797bcfa1bb6a49e22f69e3cc20a8d2232e7b58d80", func := "carding/cardinglaw12.NfcLike", spec := "nfcLike", unfollowed := true, recurses := true, plainKeys := false, apart := false, narrowed := true }
def NfcLikeUptoSaid : Prop := nfcLikeUptoRow.holds Try.pinned (OpenSpec.upto nfcLikeSpec)

/-- 'cardinglaw12.NfcQuick', WHERE WHAT IT READS IS OF BULK AT MOST 1048576: true; the input reads as it did. -/
def nfcQuickUptoRow : OpenClaim := { program := "ytmpoeeioeimmfaa", sum := "ba4ed3f94371e10914c0263797bcfa1bb6a49e22f69e3cc20a8d2232e7b58d80", func := "carding/cardinglaw12.NfcQuick", spec := "nfcQuick", unfollowed := true, recurses := true, plainKeys := false, apart := false, narrowed := true }
def NfcQuickUptoSaid : Prop := nfcQuickUptoRow.holds Try.pinned (OpenSpec.upto nfcQuickSpec)

/-- 'cardinglaw12.NfcJoins', WHERE WHAT IT READS IS OF BULK AT MOST 1048576: true; the input reads as it did. -/
def nfcJoinsUptoRow : OpenClaim := { program := "ytmpoeeioeimmfaa", sum := "ba4ed3f94371e10914c0263797bcfa1bb6a49e22f69e3cc20a8d2232e7b58d80", func := "carding/cardinglaw12.NfcJoins", spec := "nfcJoins", unfollowed := true, recurses := true, plainKeys := false, apart := false, narrowed := true }
def NfcJoinsUptoSaid : Prop := nfcJoinsUptoRow.holds Try.pinned (OpenSpec.upto nfcJoinsSpec)

/-- 'cardinglaw12.NfcOrder', WHERE WHAT IT READS IS OF BULK AT MOST 1048576: true; the input reads as it did. -/
def nfcOrderUptoRow : OpenClaim := { program := "ytmpoeeioeimmfaa", sum := "ba4ed3f94371e10914c0263797bcfa1bb6a49e22f69e3cc20a8d2232e7b58d80", func := "carding/cardinglaw12.NfcOrder", spec := "nfcOrder", unfollowed := true, recurses := true, plainKeys := false, apart := false, narrowed := true }
def NfcOrderUptoSaid : Prop := nfcOrderUptoRow.holds Try.pinned (OpenSpec.upto nfcOrderSpec)

/-- 'cardinglaw12.NfcShort', WHERE WHAT IT READS IS OF BULK AT MOST 1048576: true; the input reads as it did. -/
def nfcShortUptoRow : OpenClaim := { program := "ytmpoeeioeimmfaa", sum := "ba4ed3f94371e10914c0263797bcfa1bb6a49e22f69e3cc20a8d2232e7b58d80", func := "carding/cardinglaw12.NfcShort", spec := "nfcShort", unfollowed := true, recurses := true, plainKeys := false, apart := false, narrowed := true }
def NfcShortUptoSaid : Prop := nfcShortUptoRow.holds Try.pinned (OpenSpec.upto nfcShortSpec)

end Rows
end Go.Proofs.Ytmpoeeioeimmfaa
