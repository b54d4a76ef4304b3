/-
  DERIVED. GIVEN WITH THE SEED: THE CARDS: each row of YtbhafhbaldddiaaGreatDoorRows.lean that lists a variable, with what it lists TIED to the program's text (the seventh form; the later family's looks); each row that meets fmt, with fmt's text TOLD by the authors' own Lean function (tested against real Go, not proved from fmt's source: count such statements apart). THE CARD IS WHAT COUNTS. Prove the row's statement (the work); the ties are given (YtbhafhbaldddiaaGreatDoorTie.lean); close each card by the builder's one call (the guide's Derived/Test/ToyasCard.lean, 'card_holds'). Laid BY PROGRAM, IN A SANDBOX (cutbox-door.mjs). By AI agents, Wed Nov 11 2026. No macro, syntax, notation, axiom, sorry.
-/
import Derived.Test.YtbhafhbaldddiaaGreatDoorRows
import GoSem.ClaimSeven
namespace Go.Proofs.YtbhafhbaldddiaaGreatDoor
namespace Rows

/-- THE TIED CARD OF 'cardinglaw21.LiberalTells'. -/
def liberalTellsCard : Claim7 := { stood := { row := liberalTellsRow, standIns := [], harness := (true, "29c16354f91742dd2321cd73253bc11ab9ee6e8a0c90d3e0bac322095922ebe7"), looks := false }, kinds := [], alts := [], laidByText := true, laidKinds := [.data, .pinned], laidTests := true, laidLooks := .later }
def LiberalTellsCardSaid : Prop := Claim7.holds Tryz.pinned (.plain (OpenSpec.ofChange liberalTellsSpec)) liberalTellsCard

/-- THE TIED CARD OF 'cardinglaw21.LiberalWider'. -/
def liberalWiderCard : Claim7 := { stood := { row := liberalWiderRow, standIns := [], harness := (true, "29c16354f91742dd2321cd73253bc11ab9ee6e8a0c90d3e0bac322095922ebe7"), looks := false }, kinds := [], alts := [], laidByText := true, laidKinds := [.data, .pinned], laidTests := true, laidLooks := .later }
def LiberalWiderCardSaid : Prop := Claim7.holds Tryz.pinned (.plain (OpenSpec.ofChange liberalWiderSpec)) liberalWiderCard

/-- THE SECOND FORM's CARD OF 'cardinglaw21.LiberalTells'. -/
def liberalTellsUptoCard : Claim7 := { stood := { row := liberalTellsUptoRow, standIns := [], harness := (true, "29c16354f91742dd2321cd73253bc11ab9ee6e8a0c90d3e0bac322095922ebe7"), looks := false }, kinds := [], alts := [], laidByText := true, laidKinds := [.data, .pinned], laidTests := true, laidLooks := .later }
def LiberalTellsUptoCardSaid : Prop := Claim7.holds Tryz.pinned (.plain (OpenSpec.upto liberalTellsSpec)) liberalTellsUptoCard

/-- THE SECOND FORM's CARD OF 'cardinglaw21.LiberalWider'. -/
def liberalWiderUptoCard : Claim7 := { stood := { row := liberalWiderUptoRow, standIns := [], harness := (true, "29c16354f91742dd2321cd73253bc11ab9ee6e8a0c90d3e0bac322095922ebe7"), looks := false }, kinds := [], alts := [], laidByText := true, laidKinds := [.data, .pinned], laidTests := true, laidLooks := .later }
def LiberalWiderUptoCardSaid : Prop := Claim7.holds Tryz.pinned (.plain (OpenSpec.upto liberalWiderSpec)) liberalWiderUptoCard
end Rows
end Go.Proofs.YtbhafhbaldddiaaGreatDoor
